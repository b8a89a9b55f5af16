/- Joined texts: Sym Eff Path Effs2 Effs3. -/
import Derived.Test.YtilaieogabgamaaGreatDoorU1
section
open _root_.List renaming mem_append->ajs
open _root_.Nat renaming beq->aje,eq_of_beq_eq_true->ajT,le_trans->ajE,lt_of_lt_of_le->ajJ
open _root_.Option renaming none_or->akc
open _root_.Option.some renaming inj->ai4,injEq->ajg
open _root_.Go.Value renaming oneCell'->akq
namespace Go.Proofs.YtilaieogabgamaaGreatDoor
open Go Go.RowKit
inductive Tree where
 |leaf (r:Row) (x:r.den)
 |own (o:Nat)
 |nil
 |pair (a b:Tree)
 |view (o s:Nat) (r:Row) (m:List r.den)
 |junk (n:Nat)
structure uP where
 i:Int
 p:List Bool
 o:Nat
 s:Nat
inductive Th where
 |box (T:TypeId) (t:Tree)
 |own (T:TypeId) (r:Row) (l:List r.den)
 |sf (T:TypeId) (r:Row) (l:List r.den)
 |map (T:TypeId) (K:Row) (agg:Bool) (V:Row) (l:List (K.den×V.den))
 |fmap (T:TypeId) (K:Row) (agg:Bool) (V:Row) (l:List (K.den×V.den))
 |deep (T:TypeId) (d:DR) (l:List d.row.den) (h:Option uP)
 |fdeep (T:TypeId) (d:DR) (l:List d.row.den)
 |dmap (T:TypeId) (K:Row) (E:TypeId) (r:Row) (l:List (K.den×List r.den)) (h:Option (K.den×Nat))
 |fdmap (T:TypeId) (K:Row) (E:TypeId) (r:Row) (l:List (K.den×List r.den))
def Th.base:Th->Th
 | .sf T r l=> .own T r l
 | .fmap T K agg V l=> .map T K agg V l
 | .fdeep T d l=> .deep T d l none
 | .fdmap T K E r l=> .dmap T K E r l none
 |t=>t
inductive ak where
 |dead
 |undef
 |val (agg:Bool) (t:Tree)
 |ptr (o:Nat) (p:List Bool) (off:Nat)
 |at (r:Row) (x:r.den)
 |elem (o s:Nat) (r:Row) (i:Int) (x:r.den) (p:List Bool) (off:Nat)
 |tup (ds:List (Bool×Tree))
 |dlm (o:Nat) (d:DR) (i:Int) (p:List Bool) (off:Nat)
 |fn (f:FuncId) (caps:List (Nat×List Bool×Nat))
 |ifc (T:TypeId) (d:ak)
structure ao where
 val:Nat->Option Value
 con:Nat->Option Th
 sub:Nat->Nat->Prop
structure ao.le(H H':ao):Prop where
 val:∀o v,H.val o=some v->H'.val o=some v
 con:∀s t,H.con s=some t->H'.con s=some t
 sub:∀s t,H.con s=some t->H'.sub s=H.sub s
theorem ao.le.refl(H:ao):H.le H:=⟨fun _ _ h=>h,fun _ _ h=>h,fun _ _ _=>rfl⟩
theorem ao.le.trans{H H' si:ao}(h:H.le H')(k:H'.le si):H.le si:=⟨fun o v e=>k.val o v (h.val o v e),fun o v e=>k.con o v (h.con o v e),fun s t e=>(k.sub s t (h.con s t e)).trans (h.sub s t e)⟩
def lq(H:ao)(o s:Nat)(r:Row)(m:List r.den)(v:Value):Prop:=
 ∃A cap T,∃l:List r.den,∃a b,H.val o=some (.slice A l.length cap)/\H.con s=some (.own T r l)/\a<=b/\b<=l.length/\m=(l.take b).drop a/\v=sliced A a b cap r.size
theorem lq.keep{H H':ao}(hH:H.le H'){o s:Nat}{r:Row}{m:List r.den}{v:Value}(h:lq H o s r m v):lq H' o s r m v:=by
 obtain⟨A,cap,T,l,a,b,h1,h2,h3⟩:=h;exact⟨A,cap,T,l,a,b,hH.val _ _ h1,hH.con _ _ h2,h3⟩
theorem lq.back{H H' si:ao}(hH:H.le H')(C1:H.le si){o s:Nat}{r:Row}{m:List r.den}{v0 v:Value}(h0:lq H o s r m v0)(h:lq H' o s r m v):lq si o s r m v:=by
 obtain⟨A,cap,T,l,a,b,h1,h2,_⟩:=h0;obtain⟨A',Jf,T',l',a',b',k1,k2,k3⟩:=h;have e1:=hH.val _ _ h1;have e2:=hH.con _ _ h2;rw[k1]at e1;rw[k2]at e2;simp only[ajg,Th.own.injEq,heq_eq_eq,true_and]at e2;obtain⟨rfl,rfl⟩:=e2;exact⟨A',Jf,T',l',a',b',by rw[e1];exact C1.val _ _ h1,C1.con _ _ h2,k3⟩
theorem lq.one{H:ao}{o s:Nat}{r:Row}{m:List r.den}{v:Value}(h:lq H o s r m v):v.oneCell'=true:=by
 obtain⟨A,cap,T,l,a,b,_,_,_,_,_,rfl⟩:=h;simp[sliced,akq]
def kJ(H:ao):List (Nat×List Bool×Nat)->List Value->Prop
 |[],vs=>vs=[]
 |c::cs,vs=>∃v us,vs=v::us/\(∃b,H.val c.1=some (.pointer (some ⟨b,0,none⟩))/\v= .pointer (some ⟨b,c.2.2,none⟩))/\kJ H cs us
theorem kJ.keep{H H':ao}(hH:∀o v,H.val o=some v->H'.val o=some v):{cs:List (Nat×List Bool×Nat)}->{vs:List Value}->kJ H cs vs->kJ H' cs vs
 |[],_,h=>h
 |_::_,_,h=>by obtain⟨v,us,e,⟨b,h1,h2⟩,h3⟩:=h;exact⟨v,us,e,⟨b,hH _ _ h1,h2⟩,h3.keep hH⟩
def Holds(H:ao)(F:Nat->Prop)(w:World):Tree->List Value->Prop
 | .leaf r x,cs=>cA F w r cs x
 | .own o,cs=>∃v,H.val o=some v/\v.oneCell'=true/\cs=[v]
 | .nil,cs=>cs=[.slice none 0 0]
 | .pair a b,cs=>∃c1 c2,cs=c1++c2/\Holds H F w a c1/\Holds H F w b c2
 | .view o s r m,cs=>∃v,cs=[v]/\lq H o s r m v
 | .junk n,cs=>cs.length=n/\∀u∈cs,u.oneCell'=true
def Tree.size:Tree->Nat
 | .leaf r _=>r.size
 | .own _=>1
 | .nil=>1
 | .pair a b=>a.size+b.size
 | .view .. =>1
 | .junk n=>n
def aE(H:ao)(F:Nat->Prop)(w:World)(agg:Bool)(t:Tree)(v:Value):Prop:=
 ∃cs,Holds H F w t cs/\v=(bif agg then .agg cs.toArray else cs.headD undef)/\(agg=false->cs=[v])
def q7(H:ao)(F:Nat->Prop)(w:World):List (Bool×Tree)->List Value->Prop
 |[],vs=>vs=[]
 |d::ds,vs=>∃v us,vs=v::us/\aE H F w d.1 d.2 v/\q7 H F w ds us
def ai(H:ao)(F:Nat->Prop)(w:World):ak->Value->Prop
 | .dead,_=>True
 | .undef,v=>v=Go.undef
 | .val agg t,v=>aE H F w agg t v
 | .ptr o _ off,v=>∃b,H.val o=some (.pointer (some ⟨b,0,none⟩))/\v= .pointer (some ⟨b,off,none⟩)
 | .at r x,v=>∃b off,v= .pointer (some ⟨b,off,none⟩)/\F b/\At F w r b off x
 | .elem o s r i x _ off,v=>∃g o0 q T m cap l,H.val o=some (.slice (some ⟨g,o0,none⟩) m cap)/\i=(q:Nat)/\H.con s=some (.own T r l)/\idx l i=some x/\v= .pointer (some ⟨g,o0+q*r.size+off,none⟩)
 | .tup ds,v=>∃vs,v= .tuple vs.toArray/\q7 H F w ds vs
 | .dlm o d i _ off,v=>∃g o0 q m cap,H.val o=some (.slice (some ⟨g,o0,none⟩) m cap)/\i=(q:Nat)/\v= .pointer (some ⟨g,o0+q*d.low.size+off,none⟩)
 | .fn f caps,v=>∃vs,v= .func (.func f) #[] vs.toArray/\kJ H caps vs
 | .ifc T d,v=>∃u,v= .iface T u/\ai H F w d u
section
variable {H H':ao} {F F':Nat->Prop} {w w':World}
theorem Holds.length:{t:Tree}->{cs:List Value}->Holds H F w t cs->cs.length=t.size
 | .leaf _ _,_,h=>cA.length h
 | .own _,_,h=>by obtain⟨v,_,_,rfl⟩:=h;rfl
 | .nil,_,h=>by rw[show _=_ from h];rfl
 | .pair a b,_,h=>by obtain⟨c1,c2,rfl,h1,h2⟩:=h;simp[h1.length,h2.length,Tree.size]
 | .view ..,_,h=>by obtain⟨v,rfl,_⟩:=h;rfl
 | .junk _,_,h=>h.1
theorem Holds.iT:{t:Tree}->{cs:List Value}->Holds H F w t cs->∀u∈cs,u.oneCell'=true
 | .leaf _ _,_,h=>cA.iT h
 | .own _,_,h=>by obtain⟨v,_,h1,rfl⟩:=h;simpa using h1
 | .nil,_,h=>by rw[show _=_ from h];simp[akq]
 | .pair a b,_,h=>by
   obtain⟨c1,c2,rfl,h1,h2⟩:=h;intro u hu
   rcases ajs.1 hu with h'|h'
   .exact h1.iT u h'
   .exact h2.iT u h'
 | .view ..,_,h=>by obtain⟨v,rfl,h⟩:=h;simpa using h.one
 | .junk _,_,h=>h.2
theorem Holds.keep(hH:H.le H')(hs:Step F w F' w'):{t:Tree}->{cs:List Value}->Holds H F w t cs->Holds H' F' w' t cs
 | .leaf _ _,_,h=>cA.step hs h
 | .own _,_,h=>by obtain⟨v,h0,h1,rfl⟩:=h;exact⟨v,hH.val _ _ h0,h1,rfl⟩
 | .nil,_,h=>h
 | .pair a b,_,h=>by obtain⟨c1,c2,rfl,h1,h2⟩:=h;exact⟨c1,c2,rfl,h1.keep hH hs,h2.keep hH hs⟩
 | .view ..,_,h=>by obtain⟨v,rfl,h⟩:=h;exact⟨v,rfl,h.keep hH⟩
 | .junk _,_,h=>h
theorem Holds.back{si:ao}{w0:World}{F0:Nat->Prop}(hH:H.le H')(C1:H.le si):{t:Tree}->{U4 cs:List Value}->Holds H F0 w0 t U4->Holds H' F w t cs->Holds si F w t cs
 | .leaf _ _,_,_,_,h=>h
 | .own _,_,_,h0,h=>by
   obtain⟨v,a0,_,_⟩:=h0;obtain⟨u,b0,b1,rfl⟩:=h;have:=hH.val _ _ a0;rw[b0]at this;obtain rfl:=ai4 this;exact⟨u,C1.val _ _ a0,b1,rfl⟩
 | .nil,_,_,_,h=>h
 | .pair a b,_,_,h0,h=>by
   obtain⟨_,_,_,a1,a2⟩:=h0;obtain⟨c1,c2,rfl,h1,h2⟩:=h;exact⟨c1,c2,rfl,Holds.back (w0:=w0) (F0:=F0) hH C1 a1 h1,Holds.back (w0:=w0) (F0:=F0) hH C1 a2 h2⟩
 | .view ..,_,_,h0,h=>by
   obtain⟨_,_,h0⟩:=h0;obtain⟨v,rfl,h⟩:=h;exact⟨v,rfl,h0.back hH C1 h⟩
 | .junk _,_,_,_,h=>h
theorem aE.keep{agg:Bool}{t:Tree}{v:Value}(hH:H.le H')(hs:Step F w F' w')(h:aE H F w agg t v):aE H' F' w' agg t v:=by
 obtain⟨cs,h1,h2⟩:=h;exact⟨cs,h1.keep hH hs,h2⟩
theorem q7.keep(hH:H.le H')(hs:Step F w F' w'):{ds:List (Bool×Tree)}->{vs:List Value}->q7 H F w ds vs->q7 H' F' w' ds vs
 |[],_,h=>h
 |_::_,_,h=>by obtain⟨v,us,rfl,h1,h2⟩:=h;exact⟨v,us,rfl,h1.keep hH hs,h2.keep hH hs⟩
theorem At.keep{r:Row}{b off:Nat}{x:r.den}(hs:Step F w F' w')(hb:F b)(h:At F w r b off x):At F' w' r b off x:=by
 obtain⟨es,hl,hc,hr⟩:=h;exact⟨es,hl,fun j u hu=>(World.cell?_of_block (hs b hb).2).trans (hc j u hu),hr.step hs⟩
theorem ai.keep(hH:H.le H')(hs:Step F w F' w'):{d:ak}->{v:Value}->ai H F w d v->ai H' F' w' d v
 | .dead,_,_=>trivial
 | .undef,_,h=>h
 | .val _ _,_,h=>aE.keep hH hs h
 | .ptr _ _ _,_,h=>by obtain⟨b,h1,h2⟩:=h;exact⟨b,hH.val _ _ h1,h2⟩
 | .at _ _,_,h=>by obtain⟨b,off,h1,h2,h3⟩:=h;exact⟨b,off,h1,(hs b h2).1,h3.keep hs h2⟩
 | .elem ..,_,h=>by obtain⟨g,o0,q,T,m,cap,l,h1,h2,h3,h4⟩:=h;exact⟨g,o0,q,T,m,cap,l,hH.val _ _ h1,h2,hH.con _ _ h3,h4⟩
 | .tup _,_,h=>by obtain⟨vs,h1,h2⟩:=h;exact⟨vs,h1,h2.keep hH hs⟩
 | .dlm ..,_,h=>by obtain⟨g,o0,q,m,cap,h1,h2,h3⟩:=h;exact⟨g,o0,q,m,cap,hH.val _ _ h1,h2,h3⟩
 | .fn ..,_,h=>by obtain⟨vs,h1,h2⟩:=h;exact⟨vs,h1,h2.keep hH.val⟩
 | .ifc _ d,_,h=>by obtain⟨u,h1,h2⟩:=h;exact⟨u,h1,ai.keep hH hs (d:=d) h2⟩
def find{α:Type}:List (Nat×α)->Nat->Option α
 |[],_=>none
 |(m,a)::l,n=>bif aje m n then some a else find l n
def del{α:Type}(ns:List Nat):List (Nat×α)->List (Nat×α)
 |[]=>[]
 |(m,a)::l=>bif ns.any (aje m)then del ns l else(m,a)::del ns l
theorem aA{α:Type}{m:Nat}{a:α}{l:List (Nat×α)}{n:Nat}:find ((m,a)::l) n=if m=n then some a else find l n:=by
 show(bif aje m n then some a else find l n)=_
 by_cases h:m=n
 .subst h;simp
 .rw[if_neg h]
  have:aje m n=false:=by
   cases hb:aje m n with
   |false=>rfl
   |true=>exact absurd (ajT hb) h
  simp[this]
theorem gG{α:Type}{l l':List (Nat×α)}{n:Nat}:find (l++l') n=(find l n).or (find l' n):=by
 induction l with
 |nil=>rfl
 |cons p l ih=>
  obtain⟨m,a⟩:=p;rw[List.cons_append,aA,aA,ih]
  split<;>rfl
theorem any_beq{ns:List Nat}{m:Nat}:ns.any (aje m)=true↔m∈ns:=by
 simp only[List.any_eq_true,Nat.beq_eq];exact⟨fun⟨x,hx,e⟩=>e▸hx,fun h=>⟨m,h,rfl⟩⟩
theorem gH{α:Type}{ns:List Nat}{l:List (Nat×α)}{n:Nat}{a:α}:find (del ns l) n=some a↔n∉ns/\find l n=some a:=by
 induction l with
 |nil=>simp[del,find]
 |cons p l ih=>
  obtain⟨m,b⟩:=p;unfold del
  cases hm:ns.any (aje m)with
  |true=>
   have cc:=any_beq.1 hm;rw[cond_true,ih,aA];constructor
   .rintro⟨h1,h2⟩
    have bN:m≠n:=fun e=>h1 (e▸cc)
    exact⟨h1,by rw[if_neg bN];exact h2⟩
   .rintro⟨h1,h2⟩
    have bN:m≠n:=fun e=>h1 (e▸cc)
    rw[if_neg bN]at h2;exact⟨h1,h2⟩
  |false=>
   have cc:m∉ns:=fun e=>by rw[any_beq.2 e]at hm;cases hm
   rw[cond_false,aA,aA];by_cases h:m=n
   .subst h;simp[cc]
   .simp only[if_neg h];exact ih
def qt(F:Nat->Prop)(w:World):Prop:=∀g d,find EU g=some d->F g/\At F w d.1 g 0 d.2
theorem qt.step{F F':Nat->Prop}{w w':World}(h:qt F w)(hs:Step F w F' w'):qt F' w':=fun g d hg=>⟨(hs g (h g d hg).1).1,(h g d hg).2.keep hs (h g d hg).1⟩
def lD(H:ao)(F:Nat->Prop)(w:World)(K:Row)(agg:Bool)(V:Row):List MapEntry->List (K.den×V.den)->Prop
 |[],l=>l=[]
 |e::es,l=>∃k x l',l=(k,x)::l'/\nO K k=some e.key/\aE H F w agg (.leaf V x) e.val/\lD H F w K agg V es l'
theorem lD.keep{H H':ao}{F F':Nat->Prop}{w w':World}(hH:H.le H')(hs:Step F w F' w'){K:Row}{agg:Bool}{V:Row}:{es:List MapEntry}->{l:List (K.den×V.den)}->lD H F w K agg V es l->lD H' F' w' K agg V es l
 |[],_,h=>h
 |_::_,_,h=>by obtain⟨k,x,l',e,h1,h2,h3⟩:=h;exact⟨k,x,l',e,h1,h2.keep hH hs,lD.keep hH hs h3⟩
theorem lD.iM{H H':ao}{F:Nat->Prop}{w:World}{K:Row}{agg:Bool}{V:Row}:{es:List MapEntry}->{l:List (K.den×V.den)}->lD H F w K agg V es l->lD H' F w K agg V es l
 |[],_,h=>h
 |_::_,_,h=>by
  obtain⟨k,x,l',e,h1,⟨cs,h2,Jm⟩,h3⟩:=h;exact⟨k,x,l',e,h1,⟨cs,h2,Jm⟩,lD.iM h3⟩
noncomputable def gI:(K:Row)->K.den->K.den->Bool
 | .int _,a,b=>decide ((a:Int)=b)
 | .bool,a,b=>decide ((a:Bool)=b)
 | .str,a,b=>decide ((a:ByteArray)=b)
 |_,_,_=>false
def q8(F:Nat->Prop)(w:World)(E:TypeId)(r:Row)(v:Value)(y:List r.den)(A:Nat->Prop):Prop:=jG F w E r v y/\∀k,A k↔bm v k
def fH(H:ao)(F:Nat->Prop)(w:World)(K:Row)(E:TypeId)(r:Row):Option (K.den×Nat)->List MapEntry->List (K.den×List r.den)->(Nat->Prop)->Prop
 |_,[],l,S=>l=[]/\∀k,¬S k
 |none,e::es,l,S=>∃k y l' A B,l=(k,y)::l'/\nO K k=some e.key/\q8 F w E r e.val y A/\fH H F w K E r none es l' B/\qU A B S
 |some (a,o),e::es,l,S=>∃k y l' A B,l=(k,y)::l'/\nO K k=some e.key/\((gI K k a=true/\H.val o=some e.val/\(∀j,¬A j)/\fH H F w K E r none es l' B)\/(gI K k a=false/\q8 F w E r e.val y A/\fH H F w K E r (some (a,o)) es l' B))/\qU A B S
theorem q8.keep{F F':Nat->Prop}{w w':World}{E:TypeId}{r:Row}{v:Value}{y:List r.den}{A:Nat->Prop}(h:q8 F w E r v y A)(hs:Step F w F' w')(hb:∀k,A k->w'.heap[k]? =w.heap[k]?):q8 F' w' E r v y A:=
 ⟨h.1.keep hs fun k hk=>hb k ((h.2 k).2 hk),h.2⟩
theorem fH.keep{H H':ao}{F F':Nat->Prop}{w w':World}{K:Row}{E:TypeId}{r:Row}(hs:Step F w F' w'):{h:Option (K.den×Nat)}->{es:List MapEntry}->{l:List (K.den×List r.den)}->{S:Nat->Prop}->(∀a o u,h=some (a,o)->H.val o=some u->H'.val o=some u)->fH H F w K E r h es l S->(∀k,S k->w'.heap[k]? =w.heap[k]?)->fH H' F' w' K E r h es l S
 |none,[],_,_,_,h,_=>h
 |some _,[],_,_,_,h,_=>h
 |none,_::_,_,_,hH,h,hb=>by
  obtain⟨k,y,l',A,B,e,h1,h2,h3,h4⟩:=h;exact⟨k,y,l',A,B,e,h1,h2.keep hs fun k hk=>hb k (h4.left k hk),h3.keep hs (fun _ _ _ e=>by cases e) fun k hk=>hb k (h4.right k hk),h4⟩
 |some (a,o),_::_,_,_,hH,h,hb=>by
  obtain⟨k,y,l',A,B,e,h1,h2,h4⟩:=h;refine⟨k,y,l',A,B,e,h1,?_,h4⟩
  rcases h2 with⟨g1,g2,g3,g4⟩|⟨g1,g2,g3⟩
  .exact .inl ⟨g1,hH _ _ _ rfl g2,g3,g4.keep hs (fun _ _ _ e=>by cases e) fun k hk=>hb k (h4.right k hk)⟩
  .exact .inr ⟨g1,g2.keep hs fun k hk=>hb k (h4.left k hk),g3.keep hs hH fun k hk=>hb k (h4.right k hk)⟩
def nT(H:ao)(F:Nat->Prop)(w:World)(d:DR)(h:Option uP)(i:Nat)(x':d.low.den)(x:d.row.den)(S:Nat->Prop):Prop:=
 match h with
 |none=>jH F w d x' x S
 |some h=>(h.i≠(i:Int)->jH F w d x' x S)/\(h.i=(i:Int)->∃T' e,∃q:fB d (.sl T' e),d.path h.p=some ⟨_,q⟩/\lp F w q x' x S/\H.val h.o=some (q.lo.get x'))
theorem nT.keep{H H':ao}{F F':Nat->Prop}{w w':World}{d:DR}{h:Option uP}{i:Nat}{x':d.low.den}{x:d.row.den}{S:Nat->Prop}(hr:nT H F w d h i x' x S)(hH:H.le H')(hs:Step F w F' w')(hb:∀k,S k->w'.heap[k]? =w.heap[k]?):nT H' F' w' d h i x' x S:=by
 cases h with
 |none=>exact jH.keep hs hr hb
 |some h=>
  refine⟨fun hi=>(hr.1 hi).keep hs hb,fun hi=>?_⟩;obtain⟨T',e,q,h1,h2,h3⟩:=hr.2 hi;exact⟨T',e,q,h1,h2.keep hs hb,hH.val _ _ h3⟩
def fp(S:Nat->Prop)(v:Value):Th->Nat->Prop
 | .box ..,k=>v= .pointer (some ⟨k,0,none⟩)
 | .own ..,k=>bm v k
 | .sf ..,_=>False
 | .map ..,k=>v= .map (some k)
 | .fmap ..,_=>False
 | .deep ..,k=>S k
 | .fdeep ..,_=>False
 | .dmap ..,k=>S k
 | .fdmap ..,_=>False
def il(H:ao)(F:Nat->Prop)(w:World)(S:Nat->Prop)(v:Value):Th->Prop
 | .box T t=>∃b es,v= .pointer (some ⟨b,0,none⟩)/\w.heap[b]? =some (.cells es.toArray T (0,0))/\Holds H F w t es
 | .own T r l=>∃xs,mu w 0 T r.size v l.length xs/\∀i(h:i<l.length),cA F w r ((xs.drop (i*r.size)).take r.size) l[i]
 | .sf _ r l=>cA F w (.slice r) [v] l
 | .fmap _ K agg V l=>cA F w (.map K agg V) [v] l
 | .map _ K agg V l=>∃b es clock,v= .map (some b)/\w.heap[b]? =some (.map es clock)/\MapKept.Stamped es clock/\lD H F w K agg V es.toList l
 | .deep T d l h=>Gz F w T d.low (nT H F w d h) v l S
 | .fdeep _ d l=>cA F w (.slice d.row) [v] l
 | .dmap _ K E r l h=>∃b es clock B,v= .map (some b)/\w.heap[b]? =some (.map es clock)/\MapKept.Stamped es clock/\fH H F w K E r h es.toList l B/\qU (is b) B S/\∀a o,h=some (a,o)->∃u,H.val o=some u
 | .fdmap _ K _ r l=>cA F w (.map K false (.slice r)) [v] l
structure GA(U:Nat->Prop)(H:ao)(F:Nat->Prop)(w:World)(v:Value)(s:Nat)(t:Th):Prop where
 one:v.oneCell'=true
 con:H.con s=some t.base
 ok:il H F w (H.sub s) v t
 no:∀k,fp (H.sub s) v t k->¬F k
 lt:∀k,fp (H.sub s) v t k->k<w.heap.size
 use:∀k,fp (H.sub s) v t k->U k
structure au(U:Nat->Prop)(H:ao)(F:Nat->Prop)(w:World)(ob:Nat->Option (Nat×Th))(n:Nat):Prop where
 obj:∀o s t,ob o=some (s,t)->∃v,H.val o=some v/\GA U H F w v s t
 apart:∀o o' s s' t t' v v',o≠o'->ob o=some (s,t)->ob o'=some (s',t')->H.val o=some v->H.val o'=some v'->∀k,fp (H.sub s) v t k->¬fp (H.sub s') v' t' k
 fresh:∀m,n<=m->m<n+16->H.val m=none/\H.con m=none
 lt:∀b,F b->b<w.heap.size
 new:∀b,w.heap.size<=b->U b
 gl:qt F w
theorem il.heap{S:Nat->Prop}{v:Value}{t:Th}(h:il H F w S v t)(hH:H.le H')(hs:Step F w F' w')(hb:∀k,fp S v t k->w'.heap[k]? =w.heap[k]?):il H' F' w' S v t:=by
 cases t with
 |box T t=>
  obtain⟨b,es,rfl,h1,h2⟩:=h;exact⟨b,es,rfl,(hb b rfl).trans h1,h2.keep hH hs⟩
 |own T r l=>
  obtain⟨xs,⟨R6,Jd⟩,h3⟩:=h;refine⟨xs,⟨R6,?_⟩,fun i hi=>(h3 i hi).step hs⟩
  rcases Jd with h2|⟨gg,o0,cap,cur,rfl,p5,hg,rest⟩
  .exact .inl h2
  .exact .inr ⟨gg,o0,cap,cur,rfl,p5,(hb gg rfl).trans hg,rest⟩
 |sf T r l=>exact cA.step (r:= .slice r) hs h
 |fmap T K agg V l=>exact cA.step (r:= .map K agg V) hs h
 |fdeep T d l=>exact cA.step (r:= .slice d.row) hs h
 |deep T d l hh=>exact Gz.mono (show Gz F w T d.low _ v l S from h) hs hb fun i x' hi A hA hr=>hr.keep hH hs fun k hk=>hb k (hA k hk)
 |map T K agg V l=>
  obtain⟨b,es,clock,rfl,h1,h2,h3⟩:=h;exact⟨b,es,clock,rfl,(hb b rfl).trans h1,h2,h3.keep hH hs⟩
 |fdmap T K E r l=>exact cA.step (r:= .map K false (.slice r)) hs h
 |dmap T K E r l hh=>
  obtain⟨b,es,clock,B,rfl,h1,h2,h3,h4,h5⟩:=h;exact⟨b,es,clock,B,rfl,(hb b (h4.left b rfl)).trans h1,h2,h3.keep hs (fun a o u _ hu=>hH.val _ _ hu) fun k hk=>hb k (h4.right k hk),h4,fun a o e=>(h5 a o e).imp fun u hu=>hH.val _ _ hu⟩
theorem iE.of{v:Value}{T:TypeId}{r:Row}{l:List r.den}{S:Nat->Prop}(h:il H F w S v (.own T r l))(hn:∀k,bm v k->¬F k):iE 0 F w T r v l:=⟨hn,h⟩
theorem iE.to{v:Value}{T:TypeId}{r:Row}{l:List r.den}(S:Nat->Prop)(h:iE 0 F w T r v l):il H F w S v (.own T r l):=h.2
end
structure State where
 ah:List (Nat×ak)
 objs:List (Nat×(Nat×Th))
 nxt:Nat
def gJ(H:ao)(n:Nat):Prop:=∀m,n<=m->H.val m=none/\H.con m=none
structure Sat(U:Nat->Prop)(H:ao)(F:Nat->Prop)(w:World)(ρ:Nat->Value)(st:State):Prop where
 slot:∀t d,find st.ah t=some d->ai H F w d (ρ t)
 ob:au U H F w (find st.objs) st.nxt
 all:gJ H st.nxt
structure dN where
 dst:ak
 eat:List Nat:=[]
 make:List (Nat×(Nat×Th)):=[]
def State.apply(st:State)(d:Option Nat)(e:dN):State:=
 {ah:=(match d with|some d=>(d,e.dst)::st.ah|none=>st.ah),objs:=e.make++del e.eat st.objs,nxt:=st.nxt+16}
def cm(H:ao)(ob:Nat->Option (Nat×Th))(eat:List Nat)(k:Nat):Prop:=∃o∈eat,∃s t v,ob o=some (s,t)/\H.val o=some v/\fp (H.sub s) v t k
structure LX(H:ao)(F:Nat->Prop)(w:World)(H':ao)(F':Nat->Prop)(w':World)(g:Nat->Prop):Prop where
 iM:H.le H'
 ext:Ext g w w'
 le:∀b,F b->F' b
 grow:∀b,F' b->F b\/w.heap.size<=b\/g b
 lt:∀b,F' b->b<w'.heap.size
structure Made(H':ao)(F':Nat->Prop)(w w':World)(g:Nat->Prop)(make:List (Nat×(Nat×Th))):Prop where
 obj:∀o s t,find make o=some (s,t)->∃v,H'.val o=some v/\v.oneCell'=true/\H'.con s=some t.base/\il H' F' w' (H'.sub s) v t/\∀k,fp (H'.sub s) v t k->¬F' k/\k<w'.heap.size/\(w.heap.size<=k\/g k)
 apart:∀o o' s s' t t' v v',o≠o'->find make o=some (s,t)->find make o'=some (s',t')->H'.val o=some v->H'.val o'=some v'->∀k,fp (H'.sub s) v t k->¬fp (H'.sub s') v' t' k
structure lU(H:ao)(F:Nat->Prop)(w:World)(ob:Nat->Option (Nat×Th))(n:Nat)(e:dN)(v:Value)(w':World)(H':ao)(F':Nat->Prop):Prop where
 lr:LX H F w H' F' w' (cm H ob e.eat)
 fresh:∀m,(m<n\/n+16<=m)->(H.val m=none->H'.val m=none)/\(H.con m=none->H'.con m=none)
 dst:ai H' F' w' e.dst v
 made:Made H' F' w w' (cm H ob e.eat) e.make
 ids:∀o,(find e.make o).isSome->o∈e.eat\/n<=o
def kE(H:ao)(F:Nat->Prop)(w:World)(ob:Nat->Option (Nat×Th))(n:Nat)(e:dN)(v:Value)(w':World):Prop:=∃H' F',lU H F w ob n e v w' H' F'
def ub(ρ:Nat->Value):Option Nat->Value->Nat->Value
 |some d,v=>CU ρ d v
 |none,_=>ρ
theorem oD(ρ:Nat->Value)(d:Nat)(v:Value)(t:Nat):CU ρ d v t=if t=d then v else ρ t:=by
 unfold CU;by_cases h:t=d
 .subst h;simp
 .have:aje t d=false:=by
   cases hb:aje t d with
   |false=>rfl
   |true=>exact absurd (ajT hb) h
  simp[this,h]
section
variable {U:Nat->Prop} {H H':ao} {F F':Nat->Prop} {w w':World} {ρ:Nat->Value} {st:State}
theorem LX.step{g:Nat->Prop}(h:LX H F w H' F' w' g)(hF:∀b,F b->b<w.heap.size)(hg:∀k,g k->¬F k):Step F w F' w':=
 fun b hb=>⟨h.le b hb,h.ext.block b (hF b hb) fun e=>hg b e hb⟩
theorem au.gK{ob:Nat->Option (Nat×Th)}{n:Nat}(h:au U H F w ob n){eat:List Nat}:∀k,cm H ob eat k->¬F k:=by
 rintro k ⟨o,_,s,t,v,h1,h2,h3⟩
 obtain⟨v',e,hi⟩:=h.obj o s t h1;rw[h2]at e;obtain rfl:=ai4 e;exact hi.no k h3
theorem au.uQ{ob:Nat->Option (Nat×Th)}{n:Nat}(h:au U H F w ob n){eat:List Nat}:∀k,cm H ob eat k->k<w.heap.size:=by
 rintro k ⟨o,_,s,t,v,h1,h2,h3⟩
 obtain⟨v',e,hi⟩:=h.obj o s t h1;rw[h2]at e;obtain rfl:=ai4 e;exact hi.lt k h3
theorem au.gp{ob:Nat->Option (Nat×Th)}{n:Nat}(h:au U H F w ob n){eat:List Nat}:∀k,cm H ob eat k->U k:=by
 rintro k ⟨o,_,s,t,v,h1,h2,h3⟩
 obtain⟨v',e,hi⟩:=h.obj o s t h1;rw[h2]at e;obtain rfl:=ai4 e;exact hi.use k h3
theorem GA.lr{ob:Nat->Option (Nat×Th)}{n:Nat}(hs:au U H F w ob n){eat:List Nat}(he:LX H F w H' F' w' (cm H ob eat)){o s:Nat}{t:Th}{v:Value}(ho:ob o=some (s,t))(hn:o∉eat)(hv:H.val o=some v)(h:GA U H F w v s t):GA U H' F' w' v s t:=by
 have C2:∀k,fp (H.sub s) v t k->¬cm H ob eat k:=by
  rintro k hk ⟨o',iN,s',t',v',h1,h2,h3⟩
  exact hs.apart o o' s s' t t' v v' (fun e=>hn (e▸iN)) ho h1 hv h2 k hk h3
 have fN:=he.iM.sub _ _ h.con;refine⟨h.one,he.iM.con _ _ h.con,by rw[fN];exact h.ok.heap he.iM (he.step hs.lt hs.gK) fun k hk=>he.ext.block k (h.lt k hk) (C2 k hk),fun k hk hF=>?_,fun k hk=>ajJ (h.lt k (by rwa [fN]at hk)) he.ext.size,fun k hk=>h.use k (by rwa [fN]at hk)⟩;rw[fN]at hk
 rcases he.grow k hF with h1|h1|h1
 .exact h.no k hk h1
 .have:=h.lt k hk;omega
 .exact C2 k hk h1
theorem au.Jn{ob LY Jo:Nat->Option (Nat×Th)}{n n' m:Nat}{e:dN}{v:Value}(h:au U H F w ob n)(hR:∀o x,LY o=some x->ob o=some x)(hp:lU H F w LY m e v w' H' F')
 (part:∀o s t,Jo o=some (s,t)->find e.make o=some (s,t)\/(o∉e.eat/\ob o=some (s,t)/\find e.make o=none))(wT:∀m,n'<=m->m<n'+16->H'.val m=none/\H'.con m=none):
 au U H' F' w' Jo n':=by
 have uR:∀k,cm H LY e.eat k->cm H ob e.eat k:=fun k ⟨o,ho,s,t,v,h1,h2⟩=>⟨o,ho,s,t,v,hR _ _ h1,h2⟩
 have Sj:LX H F w H' F' w' (cm H ob e.eat):=⟨hp.lr.iM,⟨hp.lr.ext.os,hp.lr.ext.tape,hp.lr.ext.output,hp.lr.ext.size,fun k hk hn=>hp.lr.ext.block k hk fun hh=>hn (uR k hh)⟩,hp.lr.le,fun b hb=>(hp.lr.grow b hb).imp id fun h=>h.imp id (uR b),hp.lr.lt⟩
 have GB:∀o s t,o∉e.eat->ob o=some (s,t)->∃v,H.val o=some v/\H'.val o=some v/\GA U H' F' w' v s t/\H'.sub s=H.sub s/\∀k,fp (H'.sub s) v t k->k<w.heap.size/\¬cm H ob e.eat k:=by
  intro o s t ho hf;obtain⟨v,hv,hi⟩:=h.obj o s t hf;have fN:=hp.lr.iM.sub _ _ hi.con;refine⟨v,hv,hp.lr.iM.val _ _ hv,hi.lr h Sj hf ho hv,fN,fun k hk=>?_⟩;rw[fN]at hk;refine⟨hi.lt k hk,?_⟩
  rintro⟨o',iN,s',t',v',h1,h2,h3⟩
  exact h.apart o o' s s' t t' v v' (fun e=>ho (e▸iN)) hf h1 hv h2 k hk h3
 refine⟨fun o s t ho=>?_,fun o o' s s' t t' v v' bN ho iN hv di k hk dO=>?_,wT,hp.lr.lt,fun b hb=>h.new b (ajE hp.lr.ext.size hb),h.gl.step (Sj.step h.lt h.gK)⟩
 .rcases part o s t ho with h1|⟨h1,h2,_⟩
  .obtain⟨v,a1,a2,a3,a4,a5⟩:=hp.made.obj o s t h1;exact⟨v,a1,a2,a3,a4,fun k hk=>(a5 k hk).1,fun k hk=>(a5 k hk).2.1,fun k hk=>(a5 k hk).2.2.elim (h.new k) (fun hh=>h.gp k (uR k hh))⟩
  .obtain⟨v,_,a2,a3,_,_⟩:=GB o s t h1 h2;exact⟨v,a2,a3⟩
 .rcases part o s t ho with h1|⟨h1,h2,_⟩<;>rcases part o' s' t' iN with tB|⟨tB,Jm,_⟩
  .exact hp.made.apart o o' s s' t t' v v' bN h1 tB hv di k hk dO
  .obtain⟨u,_,a1,_,_,a5⟩:=hp.made.obj o s t h1;obtain⟨u',_,b2,_,_,b4⟩:=GB o' s' t' tB Jm;have e1:=ai4 (di.symm.trans b2);subst e1;have e2:=ai4 (hv.symm.trans ‹H'.val o=some u›);subst e2
   rcases(a5 k hk).2.2 with h3|h3
   .have:=(b4 k dO).1;omega
   .exact(b4 k dO).2 (uR k h3)
  .obtain⟨u,_,a1,_,_,a5⟩:=hp.made.obj o' s' t' tB;obtain⟨u',_,b2,_,_,b4⟩:=GB o s t h1 h2;have e1:=ai4 (hv.symm.trans b2);subst e1;have e2:=ai4 (di.symm.trans ‹H'.val o'=some u›);subst e2
   rcases(a5 k dO).2.2 with h3|h3
   .have:=(b4 k hk).1;omega
   .exact(b4 k hk).2 (uR k h3)
  .obtain⟨u,b1,b2,_,b5,_⟩:=GB o s t h1 h2;obtain⟨u',c1,c2,_,c5,_⟩:=GB o' s' t' tB Jm;rw[b5]at hk;rw[c5]at dO;have e1:=ai4 (hv.symm.trans b2);have e2:=ai4 (di.symm.trans c2);subst e1;subst e2;exact h.apart o o' s s' t t' v v' bN h2 Jm b1 c1 k hk dO
theorem C4{objs:List (Nat×(Nat×Th))}{e:dN}:∀o s t,find (e.make++del e.eat objs) o=some (s,t)->find e.make o=some (s,t)\/(o∉e.eat/\find objs o=some (s,t)/\find e.make o=none):=by
 intro o s t ho;rw[gG]at ho
 cases hm:find e.make o with
 |some x=>rw[hm]at ho;exact .inl ho
 |none=>
  rw[hm,akc]at ho;obtain⟨h1,h2⟩:=gH.1 ho;exact .inr ⟨h1,h2,rfl⟩
theorem Sat.apply{d:Option Nat}{e:dN}{v:Value}(h:Sat U H F w ρ st)(hp:lU H F w (find st.objs) st.nxt e v w' H' F'):Sat U H' F' w' (ub ρ d v) (st.apply d e):=by
 have dX:gJ H' (st.nxt+16):=fun m hm=>⟨(hp.fresh m (.inr hm)).1 (h.all m (by omega)).1,(hp.fresh m (.inr hm)).2 (h.all m (by omega)).2⟩
 refine⟨fun t q hq=>?_,h.ob.Jn (fun _ _ h=>h) hp C4 fun m hm _=>dX m hm,dX⟩;have eB:=hp.lr.step h.ob.lt h.ob.gK
 cases d with
 |none=>exact(h.slot t q hq).keep hp.lr.iM eB
 |some d=>
  have mz:find ((d,e.dst)::st.ah) t=some q:=hq;rw[aA]at mz
  show ai H' F' w' q (CU ρ d v t)
  rw[oD];by_cases hd:d=t
  .rw[if_pos hd]at mz;rw[if_pos hd.symm];obtain rfl:=ai4 mz;exact hp.dst
  .rw[if_neg hd]at mz;rw[if_neg (Ne.symm hd)];exact(h.slot t q mz).keep hp.lr.iM eB
end
end Go.Proofs.YtilaieogabgamaaGreatDoor
end
section
open _root_.BitVec renaming ofInt->akK
open _root_.Int renaming tdiv->ajo,tmod->ajL
open _root_.Nat renaming blt->ajX,le_refl->ai8
open _root_.Option.some renaming inj->ai4
namespace Go.Proofs.YtilaieogabgamaaGreatDoor
open Go Go.RowKit
def cd(P:Program)(ρ:Nat->Value)(o:Oper)(w:World)(Q:Value->World->Prop):Prop:=
 match(execOp (ev ρ) o).run P w with
 | .ok (.value v) w'=>o.dst.isSome/\Q v w'
 | .ok .skip w'=>o.dst=none/\Q undef w'
 | .ok (.enter f args) w'=>Calls P f args w' fun e tC=>∃v,e= .returned v/\Q v tC
 |_=>False
section
variable {P:Program} {n:Nat} {ops:Array Oper} {K:(Nat->Value)->World->Prop} {rest:List Oper} {ρ:Nat->Value} {w:World}
variable {dst:Option Nat} {op:Op} {ty:TypeId} {pos:String} {aft:Array Edge} {Q:Value->World->Prop}
theorem cd.mono{o:Oper}{Q':Value->World->Prop}(h:cd P ρ o w Q)(hq:∀v w',Q v w'->Q' v w'):cd P ρ o w Q':=by
 unfold cd at*;generalize(execOp (ev ρ) o).run P w=r at*
 cases r with
 |halt x w'=>exact h
 |ok x w'=>
  cases x<;>first
   |exact h
   |exact⟨h.1,hq _ _ h.2⟩
   |exact h.mono fun e tC ⟨v,he,hv⟩=>⟨v,he,hq _ _ hv⟩
theorem cd.val{d:Nat}{v:Value}{w':World}(hr:(execOp (ev ρ) ⟨some d,op,ty,pos,aft,none⟩).run P w= .ok (.value v) w')(h:Q v w'):cd P ρ ⟨some d,op,ty,pos,aft,none⟩ w Q:=by
 unfold cd;rw[hr];exact⟨rfl,h⟩
theorem cd.unit{w':World}(hr:(execOp (ev ρ) ⟨none,op,ty,pos,aft,none⟩).run P w= .ok .skip w')(h:Q undef w'):cd P ρ ⟨none,op,ty,pos,aft,none⟩ w Q:=by
 unfold cd;rw[hr];exact⟨rfl,h⟩
theorem Ar(h:cd P ρ ⟨dst,op,ty,pos,aft,none⟩ w Q)(hd:∀d,dst=some d->ajX d n=true)
 (hk:∀v w',Q v w'->wpS P n ops K rest (ub ρ dst v) w'):wpS P n ops K (⟨dst,op,ty,pos,aft,none⟩::rest) ρ w:=
 fun QQ a hf C5=>wpList_plain rfl fun K' hK=>by
  unfold Oper.wp;rw[hf.eval];unfold cd at h;generalize(execOp (ev ρ) ⟨dst,op,ty,pos,aft,none⟩).run P w=r at*
  have uS:∀v,Fr n (a.put dst v) (ub ρ dst v):=fun v=>by
   cases dst with
   |none=>exact hf
   |some d=>exact hf.put (hd d rfl) v
  cases r with
  |halt x w'=>exact h.elim
  |ok x w'=>
   cases x<;>first
    |exact h.elim
    |skip
   case value v=>exact hK _ _ (hk v w' h.2 QQ _ (uS v) C5)
   case skip=>exact hK _ _ (hk undef w' h.2 QQ _ (uS undef) C5)
   case enter f args=>
    refine h.mono fun e tC ⟨v,he,hv⟩=>?_
    subst he;exact hK _ _ (hk v tC hv QQ _ (uS v) C5)
end
inductive Iz where
 |int (k:IntKind)
 |bool
 |str
 |slice (e:TypeId)
 |struct (fs:List (TypeId×Nat))
 |array (n:Nat) (e:TypeId)
 |map (k v:TypeId)
 |ptr (e:TypeId)
 |other
def xz(P:Program)(t:TypeId):Iz->Prop
 | .int k=>P.underlying t=some (.int k)
 | .bool=>P.underlying t=some .bool
 | .str=>P.underlying t=some .string
 | .slice e=>P.underlying t=some (.slice e)
 | .struct fs=>∃arr:Array Field,P.underlying t=some (.struct arr)/\arr.toList.map (fun f=>(f.type,f.offset))=fs
 | .array n e=>P.underlying t=some (.array n e)
 | .map k v=>P.underlying t=some (.map k v)
 | .ptr e=>P.underlying t=some (.pointer e)
 | .other=>∃d,P.underlying t=some d/\iL d=false
def Jp(P:Program)(t:TypeId)(agg:Bool)(r:Row):Prop:=∃z,(P.info? t).bind (·.zero)=some z/\z=(bif agg then .agg r.eA.toArray else r.eA.headD undef)
def p7(P:Program)(t:TypeId)(name:String)(f:FuncId)(pr:Bool):Prop:=
 ((P.info? t).bind fun i=>i.methods.find? fun m=>m.name==name).map (fun m=>(m.path.toList.length,m.func))=some (0,some (f,pr))
structure bc(P:Program)where
 und:List (Nat×Iz)
 row:List (Nat×Row)
 eqs:List (Nat×Row)
 zer:List (Nat×(Bool×Row))
 und_ok:∀t k,find und t=some k->xz P t k
 row_ok:∀t r,find row t=some r->TI P t r
 eqs_ok:∀t r,find eqs t=some r->∃K d,qs P t r K/\d+K=10000/\P.eqGuardType P.depth t=false/\(P.underlying t).any iL=true
 zer_ok:∀t agg r,find zer t=some (agg,r)->Jp P t agg r
 mth:List (TypeId×(String×(FuncId×Bool)))
 mth_ok:∀p∈mth,p7 P p.1 p.2.1 p.2.2.1 p.2.2.2
def kA:Iz->Bool
 | .struct _| .array _ _=>true
 |_=>false
theorem xz.agg{P:Program}{t:TypeId}{k:Iz}(h:xz P t k):∃d,P.underlying t=some d/\iL d=kA k:=by
 cases k<;>first
  |exact⟨_,h,rfl⟩
  |(obtain⟨arr,h,_⟩:=h;exact⟨_,h,rfl⟩)
  |exact h
theorem oE{α:Type}{Q:Nat->α->Prop}{l:List (Nat×α)}(h:∀p∈l,Q p.1 p.2):∀t a,find l t=some a->Q t a:=by
 intro t a
 induction l with
 |nil=>intro h';cases h'
 |cons p l ih=>
  obtain⟨m,b⟩:=p;rw[aA];split
  .rename_i e;intro h';obtain rfl:=ai4 h';subst e;exact h (m,b) (by simp)
  .exact ih (fun q hq=>h q (by simp[hq]))
def C6:Value->Option ak
 | .int k n=>some (.val false (.leaf (.int k) n))
 | .bool b=>some (.val false (.leaf .bool b))
 | .string s=>some (.val false (.leaf .str s))
 | .slice none 0 0=>some (.val false .nil)
 | .map none=>some (.val false (.leaf (.nul .map) ()))
 | .pointer none=>some (.val false (.leaf (.nul .ptr) ()))
 | .nilFunc=>some (.val false (.leaf (.nul .func) ()))
 | .nilIface=>some .dead
 |_=>none
def IA(ah:List (Nat×ak)):Operand->Option ak
 | .tmp t=>find ah t
 | .const v=>C6 v
 | .func f=>some (.fn f [])
 | .global g=>match find EU g with
   |some d=>some (.at d.1 d.2)
   |none=>none
theorem aE.mA{H:ao}{F:Nat->Prop}{w:World}{r:Row}{x:r.den}{v:Value}(h:cA F w r [v] x):aE H F w false (.leaf r x) v:=⟨[v],h,rfl,fun _=>rfl⟩
theorem GC{H:ao}{F:Nat->Prop}{w:World}{v:Value}{d:ak}(h:C6 v=some d):ai H F w d v:=by
 unfold C6 at h
 split at h<;>first|cases h|skip
 .exact aE.mA rfl
 .exact aE.mA rfl
 .exact aE.mA rfl
 .exact⟨_,rfl,rfl,fun _=>rfl⟩
 .exact aE.mA rfl
 .exact aE.mA rfl
 .exact aE.mA rfl
 .trivial
theorem uT{H:ao}{F:Nat->Prop}{w:World}{ρ:Nat->Value}{ah:List (Nat×ak)}(hg:qt F w)(h:∀t d,find ah t=some d->ai H F w d (ρ t)):∀x d,IA ah x=some d->ai H F w d (ev ρ x):=by
 intro x d hx
 cases x with
 |tmp t=>exact h t d hx
 |const v=>exact GC hx
 |global g=>
  have O4:(match find EU g with|some d=>some (ak.at d.1 d.2)|none=>none)=some d:=hx;split at O4
  .rename_i q hq;obtain rfl:=ai4 O4;obtain⟨h1,h2⟩:=hg g q hq;exact⟨g,0,rfl,h1,h2⟩
  .cases O4
 |func f=>obtain rfl:=ai4 hx;exact⟨[],rfl,rfl⟩
theorem aE.inv{H:ao}{F:Nat->Prop}{w:World}{r:Row}{x:r.den}{v:Value}(h:aE H F w false (.leaf r x) v):cA F w r [v] x:=by
 obtain⟨cs,h1,_,h3⟩:=h;rw[h3 rfl]at h1;exact h1
theorem aE.int{H:ao}{F:Nat->Prop}{w:World}{k:IntKind}{x:Int}{v:Value}(h:aE H F w false (.leaf (.int k) x) v):v= .int k x:=by
 have:=h.inv;simpa[cA]using this
theorem aE.bool{H:ao}{F:Nat->Prop}{w:World}{x:Bool}{v:Value}(h:aE H F w false (.leaf .bool x) v):v= .bool x:=by
 have:=h.inv;simpa[cA]using this
theorem aE.str{H:ao}{F:Nat->Prop}{w:World}{x:ByteArray}{v:Value}(h:aE H F w false (.leaf .str x) v):v= .string x:=by
 have:=h.inv;simpa[cA]using this
theorem aE.ju(H:ao)(F:Nat->Prop)(w:World)(k:IntKind)(x:Int):aE H F w false (.leaf (.int k) x) (.int k x):=aE.mA rfl
theorem aE.fT(H:ao)(F:Nat->Prop)(w:World)(x:Bool):aE H F w false (.leaf .bool x) (.bool x):=aE.mA rfl
theorem aE.mkStr(H:ao)(F:Nat->Prop)(w:World)(x:ByteArray):aE H F w false (.leaf .str x) (.string x):=aE.mA rfl
abbrev lV(k:IntKind)(x:Int):ak:= .val false (.leaf (.int k) x)
abbrev dD(x:Bool):ak:= .val false (.leaf .bool x)
abbrev VX(x:ByteArray):ak:= .val false (.leaf .str x)
def asInt:ak->Option (IntKind×Int)
 | .val false (.leaf (.int k) x)=>some (k,x)
 |_=>none
def asBool:ak->Option Bool
 | .val false (.leaf .bool x)=>some x
 |_=>none
def As:ak->Option ByteArray
 | .val false (.leaf .str x)=>some x
 |_=>none
section
variable {P:Program} {ρ:Nat->Value} {w w':World} {H H':ao} {F F':Nat->Prop} {U:Nat->Prop} {ob:Nat->Option (Nat×Th)} {n:Nat} {R:Type}
variable {dst:Option Nat} {op:Op} {ty:TypeId} {pos:String} {aft:Array Edge} {d:Nat}
theorem gM{D:ak}{k:IntKind}{x:Int}{v:Value}(h:asInt D=some (k,x))(hd:ai H F w D v):v= .int k x:=by
 unfold asInt at h
 split at h<;>cases h
 exact aE.int hd
theorem nk{D:ak}{x:Bool}{v:Value}(h:asBool D=some x)(hd:ai H F w D v):v= .bool x:=by
 unfold asBool at h
 split at h<;>cases h
 exact aE.bool hd
theorem uU{D:ak}{x:ByteArray}{v:Value}(h:As D=some x)(hd:ai H F w D v):v= .string x:=by
 unfold As at h
 split at h<;>cases h
 exact aE.str hd
def cD(P:Program)(_U:Nat->Prop)(H:ao)(F:Nat->Prop)(w:World)(ρ:Nat->Value)(ob:Nat->Option (Nat×Th))(n:Nat)(o:Oper)(e:dN):Prop:=
 cd P ρ o w (kE H F w ob n e)
theorem LX.refl{g:Nat->Prop}(hF:∀b,F b->b<w.heap.size):LX H F w H F w g:=⟨ao.le.refl H,⟨rfl,rfl,rfl,ai8 _,fun _ _ _=>rfl⟩,fun _ h=>h,fun _ h=> .inl h,hF⟩
theorem Made.nil{g:Nat->Prop}:Made H' F' w w' g []:=⟨fun _ _ _ h=>(by cases h),fun _ _ _ _ _ _ _ _ _ h=>(by cases h)⟩
theorem lU.pure(hs:au U H F w ob n){D:ak}{v:Value}(h:ai H F w D v):kE H F w ob n {dst:=D} v w:=
 ⟨H,F,LX.refl hs.lt,fun m hm=>⟨id,id⟩,h,Made.nil,fun o h=>by cases h⟩
theorem bP(hs:au U H F w ob n){D:ak}{v:Value}(hr:(execOp (ev ρ) ⟨some d,op,ty,pos,aft,none⟩).run P w= .ok (.value v) w)(h:ai H F w D v):cD P U H F w ρ ob n ⟨some d,op,ty,pos,aft,none⟩ {dst:=D}:=
 cd.val hr (lU.pure hs h)
theorem aI(hs:au U H F w ob n){D:ak}{v:Value}(hr:Pure P ρ ⟨some d,op,ty,pos,aft,none⟩ v)(h:ai H F w D v):cD P U H F w ρ ob n ⟨some d,op,ty,pos,aft,none⟩ {dst:=D}:=
 bP hs (hr w) h
def fb(o:BinOp)(k:IntKind)(a b:Int):Int:=
 match o with
 | .and=>k.wrap (akK k.bits a&&& akK k.bits b).toNat
 | .or=>k.wrap (akK k.bits a|||akK k.bits b).toNat
 | .xor=>k.wrap (akK k.bits a ^^^ akK k.bits b).toNat
 |_=>k.wrap (akK k.bits a&&& ~~~akK k.bits b).toNat
def yE(k:IntKind)(a b:Int):Int:=k.wrap (a*2 ^ min b.toNat k.bits)
def fU(k:IntKind)(a b:Int):Int:=a.fdiv (2 ^ min b.toNat k.bits)
def GD(k:IntKind)(a b:Int):Option Int:=if b<0 then none else some (yE k a b)
def GF(k:IntKind)(a b:Int):Option Int:=if b<0 then none else some (fU k a b)
def arith:BinOp->IntKind->Int->Int->Option ak
 | .add,k,a,b=>some (lV k (k.wrap (a+b)))
 | .sub,k,a,b=>some (lV k (k.wrap (a-b)))
 | .mul,k,a,b=>some (lV k (k.wrap (a*b)))
 | .lss,_,a,b=>some (dD (decide (a<b)))
 | .leq,_,a,b=>some (dD (decide (a<=b)))
 | .gtr,_,a,b=>some (dD (decide (b<a)))
 | .geq,_,a,b=>some (dD (decide (b<=a)))
 | .eql,_,a,b=>some (dD (decide (a=b)))
 | .neq,_,a,b=>some (dD (!decide (a=b)))
 | .and,k,a,b=>some (lV k (fb .and k a b))
 | .or,k,a,b=>some (lV k (fb .or k a b))
 | .xor,k,a,b=>some (lV k (fb .xor k a b))
 | .andNot,k,a,b=>some (lV k (fb .andNot k a b))
 |_,_,_,_=>none
theorem pure_and{k:IntKind}{a b:Int}{t u:TypeId}{x y:Operand}(hx:ev ρ x= .int k a)(hy:ev ρ y= .int k b):Pure P ρ ⟨some d, .binOp .and t x y u,ty,pos,aft,none⟩ (.int k (fb .and k a b)):=fun w=>by simp[execOp,hx,hy,binOp,Op.intBits,eqGuard,fb,go_sem]
theorem pure_or{k:IntKind}{a b:Int}{t u:TypeId}{x y:Operand}(hx:ev ρ x= .int k a)(hy:ev ρ y= .int k b):Pure P ρ ⟨some d, .binOp .or t x y u,ty,pos,aft,none⟩ (.int k (fb .or k a b)):=fun w=>by simp[execOp,hx,hy,binOp,Op.intBits,eqGuard,fb,go_sem]
theorem Jq{k:IntKind}{a b:Int}{t u:TypeId}{x y:Operand}(hx:ev ρ x= .int k a)(hy:ev ρ y= .int k b):Pure P ρ ⟨some d, .binOp .xor t x y u,ty,pos,aft,none⟩ (.int k (fb .xor k a b)):=fun w=>by simp[execOp,hx,hy,binOp,Op.intBits,eqGuard,fb,go_sem]
theorem Au{k:IntKind}{a b:Int}{t u:TypeId}{x y:Operand}(hx:ev ρ x= .int k a)(hy:ev ρ y= .int k b):Pure P ρ ⟨some d, .binOp .andNot t x y u,ty,pos,aft,none⟩ (.int k (fb .andNot k a b)):=fun w=>by simp[execOp,hx,hy,binOp,Op.intBits,eqGuard,fb,go_sem]
theorem Av{k k':IntKind}{a b:Int}{t u:TypeId}{x y:Operand}(hx:ev ρ x= .int k a)(hy:ev ρ y= .int k' b)(hb:¬b<0):Pure P ρ ⟨some d, .binOp .shl t x y u,ty,pos,aft,none⟩ (.int k (yE k a b)):=fun w=>by simp[execOp,hx,hy,binOp,Op.shift,eqGuard,yE,hb,go_sem]
theorem Aw{k k':IntKind}{a b:Int}{t u:TypeId}{x y:Operand}(hx:ev ρ x= .int k a)(hy:ev ρ y= .int k' b)(hb:¬b<0):Pure P ρ ⟨some d, .binOp .shr t x y u,ty,pos,aft,none⟩ (.int k (fU k a b)):=fun w=>by simp[execOp,hx,hy,binOp,Op.shift,eqGuard,fU,hb,go_sem]
theorem Jr{o:BinOp}{k:IntKind}{a b:Int}{D:ak}{t u:TypeId}{x y:Operand}(h:arith o k a b=some D)(hs:au U H F w ob n)(hx:ev ρ x= .int k a)(hy:ev ρ y= .int k b):
 cD P U H F w ρ ob n ⟨some d, .binOp o t x y u,ty,pos,aft,none⟩ {dst:=D}:=by
 unfold arith at h
 split at h<;>cases h
 .exact aI hs (IY hx hy) (aE.ju ..)
 .exact aI hs (IZ hx hy) (aE.ju ..)
 .exact aI hs (I0 hx hy) (aE.ju ..)
 .exact aI hs (I3 hx hy) (aE.fT ..)
 .exact aI hs (I4 hx hy) (aE.fT ..)
 .exact aI hs (I5 hx hy) (aE.fT ..)
 .exact aI hs (I6 hx hy) (aE.fT ..)
 .exact aI hs (I7 hx hy) (aE.fT ..)
 .exact aI hs (I8 hx hy) (aE.fT ..)
 .exact aI hs (pure_and hx hy) (aE.ju ..)
 .exact aI hs (pure_or hx hy) (aE.ju ..)
 .exact aI hs (Jq hx hy) (aE.ju ..)
 .exact aI hs (Au hx hy) (aE.ju ..)
def yF(a b:Int):Option Int:=if b=0 then none else some (ajo a b)
def GG(a b:Int):Option Int:=if b=0 then none else some (ajL a b)
def Sk:Operand->Bool
 | .const _=>true
 |_=>false
theorem Js{k:IntKind}{a b:Int}{t u:TypeId}{x y:Operand}(hb:b≠0)(hs:au U H F w ob n)(hx:ev ρ x= .int k a)(hy:ev ρ y= .int k b):
 cD P U H F w ρ ob n ⟨some d, .binOp .quo t x y u,ty,pos,aft,none⟩ {dst:=lV k (k.wrap (ajo a b))}:=
 aI hs (I1 hx hy hb) (aE.ju ..)
theorem Jt{k:IntKind}{a b:Int}{t u:TypeId}{x y:Operand}(hb:b≠0)(hs:au U H F w ob n)(hx:ev ρ x= .int k a)(hy:ev ρ y= .int k b):
 cD P U H F w ρ ob n ⟨some d, .binOp .rem t x y u,ty,pos,aft,none⟩ {dst:=lV k (ajL a b)}:=
 aI hs (I2 hx hy hb) (aE.ju ..)
end
end Go.Proofs.YtilaieogabgamaaGreatDoor
end
section
open _root_.Bool renaming and_eq_true->akm
open _root_.List renaming append_assoc->ajr,append_nil->ajW,drop_append_of_le_length->ajZ,length_append->ai6,take_append_of_le_length->ajy,take_length->aju
open _root_.Nat renaming beq->aje,eq_of_beq_eq_true->ajT,zero_add->ajC
open _root_.Option.some renaming inj->ai4,injEq->ajg
open _root_.Prod.mk renaming inj->akx,injEq->aj3
namespace Go.Proofs.YtilaieogabgamaaGreatDoor
open Go Go.RowKit
def Tree.split:Tree->Option (Tree×Tree)
 | .leaf (.pair a b) x=>some (.leaf a x.1, .leaf b x.2)
 | .pair a b=>some (a,b)
 |_=>none
def Tree.get:Tree->List Bool->Option (Tree×Nat)
 |t,[]=>some (t,0)
 |t,d::p=>match t.split with
  |none=>none
  |some (a,b)=>match d with
   |false=>Tree.get a p
   |true=>match Tree.get b p with
    |none=>none
    |some (s,off)=>some (s,a.size+off)
def Tree.put:Tree->List Bool->Tree->Option Tree
 |_,[],u=>some u
 |t,d::p,u=>match t.split with
  |none=>none
  |some (a,b)=>match d with
   |false=>match Tree.put a p u with
    |none=>none
    |some a'=>some (.pair a' b)
   |true=>match Tree.put b p u with
    |none=>none
    |some b'=>some (.pair a b')
def q9:Nat->Nat->List Bool
 |0,_=>[]
 |1,_=>[]
 |_+2,0=>[false]
 |m+2,f+1=>true::q9 (m+1) f
section
variable {H:ao} {F:Nat->Prop} {w:World}
theorem Holds.split{t a b:Tree}{cs:List Value}(hs:t.split=some (a,b))(h:Holds H F w t cs):∃c1 c2,cs=c1++c2/\Holds H F w a c1/\Holds H F w b c2/\t.size=a.size+b.size:=by
 unfold Tree.split at hs
 split at hs<;>cases hs
 .obtain⟨c1,c2,e,h1,h2⟩:=h;exact⟨c1,c2,e,h1,h2,rfl⟩
 .obtain⟨c1,c2,e,h1,h2⟩:=h;exact⟨c1,c2,e,h1,h2,rfl⟩
theorem Holds.get:{p:List Bool}->{t s:Tree}->{off:Nat}->{cs:List Value}->t.get p=some (s,off)->Holds H F w t cs->Holds H F w s ((cs.drop off).take s.size)/\off+s.size<=cs.length
 |[],t,s,off,cs,hg,h=>by
  obtain⟨rfl,rfl⟩:=akx (ai4 hg);have hl:=h.length;refine⟨?_,by omega⟩;rw[List.drop_zero,<-hl,aju];exact h
 |d::p,t,s,off,cs,hg,h=>by
  unfold Tree.get at hg
  cases wR:t.split with
  |none=>rw[wR]at hg;cases hg
  |some ab=>
   obtain⟨a,b⟩:=ab;rw[wR]at hg;obtain⟨c1,c2,rfl,h1,h2,_⟩:=h.split wR;have IB:=h1.length
   cases d with
   |false=>
    obtain⟨g1,g2⟩:=Holds.get hg h1;refine⟨?_,by rw[ai6];omega⟩;rw[ajZ (by omega),ajy (by rw[List.length_drop];omega)];exact g1
   |true=>
    cases hb:b.get p with
    |none=>simp only[hb]at hg;cases hg
    |some so=>
     obtain⟨s',dx⟩:=so;simp only[hb,ajg,aj3]at hg;obtain⟨rfl,rfl⟩:=hg;obtain⟨g1,g2⟩:=Holds.get hb h2;refine⟨?_,by rw[ai6];omega⟩;rw[<-IB,List.drop_append,List.drop_of_length_le (by omega),List.nil_append,show c1.length+dx-c1.length=dx from by omega];exact g1
theorem Holds.put{u:Tree}{vs:List Value}(hu:Holds H F w u vs):{p:List Bool}->{t s t':Tree}->{off:Nat}->{cs:List Value}->t.get p=some (s,off)->t.put p u=some t'->s.size=u.size->Holds H F w t cs->
 Holds H F w t' (cs.take off++vs++cs.drop (off+u.size))
 |[],t,s,t',off,cs,hg,hp,hz,h=>by
  obtain⟨rfl,rfl⟩:=akx (ai4 hg);obtain rfl:=ai4 hp;have hl:=h.length;rw[List.take_zero,List.nil_append,ajC,List.drop_of_length_le (by omega),ajW];exact hu
 |d::p,t,s,t',off,cs,hg,hp,hz,h=>by
  unfold Tree.get at hg;unfold Tree.put at hp
  cases wR:t.split with
  |none=>rw[wR]at hg;cases hg
  |some ab=>
   obtain⟨a,b⟩:=ab;rw[wR]at hg hp;obtain⟨c1,c2,rfl,h1,h2,_⟩:=h.split wR;have IB:=h1.length
   cases d with
   |false=>
    cases hq:a.put p u with
    |none=>simp only[hq]at hp;cases hp
    |some a'=>
     simp only[hq,ajg]at hp;subst hp;have h3:=Holds.put hu hg hq hz h1;have g2:=(Holds.get hg h1).2;refine⟨_,c2,?_,h3,h2⟩;rw[ajy (by omega),ajZ (by omega)];simp[ajr]
   |true=>
    cases hb:b.get p with
    |none=>simp only[hb]at hg;cases hg
    |some so=>
     obtain⟨s',dx⟩:=so;simp only[hb,ajg,aj3]at hg;obtain⟨rfl,rfl⟩:=hg
     cases hq:b.put p u with
     |none=>simp only[hq]at hp;cases hp
     |some b'=>
      simp only[hq,ajg]at hp;subst hp;have h3:=Holds.put hu hb hq hz h2;refine⟨c1,_,?_,h1,h3⟩
      rw[<-IB,List.take_append,List.take_of_length_le (by omega),List.drop_append,List.drop_of_length_le (by omega),show c1.length+dx-c1.length=dx from by omega,
       show c1.length+dx+u.size-c1.length=dx+u.size from by omega]
      simp[ajr]
end
def Iy.beq:Iy->Iy->Bool
 | .map, .map=>true
 | .ptr, .ptr=>true
 | .func, .func=>true
 |_,_=>false
theorem Iy.eq_of_beq{a b:Iy}(h:a.beq b=true):a=b:=by cases a<;>cases b<;>first|rfl|cases h
def Row.beq:Row->Row->Bool
 | .int k, .int k'=>decide (k=k')
 | .bool, .bool=>true
 | .str, .str=>true
 | .jJ, .jJ=>true
 | .nul a, .nul b=>a.beq b
 | .map a x b, .map c y d=>a.beq c&&(bif x then y else !y)&&b.beq d
 | .slice a, .slice b=>a.beq b
 | .pair a b, .pair c d=>a.beq c&&b.beq d
 |_,_=>false
theorem Row.eq_of_beq:{r s:Row}->r.beq s=true->r=s
 | .int k, .int k',h=>by rw[of_decide_eq_true (show decide (k=k')=true from h)]
 | .bool, .bool,_=>rfl
 | .str, .str,_=>rfl
 | .jJ, .jJ,_=>rfl
 | .nul a, .nul b,h=>by rw[Iy.eq_of_beq (show a.beq b=true from h)]
 | .map a x b, .map c y d,h=>by
   have h':(a.beq c&&(bif x then y else !y)&&b.beq d)=true:=h;rw[akm,akm]at h'
   have wO:x=y:=by cases x<;>cases y<;>simp_all
   rw[Row.eq_of_beq h'.1.1,Row.eq_of_beq h'.2,wO]
 | .slice a, .slice b,h=>by rw[Row.eq_of_beq (show a.beq b=true from h)]
 | .pair a b, .pair c d,h=>by
   have h':(a.beq c&&b.beq d)=true:=h;rw[akm]at h';rw[Row.eq_of_beq h'.1,Row.eq_of_beq h'.2]
def iC{r s:Row}(h:r=s)(x:r.den):s.den:=h▸x
theorem Row.beq_refl:(r:Row)->r.beq r=true
 | .int k=>by simp[Row.beq]
 | .bool=>rfl
 | .str=>rfl
 | .jJ=>rfl
 | .nul a=>by cases a<;>rfl
 | .map a x b=>by
   show(a.beq a&&(bif x then x else !x)&&b.beq b)=true
   rw[Row.beq_refl a,Row.beq_refl b]
   cases x<;>rfl
 | .slice a=>Row.beq_refl a
 | .pair a b=>by
   show(a.beq a&&b.beq b)=true
   rw[Row.beq_refl a,Row.beq_refl b];rfl
def DR.beq:DR->DR->Bool
 | .leaf r, .leaf s=>r.beq s
 | .sl T d, .sl T' d'=>aje T T'&&d.beq d'
 | .pair a b, .pair c d=>a.beq c&&b.beq d
 |_,_=>false
theorem DR.eq_of_beq:{d e:DR}->d.beq e=true->d=e
 | .leaf r, .leaf s,h=>by rw[Row.eq_of_beq (show r.beq s=true from h)]
 | .sl T d, .sl T' d',h=>by
   obtain⟨h1,h2⟩:=(akm _ _▸(show(aje T T'&&d.beq d')=true from h):aje T T'=true/\d.beq d'=true)
   rw[ajT h1,DR.eq_of_beq h2]
 | .pair a b, .pair c d,h=>by
   obtain⟨h1,h2⟩:=(akm _ _▸(show(a.beq c&&b.beq d)=true from h):a.beq c=true/\b.beq d=true)
   rw[DR.eq_of_beq h1,DR.eq_of_beq h2]
 | .leaf _, .sl ..,h=>by cases h
 | .leaf _, .pair ..,h=>by cases h
 | .sl .., .leaf _,h=>by cases h
 | .sl .., .pair ..,h=>by cases h
 | .pair .., .leaf _,h=>by cases h
 | .pair .., .sl ..,h=>by cases h
theorem DR.beq_refl:(d:DR)->d.beq d=true
 | .leaf r=>Row.beq_refl r
 | .sl T d=>by show(aje T T&&d.beq d)=true;rw[DR.beq_refl d,Bool.and_true];exact Nat.beq_refl T
 | .pair a b=>by show(a.beq a&&b.beq b)=true;rw[DR.beq_refl a,DR.beq_refl b];rfl
def nU:List Bool->List Bool->Bool
 |[],[]=>true
 |a::p,b::q=>(bif a then b else !b)&&nU p q
 |_,_=>false
theorem qv:{p q:List Bool}->nU p q=true->p=q
 |[],[],_=>rfl
 |a::p,b::q,h=>by
  have h':((bif a then b else !b)&&nU p q)=true:=h;rw[akm]at h';rw[qv h'.2];have:=h'.1
  cases a<;>cases b<;>simp_all
 |[],_::_,h=>by cases h
 |_::_,[],h=>by cases h
def flat(ob:Nat->Option (Nat×Th)):(r:Row)->Tree->Option r.den
 |r, .leaf s x=>if h:s.beq r=true then some (iC (Row.eq_of_beq h) x)else none
 | .slice e, .own o=>match ob o with
   |some (_, .sf _ s l)=>if h:s.beq e=true then some (iC (r:= .slice s) (s:= .slice e) (congrArg Row.slice (Row.eq_of_beq h)) l)else none
   |some (_, .fdeep _ d l)=>if h:d.row.beq e=true then some (iC (r:= .slice d.row) (s:= .slice e) (congrArg Row.slice (Row.eq_of_beq h)) l)else none
   |_=>none
 | .slice _, .nil=>some []
 | .map K agg V, .own o=>match ob o with
   |some (_, .fmap _ K' la V' l)=>if h:(Row.map K' la V').beq (.map K agg V)=true then some (iC (Row.eq_of_beq h) l)else none
   |some (_, .fdmap _ K' _ r' l)=>if h:(Row.map K' false (.slice r')).beq (.map K agg V)=true then some (iC (r:= .map K' false (.slice r')) (Row.eq_of_beq h) l)else none
   |_=>none
 | .slice e, .view o s r m=>match ob o with
   |some (s', .sf ..)=>bif aje s' s then(if h:r.beq e=true then some (iC (r:= .slice r) (s:= .slice e) (congrArg Row.slice (Row.eq_of_beq h)) m)else none)else none
   |_=>none
 | .pair a b, .pair t u=>match flat ob a t with
   |none=>none
   |some x=>match flat ob b u with
    |none=>none
    |some y=>some (x,y)
 |_,_=>none
section
variable {U:Nat->Prop} {H:ao} {F:Nat->Prop} {w:World} {ob:Nat->Option (Nat×Th)} {n:Nat}
theorem xA(hs:au U H F w ob n){o s:Nat}{T:TypeId}{r0 r:Row}{l0:List r0.den}{m:List r.den}{v:Value}(ho:ob o=some (s, .sf T r0 l0))(h:lq H o s r m v):cA F w (.slice r) [v] m:=by
 obtain⟨A,cap,T',l,a,b,h1,h2,h3,h4,rfl,rfl⟩:=h;obtain⟨v',di,cc⟩:=hs.obj _ _ _ ho;rw[h1]at di;obtain rfl:=ai4 di;have e:=cc.con;rw[h2]at e;simp only[Th.base,ajg,Th.own.injEq]at e;obtain⟨rfl,rfl,e⟩:=e;obtain rfl:=eq_of_heq e;exact cA.cut cc.ok h3 h4
theorem im(hs:au U H F w ob n):{r:Row}->{t:Tree}->{x:r.den}->{cs:List Value}->flat ob r t=some x->Holds H F w t cs->cA F w r cs x
 |r, .leaf s x0,x,cs,hf,h=>by
  unfold flat at hf;split at hf
  .rename_i e;obtain rfl:=Row.eq_of_beq e;obtain rfl:=ai4 hf;exact h
  .cases hf
 | .slice e, .own o,x,cs,hf,h=>by
   unfold flat at hf;split at hf
   .rename_i s0 T s l wU;split at hf
    .rename_i e;obtain rfl:=Row.eq_of_beq e;obtain rfl:=ai4 hf;obtain⟨v,hv,_,rfl⟩:=h;obtain⟨v',di,cc⟩:=hs.obj _ _ _ wU;rw[hv]at di;obtain rfl:=ai4 di;exact cc.ok
    .cases hf
   .rename_i s0 T d l wU;split at hf
    .rename_i e;obtain rfl:=Row.eq_of_beq e;obtain rfl:=ai4 hf;obtain⟨v,hv,_,rfl⟩:=h;obtain⟨v',di,cc⟩:=hs.obj _ _ _ wU;rw[hv]at di;obtain rfl:=ai4 di;exact cc.ok
    .cases hf
   .cases hf
 | .map K agg V, .own o,x,cs,hf,h=>by
   unfold flat at hf;split at hf
   .rename_i s0 T K' la V' l wU;split at hf
    .rename_i e;cases Row.eq_of_beq e;obtain rfl:=ai4 hf;obtain⟨v,hv,_,rfl⟩:=h;obtain⟨v',di,cc⟩:=hs.obj _ _ _ wU;rw[hv]at di;obtain rfl:=ai4 di;exact cc.ok
    .cases hf
   .rename_i s0 T K' E r' l wU;split at hf
    .rename_i e;cases Row.eq_of_beq e;obtain rfl:=ai4 hf;obtain⟨v,hv,_,rfl⟩:=h;obtain⟨v',di,cc⟩:=hs.obj _ _ _ wU;rw[hv]at di;obtain rfl:=ai4 di;exact cc.ok
    .cases hf
   .cases hf
 | .slice e, .nil,x,cs,hf,h=>by
   unfold flat at hf;obtain rfl:=ai4 hf;rw[show cs=_ from h];exact cA.nil F w e
 | .slice e, .view o s r m,x,cs,hf,h=>by
   unfold flat at hf;split at hf
   .rename_i s' T r' l' wU
    cases hb:aje s' s with
    |false=>rw[hb]at hf;cases hf
    |true=>
     rw[hb,cond_true]at hf;obtain rfl:=ajT hb;split at hf
     .rename_i e;obtain rfl:=Row.eq_of_beq e;obtain rfl:=ai4 hf;obtain⟨v,rfl,h⟩:=h;exact xA hs wU h
     .cases hf
   .cases hf
 | .pair a b, .pair t u,x,cs,hf,h=>by
   obtain⟨c1,c2,rfl,h1,h2⟩:=h;unfold flat at hf
   cases ha:flat ob a t with
   |none=>simp only[ha]at hf;cases hf
   |some p=>
    cases hb:flat ob b u with
    |none=>simp only[ha,hb]at hf;cases hf
    |some q=>
     simp only[ha,hb,ajg]at hf;subst hf;exact⟨c1,c2,rfl,im hs ha h1,im hs hb h2⟩
 | .int _, .own _,_,_,hf,_=>by unfold flat at hf;cases hf
 | .bool, .own _,_,_,hf,_=>by unfold flat at hf;cases hf
 | .str, .own _,_,_,hf,_=>by unfold flat at hf;cases hf
 | .jJ, .own _,_,_,hf,_=>by unfold flat at hf;cases hf
 | .nul _, .own _,_,_,hf,_=>by unfold flat at hf;cases hf
 | .pair _ _, .own _,_,_,hf,_=>by unfold flat at hf;cases hf
 | .int _, .nil,_,_,hf,_=>by unfold flat at hf;cases hf
 | .bool, .nil,_,_,hf,_=>by unfold flat at hf;cases hf
 | .str, .nil,_,_,hf,_=>by unfold flat at hf;cases hf
 | .jJ, .nil,_,_,hf,_=>by unfold flat at hf;cases hf
 | .nul _, .nil,_,_,hf,_=>by unfold flat at hf;cases hf
 | .map .., .nil,_,_,hf,_=>by unfold flat at hf;cases hf
 | .pair _ _, .nil,_,_,hf,_=>by unfold flat at hf;cases hf
 | .int _, .view ..,_,_,hf,_=>by unfold flat at hf;cases hf
 | .bool, .view ..,_,_,hf,_=>by unfold flat at hf;cases hf
 | .str, .view ..,_,_,hf,_=>by unfold flat at hf;cases hf
 | .jJ, .view ..,_,_,hf,_=>by unfold flat at hf;cases hf
 | .nul _, .view ..,_,_,hf,_=>by unfold flat at hf;cases hf
 | .map .., .view ..,_,_,hf,_=>by unfold flat at hf;cases hf
 | .pair _ _, .view ..,_,_,hf,_=>by unfold flat at hf;cases hf
 | .int _, .junk _,_,_,hf,_=>by unfold flat at hf;cases hf
 | .bool, .junk _,_,_,hf,_=>by unfold flat at hf;cases hf
 | .str, .junk _,_,_,hf,_=>by unfold flat at hf;cases hf
 | .slice _, .junk _,_,_,hf,_=>by unfold flat at hf;cases hf
 | .jJ, .junk _,_,_,hf,_=>by unfold flat at hf;cases hf
 | .nul _, .junk _,_,_,hf,_=>by unfold flat at hf;cases hf
 | .map .., .junk _,_,_,hf,_=>by unfold flat at hf;cases hf
 | .pair _ _, .junk _,_,_,hf,_=>by unfold flat at hf;cases hf
 | .int _, .pair _ _,_,_,hf,_=>by unfold flat at hf;cases hf
 | .bool, .pair _ _,_,_,hf,_=>by unfold flat at hf;cases hf
 | .str, .pair _ _,_,_,hf,_=>by unfold flat at hf;cases hf
 | .jJ, .pair _ _,_,_,hf,_=>by unfold flat at hf;cases hf
 | .nul _, .pair _ _,_,_,hf,_=>by unfold flat at hf;cases hf
 | .map .., .pair _ _,_,_,hf,_=>by unfold flat at hf;cases hf
 | .slice _, .pair _ _,_,_,hf,_=>by unfold flat at hf;cases hf
end
def Row.Ax:Row->Tree
 | .slice _=> .nil
 | .pair a b=> .pair a.Ax b.Ax
 |r=> .leaf r r.zero
theorem Row.mB(H:ao)(F:Nat->Prop)(w:World):(r:Row)->Holds H F w r.Ax r.eA
 | .int _=>rfl
 | .bool=>rfl
 | .str=>rfl
 | .slice _=>rfl
 | .jJ=>⟨rfl,none,0,0,rfl⟩
 | .nul _=>rfl
 | .map .. =>⟨_,rfl, .inl ⟨rfl,rfl⟩⟩
 | .pair a b=>⟨_,_,rfl,Row.mB H F w a,Row.mB H F w b⟩
end Go.Proofs.YtilaieogabgamaaGreatDoor
end
section
open _root_.Go.Addr.mk renaming injEq->akB
open _root_.Array renaming toArray_toList->ajR
open _root_.Int renaming toNat_natCast->aja
open _root_.List renaming getElem?_drop->ajp,getElem?_map->aj2,getElem?_take->ajF
open _root_.Nat renaming add_assoc->akf,add_mul->aj4,add_zero->aj7,beq->aje,blt->ajX,eq_of_beq_eq_true->ajT,le_refl->ai8,lt_of_lt_of_le->ajJ
open _root_.Option renaming isSome_iff_exists->ajH
open _root_.Option.some renaming inj->ai4,injEq->ajg
open _root_.Prod.mk renaming inj->akx,injEq->aj3
open _root_.Go.Value renaming oneCell'->akq
open _root_.Go.Value.pointer renaming injEq->akT
namespace Go.Proofs.YtilaieogabgamaaGreatDoor
open Go Go.RowKit
section
variable {P:Program} {ρ:Nat->Value} {w w':World} {H H':ao} {F F':Nat->Prop} {U:Nat->Prop} {ob:Nat->Option (Nat×Th)} {n:Nat} {R:Type}
variable {op:Op} {ty:TypeId} {pos:String} {aft:Array Edge} {d:Nat}
theorem au.box(hs:au U H F w ob n){o s:Nat}{T:TypeId}{t:Tree}(ho:ob o=some (s, .box T t)){b:Nat}(hb:H.val o=some (.pointer (some ⟨b,0,none⟩))):
 ∃es,w.heap[b]? =some (.cells es.toArray T (0,0))/\Holds H F w t es:=by
 obtain⟨v,hv,hi⟩:=hs.obj _ _ _ ho;rw[hb]at hv;obtain rfl:=ai4 hv;obtain⟨b',es,e,h1,h2⟩:=hi.ok;simp only[akT,ajg,akB,and_true]at e;subst e;exact⟨es,h1,h2⟩
theorem au.own(hs:au U H F w ob n){o s:Nat}{T:TypeId}{r:Row}{l:List r.den}(ho:ob o=some (s, .own T r l)){v:Value}(hv:H.val o=some v):iE 0 F w T r v l:=by
 obtain⟨v',di,hi⟩:=hs.obj _ _ _ ho;rw[hv]at di;obtain rfl:=ai4 di;exact⟨hi.no,hi.ok⟩
theorem Ay{fs:List (TypeId×Nat)}{arr:Array Field}(ha:arr.toList.map (fun f=>(f.type,f.offset))=fs){f:Nat}{ft:TypeId}{off:Nat}(hf:fs[f]? =some (ft,off)):∃fd,arr[f]? =some fd/\fd.type=ft/\fd.offset=off:=by
 subst ha;rw[aj2]at hf
 cases hq:arr.toList[f]? with
 |none=>rw[hq]at hf;cases hf
 |some fd=>
  rw[hq]at hf;simp only[Option.map_some,ajg,aj3]at hf;exact⟨fd,by rw[<-Array.getElem?_toList];exact hq,hf.1,hf.2⟩
def sub(r:Row)(x:r.den)(p:List Bool):Option ((s:Row)×s.den×Nat):=
 match Tree.get (.leaf r x) p with
 |some (.leaf s y,off)=>some ⟨s,y,off⟩
 |_=>none
theorem C7{r s:Row}{x:r.den}{y:s.den}{p:List Bool}{off b k:Nat}(h:sub r x p=some ⟨s,y,off⟩)(ha:At F w r b k x):At F w s b (k+off) y:=by
 unfold sub at h;split at h
 .rename_i s' y' dx hg;simp only[ajg,Sigma.mk.injEq]at h;obtain⟨rfl,h⟩:=h;obtain⟨rfl,rfl⟩:=akx (eq_of_heq h);obtain⟨es,hl,hc,hr⟩:=ha;obtain⟨g1,g2⟩:=Holds.get (H:=⟨fun _=>none,fun _=>none,fun _ _=>False⟩) (F:=F) (w:=w) (cs:=es) hg hr;have Sl:cA F w s' ((es.drop dx).take s'.size) y':=g1;refine⟨_,Sl.length,fun j u hu=>?_,Sl⟩;rw[ajF]at hu;split at hu
  .rw[ajp]at hu;rw[akf];exact hc _ u hu
  .cases hu
 .cases h
def C8(T:bc P)(t:TypeId)(f:Nat)(D:ak):Option ak:=
 match find T.und t with
 |some (.struct fs)=>match fs[f]? with
  |some (ft,off)=>match find T.row ft with
   |some _=>match D with
    | .ptr o p k=>some (.ptr o (p++q9 fs.length f) (k+off))
    | .at r x=>match sub r x (q9 fs.length f)with
      |some ⟨s,y,dx⟩=>bif aje dx off then some (.at s y)else none
      |none=>none
    | .elem o s r i x p k=>some (.elem o s r i x (p++q9 fs.length f) (k+off))
    | .dlm o d i p k=>some (.dlm o d i (p++q9 fs.length f) (k+off))
    |_=>none
   |none=>none
  |none=>none
 |_=>none
theorem beq_true{m k:Nat}(h:aje m k=true):m=k:=ajT h
theorem lW{α:Type}{b:Bool}{x:α}{y:α}(h:(bif b then some x else none)=some y):b=true/\x=y:=by
 cases b with
 |true=>exact⟨rfl,ai4 h⟩
 |false=>cases h
theorem GH(T:bc P){t:TypeId}{f:Nat}{D D':ak}{x:Operand}(h:C8 T t f D=some D')(hs:au U H F w ob n)(hx:ai H F w D (ev ρ x)):
 cD P U H F w ρ ob n ⟨some d, .fieldAddr t x f,ty,pos,aft,none⟩ {dst:=D'}:=by
 unfold C8 at h;split at h
 case h_2=>cases h
 rename_i fs hu;obtain⟨arr,CH,Ml⟩:=T.und_ok _ _ hu;split at h
 case h_2=>cases h
 rename_i ft off hf;obtain⟨fd,RC,rfl,rfl⟩:=Ay Ml hf;split at h
 case h_2=>cases h
 rename_i r' oz;have uV:=T.row_ok _ _ oz;split at h
 .obtain rfl:=ai4 h;obtain⟨b,h1,h2⟩:=hx;exact aI hs (mv (r:=r') fd.offset CH RC uV rfl h2) ⟨b,h1,rfl⟩
 .split at h
  .rename_i s y dx fN;obtain⟨h1,rfl⟩:=lW h;obtain rfl:=beq_true h1;obtain⟨b,k,h2,h3,h4⟩:=hx;exact aI hs (mv (r:=r') fd.offset CH RC uV rfl h2) ⟨b,_,rfl,h3,C7 fN h4⟩
  .cases h
 .obtain rfl:=ai4 h;obtain⟨g,o0,q,T',m,cap,l,h1,h2,h3,h4,h5⟩:=hx;exact aI hs (mv (r:=r') fd.offset CH RC uV rfl h5) ⟨g,o0,q,T',m,cap,l,h1,h2,h3,h4,by rw[akf]⟩
 .obtain rfl:=ai4 h;obtain⟨g,o0,q,m,cap,h1,h2,h5⟩:=hx;exact aI hs (mv (r:=r') fd.offset CH RC uV rfl h5) ⟨g,o0,q,m,cap,h1,h2,by rw[akf]⟩
 .cases h
theorem cA.elemAt{r:Row}{v:Value}{l:List r.den}(h:cA F w (.slice r) [v] l){i:Int}{y:r.den}(hi:idx l i=some y):
 ∃b off cap k,v= .slice (some ⟨b,off,none⟩) l.length cap/\i=(k:Nat)/\k<l.length/\F b/\At F w r b (off+k*r.size) y:=by
 obtain⟨A,cap,hv,_,_,h4⟩:=h;obtain⟨k,hk,al,rfl⟩:=fG hi;obtain⟨b,off,es,rfl,hF,qW,hc,hr⟩:=h4 k al;exact⟨b,off,cap,k,by simpa using hv,hk,al,hF,es,qW,hc,hr⟩
inductive Ju where
 |read (r:Row) (l:List r.den)
 |own (o s:Nat) (T:TypeId) (r:Row) (l:List r.den)
 |nil
 |view (o s:Nat) (r:Row) (l:List r.den)
 |deep (o s:Nat) (T:TypeId) (d:DR) (l:List d.row.den) (h:Option uP)
def uc(ob:Nat->Option (Nat×Th)):ak->Option Ju
 | .val false (.leaf (.slice r) l)=>some (.read r l)
 | .val false .nil=>some .nil
 | .val false (.own o)=>match ob o with
   |some (s, .own T r l)=>some (.own o s T r l)
   |some (_, .sf _ r l)=>some (.read r l)
   |some (_, .fdeep _ d l)=>some (.read d.row l)
   |some (s, .deep T d l h)=>some (.deep o s T d l h)
   |_=>none
 | .val false (.view o s r m)=>match ob o with
   |some (s', .sf ..)=>bif aje s' s then some (.read r m)else some (.view o s r m)
   |_=>some (.view o s r m)
 |_=>none
def Mm(U:Nat->Prop)(H:ao)(F:Nat->Prop)(w:World)(ob:Nat->Option (Nat×Th))(v:Value):Ju->Prop
 | .read r l=>cA F w (.slice r) [v] l
 | .own o s T r l=>H.val o=some v/\ob o=some (s, .own T r l)/\iE 0 F w T r v l
 | .nil=>v= .slice none 0 0
 | .view o s r m=>lq H o s r m v
 | .deep o s T d l h=>H.val o=some v/\ob o=some (s, .deep T d l h)/\GA U H F w v s (.deep T d l h)
theorem iq(hs:au U H F w ob n){D:ak}{k:Ju}{v:Value}(h:uc ob D=some k)(hd:ai H F w D v):Mm U H F w ob v k:=by
 unfold uc at h;split at h
 .cases h;exact aE.inv hd
 .cases h;obtain⟨cs,h1,_,h3⟩:=hd;have tB:cs=_:=h1;rw[h3 rfl]at tB;simpa[Mm]using tB
 .rename_i o;obtain⟨cs,⟨u,hu,CH,e⟩,_,h3⟩:=hd;rw[h3 rfl]at e
  obtain rfl:v=u:=by simpa using e
  split at h
  .rename_i s T r l wU;cases h;exact⟨hu,wU,hs.own wU hu⟩
  .rename_i s T r l wU;cases h;obtain⟨v',di,hi⟩:=hs.obj _ _ _ wU;rw[hu]at di;obtain rfl:=ai4 di;exact hi.ok
  .rename_i s T d l wU;cases h;obtain⟨v',di,hi⟩:=hs.obj _ _ _ wU;rw[hu]at di;obtain rfl:=ai4 di;exact hi.ok
  .rename_i s T d l h' wU;cases h;obtain⟨v',di,hi⟩:=hs.obj _ _ _ wU;rw[hu]at di;obtain rfl:=ai4 di;exact⟨hu,wU,hi⟩
  .cases h
 .rename_i o s r m;obtain⟨cs,⟨u,e,hu⟩,_,h3⟩:=hd;rw[h3 rfl]at e
  obtain rfl:v=u:=by simpa using e
  split at h
  .rename_i s' T r' l' wU
   cases hb:aje s' s with
   |false=>rw[hb]at h;cases h;exact hu
   |true=>
    rw[hb]at h;obtain rfl:=ajT hb;cases h;exact xA hs wU hu
  .cases h;exact hu
 .cases h
def lu:Nat->(r:Row)->r.den->(e:Row)->Option (List e.den)
 |1,r,x,e=>if h:r.beq e=true then some [iC (Row.eq_of_beq h) x]else none
 |m+2, .pair a b,x,e=>if h:a.beq e=true then(match lu (m+1) b x.2 e with
  |some l=>some (iC (Row.eq_of_beq h) x.1::l)
  |none=>none)else none
 |_,_,_,_=>none
theorem EV{e:Row}{b:Nat}:{m:Nat}->{r:Row}->{x:r.den}->{l:List e.den}->{off:Nat}->lu m r x e=some l->At F w r b off x->l.length=m/\∀i(h:i<l.length),At F w e b (off+i*e.size) l[i]
 |0,r,x,l,off,h,_=>by unfold lu at h;cases h
 |1,r,x,l,off,h,ha=>by
  unfold lu at h;split at h
  case isFalse=>cases h
  rename_i hb;obtain rfl:=Row.eq_of_beq hb;obtain rfl:=ai4 h;refine⟨rfl,fun i hi=>?_⟩
  obtain rfl:i=0:=by simp at hi;omega
  rw[Nat.zero_mul,aj7];exact ha
 |m+2, .pair a b',x,l,off,h,ha=>by
  unfold lu at h;split at h
  case isFalse=>cases h
  rename_i hb;obtain rfl:=Row.eq_of_beq hb;split at h
  case h_2=>cases h
  rename_i l' hl;obtain rfl:=ai4 h;obtain⟨g1,g2⟩:=EV hl (ha.snd _ rfl);refine⟨by simp[g1],fun i hi=>?_⟩
  cases i with
  |zero=>
   rw[Nat.zero_mul,aj7];exact ha.fst
  |succ i=>
   have:=g2 i (by simpa using hi);rw[show off+(i+1)*a.size=off+a.size+i*a.size from by rw[aj4];omega];exact this
 |m+2, .int _,_,_,_,h,_=>by unfold lu at h;cases h
 |m+2, .bool,_,_,_,h,_=>by unfold lu at h;cases h
 |m+2, .str,_,_,_,h,_=>by unfold lu at h;cases h
 |m+2, .slice _,_,_,_,h,_=>by unfold lu at h;cases h
 |m+2, .jJ,_,_,_,h,_=>by unfold lu at h;cases h
 |m+2, .nul _,_,_,_,h,_=>by unfold lu at h;cases h
 |m+2, .map ..,_,_,_,h,_=>by unfold lu at h;cases h
theorem p8{t e:TypeId}{x y:Operand}{kd:IntKind}{a:Int}{ti:TypeInfo}{m lA off i:Nat}(size:Nat)(ht:P.underlying t=some (.array m e))(hi:P.info? e=some ti)(kz:ti.size=size)
 (hx:ev ρ x= .pointer (some ⟨lA,off,none⟩))(hy:ev ρ y= .int kd a)(ha:a=(i:Int))(al:i<m):
 Pure P ρ ⟨some d, .indexAddr t x y,ty,pos,aft,none⟩ (.pointer (some ⟨lA,off+i*size,none⟩)):=fun w=>by
 subst kz;subst ha;simp[execOp,Instr.indexAt,Instr.sureAddr,asIntOf,run_underlying ht,sizeOf,typeInfo,hi,hx,hy,al,cI]
theorem EW{α:Type}{b:Bool}{x:Option α}{y:α}(h:(bif b then x else none)=some y):b=true/\x=some y:=by
 cases b with
 |true=>exact⟨rfl,h⟩
 |false=>cases h
def pn(T:bc P)(m:Nat)(e:TypeId)(D:ak)(i:Int)(k:dN->Option R):Option R:=
 match find T.row e with
 |some re=>match D with
  | .at r x=>match lu m r x re with
    |some l=>(idx l i).bind fun y=>k {dst:= .at re y}
    |none=>none
  | .ptr o p off=>match i with
    | .ofNat j=>bif ajX j m then k {dst:= .ptr o (p++q9 m j) (off+j*re.size)}else none
    | .negSucc _=>none
  |_=>none
 |none=>none
theorem C9(T:bc P){t:TypeId}{m:Nat}{e:TypeId}(hu:P.underlying t=some (.array m e)){D:ak}{x y:Operand}{kd:IntKind}{i:Int}{k:dN->Option R}{q:R}(h:pn T m e D i k=some q)(hs:au U H F w ob n)(hx:ai H F w D (ev ρ x))(hy:ev ρ y= .int kd i):
 ∃e,k e=some q/\cD P U H F w ρ ob n ⟨some d, .indexAddr t x y,ty,pos,aft,none⟩ e:=by
 unfold pn at h;split at h
 case h_2=>cases h
 rename_i re hr;obtain⟨ti,z,h1,_,_,h4,_⟩:=T.row_ok _ _ hr;split at h
 case h_3=>cases h
 case h_2=>
  split at h
  case h_2=>cases h
  rename_i o p off _ j;obtain⟨al,hk⟩:=EW h
  have al:j<m:=by simpa using al
  obtain⟨b,hb,hv⟩:=hx;exact⟨_,hk,aI hs (p8 re.size hu h1 h4 hv hy rfl al) ⟨b,hb,rfl⟩⟩
 rename_i r v;split at h
 case h_2=>cases h
 rename_i l hl;obtain⟨a,ha,hk⟩:=bind_some h;obtain⟨b,off,hv,hF,oi⟩:=hx;obtain⟨g1,g2⟩:=EV hl oi;obtain⟨j,hj,al,rfl⟩:=fG ha;exact⟨_,hk,aI hs (p8 re.size hu h1 h4 hv hy hj (by omega)) ⟨b,_,rfl,hF,g2 j al⟩⟩
def sj(T:bc P)(ob:Nat->Option (Nat×Th))(t:TypeId)(D:ak)(i:Int)(k:dN->Option R):Option R:=
 match find T.und t with
 |some (.slice e)=>match find T.row e with
  |some re=>match uc ob D with
   |some (.read r l)=>bif aje r.size re.size then(idx l i).bind fun x=>k {dst:= .at r x}else none
   |some (.own o s _ r l)=>bif aje r.size re.size then(idx l i).bind fun x=>k {dst:= .elem o s r i x [] 0}else none
   |some (.deep o _ _ d l _)=>bif aje d.low.size re.size then(idx l i).bind fun _=>k {dst:= .dlm o d i [] 0}else none
   |_=>none
  |none=>none
 |some (.array m e)=>pn T m e D i k
 |_=>none
theorem GI(T:bc P){t:TypeId}{D:ak}{x y:Operand}{kd:IntKind}{i:Int}{k:dN->Option R}{q:R}(h:sj T ob t D i k=some q)(hs:au U H F w ob n)(hx:ai H F w D (ev ρ x))(hy:ev ρ y= .int kd i):
 ∃e,k e=some q/\cD P U H F w ρ ob n ⟨some d, .indexAddr t x y,ty,pos,aft,none⟩ e:=by
 unfold sj at h;split at h
 case h_3=>cases h
 case h_2=>rename_i m e hu;exact C9 T (T.und_ok _ _ hu) h hs hx hy
 rename_i e hu;have hu:=T.und_ok _ _ hu;split at h
 case h_2=>cases h
 rename_i re hr;obtain⟨ti,z,h1,_,_,h4,_⟩:=T.row_ok _ _ hr;split at h
 .rename_i r l fO
  cases hz:aje r.size re.size with
  |false=>rw[hz]at h;cases h
  |true=>
   rw[hz,cond_true]at h;have hz:=beq_true hz;obtain⟨a,ha,hk⟩:=bind_some h;have fO:=iq hs fO hx;obtain⟨b,off,cap,j,hv,hj,al,hF,oi⟩:=cA.elemAt fO ha;refine⟨_,hk,aI hs (lS r.size hu h1 (h4.trans hz.symm) hv hy hj al) ⟨b,_,rfl,hF,oi⟩⟩
 .rename_i o s T' r l fO
  cases hz:aje r.size re.size with
  |false=>rw[hz]at h;cases h
  |true=>
   rw[hz,cond_true]at h;have hz:=beq_true hz;obtain⟨a,ha,hk⟩:=bind_some h;obtain⟨hv,cC,dH⟩:=iq hs fO hx;obtain⟨v',di,cc⟩:=hs.obj _ _ _ cC;obtain⟨j,hj,al,hja⟩:=fG ha;obtain⟨_,xs,Jd,_⟩:=dH
   rcases Jd.2 with⟨GJ,h0⟩|⟨g,o0,cap,cur,yG,_,_,_⟩
   .omega
   .have hp:=lS (P:=P) (d:=some d) (ty:=ty) (pos:=pos) (aft:=aft) r.size hu h1 (h4.trans hz.symm) yG hy hj al;refine⟨_,hk,aI hs hp ⟨g,o0,j,T',l.length,cap,l,?_,hj,cc.con,ha,rfl⟩⟩;rw[<-yG];exact hv
 .rename_i o s T' d' l hh fO;obtain⟨hz,h⟩:=EW h;have hz:=beq_true hz;obtain⟨a,ha,hk⟩:=bind_some h;obtain⟨hv,cC,cc⟩:=iq hs fO hx;obtain⟨j,hj,al,hja⟩:=fG ha;obtain⟨lh,_,⟨xs,Jd,_⟩,Ah,_⟩:=cc.ok
  rcases Jd.2 with⟨GJ,h0⟩|⟨g,o0,cap,cur,yG,_,_,_⟩
  .omega
  .have hp:=lS (P:=P) (d:=some d) (ty:=ty) (pos:=pos) (aft:=aft) d'.low.size hu h1 (h4.trans hz.symm) yG hy hj (by omega);refine⟨_,hk,aI hs hp ⟨g,o0,j,lh.length,cap,?_,hj,rfl⟩⟩;rw[<-yG];exact hv
 .cases h
theorem uW{b:Nat}{T:TypeId}{es:List Value}(hh:w.heap[b]? =some (.cells es.toArray T (0,0)))(j:Nat):w.cell? ⟨b,j,none⟩=es[j]? :=by
 rw[cell_of_row w b j _ T (0,0) hh];simp
theorem nl(T:bc P){t:TypeId}{kk:Iz}(hu:find T.und t=some kk){x:Operand}{b off:Nat}{s:Tree}{cs:List Value}(hx:ev ρ x= .pointer (some ⟨b,off,none⟩))(hs:au U H F w ob n)
 (hh:Holds H F w s cs)(hc:∀j u,cs[j]? =some u->w.cell? ⟨b,off+j,none⟩=some u)
 (hz:if kA kk=true then∃r,find T.row t=some r/\r.size=s.size else s.size=1):
 cD P U H F w ρ ob n ⟨some d, .load t x,ty,pos,aft,none⟩ {dst:= .val (kA kk) s}:=by
 obtain⟨dd,wQ,xy⟩:=(T.und_ok _ _ hu).agg;have hl:=hh.length
 cases ha:kA kk with
 |true=>
  rw[if_pos ha]at hz;obtain⟨r,hr,IC⟩:=hz;obtain⟨ti,z,h1,_,_,h4,_⟩:=T.row_ok _ _ hr;exact bP hs (Gq wQ (xy.trans ha) h1 (by omega) hx hc) ⟨cs,hh,rfl,by simp⟩
 |false=>
  rw[if_neg (by simp[ha])]at hz
  obtain⟨v,rfl⟩:∃v,cs=[v]:=by
   match cs,hl.trans hz with
   |[v],_=>exact⟨v,rfl⟩
  exact bP hs (xv wQ (xy.trans ha) hx (hc 0 v rfl)) ⟨[v],hh,rfl,fun _=>rfl⟩
def lX(T:bc P)(t:TypeId)(kk:Iz)(m:Nat):Bool:=
 bif kA kk then(match find T.row t with|some r=>aje r.size m|none=>false)else aje m 1
theorem jv(T:bc P){t:TypeId}{kk:Iz}{m:Nat}(h:lX T t kk m=true):if kA kk=true then∃r,find T.row t=some r/\r.size=m else m=1:=by
 unfold lX at h
 cases ha:kA kk with
 |true=>
  rw[ha,cond_true]at h;rw[if_pos rfl];split at h
  .rename_i r hr;exact⟨r,hr,beq_true h⟩
  .cases h
 |false=>
  rw[ha,cond_false]at h;rw[if_neg (by simp)];exact beq_true h
def xB(T:bc P)(ob:Nat->Option (Nat×Th))(t:TypeId)(D:ak)(k:dN->Option R):Option R:=
 match find T.und t with
 |none=>none
 |some kk=>match D with
  | .at r x=>bif lX T t kk r.size then k {dst:= .val (kA kk) (.leaf r x)}else none
  | .ptr o p off=>match ob o with
    |some (_, .box _ tr)=>match tr.get p with
     |some (s,dx)=>bif aje dx off&&lX T t kk s.size then k {dst:= .val (kA kk) s}else none
     |none=>none
    |_=>none
  | .elem o s r i x p off=>match ob o with
    |some (s', .own _ r' l)=>bif aje s' s then
      (match sub r x p with
      |some ⟨q,y,dx⟩=>bif aje dx off&&lX T t kk q.size then k {dst:= .val (kA kk) (.leaf q y)}else none
      |none=>none)
     else(idx l i).bind fun x'=>match sub r' x' p with
      |some ⟨q,y,dx⟩=>bif aje dx off&&lX T t kk q.size&&aje r'.size r.size then k {dst:= .val (kA kk) (.leaf q y)}else none
      |none=>none
    |_=>none
  |_=>none
theorem aD{α:Type}{b:Bool}{x:Option α}{y:α}(h:(bif b then x else none)=some y):b=true/\x=some y:=by
 cases b with
 |true=>exact⟨rfl,h⟩
 |false=>cases h
theorem cO{a b:Bool}(h:(a&&b)=true):a=true/\b=true:=by simpa using h
theorem EX(hs:au U H F w ob n){o s':Nat}{T':TypeId}{r':Row}{i:Int}{x':r'.den}{l:List r'.den}{g o0 q m cap:Nat}(cC:ob o=some (s', .own T' r' l))(hv:H.val o=some (.slice (some ⟨g,o0,none⟩) m cap))(hq:i=(q:Nat))(hi:idx l i=some x'):
 At F w r' g (o0+q*r'.size) x':=(hs.own cC hv).at rfl hq hi
theorem Jv(T:bc P){t:TypeId}{D:ak}{x:Operand}{k:dN->Option R}{q:R}(h:xB T ob t D k=some q)(hs:au U H F w ob n)(hx:ai H F w D (ev ρ x)):
 ∃e,k e=some q/\cD P U H F w ρ ob n ⟨some d, .load t x,ty,pos,aft,none⟩ e:=by
 unfold xB at h;split at h
 .cases h
 rename_i kk hu;split at h
 .rename_i r y;obtain⟨h1,h2⟩:=aD h;obtain⟨b,off,e,hF,es,hl,hc,hr⟩:=hx;exact⟨_,h2,nl T hu e hs (s:= .leaf r y) hr hc (jv T h1)⟩
 .rename_i o p off;split at h
  .rename_i st0 T0 tr cC;split at h
   .rename_i s dx hg;obtain⟨h1,h2⟩:=aD h;obtain⟨h1,h3⟩:=cO h1;obtain rfl:=beq_true h1;obtain⟨b,hb,e⟩:=hx;obtain⟨es,hh,Oe⟩:=hs.box cC hb;obtain⟨g1,g2⟩:=Oe.get hg;refine⟨_,h2,nl T hu e hs g1 (fun j u hj=>?_) (jv T h3)⟩;rw[uW hh];rw[ajF]at hj;split at hj
    .rwa [ajp]at hj
    .cases hj
   .cases h
  .cases h
 .rename_i o s r i y p off;split at h
  .rename_i s' T0 r' l cC;obtain⟨g,o0,qq,T',m,cap,l0,e1,e2,e3,e4,e5⟩:=hx
   cases wV:aje s' s with
   |true=>
    rw[wV,cond_true]at h;obtain rfl:=beq_true wV;obtain⟨v,hv,cc⟩:=hs.obj _ _ _ cC;have hc:=cc.con;rw[e3]at hc
    obtain⟨rfl,uo⟩:T'=T0/\(⟨r,l0⟩:(r:Row)×List r.den)=⟨r',l⟩:=by
     have:=ai4 hc;simp only[Th.base,Th.own.injEq]at this;obtain⟨a,b,c⟩:=this;subst b;exact⟨a,by rw[eq_of_heq c]⟩
    cases uo;split at h
    .rename_i q' y' dx fN;obtain⟨h1,h2⟩:=aD h;obtain⟨h1,h3⟩:=cO h1;obtain rfl:=beq_true h1;obtain⟨es,hl,Mo,hr⟩:=C7 fN (EX hs cC e1 e2 e4);exact⟨_,h2,nl T hu e5 hs (s:= .leaf q' y') hr Mo (jv T h3)⟩
    .cases h
   |false=>
    rw[wV,cond_false]at h;obtain⟨x',O4,h⟩:=bind_some h;split at h
    .rename_i q' y' dx fN;obtain⟨h1,h2⟩:=aD h;obtain⟨h1,h4⟩:=cO h1;obtain⟨h1,h3⟩:=cO h1;obtain rfl:=beq_true h1;have h4:=beq_true h4;obtain⟨es,hl,Mo,hr⟩:=C7 fN (EX hs cC e1 e2 O4);rw[h4]at Mo;exact⟨_,h2,nl T hu e5 hs (s:= .leaf q' y') hr Mo (jv T h3)⟩
    .cases h
  .cases h
 .cases h
end
end Go.Proofs.YtilaieogabgamaaGreatDoor
namespace Go.Proofs.YtilaieogabgamaaGreatDoor
open Go Go.RowKit
def Da:(r:Row)->List Bool->Option ((s:Row)×Path r s)
 |r,[]=>some ⟨r, .here⟩
 | .pair a b,d::p=>match d with
   |false=>match Da a p with
    |some ⟨s,q⟩=>some ⟨s, .fst q⟩
    |none=>none
   |true=>match Da b p with
    |some ⟨s,q⟩=>some ⟨s, .snd q⟩
    |none=>none
 |_,_::_=>none
section
variable {P:Program} {ρ:Nat->Value} {w w':World} {H H':ao} {F F':Nat->Prop} {U:Nat->Prop} {ob:Nat->Option (Nat×Th)} {n:Nat} {R:Type}
variable {op:Op} {ty:TypeId} {pos:String} {aft:Array Edge} {d:Nat}
def ao.bz(H:ao)(s:Nat)(t:Th):ao:=⟨H.val,fun m=>if m=s then some t else H.con m,H.sub⟩
def ao.cq(H:ao)(o:Nat)(v:Value):ao:=⟨fun m=>if m=o then some v else H.val m,H.con,H.sub⟩
def ao.eU(H:ao)(s:Nat)(S:Nat->Prop):ao:=⟨H.val,H.con,fun m=>if m=s then S else H.sub m⟩
theorem ao.fI{H:ao}{s:Nat}{t:Th}(h:H.con s=none):H.le (H.bz s t):=⟨fun _ _ h=>h,fun m q hq=>by
 by_cases e:m=s
 .subst e;rw[h]at hq;cases hq
 .simp[ao.bz,e,hq],fun _ _ _=>rfl⟩
theorem ao.GK{H:ao}{s:Nat}{S:Nat->Prop}(h:H.con s=none):H.le (H.eU s S):=⟨fun _ _ h=>h,fun _ _ h=>h,fun m t hm=>by
 have:m≠s:=fun e=>by rw[e,h]at hm;cases hm
 simp[ao.eU,this]⟩
theorem ao.po{H:ao}{s:Nat}{t:Value}(h:H.val s=none):H.le (H.cq s t):=⟨fun m q hq=>by
 by_cases e:m=s
 .subst e;rw[h]at hq;cases hq
 .simp[ao.cq,e,hq],fun _ _ h=>h,fun _ _ _=>rfl⟩
theorem bT{α:Type}{o o':Nat}{x y:α}(h:find [(o,x)] o'=some y):o'=o/\y=x:=by
 rw[aA]at h;split at h
 .rename_i e;exact⟨e.symm,(ai4 h).symm⟩
 .cases h
theorem lU.yH(hs:au U H F w ob n){o s:Nat}{t t':Th}{v0:Value}(ho:ob o=some (s,t))(hv:H.val o=some v0)(hb:t'.base=t')(Jw:∀k,fp (H.sub n) v0 t' k->fp (H.sub s) v0 t k){D:ak}{v:Value}
 (bI:Ext (fp (H.sub s) v0 t) w w')(my:il (H.bz n t') F w' (H.sub n) v0 t')(hd:ai (H.bz n t') F w' D v):kE H F w ob n {dst:=D,eat:=[o],make:=[(o,(n,t'))]} v w':=by
 obtain⟨v1,uv,cc⟩:=hs.obj _ _ _ ho;rw[hv]at uv;obtain rfl:=ai4 uv
 have kB:∀k,fp (H.sub s) v0 t k->cm H ob [o] k:=fun k hk=>⟨o,by simp,s,t,v0,ho,hv,hk⟩
 refine⟨H.bz n t',F,⟨ao.fI (hs.fresh n (ai8 _) (by omega)).2,⟨bI.os,bI.tape,bI.output,bI.size,fun k hk hn=>bI.block k hk fun e=>hn (kB k e)⟩,fun _ h=>h,fun _ h=> .inl h,fun b hb=>ajJ (hs.lt b hb) bI.size⟩,fun m hm=>?_,hd,⟨fun o' s' q hq=>?_,fun o1 o2 s1 s2 q1 q2 u1 u2 bN h1 h2=>?_⟩,fun o' h=>?_⟩
 .refine⟨id,fun h=>?_⟩;simp[ao.bz,show m≠n from by omega,h]
 .obtain⟨rfl,e⟩:=bT hq;obtain⟨rfl,rfl⟩:=akx e;refine⟨v0,hv,cc.one,by simp[ao.bz,hb],my,fun k hk=>⟨cc.no k (Jw k hk),ajJ (cc.lt k (Jw k hk)) bI.size, .inr (kB k (Jw k hk))⟩⟩
 .exact absurd ((bT h1).1.trans (bT h2).1.symm) bN
 .left
  obtain⟨y,hy⟩:=ajH.1 h;rw[(bT hy).1];simp
theorem lU.new(hs:au U H F w ob n){eat:List Nat}{t:Th}{v0:Value}(hb:t.base=t)(h1:v0.oneCell'=true){D:ak}{v:Value}
 (bI:Ext (cm H ob eat) w w')(my:il ((H.bz n t).cq n v0) F w' (H.sub n) v0 t)(Jw:∀k,fp (H.sub n) v0 t k->¬F k/\k<w'.heap.size/\(w.heap.size<=k\/cm H ob eat k))
 (hd:ai ((H.bz n t).cq n v0) F w' D v):kE H F w ob n {dst:=D,eat:=eat,make:=[(n,(n,t))]} v w':=by
 have hf:=hs.fresh n (ai8 _) (by omega);refine⟨(H.bz n t).cq n v0,F,⟨(ao.fI hf.2).trans (ao.po (by simp[ao.bz,hf.1])),bI,fun _ h=>h,fun _ h=> .inl h,fun b hb=>ajJ (hs.lt b hb) bI.size⟩,fun m hm=>?_,hd,⟨fun o' s' q hq=>?_,fun o1 o2 s1 s2 q1 q2 u1 u2 bN h1 h2=>?_⟩,fun o' h=>?_⟩
 .simp[ao.bz,ao.cq,show m≠n from by omega]
 .obtain⟨rfl,e⟩:=bT hq;obtain⟨rfl,rfl⟩:=akx e;exact⟨v0,by simp[ao.cq],h1,by simp[ao.bz,ao.cq,hb],my,Jw⟩
 .exact absurd ((bT h1).1.trans (bT h2).1.symm) bN
 .right
  obtain⟨y,hy⟩:=ajH.1 h;rw[(bT hy).1];exact ai8 _
def sq(T:bc P)(ob:Nat->Option (Nat×Th))(n:Nat)(t:TypeId)(D V:ak)(k:dN->Option R):Option R:=
 match find T.row t with
 |none=>none
 |some rt=>match V with
  | .val _ u=>match D with
    | .ptr o p off=>match ob o with
      |some (_, .box T0 tr)=>match tr.get p with
       |some (s,dx)=>bif aje dx off&&aje rt.size s.size&&aje u.size s.size then
         (match tr.put p u with
         |some U5=>k {dst:= .dead,eat:=[o],make:=[(o,(n, .box T0 U5))]}
         |none=>none)else none
       |none=>none
      |_=>none
    | .elem o s r i x p off=>match ob o with
      |some (s', .own T0 r' l)=>match Da r' p with
       |some ⟨q,xC⟩=>bif aje xC.off off&&aje rt.size q.size&&aje r'.size r.size then
         (match flat ob q u with
         |some y=>bif aje s' s then
           (if h:r.beq r'=true then k {dst:= .dead,eat:=[o],make:=[(o,(n, .own T0 r' (aT l i (xC.set (iC (Row.eq_of_beq h) x) y))))]}else none)
          else(idx l i).bind fun x'=>k {dst:= .dead,eat:=[o],make:=[(o,(n, .own T0 r' (aT l i (xC.set x' y))))]}
         |none=>none)else none
       |none=>none
      |_=>none
    |_=>none
  |_=>none
theorem aE.cells{agg:Bool}{t:Tree}{v:Value}(h:aE H F w agg t v):∃cs,Holds H F w t cs/\v.cells.toList=cs:=by
 obtain⟨cs,h1,h2,h3⟩:=h;refine⟨cs,h1,?_⟩
 cases agg with
 |true=>rw[h2];rfl
 |false=>
  have e:=h3 rfl;have h1c:=h1.iT v (by rw[e];simp);rw[e]
  cases v<;>first|rfl|simp[akq]at h1c
theorem uX(T:bc P){t:TypeId}{rt:Row}(ID:find T.row t=some rt){x y:Operand}{o s':Nat}{T0:TypeId}{r q:Row}{i:Int}{x':r.den}{z:q.den}{l:List r.den}{p:Path r q}{off g o0 j m cap:Nat}{agg:Bool}{u:Tree}
 (hs:au U H F w ob n)(cC:ob o=some (s', .own T0 r l))(hv:H.val o=some (.slice (some ⟨g,o0,none⟩) m cap))(hj:i=(j:Nat))(hi:idx l i=some x')(hx:ev ρ x= .pointer (some ⟨g,o0+j*r.size+off,none⟩))(Jx:p.off=off)(hz:rt.size=q.size)
 (hf:flat ob q u=some z)(hV:aE H F w agg u (ev ρ y)):
 cD P U H F w ρ ob n ⟨none, .store t x y,ty,pos,aft,none⟩ {dst:= .dead,eat:=[o],make:=[(o,(n, .own T0 r (aT l i (p.set x' z))))]}:=by
 obtain⟨ti,z0,h1,_,_,h4,_⟩:=T.row_ok _ _ ID;obtain⟨cs,qp,xD⟩:=hV.cells;have hr:=im hs hf qp;have dH:=hs.own cC hv;obtain⟨k',hk,al,rfl⟩:=fG hi
 obtain rfl:k'=j:=by omega
 obtain⟨cur,hh,hle,bI,fQ⟩:=dH.put rfl al hs.lt p hr;subst Jx;refine cd.unit (nQ h1 (h4.trans (hz.trans hr.length.symm)) hx rfl xD hr.iT hh hle) ?_;refine lU.yH (t':= .own T0 r (aT l i (p.set l[k'] z))) (D:= .dead) hs cC hv rfl (fun _ h=>h) bI ?_ trivial;have:il (H.bz n (.own T0 r (aT l i (p.set l[k'] z)))) F (w.setRow g (cur.toList.take (o0+k'*r.size+p.off)++cs++cur.toList.drop (o0+k'*r.size+p.off+cs.length)).toArray) (H.sub n) (.slice (some ⟨g,o0,none⟩) m cap) (.own T0 r (l.set k' (p.set l[k'] z))):=fQ.2;unfold aT;rw[hk,aja];exact this
theorem GL(T:bc P){t:TypeId}{D V:ak}{x y:Operand}{k:dN->Option R}{q:R}(h:sq T ob n t D V k=some q)(hs:au U H F w ob n)(hx:ai H F w D (ev ρ x))(hy:ai H F w V (ev ρ y)):
 ∃e,k e=some q/\cD P U H F w ρ ob n ⟨none, .store t x y,ty,pos,aft,none⟩ e:=by
 unfold sq at h;split at h
 .cases h
 rename_i rt ID;split at h
 case h_2=>cases h
 rename_i agg u;split at h
 .rename_i o p off;split at h
  case h_2=>cases h
  rename_i s0 T0 tr cC;split at h
  case h_2=>cases h
  rename_i s dx hg;obtain⟨h1,h2⟩:=aD h;obtain⟨h1,CI⟩:=cO h1;obtain⟨h1,wW⟩:=cO h1;obtain rfl:=beq_true h1;have wW:=beq_true wW;have CI:=beq_true CI;split at h2
  case h_2=>cases h2
  rename_i U5 hp;obtain⟨b,hb,e⟩:=hx;obtain⟨es,hh,Oe⟩:=hs.box cC hb;obtain⟨cs,qp,xD⟩:=aE.cells hy;have hl:=qp.length;have hle:=(Oe.get hg).2;have uS:=Holds.put qp hg hp CI.symm Oe;obtain⟨ti,z0,g1,_,_,g4,_⟩:=T.row_ok _ _ ID;refine⟨_,h2,cd.unit (nQ g1 (by omega) e rfl xD qp.iT hh (by simp;omega)) ?_⟩
  have Of:¬F b:=by
   obtain⟨v1,uv,cc⟩:=hs.obj _ _ _ cC;rw[hb]at uv;obtain rfl:=ai4 uv;exact cc.no b rfl
  have bI:Ext (fp (H.sub s0) (.pointer (some ⟨b,0,none⟩)) (.box T0 tr)) w (w.setRow b (es.toArray.toList.take dx++cs++es.toArray.toList.drop (dx+cs.length)).toArray):=
   ⟨rfl,rfl,rfl,by simp,fun k _ hk=>setRow_other w b k _ fun e=>hk (by simp[fp,e])⟩
  refine lU.yH (t':= .box T0 U5) (D:= .dead) hs cC hb rfl (fun k hk=>hk) bI ⟨b,_,rfl,setRow_heap w b _ _ T0 (0,0) hh,?_⟩ trivial
  have hk:=uS.keep (H':=H.bz n (.box T0 U5)) (ao.fI (hs.fresh n (ai8 _) (by omega)).2) (Step.ext bI hs.lt fun k hk=>by
   simp only[fp,akT,ajg,akB,and_true]at hk
   exact hk▸Of)
  rw[<-hl]at hk;simpa using hk
 .rename_i o s r i x0 p off;split at h
  case h_2=>cases h
  rename_i s' T0 r' l cC;split at h
  case h_2=>cases h
  rename_i q' xC yI;obtain⟨h1,h2⟩:=aD h;obtain⟨h1,CI⟩:=cO h1;obtain⟨h1,wW⟩:=cO h1;have h1:=beq_true h1;have wW:=beq_true wW;have CI:=beq_true CI;split at h2
  case h_2=>cases h2
  rename_i z hf;obtain⟨g,o0,qq,T',m,cap,l0,e1,e2,e3,e4,e5⟩:=hx;rw[<-CI]at e5
  cases wV:aje s' s with
  |true=>
   rw[wV,cond_true]at h2;obtain rfl:=beq_true wV;split at h2
   case isFalse=>cases h2
   rename_i Az;obtain⟨v,hv,cc⟩:=hs.obj _ _ _ cC;have hc:=cc.con;rw[e3]at hc
   obtain⟨rfl,uo⟩:T'=T0/\(⟨r,l0⟩:(r:Row)×List r.den)=⟨r',l⟩:=by
    have:=ai4 hc;simp only[Th.base,Th.own.injEq]at this;obtain⟨a,b,c⟩:=this;subst b;exact⟨a,by rw[eq_of_heq c]⟩
   cases uo;exact⟨_,h2,uX T ID hs cC e1 e2 e4 e5 h1 wW hf hy⟩
  |false=>
   rw[wV,cond_false]at h2;obtain⟨x',O4,h2⟩:=bind_some h2;exact⟨_,h2,uX T ID hs cC e1 e2 O4 e5 h1 wW hf hy⟩
 .cases h
theorem Jy(hs:au U H F w ob n){t:TypeId}{tr:Tree}{cs:List Value}(hh:Holds H F w tr cs):
 kE H F w ob n {dst:= .ptr n [] 0,make:=[(n,(n, .box t tr))]} (.pointer (some ⟨w.heap.size,0,none⟩)) (w.alloc (.cells cs.toArray t)):=by
 have bI:Ext (cm H ob []) w (w.alloc (.cells cs.toArray t)):=⟨rfl,rfl,rfl,by simp,fun k hk _=>Below.heap_alloc w _ k hk⟩
 have hf:=hs.fresh n (ai8 _) (by omega);refine lU.new (v0:= .pointer (some ⟨w.heap.size,0,none⟩)) hs rfl rfl bI ⟨_,cs,rfl,heap_alloc_new w _,?_⟩ (fun k hk=>?_) ⟨w.heap.size,by simp[ao.cq],rfl⟩
 .exact hh.keep ((ao.fI hf.2).trans (ao.po (by simp[ao.bz,hf.1]))) (Step.alloc hs.lt _)
 .simp only[fp,akT,ajg,akB,and_true]at hk;subst hk;exact⟨fun e=>by have:=hs.lt _ e;omega,by simp, .inl (ai8 _)⟩
def sr(T:bc P)(n:Nat)(t:TypeId)(k:dN->Option R):Option R:=
 match find T.row t with
 |some r=>k {dst:= .ptr n [] 0,make:=[(n,(n, .box t r.Ax))]}
 |none=>none
theorem GM(T:bc P){t:TypeId}{k:dN->Option R}{q:R}(h:sr T n t k=some q)(hs:au U H F w ob n):
 ∃e,k e=some q/\cD P U H F w ρ ob n ⟨some d, .alloc t,ty,pos,aft,none⟩ e:=by
 unfold sr at h;split at h
 case h_2=>cases h
 rename_i r hr;obtain⟨ti,z,h1,h2,h3,_,_⟩:=T.row_ok _ _ hr;refine⟨_,h,cd.val (Gs h1 h2) ?_⟩;have:=Jy (t:=t) hs (Row.mB H F w r);rw[<-h3,ajR]at this;exact this
def GN(n:Nat)(t:TypeId)(V:ak)(k:dN->Option R):Option R:=
 match V with
 | .val _ u=>k {dst:= .ptr n [] 0,make:=[(n,(n, .box t u))]}
 |_=>none
theorem Mp{t:TypeId}{V:ak}{x:Operand}{k:dN->Option R}{q:R}(h:GN n t V k=some q)(hs:au U H F w ob n)(hx:ai H F w V (ev ρ x)):
 ∃e,k e=some q/\cD P U H F w ρ ob n ⟨some d, .box t x,ty,pos,aft,none⟩ e:=by
 unfold GN at h;split at h
 case h_2=>cases h
 rename_i agg u;obtain⟨cs,qp,xD⟩:=aE.cells hx;refine⟨_,h,cd.val (Mf rfl) ?_⟩;have:=Jy (t:=t) hs qp;rw[<-xD,ajR]at this;exact this
end
end Go.Proofs.YtilaieogabgamaaGreatDoor
end
section
open _root_.Array renaming toArray_toList->ajR
open _root_.Go.Instr renaming fill->akJ
open _root_.Int renaming eq_ofNat_of_zero_le->ajm,le_refl->aki,toNat_natCast->aja
open _root_.List renaming length_take->ajl,replicate->ai9
open _root_.Nat renaming add_mul->aj4,beq->aje,le_trans->ajE,min_eq_left->ajQ,mul_le_mul_right->ajw,zero_le->ajt
open _root_.Option.some renaming inj->ai4,injEq->ajg
open _root_.Go.Result renaming andThen_ok->ajO
open _root_.Go.Sem renaming run_bind->ajx
open _root_.Go.Value renaming ownBlock->ajz
namespace Go.Proofs.YtilaieogabgamaaGreatDoor
open Go Go.RowKit
section
variable {P:Program} {ρ:Nat->Value} {w w':World} {H H':ao} {F F':Nat->Prop} {U:Nat->Prop} {ob:Nat->Option (Nat×Th)} {n:Nat} {R:Type}
variable {op:Op} {ty:TypeId} {pos:String} {aft:Array Edge} {d:Nat}
theorem pq{base:Nat}{T:TypeId}{r:Row}{v:Value}{l:List r.den}(h:iE base F w T r v l):v.oneCell'=true:=by
 obtain⟨A,cap,rfl,_⟩:=h.reads;rfl
theorem mC{H:ao}{o:Nat}{v:Value}(h:H.val o=some v)(h1:v.oneCell'=true):ai H F w (.val false (.own o)) v:=⟨[v],⟨v,h,h1,rfl⟩,rfl,fun _=>rfl⟩
theorem su(hs:au U H F w ob n){e:TypeId}{r:Row}{v:Value}{l:List r.den}{eat:List Nat}(bI:Ext (cm H ob eat) w w')(ho:iE 0 F w' e r v l)(hn:∀k,bm v k->cm H ob eat k\/w.heap.size<=k):
 kE H F w ob n {dst:= .val false (.own n),eat:=eat,make:=[(n,(n, .own e r l))]} v w':=
 lU.new (v0:=v) hs rfl (pq ho) bI ho.2 (fun k hk=>⟨ho.1 k hk,ho.lt k hk,(hn k hk).symm⟩) (mC (by simp[ao.cq]) (pq ho))
theorem pt{g:Nat->Prop}(o:Obj):Ext g w (w.alloc o):=⟨rfl,rfl,rfl,by simp,fun k hk _=>Below.heap_alloc w _ k hk⟩
def U6{α:Type}(a b:Int)(z:α):Option (List α):=if 0<=a/\a<=b/\b<=4294967296 then some (ai9 a.toNat z)else none
def oF:Operand->Operand->Bool
 | .tmp a, .tmp b=>aje a b
 | .const (.int _ a), .const (.int _ b)=>decide (a=b)
 |_,_=>false
theorem xE{e t:TypeId}{r:Row}{a b:Int}(ht:P.underlying t=some (.slice e))(uV:TI P e r)(hs:au U H F w ob n){ka kb:IntKind}{x y:Operand}(hx:ev ρ x= .int ka a)(hy:ev ρ y= .int kb b)(h0:0<=a)(h1:a<=b)(h2:b<=4294967296):
 ∃v w',(execOp (ev ρ) ⟨some d, .makeSlice t x y,ty,pos,aft,none⟩).run P w= .ok (.value v) w'/\(∀g,Ext g w w')/\iE 0 F w' e r v (ai9 a.toNat r.zero)/\∀k,bm v k->w.heap.size<=k:=by
 obtain⟨ti,z,hi,hz,R9,kz,RA⟩:=uV;obtain⟨ca,rfl⟩:=ajm h0;obtain⟨cb,rfl⟩:=ajm (Int.le_trans h0 h1)
 have hc:cb<=4294967296:=by omega
 have CV:ti.bytes*cb<=281474976710656:=ajE (Nat.mul_le_mul RA hc) (by omega)
 have p5:(ti.bytes:Int)*(cb:Int)<=281474976710656:=by
  have h:((ti.bytes*cb:Nat):Int)<=281474976710656:=by omega
  rwa [Int.natCast_mul]at h
 have bx:=run_make (P:=P) w t e ti z ht hi hz ka kb ca cb (by omega) (by omega) p5 (by omega)
 have VY:z.cells=r.eA.toArray:=by rw[<-R9,ajR]
 have hzn:r.eA.length=r.size:=(cA.zero F w r).length;have nR:=r.size_pos;simp only[aja]at bx;refine⟨.slice (some ⟨w.heap.size,0,none⟩) ca cb,w.alloc (.cells (madeCells z.cells (cb*ti.size)) e),by simp[execOp,hx,hy,bx],fun _=>pt _,⟨fun q hq=>?_,(madeCells z.cells (cb*ti.size)).toList.take (ca*r.size),?_,?_⟩,fun q hq=>?_⟩
 .simp only[bm,ajz,ajg]at hq;intro e;have:=hs.lt _ e;omega
 .have hle:ca*r.size<=cb*r.size:=ajw _ (by omega);have Sm:=size_madeCells z.cells (cb*ti.size);refine mu.of ⟨by rw[ajl,Array.length_toList,Sm,kz,ajQ hle];simp, .inr ⟨w.heap.size,cb,madeCells z.cells (cb*ti.size),by simp,ajt _,heap_alloc_new w _,by simp;omega,by simp[maxLen];omega,by rw[Sm,kz],by simp⟩⟩
 .intro i al;simp only[aja,List.length_replicate]at al;have hle:(i+1)*r.size<=ca*r.size:=ajw _ al;rw[aj4]at hle;rw[List.drop_take,List.take_take,ajQ (by omega)];rw[kz,VY,<-hzn,Je _ _ _ (by omega) (by omega)];simpa using cA.zero F _ r
 .simp only[bm,ajz,ajg]at hq;omega
theorem AA{e t:TypeId}{r:Row}{a b:Int}(ht:P.underlying t=some (.slice e))(uV:TI P e r)(hs:au U H F w ob n){ka kb:IntKind}{x y:Operand}(hx:ev ρ x= .int ka a)(hy:ev ρ y= .int kb b)(h0:0<=a)(h1:a<=b)(h2:b<=4294967296):
 cD P U H F w ρ ob n ⟨some d, .makeSlice t x y,ty,pos,aft,none⟩ {dst:= .val false (.own n),make:=[(n,(n, .own e r (ai9 a.toNat r.zero)))]}:=by
 obtain⟨v,w',bx,bI,dH,GO⟩:=xE (d:=d) (ty:=ty) (pos:=pos) (aft:=aft) ht uV hs hx hy h0 h1 h2;exact cd.val bx (su hs (bI _) dH fun q hq=> .inr (GO q hq))
def uY(T:bc P)(n:Nat)(t:TypeId)(same:Bool)(a b:Int)(k:dN->Option R):Option R:=
 match find T.und t with
 |some (.slice e)=>match find T.row e with
  |some r=>(bif same then mV a r.zero else U6 a b r.zero).bind fun l=>k {dst:= .val false (.own n),make:=[(n,(n, .own e r l))]}
  |none=>none
 |_=>none
theorem xF{x y:Operand}(h:oF x y=true){a b:Int}{ka kb:IntKind}(hx:ev ρ x= .int ka a)(hy:ev ρ y= .int kb b):a=b:=by
 unfold oF at h;split at h
 .obtain rfl:=beq_true h;rw[hx]at hy;cases hy;rfl
 .simp only[ev,Value.int.injEq]at hx hy;have:=of_decide_eq_true h;omega
 .cases h
theorem AB(T:bc P){t:TypeId}{a b:Int}{ka kb:IntKind}{x y:Operand}{k:dN->Option R}{q:R}(h:uY T n t (oF x y) a b k=some q)(hs:au U H F w ob n)(hx:ev ρ x= .int ka a)(hy:ev ρ y= .int kb b):
 ∃e,k e=some q/\cD P U H F w ρ ob n ⟨some d, .makeSlice t x y,ty,pos,aft,none⟩ e:=by
 unfold uY at h;split at h
 case h_2=>cases h
 rename_i e hu;split at h
 case h_2=>cases h
 rename_i r hr;obtain⟨l,hl,hk⟩:=bind_some h;have uV:=T.row_ok _ _ hr;have ht:=T.und_ok _ _ hu
 cases mr:oF x y with
 |true=>
  rw[mr,cond_true]at hl;unfold mV at hl;split at hl
  case isFalse=>cases hl
  rename_i hc;obtain rfl:=ai4 hl;obtain rfl:=xF mr hx hy;exact⟨_,hk,AA ht uV hs hx hy hc.1 (aki _) hc.2⟩
 |false=>
  rw[mr,cond_false]at hl;unfold U6 at hl;split at hl
  case isFalse=>cases hl
  rename_i hc;obtain rfl:=ai4 hl;exact⟨_,hk,AA ht uV hs hx hy hc.1 hc.2.1 hc.2.2⟩
def VZ(ob:Nat->Option (Nat×Th))(r:Row)(D:ak):Option (List r.den):=
 match uc ob D with
 |some (.read s l)=>if h:s.beq r=true then some (iC (r:= .slice s) (s:= .slice r) (congrArg Row.slice (Row.eq_of_beq h)) l)else none
 |some (.own _ _ _ s l)=>if h:s.beq r=true then some (iC (r:= .slice s) (s:= .slice r) (congrArg Row.slice (Row.eq_of_beq h)) l)else none
 |some .nil=>some []
 |some (.view ..)=>none
 |some (.deep ..)=>none
 |none=>none
theorem O5(hs:au U H F w ob n){r:Row}{D:ak}{l:List r.den}{v:Value}(h:VZ ob r D=some l)(hd:ai H F w D v):Reads F w r v l:=by
 unfold VZ at h;split at h
 .rename_i s m fO;split at h
  case isFalse=>cases h
  rename_i hb;obtain rfl:=Row.eq_of_beq hb;obtain rfl:=ai4 h;exact cA.reads (iq hs fO hd)
 .rename_i o s0 T s m fO;split at h
  case isFalse=>cases h
  rename_i hb;obtain rfl:=Row.eq_of_beq hb;obtain rfl:=ai4 h;exact(iq hs fO hd).2.2.reads
 .rename_i fO;obtain rfl:=ai4 h;have:v=_:=iq hs fO hd;subst this;exact(cA.nil F w r).reads
 .cases h
 .cases h
 .cases h
def ra:Ju->Int
 | .read _ l=>(l.length:Int)
 | .own _ _ _ _ l=>(l.length:Int)
 | .nil=>0
 | .view _ _ _ l=>(l.length:Int)
 | .deep _ _ _ _ l _=>(l.length:Int)
theorem Jz{v:Value}{k:Ju}(h:Mm U H F w ob v k):∃A m cap,v= .slice A m cap/\ra k=(m:Int):=by
 cases k with
 |read r l=>
  obtain⟨A,cap,e,_⟩:=cA.CS h;exact⟨A,_,cap,e,rfl⟩
 |own o s T r l=>
  obtain⟨A,cap,e,_⟩:=h.2.2.reads;exact⟨A,_,cap,e,rfl⟩
 |nil=>exact⟨none,0,0,h,rfl⟩
 |view o s r m=>
  obtain⟨A,cap,T,l,a,b,_,_,h3,h4,rfl,rfl⟩:=h;refine⟨_,_,_,rfl,?_⟩;simp only[ra,List.length_drop,ajl,ajQ h4]
 |deep o s T d l hh=>
  obtain⟨lh,_,⟨xs,Jd,_⟩,Ah,_⟩:=h.2.2.ok
  rcases Jd.2 with⟨GJ,h0⟩|⟨g,o0,cap,cur,yG,_,_,_⟩
  .exact⟨none,0,0,GJ,by simp only[ra];omega⟩
  .exact⟨_,_,_,yG,by simp only[ra];omega⟩
def GP(T:bc P)(ob:Nat->Option (Nat×Th))(t:TypeId)(D:ak):Option ak:=
 match find T.und t with
 |some (.slice _)=>match uc ob D with
  |some k=>some (lV .i64 (ra k))
  |none=>none
 |some .str=>match As D with
  |some s=>some (lV .i64 (s.size:Int))
  |none=>none
 |_=>none
theorem EY(T:bc P){t:TypeId}{D D':ak}{x:Operand}(h:GP T ob t D=some D')(hs:au U H F w ob n)(hx:ai H F w D (ev ρ x)):
 cD P U H F w ρ ob n ⟨some d, .call {callee:= .builtin .len,args:= #[x],argTypes:= #[t]},ty,pos,aft,none⟩ {dst:=D'}:=by
 unfold GP at h;split at h
 .rename_i e hu;split at h
  case h_2=>cases h
  rename_i k hk;obtain rfl:=ai4 h;obtain⟨A,m,cap,e1,e2⟩:=Jz (iq hs hk hx);rw[e2];exact aI hs (Jb rfl (T.und_ok _ _ hu) e1) (aE.ju ..)
 .rename_i hu;split at h
  case h_2=>cases h
  rename_i s hk;obtain rfl:=ai4 h;exact aI hs (Gm (T.und_ok _ _ hu) (uU hk hx)) (aE.ju ..)
 .cases h
def pu(T:bc P)(ob:Nat->Option (Nat×Th))(n:Nat)(t:TypeId)(X Y:ak)(k:dN->Option R):Option R:=
 match find T.und t with
 |some (.slice e)=>match find T.row e with
  |some r=>match VZ ob r Y with
   |some m=>match uc ob X with
    |some .nil=>(bR ([]:List r.den) m).bind fun l=>k {dst:= .val false (.own n),make:=[(n,(n, .own e r l))]}
    |some (.own o _ T0 s l0)=>bif aje T0 e then
      (if h:s.beq r=true then(bR (iC (r:= .slice s) (s:= .slice r) (congrArg Row.slice (Row.eq_of_beq h)) l0) m).bind fun l=>k {dst:= .val false (.own n),eat:=[o],make:=[(n,(n, .own e r l))]}else none)else none
    |_=>none
   |none=>none
  |none=>none
 |_=>none
theorem Db(T:bc P){t:TypeId}{X Y:ak}{x y:Operand}{k:dN->Option R}{q:R}(h:pu T ob n t X Y k=some q)(hs:au U H F w ob n)(hx:ai H F w X (ev ρ x))(hy:ai H F w Y (ev ρ y)):
 ∃e,k e=some q/\cD P U H F w ρ ob n ⟨some d, .call {callee:= .builtin .append,args:= #[x,y],argTypes:= #[t,t]},ty,pos,aft,none⟩ e:=by
 unfold pu at h;split at h
 case h_2=>cases h
 rename_i e hu;split at h
 case h_2=>cases h
 rename_i r hr;obtain⟨ti,z,h1,h2,h3,h4,h5⟩:=T.row_ok _ _ hr;have ht:=T.und_ok _ _ hu;split at h
 case h_2=>cases h
 rename_i m hm;have fE:=O5 hs hm hy
 have key:∀{l out:List r.den},iE 0 F w e r (ev ρ x) l->bR l m=some out->∃v' w',(execOp (ev ρ) ⟨some d, .call {callee:= .builtin .append,args:= #[x,y],argTypes:= #[t,t]},ty,pos,aft,none⟩).run P w= .ok (.value v') w'/\Ext (bm (ev ρ x)) w w'/\iE 0 F w' e r v' out/\(∀k,bm v' k->bm (ev ρ x) k\/w.heap.size<=k):=by
  intro l out ho ha;obtain⟨v',w',bx,he,iN,Mj⟩:=uM ty ht h1 h2 h3 h4 h5 ho fE ha hs.lt (ajt _);refine⟨v',w',by simp[execOp,resolve,invoke,builtin,bx],he,iN,fun k hk=>?_⟩
  rcases Mj with g|g
  .exact .inl (g▸hk)
  .rw[g]at hk;exact .inr (by omega)
 split at h
 .rename_i fO;obtain⟨l,hl,hk⟩:=bind_some h;have hv:ev ρ x=_:=iq hs fO hx;obtain⟨v',w',bx,he,iN,hn⟩:=key (by rw[hv];exact iE.nil 0 F w e r) hl
  have no:∀k,¬bm (ev ρ x) k:=fun k hk=>by rw[hv]at hk;simp[bm,ajz]at hk
  exact⟨_,hk,cd.val bx (su hs ⟨he.os,he.tape,he.output,he.size,fun k hk _=>he.block k hk (no k)⟩ iN fun k hk=>(hn k hk).imp (fun h=>absurd h (no k)) id)⟩
 .rename_i o s0 T0 s l0 fO;obtain⟨hb,h⟩:=aD h;obtain rfl:=beq_true hb;split at h
  case isFalse=>cases h
  rename_i Az;obtain rfl:=Row.eq_of_beq Az;obtain⟨l,hl,hk⟩:=bind_some h;obtain⟨hv,cC,dH⟩:=iq hs fO hx;obtain⟨v',w',bx,he,iN,hn⟩:=key dH hl
  have kB:∀k,bm (ev ρ x) k->cm H ob [o] k:=fun k hk=>⟨o,by simp,_,_,_,cC,hv,hk⟩
  exact⟨_,hk,cd.val bx (su hs ⟨he.os,he.tape,he.output,he.size,fun k hk CG=>he.block k hk fun hm=>CG (kB k hm)⟩ iN fun k hk=>(hn k hk).imp (kB k) id)⟩
 .cases h
def AD(ob:Nat->Option (Nat×Th))(r:Row):List ak->Option (List r.den)
 |[]=>some []
 | .val _ u::l=>match flat ob r u with
   |some x=>match AD ob r l with
    |some xs=>some (x::xs)
    |none=>none
   |none=>none
 |_::_=>none
def rb(rd:Operand->Option ak):List Operand->Option (List ak)
 |[]=>some []
 |x::xs=>match rd x with
  |some d=>match rb rd xs with
   |some ds=>some (d::ds)
   |none=>none
  |none=>none
def fc(H:ao)(F:Nat->Prop)(w:World):List ak->List Value->Prop
 |[],vs=>vs=[]
 |d::ds,vs=>∃v us,vs=v::us/\ai H F w d v/\fc H F w ds us
theorem nn{rd:Operand->Option ak}(h:∀x d,rd x=some d->ai H F w d (ev ρ x)):{xs:List Operand}->{ds:List ak}->rb rd xs=some ds->fc H F w ds (xs.map (ev ρ))
 |[],ds,e=>by obtain rfl:=ai4 e;rfl
 |x::xs,ds,e=>by
  unfold rb at e
  cases h1:rd x with
  |none=>rw[h1]at e;cases e
  |some d=>
   cases h2:rb rd xs with
   |none=>simp only[h1,h2]at e;cases e
   |some U7=>
    simp only[h1,h2,ajg]at e;subst e;exact⟨_,_,rfl,h _ _ h1,nn h h2⟩
theorem AE(hs:au U H F w ob n){r:Row}:{ds:List ak}->{l:List r.den}->{vs:List Value}->AD ob r ds=some l->fc H F w ds vs->uN F w r vs l
 |[],l,vs,e,h=>by
  obtain rfl:=ai4 e;rw[show vs=[]from h];exact .nil
 | .val _ u::ds,l,vs,e,h=>by
   obtain⟨v,us,rfl,h1,h2⟩:=h;unfold AD at e
   cases hf:flat ob r u with
   |none=>rw[hf]at e;cases e
   |some x=>
    cases hg:AD ob r ds with
    |none=>simp only[hf,hg]at e;cases e
    |some xs=>
     simp only[hf,hg,ajg]at e;subst e;obtain⟨cs,qp,xD⟩:=aE.cells h1;exact .cons xD (im hs hf qp) (AE hs hg h2)
 | .dead::_,_,_,e,_=>by cases e
 | .undef::_,_,_,e,_=>by cases e
 | .ptr .. ::_,_,_,e,_=>by cases e
 | .at .. ::_,_,_,e,_=>by cases e
 | .elem .. ::_,_,_,e,_=>by cases e
 | .tup _::_,_,_,e,_=>by cases e
 | .dlm .. ::_,_,_,e,_=>by cases e
theorem uZ{e t:TypeId}{r:Row}{xs:List Operand}{l:List r.den}{parts:Array (Nat×Operand)}(ht:P.underlying t=some (.slice e))(uV:TI P e r)(dq:parts=((xs.zipIdx).map fun p=>(p.2,p.1)).toArray)(mr:xs.length*r.size<=16777216)
 (hl:uN F w r (xs.map (ev ρ)) l)(hs:au U H F w ob n):
 ∃v w',(execOp (ev ρ) ⟨some d, .buildSlice t xs.length parts,ty,pos,aft,none⟩).run P w= .ok (.value v) w'/\(∀g,Ext g w w')/\iE 0 F w' e r v l/\∀k,bm v k->w.heap.size<=k:=by
 obtain⟨ti,z,h1,h2,h3,h4,h5⟩:=uV
 have Mq:(xs.map (ev ρ)).length=xs.length:=by simp
 have Ah:=hl.length;have nR:=r.size_pos
 have R8:z.cells.size=r.size:=by rw[<-(cA.zero F w r).length,<-h3];simp
 have GQ:(parts.map fun(i,q)=>(i,ev ρ q)).toList=((xs.map (ev ρ)).zipIdx).map fun p=>(p.2,p.1):=by
  subst dq;simp[List.zipIdx_map,Function.comp_def]
 generalize hm:xs.length=m at*;generalize xs.map (ev ρ)=vs at*
 have key:∀zz:Array Value,zz.size=m*r.size->∃CJ:List Value,akJ (fun i=>some (i*r.size,r.size)) zz ((vs.zipIdx).map fun p=>(p.2,p.1))=some CJ.toArray/\CJ.length=l.length*r.size/\∀i(hi:i<l.length),cA F w r ((CJ.drop (i*r.size)).take r.size) l[i]:=by
  intro zz Sp;obtain⟨CJ,a1,a2,a3⟩:=hl.fill 0 [] zz.toList (by simp) (by rw[Array.length_toList,Sp,Mq]);exact⟨CJ,by simpa using a1,a2,a3⟩
 have bx:∃CJ:List Value,(execOp (ev ρ) ⟨some d, .buildSlice t m parts,ty,pos,aft,none⟩).run P w= .ok (.value (.slice (some ⟨w.heap.size,0,none⟩) m m)) (w.alloc (.cells CJ.toArray e))/\CJ.length=l.length*r.size/\∀i(hi:i<l.length),cA F w r ((CJ.drop (i*r.size)).take r.size) l[i]:=by
  by_cases h0:m*r.size=0
  .obtain⟨CJ,a1,a2,a3⟩:=key #[] (by simp[h0]);refine⟨CJ,?_,a2,a3⟩;simp only[execOp,Instr.buildSlice,ajx,run_underlying ht,ajO];rw[GQ]
   have V0:Array.range 0=(#[]:Array Nat):=by rfl
   simp[sizeOf,typeInfo,h1,h4,h0,newRow,V0,a1]
  .obtain⟨CJ,a1,a2,a3⟩:=key ((Array.range (m*r.size)).map (z.cells[· %z.cells.size]!)) (by simp);refine⟨CJ,?_,a2,a3⟩;simp only[execOp,Instr.buildSlice,ajx,run_underlying ht,ajO];rw[GQ];simp[sizeOf,typeInfo,h1,h4,h0,zeroValue,h2,newRow,a1,show¬(16777216<m*r.size)from by omega]
 obtain⟨CJ,bx,a2,a3⟩:=bx
 have GR:m=l.length:=by omega
 have adC:m<=16777216:=ajE (Nat.le_mul_of_pos_right m nR) mr;refine⟨_,_,bx,fun g=>pt _,⟨fun k hk=>?_,CJ,?_,fun i hi=>(a3 i hi).step (Step.alloc hs.lt _)⟩,fun k hk=>?_⟩
 .simp only[bm,ajz,ajg]at hk;intro e;have:=hs.lt _ e;omega
 .have:=World.ownsRow_lit (base:=0) (e:=e) (size:=r.size) w CJ.toArray m (ajt _) (by simp[maxLen];omega) (by simp[a2,GR]);rw[GR]at this⊢;simpa using mu.of this
 .simp only[bm,ajz,ajg]at hk;omega
theorem run_build{e t:TypeId}{r:Row}{xs:List Operand}{l:List r.den}{parts:Array (Nat×Operand)}(ht:P.underlying t=some (.slice e))(uV:TI P e r)(dq:parts=((xs.zipIdx).map fun p=>(p.2,p.1)).toArray)(mr:xs.length*r.size<=16777216)
 (hl:uN F w r (xs.map (ev ρ)) l)(hs:au U H F w ob n):
 cD P U H F w ρ ob n ⟨some d, .buildSlice t xs.length parts,ty,pos,aft,none⟩ {dst:= .val false (.own n),make:=[(n,(n, .own e r l))]}:=by
 obtain⟨v,w',h1,h2,h3,h4⟩:=uZ (d:=d) (ty:=ty) (pos:=pos) (aft:=aft) ht uV dq mr hl hs;exact cd.val h1 (su hs (h2 _) h3 fun k hk=> .inr (h4 k hk))
def EZ:Nat->List (Nat×Operand)->Bool
 |_,[]=>true
 |k,p::l=>aje p.1 k&&EZ (k+1) l
theorem u5:{k:Nat}->{l:List (Nat×Operand)}->EZ k l=true->l=((l.map (·.2)).zipIdx k).map fun p=>(p.2,p.1)
 |_,[],_=>rfl
 |k,p::l,h=>by
  obtain⟨h1,h2⟩:=cO h;have h1:=beq_true h1;have ih:=u5 h2;obtain⟨a,b⟩:=p;subst h1;rw[List.map_cons,List.zipIdx_cons,List.map_cons,<-ih]
def jw(T:bc P)(rd:Operand->Option ak)(ob:Nat->Option (Nat×Th))(n:Nat)(t:TypeId)(m:Nat)(parts:Array (Nat×Operand))(k:dN->Option R):Option R:=
 match find T.und t with
 |some (.slice e)=>match find T.row e with
  |some r=>bif EZ 0 parts.toList&&aje m parts.toList.length&&Nat.ble (m*r.size) 16777216 then
    (match rb rd (parts.toList.map (·.2))with
    |some ds=>match AD ob r ds with
     |some l=>k {dst:= .val false (.own n),make:=[(n,(n, .own e r l))]}
     |none=>none
    |none=>none)else none
  |none=>none
 |_=>none
theorem u6(T:bc P){rd:Operand->Option ak}(fE:∀x d,rd x=some d->ai H F w d (ev ρ x)){t:TypeId}{m:Nat}{parts:Array (Nat×Operand)}{k:dN->Option R}{q:R}(h:jw T rd ob n t m parts k=some q)(hs:au U H F w ob n):
 ∃e,k e=some q/\cD P U H F w ρ ob n ⟨some d, .buildSlice t m parts,ty,pos,aft,none⟩ e:=by
 unfold jw at h;split at h
 case h_2=>cases h
 rename_i e hu;split at h
 case h_2=>cases h
 rename_i r hr;obtain⟨h1,h⟩:=aD h;obtain⟨h1,h3⟩:=cO h1;obtain⟨h1,h2⟩:=cO h1;have h2:=beq_true h2
 have h3:m*r.size<=16777216:=by simpa using h3
 split at h
 case h_2=>cases h
 rename_i ds uw;split at h
 case h_2=>cases h
 rename_i l hl;have Sq:=AE hs hl (nn fE uw)
 have hp:parts=(((parts.toList.map (·.2)).zipIdx).map fun p=>(p.2,p.1)).toArray:=by
  rw[<-u5 h1,ajR]
 have hm:m=(parts.toList.map (·.2)).length:=by simpa using h2
 refine⟨_,h,?_⟩;have:=run_build (d:=d) (ty:=ty) (pos:=pos) (aft:=aft) (T.und_ok _ _ hu) (T.row_ok _ _ hr) hp (by rw[<-hm];exact h3) Sq hs;rw[<-hm]at this;exact this
def E0{P:Program}(T:bc P)(fs:List (TypeId×Nat)):Tree->List (Nat×ak)->Option Tree
 |t,[]=>some t
 |t,(f, .val _ u)::l=>match t.get (q9 fs.length f)with
  |some (s,off)=>match fs[f]? with
   |some (ft,dx)=>bif aje off dx&&aje u.size s.size&&(match find T.row ft with|some r=>aje r.size u.size|none=>false)then
     (match t.put (q9 fs.length f) u with
     |some t'=>E0 T fs t' l
     |none=>none)else none
   |none=>none
  |none=>none
 |_,_::_=>none
def ux(T:bc P):List (TypeId×Nat)->Bool
 |[]=>true
 |p::fs=>(match find T.row p.1 with|some _=>true|none=>false)&&ux T fs
def place(T:bc P)(fs:List (TypeId×Nat))(i:Nat):Option (Nat×Nat):=
 match fs[i]? with
 |some (ft,off)=>match find T.row ft with
  |some r=>some (off,r.size)
  |none=>none
 |none=>none
theorem u7(T:bc P):{l:List Field}->{fs:List (TypeId×Nat)}->l.map (fun f=>(f.type,f.offset))=fs->ux T fs=true->
 ∃pl:List (Nat×Nat),(l.mapM fun(f:Field)=>(do pure (f.offset,<-sizeOf f.type):Sem (Nat×Nat))).run P w= .ok pl w/\∀i,pl[i]? =place T fs i
 |[],fs,h,_=>by
  subst h;exact⟨[],by simp,fun i=>by simp[place]⟩
 |f::l,fs,h,hz=>by
  subst h;obtain⟨h1,h2⟩:=cO hz;obtain⟨pl,Sr,O6⟩:=u7 T (l:=l) rfl h2
  cases hr:find T.row f.type with
  |none=>rw[hr]at h1;cases h1
  |some r=>
   obtain⟨ti,z,g1,_,_,g4,_⟩:=T.row_ok _ _ hr;refine⟨(f.offset,r.size)::pl,?_,fun i=>?_⟩
   .have wW:(sizeOf f.type).run P w= .ok r.size w:=by simp[sizeOf,typeInfo,g1,g4]
    rw[List.mapM_cons];simp only[ajx,wW,Sem.run_pure,ajO,Sr]
   .cases i with
    |zero=>simp[place,hr]
    |succ i=>simpa[place]using O6 i
end
end Go.Proofs.YtilaieogabgamaaGreatDoor
end
