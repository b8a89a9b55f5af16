/- Joined texts: Sym Eff Path Effs2 Effs3. -/
import Derived.Test.YtmihpkfkbfgigaaGreatDoorU1
section
open _root_.List renaming mem_append->amf
open _root_.Nat renaming beq->al4,eq_of_beq_eq_true->amN,lt_of_lt_of_le->amI
open _root_.Option renaming none_or->am8
open _root_.Option.some renaming inj->alU,injEq->al7
open _root_.Go.Value renaming oneCell'->ann
namespace Go.Proofs.YtmihpkfkbfgigaaGreatDoor
open Go Go.RowKit
inductive Tree where
 |leaf (r:Row) (x:r.den)
 |own (o:Nat)
 |nil
 |pair (a b:Tree)
 |view (o s:Nat) (r:Row) (m:List r.den)
 |junk (n:Nat)
structure vP where
 i:Int
 p:List Bool
 o:Nat
 s:Nat
inductive Th where
 |box (T:TypeId) (t:Tree)
 |own (T:TypeId) (r:Row) (l:List r.den)
 |td (T:TypeId) (r:Row) (l:List r.den)
 |map (T:TypeId) (K:Row) (agg:Bool) (V:Row) (l:List (K.den×V.den))
 |fmap (T:TypeId) (K:Row) (agg:Bool) (V:Row) (l:List (K.den×V.den))
 |deep (T:TypeId) (d:DR) (l:List d.row.den) (h:Option vP)
 |fdeep (T:TypeId) (d:DR) (l:List d.row.den)
 |dmap (T:TypeId) (K:Row) (E:TypeId) (r:Row) (l:List (K.den×List r.den)) (h:Option (K.den×Nat))
 |fdmap (T:TypeId) (K:Row) (E:TypeId) (r:Row) (l:List (K.den×List r.den))
def Th.base:Th->Th
 | .td T r l=> .own T r l
 | .fmap T K agg V l=> .map T K agg V l
 | .fdeep T d l=> .deep T d l none
 | .fdmap T K E r l=> .dmap T K E r l none
 |t=>t
inductive aq where
 |dead
 |undef
 |val (agg:Bool) (t:Tree)
 |ptr (o:Nat) (p:List Bool) (off:Nat)
 |at (r:Row) (x:r.den)
 |elem (o s:Nat) (r:Row) (i:Int) (x:r.den) (p:List Bool) (off:Nat)
 |tup (ds:List (Bool×Tree))
 |dlm (o:Nat) (d:DR) (i:Int) (p:List Bool) (off:Nat)
 |fn (f:FuncId) (caps:List (Nat×List Bool×Nat))
 |ifc (T:TypeId) (d:aq)
structure ay where
 val:Nat->Option Value
 con:Nat->Option Th
 sub:Nat->Nat->Prop
structure ay.le(H H':ay):Prop where
 val:∀o v,H.val o=some v->H'.val o=some v
 con:∀s t,H.con s=some t->H'.con s=some t
 sub:∀s t,H.con s=some t->H'.sub s=H.sub s
theorem ay.le.refl(H:ay):H.le H:=⟨fun _ _ h=>h,fun _ _ h=>h,fun _ _ _=>rfl⟩
theorem ay.le.trans{H H' tf:ay}(h:H.le H')(k:H'.le tf):H.le tf:=⟨fun o v e=>k.val o v (h.val o v e),fun o v e=>k.con o v (h.con o v e),fun s t e=>(k.sub s t (h.con s t e)).trans (h.sub s t e)⟩
def mz(H:ay)(o s:Nat)(r:Row)(m:List r.den)(v:Value):Prop:=
 ∃A cap T,∃l:List r.den,∃a b,H.val o=some (.slice A l.length cap)/\H.con s=some (.own T r l)/\a<=b/\b<=l.length/\m=(l.take b).drop a/\v=sliced A a b cap r.size
theorem mz.keep{H H':ay}(hH:H.le H'){o s:Nat}{r:Row}{m:List r.den}{v:Value}(h:mz H o s r m v):mz H' o s r m v:=by
 obtain⟨A,cap,T,l,a,b,h1,h2,h3⟩:=h;exact⟨A,cap,T,l,a,b,hH.val _ _ h1,hH.con _ _ h2,h3⟩
theorem mz.back{H H' tf:ay}(hH:H.le H')(Ea:H.le tf){o s:Nat}{r:Row}{m:List r.den}{v0 v:Value}(h0:mz H o s r m v0)(h:mz H' o s r m v):mz tf o s r m v:=by
 obtain⟨A,cap,T,l,a,b,h1,h2,_⟩:=h0;obtain⟨A',Ks,T',l',a',b',k1,k2,k3⟩:=h;have e1:=hH.val _ _ h1;have e2:=hH.con _ _ h2;rw[k1]at e1;rw[k2]at e2;simp only[al7,Th.own.injEq,heq_eq_eq,true_and]at e2;obtain⟨rfl,rfl⟩:=e2;exact⟨A',Ks,T',l',a',b',by rw[e1];exact Ea.val _ _ h1,Ea.con _ _ h2,k3⟩
theorem mz.one{H:ay}{o s:Nat}{r:Row}{m:List r.den}{v:Value}(h:mz H o s r m v):v.oneCell'=true:=by
 obtain⟨A,cap,T,l,a,b,_,_,_,_,_,rfl⟩:=h;simp[sliced,ann]
def lL(H:ay):List (Nat×List Bool×Nat)->List Value->Prop
 |[],vs=>vs=[]
 |c::cs,vs=>∃v us,vs=v::us/\(∃b,H.val c.1=some (.pointer (some ⟨b,0,none⟩))/\v= .pointer (some ⟨b,c.2.2,none⟩))/\lL H cs us
theorem lL.keep{H H':ay}(hH:∀o v,H.val o=some v->H'.val o=some v):{cs:List (Nat×List Bool×Nat)}->{vs:List Value}->lL H cs vs->lL H' cs vs
 |[],_,h=>h
 |_::_,_,h=>by obtain⟨v,us,e,⟨b,h1,h2⟩,h3⟩:=h;exact⟨v,us,e,⟨b,hH _ _ h1,h2⟩,h3.keep hH⟩
def Holds(H:ay)(F:Nat->Prop)(w:World):Tree->List Value->Prop
 | .leaf r x,cs=>cR F w r cs x
 | .own o,cs=>∃v,H.val o=some v/\v.oneCell'=true/\cs=[v]
 | .nil,cs=>cs=[.slice none 0 0]
 | .pair a b,cs=>∃c1 c2,cs=c1++c2/\Holds H F w a c1/\Holds H F w b c2
 | .view o s r m,cs=>∃v,cs=[v]/\mz H o s r m v
 | .junk n,cs=>cs.length=n/\∀u∈cs,u.oneCell'=true
def Tree.size:Tree->Nat
 | .leaf r _=>r.size
 | .own _=>1
 | .nil=>1
 | .pair a b=>a.size+b.size
 | .view .. =>1
 | .junk n=>n
def aM(H:ay)(F:Nat->Prop)(w:World)(agg:Bool)(t:Tree)(v:Value):Prop:=
 ∃cs,Holds H F w t cs/\v=(bif agg then .agg cs.toArray else cs.headD undef)/\(agg=false->cs=[v])
def rV(H:ay)(F:Nat->Prop)(w:World):List (Bool×Tree)->List Value->Prop
 |[],vs=>vs=[]
 |d::ds,vs=>∃v us,vs=v::us/\aM H F w d.1 d.2 v/\rV H F w ds us
def al(H:ay)(F:Nat->Prop)(w:World):aq->Value->Prop
 | .dead,_=>True
 | .undef,v=>v=Go.undef
 | .val agg t,v=>aM H F w agg t v
 | .ptr o _ off,v=>∃b,H.val o=some (.pointer (some ⟨b,0,none⟩))/\v= .pointer (some ⟨b,off,none⟩)
 | .at r x,v=>∃b off,v= .pointer (some ⟨b,off,none⟩)/\F b/\At F w r b off x
 | .elem o s r i x _ off,v=>∃g o0 q T m cap l,H.val o=some (.slice (some ⟨g,o0,none⟩) m cap)/\i=(q:Nat)/\H.con s=some (.own T r l)/\idx l i=some x/\v= .pointer (some ⟨g,o0+q*r.size+off,none⟩)
 | .tup ds,v=>∃vs,v= .tuple vs.toArray/\rV H F w ds vs
 | .dlm o d i _ off,v=>∃g o0 q m cap,H.val o=some (.slice (some ⟨g,o0,none⟩) m cap)/\i=(q:Nat)/\v= .pointer (some ⟨g,o0+q*d.low.size+off,none⟩)
 | .fn f caps,v=>∃vs,v= .func (.func f) #[] vs.toArray/\lL H caps vs
 | .ifc T d,v=>∃u,v= .iface T u/\al H F w d u
section
variable {H H':ay} {F F':Nat->Prop} {w w':World}
theorem Holds.length:{t:Tree}->{cs:List Value}->Holds H F w t cs->cs.length=t.size
 | .leaf _ _,_,h=>cR.length h
 | .own _,_,h=>by obtain⟨v,_,_,rfl⟩:=h;rfl
 | .nil,_,h=>by rw[show _=_ from h];rfl
 | .pair a b,_,h=>by obtain⟨c1,c2,rfl,h1,h2⟩:=h;simp[h1.length,h2.length,Tree.size]
 | .view ..,_,h=>by obtain⟨v,rfl,_⟩:=h;rfl
 | .junk _,_,h=>h.1
theorem Holds.jU:{t:Tree}->{cs:List Value}->Holds H F w t cs->∀u∈cs,u.oneCell'=true
 | .leaf _ _,_,h=>cR.jU h
 | .own _,_,h=>by obtain⟨v,_,h1,rfl⟩:=h;simpa using h1
 | .nil,_,h=>by rw[show _=_ from h];simp[ann]
 | .pair a b,_,h=>by
   obtain⟨c1,c2,rfl,h1,h2⟩:=h;intro u hu
   rcases amf.1 hu with h'|h'
   .exact h1.jU u h'
   .exact h2.jU u h'
 | .view ..,_,h=>by obtain⟨v,rfl,h⟩:=h;simpa using h.one
 | .junk _,_,h=>h.2
theorem Holds.keep(hH:H.le H')(hs:Step F w F' w'):{t:Tree}->{cs:List Value}->Holds H F w t cs->Holds H' F' w' t cs
 | .leaf _ _,_,h=>cR.step hs h
 | .own _,_,h=>by obtain⟨v,h0,h1,rfl⟩:=h;exact⟨v,hH.val _ _ h0,h1,rfl⟩
 | .nil,_,h=>h
 | .pair a b,_,h=>by obtain⟨c1,c2,rfl,h1,h2⟩:=h;exact⟨c1,c2,rfl,h1.keep hH hs,h2.keep hH hs⟩
 | .view ..,_,h=>by obtain⟨v,rfl,h⟩:=h;exact⟨v,rfl,h.keep hH⟩
 | .junk _,_,h=>h
theorem Holds.back{tf:ay}{w0:World}{F0:Nat->Prop}(hH:H.le H')(Ea:H.le tf):{t:Tree}->{Xp cs:List Value}->Holds H F0 w0 t Xp->Holds H' F w t cs->Holds tf F w t cs
 | .leaf _ _,_,_,_,h=>h
 | .own _,_,_,h0,h=>by
   obtain⟨v,a0,_,_⟩:=h0;obtain⟨u,b0,b1,rfl⟩:=h;have:=hH.val _ _ a0;rw[b0]at this;obtain rfl:=alU this;exact⟨u,Ea.val _ _ a0,b1,rfl⟩
 | .nil,_,_,_,h=>h
 | .pair a b,_,_,h0,h=>by
   obtain⟨_,_,_,a1,a2⟩:=h0;obtain⟨c1,c2,rfl,h1,h2⟩:=h;exact⟨c1,c2,rfl,Holds.back (w0:=w0) (F0:=F0) hH Ea a1 h1,Holds.back (w0:=w0) (F0:=F0) hH Ea a2 h2⟩
 | .view ..,_,_,h0,h=>by
   obtain⟨_,_,h0⟩:=h0;obtain⟨v,rfl,h⟩:=h;exact⟨v,rfl,h0.back hH Ea h⟩
 | .junk _,_,_,_,h=>h
theorem aM.keep{agg:Bool}{t:Tree}{v:Value}(hH:H.le H')(hs:Step F w F' w')(h:aM H F w agg t v):aM H' F' w' agg t v:=by
 obtain⟨cs,h1,h2⟩:=h;exact⟨cs,h1.keep hH hs,h2⟩
theorem rV.keep(hH:H.le H')(hs:Step F w F' w'):{ds:List (Bool×Tree)}->{vs:List Value}->rV H F w ds vs->rV H' F' w' ds vs
 |[],_,h=>h
 |_::_,_,h=>by obtain⟨v,us,rfl,h1,h2⟩:=h;exact⟨v,us,rfl,h1.keep hH hs,h2.keep hH hs⟩
theorem At.keep{r:Row}{b off:Nat}{x:r.den}(hs:Step F w F' w')(hb:F b)(h:At F w r b off x):At F' w' r b off x:=by
 obtain⟨es,hl,hc,hr⟩:=h;exact⟨es,hl,fun j u hu=>(World.cell?_of_block (hs b hb).2).trans (hc j u hu),hr.step hs⟩
theorem al.keep(hH:H.le H')(hs:Step F w F' w'):{d:aq}->{v:Value}->al H F w d v->al H' F' w' d v
 | .dead,_,_=>trivial
 | .undef,_,h=>h
 | .val _ _,_,h=>aM.keep hH hs h
 | .ptr _ _ _,_,h=>by obtain⟨b,h1,h2⟩:=h;exact⟨b,hH.val _ _ h1,h2⟩
 | .at _ _,_,h=>by obtain⟨b,off,h1,h2,h3⟩:=h;exact⟨b,off,h1,(hs b h2).1,h3.keep hs h2⟩
 | .elem ..,_,h=>by obtain⟨g,o0,q,T,m,cap,l,h1,h2,h3,h4⟩:=h;exact⟨g,o0,q,T,m,cap,l,hH.val _ _ h1,h2,hH.con _ _ h3,h4⟩
 | .tup _,_,h=>by obtain⟨vs,h1,h2⟩:=h;exact⟨vs,h1,h2.keep hH hs⟩
 | .dlm ..,_,h=>by obtain⟨g,o0,q,m,cap,h1,h2,h3⟩:=h;exact⟨g,o0,q,m,cap,hH.val _ _ h1,h2,h3⟩
 | .fn ..,_,h=>by obtain⟨vs,h1,h2⟩:=h;exact⟨vs,h1,h2.keep hH.val⟩
 | .ifc _ d,_,h=>by obtain⟨u,h1,h2⟩:=h;exact⟨u,h1,al.keep hH hs (d:=d) h2⟩
def find{α:Type}:List (Nat×α)->Nat->Option α
 |[],_=>none
 |(m,a)::l,n=>bif al4 m n then some a else find l n
def del{α:Type}(ns:List Nat):List (Nat×α)->List (Nat×α)
 |[]=>[]
 |(m,a)::l=>bif ns.any (al4 m)then del ns l else(m,a)::del ns l
theorem aG{α:Type}{m:Nat}{a:α}{l:List (Nat×α)}{n:Nat}:find ((m,a)::l) n=if m=n then some a else find l n:=by
 show(bif al4 m n then some a else find l n)=_
 by_cases h:m=n
 .subst h;simp
 .rw[if_neg h]
  have:al4 m n=false:=by
   cases hb:al4 m n with
   |false=>rfl
   |true=>exact absurd (amN hb) h
  simp[this]
theorem iO{α:Type}{l l':List (Nat×α)}{n:Nat}:find (l++l') n=(find l n).or (find l' n):=by
 induction l with
 |nil=>rfl
 |cons p l ih=>
  obtain⟨m,a⟩:=p;rw[List.cons_append,aG,aG,ih]
  split<;>rfl
theorem any_beq{ns:List Nat}{m:Nat}:ns.any (al4 m)=true↔m∈ns:=by
 simp only[List.any_eq_true,Nat.beq_eq];exact⟨fun⟨x,hx,e⟩=>e▸hx,fun h=>⟨m,h,rfl⟩⟩
theorem iP{α:Type}{ns:List Nat}{l:List (Nat×α)}{n:Nat}{a:α}:find (del ns l) n=some a↔n∉ns/\find l n=some a:=by
 induction l with
 |nil=>simp[del,find]
 |cons p l ih=>
  obtain⟨m,b⟩:=p;unfold del
  cases hm:ns.any (al4 m)with
  |true=>
   have cx:=any_beq.1 hm;rw[cond_true,ih,aG];constructor
   .rintro⟨h1,h2⟩
    have bR:m≠n:=fun e=>h1 (e▸cx)
    exact⟨h1,by rw[if_neg bR];exact h2⟩
   .rintro⟨h1,h2⟩
    have bR:m≠n:=fun e=>h1 (e▸cx)
    rw[if_neg bR]at h2;exact⟨h1,h2⟩
  |false=>
   have cx:m∉ns:=fun e=>by rw[any_beq.2 e]at hm;cases hm
   rw[cond_false,aG,aG];by_cases h:m=n
   .subst h;simp[cx]
   .simp only[if_neg h];exact ih
def q7(F:Nat->Prop)(w:World):Prop:=∀g d,find FT g=some d->F g/\At F w d.1 g 0 d.2
theorem q7.step{F F':Nat->Prop}{w w':World}(h:q7 F w)(hs:Step F w F' w'):q7 F' w':=fun g d hg=>⟨(hs g (h g d hg).1).1,(h g d hg).2.keep hs (h g d hg).1⟩
def mH(H:ay)(F:Nat->Prop)(w:World)(K:Row)(agg:Bool)(V:Row):List MapEntry->List (K.den×V.den)->Prop
 |[],l=>l=[]
 |e::es,l=>∃k x l',l=(k,x)::l'/\ox K k=some e.key/\aM H F w agg (.leaf V x) e.val/\mH H F w K agg V es l'
theorem mH.keep{H H':ay}{F F':Nat->Prop}{w w':World}(hH:H.le H')(hs:Step F w F' w'){K:Row}{agg:Bool}{V:Row}:{es:List MapEntry}->{l:List (K.den×V.den)}->mH H F w K agg V es l->mH H' F' w' K agg V es l
 |[],_,h=>h
 |_::_,_,h=>by obtain⟨k,x,l',e,h1,h2,h3⟩:=h;exact⟨k,x,l',e,h1,h2.keep hH hs,mH.keep hH hs h3⟩
theorem mH.jO{H H':ay}{F:Nat->Prop}{w:World}{K:Row}{agg:Bool}{V:Row}:{es:List MapEntry}->{l:List (K.den×V.den)}->mH H F w K agg V es l->mH H' F w K agg V es l
 |[],_,h=>h
 |_::_,_,h=>by
  obtain⟨k,x,l',e,h1,⟨cs,h2,Kz⟩,h3⟩:=h;exact⟨k,x,l',e,h1,⟨cs,h2,Kz⟩,mH.jO h3⟩
noncomputable def iQ:(K:Row)->K.den->K.den->Bool
 | .int _,a,b=>decide ((a:Int)=b)
 | .bool,a,b=>decide ((a:Bool)=b)
 | .str,a,b=>decide ((a:ByteArray)=b)
 |_,_,_=>false
def rW(F:Nat->Prop)(w:World)(E:TypeId)(r:Row)(v:Value)(y:List r.den)(A:Nat->Prop):Prop:=kS F w E r v y/\∀k,A k↔bw v k
def gz(H:ay)(F:Nat->Prop)(w:World)(K:Row)(E:TypeId)(r:Row):Option (K.den×Nat)->List MapEntry->List (K.den×List r.den)->(Nat->Prop)->Prop
 |_,[],l,S=>l=[]/\∀k,¬S k
 |none,e::es,l,S=>∃k y l' A B,l=(k,y)::l'/\ox K k=some e.key/\rW F w E r e.val y A/\gz H F w K E r none es l' B/\rL A B S
 |some (a,o),e::es,l,S=>∃k y l' A B,l=(k,y)::l'/\ox K k=some e.key/\((iQ K k a=true/\H.val o=some e.val/\(∀j,¬A j)/\gz H F w K E r none es l' B)\/(iQ K k a=false/\rW F w E r e.val y A/\gz H F w K E r (some (a,o)) es l' B))/\rL A B S
theorem rW.keep{F F':Nat->Prop}{w w':World}{E:TypeId}{r:Row}{v:Value}{y:List r.den}{A:Nat->Prop}(h:rW F w E r v y A)(hs:Step F w F' w')(hb:∀k,A k->w'.heap[k]? =w.heap[k]?):rW F' w' E r v y A:=
 ⟨h.1.keep hs fun k hk=>hb k ((h.2 k).2 hk),h.2⟩
theorem gz.keep{H H':ay}{F F':Nat->Prop}{w w':World}{K:Row}{E:TypeId}{r:Row}(hs:Step F w F' w'):{h:Option (K.den×Nat)}->{es:List MapEntry}->{l:List (K.den×List r.den)}->{S:Nat->Prop}->(∀a o u,h=some (a,o)->H.val o=some u->H'.val o=some u)->gz H F w K E r h es l S->(∀k,S k->w'.heap[k]? =w.heap[k]?)->gz H' F' w' K E r h es l S
 |none,[],_,_,_,h,_=>h
 |some _,[],_,_,_,h,_=>h
 |none,_::_,_,_,hH,h,hb=>by
  obtain⟨k,y,l',A,B,e,h1,h2,h3,h4⟩:=h;exact⟨k,y,l',A,B,e,h1,h2.keep hs fun k hk=>hb k (h4.left k hk),h3.keep hs (fun _ _ _ e=>by cases e) fun k hk=>hb k (h4.right k hk),h4⟩
 |some (a,o),_::_,_,_,hH,h,hb=>by
  obtain⟨k,y,l',A,B,e,h1,h2,h4⟩:=h;refine⟨k,y,l',A,B,e,h1,?_,h4⟩
  rcases h2 with⟨g1,g2,g3,g4⟩|⟨g1,g2,g3⟩
  .exact .inl ⟨g1,hH _ _ _ rfl g2,g3,g4.keep hs (fun _ _ _ e=>by cases e) fun k hk=>hb k (h4.right k hk)⟩
  .exact .inr ⟨g1,g2.keep hs fun k hk=>hb k (h4.left k hk),g3.keep hs hH fun k hk=>hb k (h4.right k hk)⟩
def oC(H:ay)(F:Nat->Prop)(w:World)(d:DR)(h:Option vP)(i:Nat)(x':d.low.den)(x:d.row.den)(S:Nat->Prop):Prop:=
 match h with
 |none=>kQ F w d x' x S
 |some h=>(h.i≠(i:Int)->kQ F w d x' x S)/\(h.i=(i:Int)->∃T' e,∃q:gj d (.sl T' e),d.path h.p=some ⟨_,q⟩/\my F w q x' x S/\H.val h.o=some (q.lo.get x'))
theorem oC.keep{H H':ay}{F F':Nat->Prop}{w w':World}{d:DR}{h:Option vP}{i:Nat}{x':d.low.den}{x:d.row.den}{S:Nat->Prop}(hr:oC H F w d h i x' x S)(hH:H.le H')(hs:Step F w F' w')(hb:∀k,S k->w'.heap[k]? =w.heap[k]?):oC H' F' w' d h i x' x S:=by
 cases h with
 |none=>exact kQ.keep hs hr hb
 |some h=>
  refine⟨fun hi=>(hr.1 hi).keep hs hb,fun hi=>?_⟩;obtain⟨T',e,q,h1,h2,h3⟩:=hr.2 hi;exact⟨T',e,q,h1,h2.keep hs hb,hH.val _ _ h3⟩
def fp(S:Nat->Prop)(v:Value):Th->Nat->Prop
 | .box ..,k=>v= .pointer (some ⟨k,0,none⟩)
 | .own ..,k=>bw v k
 | .td ..,_=>False
 | .map ..,k=>v= .map (some k)
 | .fmap ..,_=>False
 | .deep ..,k=>S k
 | .fdeep ..,_=>False
 | .dmap ..,k=>S k
 | .fdmap ..,_=>False
def jn(H:ay)(F:Nat->Prop)(w:World)(S:Nat->Prop)(v:Value):Th->Prop
 | .box T t=>∃b es,v= .pointer (some ⟨b,0,none⟩)/\w.heap[b]? =some (.cells es.toArray T (0,0))/\Holds H F w t es
 | .own T r l=>∃xs,nu w 0 T r.size v l.length xs/\∀i(h:i<l.length),cR F w r ((xs.drop (i*r.size)).take r.size) l[i]
 | .td _ r l=>cR F w (.slice r) [v] l
 | .fmap _ K agg V l=>cR F w (.map K agg V) [v] l
 | .map _ K agg V l=>∃b es clock,v= .map (some b)/\w.heap[b]? =some (.map es clock)/\MapKept.Stamped es clock/\mH H F w K agg V es.toList l
 | .deep T d l h=>HJ F w T d.low (oC H F w d h) v l S
 | .fdeep _ d l=>cR F w (.slice d.row) [v] l
 | .dmap _ K E r l h=>∃b es clock B,v= .map (some b)/\w.heap[b]? =some (.map es clock)/\MapKept.Stamped es clock/\gz H F w K E r h es.toList l B/\rL (is b) B S/\∀a o,h=some (a,o)->∃u,H.val o=some u
 | .fdmap _ K _ r l=>cR F w (.map K false (.slice r)) [v] l
structure HK(U:Nat->Prop)(H:ay)(F:Nat->Prop)(w:World)(v:Value)(s:Nat)(t:Th):Prop where
 one:v.oneCell'=true
 con:H.con s=some t.base
 ok:jn H F w (H.sub s) v t
 no:∀k,fp (H.sub s) v t k->¬F k
 lt:∀k,fp (H.sub s) v t k->k<w.heap.size
 use:∀k,fp (H.sub s) v t k->U k
structure az(U:Nat->Prop)(H:ay)(F:Nat->Prop)(w:World)(ob:Nat->Option (Nat×Th))(n:Nat):Prop where
 obj:∀o s t,ob o=some (s,t)->∃v,H.val o=some v/\HK U H F w v s t
 apart:∀o o' s s' t t' v v',o≠o'->ob o=some (s,t)->ob o'=some (s',t')->H.val o=some v->H.val o'=some v'->∀k,fp (H.sub s) v t k->¬fp (H.sub s') v' t' k
 fresh:∀m,n<=m->m<n+16->H.val m=none/\H.con m=none
 lt:∀b,F b->b<w.heap.size
 new:∀b,w.heap.size<=b->U b
 gl:q7 F w
theorem jn.heap{S:Nat->Prop}{v:Value}{t:Th}(h:jn H F w S v t)(hH:H.le H')(hs:Step F w F' w')(hb:∀k,fp S v t k->w'.heap[k]? =w.heap[k]?):jn H' F' w' S v t:=by
 cases t with
 |box T t=>
  obtain⟨b,es,rfl,h1,h2⟩:=h;exact⟨b,es,rfl,(hb b rfl).trans h1,h2.keep hH hs⟩
 |own T r l=>
  obtain⟨xs,⟨TX,Kq⟩,h3⟩:=h;refine⟨xs,⟨TX,?_⟩,fun i hi=>(h3 i hi).step hs⟩
  rcases Kq with h2|⟨gg,o0,cap,cur,rfl,qH,hg,rest⟩
  .exact .inl h2
  .exact .inr ⟨gg,o0,cap,cur,rfl,qH,(hb gg rfl).trans hg,rest⟩
 |td T r l=>exact cR.step (r:= .slice r) hs h
 |fmap T K agg V l=>exact cR.step (r:= .map K agg V) hs h
 |fdeep T d l=>exact cR.step (r:= .slice d.row) hs h
 |deep T d l hh=>exact HJ.mono (show HJ F w T d.low _ v l S from h) hs hb fun i x' hi A hA hr=>hr.keep hH hs fun k hk=>hb k (hA k hk)
 |map T K agg V l=>
  obtain⟨b,es,clock,rfl,h1,h2,h3⟩:=h;exact⟨b,es,clock,rfl,(hb b rfl).trans h1,h2,h3.keep hH hs⟩
 |fdmap T K E r l=>exact cR.step (r:= .map K false (.slice r)) hs h
 |dmap T K E r l hh=>
  obtain⟨b,es,clock,B,rfl,h1,h2,h3,h4,h5⟩:=h;exact⟨b,es,clock,B,rfl,(hb b (h4.left b rfl)).trans h1,h2,h3.keep hs (fun a o u _ hu=>hH.val _ _ hu) fun k hk=>hb k (h4.right k hk),h4,fun a o e=>(h5 a o e).imp fun u hu=>hH.val _ _ hu⟩
theorem jV.of{v:Value}{T:TypeId}{r:Row}{l:List r.den}{S:Nat->Prop}(h:jn H F w S v (.own T r l))(hn:∀k,bw v k->¬F k):jV 0 F w T r v l:=⟨hn,h⟩
theorem jV.to{v:Value}{T:TypeId}{r:Row}{l:List r.den}(S:Nat->Prop)(h:jV 0 F w T r v l):jn H F w S v (.own T r l):=h.2
end
structure State where
 ak:List (Nat×aq)
 objs:List (Nat×(Nat×Th))
 nxt:Nat
def jD(H:ay)(n:Nat):Prop:=∀m,n<=m->H.val m=none/\H.con m=none
structure Sat(U:Nat->Prop)(H:ay)(F:Nat->Prop)(w:World)(ρ:Nat->Value)(st:State):Prop where
 slot:∀t d,find st.ak t=some d->al H F w d (ρ t)
 ob:az U H F w (find st.objs) st.nxt
 all:jD H st.nxt
structure eD where
 dst:aq
 eat:List Nat:=[]
 make:List (Nat×(Nat×Th)):=[]
def State.apply(st:State)(d:Option Nat)(e:eD):State:=
 {ak:=(match d with|some d=>(d,e.dst)::st.ak|none=>st.ak),objs:=e.make++del e.eat st.objs,nxt:=st.nxt+16}
def cE(H:ay)(ob:Nat->Option (Nat×Th))(eat:List Nat)(k:Nat):Prop:=∃o∈eat,∃s t v,ob o=some (s,t)/\H.val o=some v/\fp (H.sub s) v t k
structure Nq(H:ay)(F:Nat->Prop)(w:World)(H':ay)(F':Nat->Prop)(w':World)(g:Nat->Prop):Prop where
 jO:H.le H'
 ext:Ext g w w'
 le:∀b,F b->F' b
 grow:∀b,F' b->F b\/w.heap.size<=b\/g b
 lt:∀b,F' b->b<w'.heap.size
structure Made(H':ay)(F':Nat->Prop)(w w':World)(g:Nat->Prop)(make:List (Nat×(Nat×Th))):Prop where
 obj:∀o s t,find make o=some (s,t)->∃v,H'.val o=some v/\v.oneCell'=true/\H'.con s=some t.base/\jn H' F' w' (H'.sub s) v t/\∀k,fp (H'.sub s) v t k->¬F' k/\k<w'.heap.size/\(w.heap.size<=k\/g k)
 apart:∀o o' s s' t t' v v',o≠o'->find make o=some (s,t)->find make o'=some (s',t')->H'.val o=some v->H'.val o'=some v'->∀k,fp (H'.sub s) v t k->¬fp (H'.sub s') v' t' k
structure m6(H:ay)(F:Nat->Prop)(w:World)(ob:Nat->Option (Nat×Th))(n:Nat)(e:eD)(v:Value)(w':World)(H':ay)(F':Nat->Prop):Prop where
 mA:Nq H F w H' F' w' (cE H ob e.eat)
 fresh:∀m,(m<n\/n+16<=m)->(H.val m=none->H'.val m=none)/\(H.con m=none->H'.con m=none)
 dst:al H' F' w' e.dst v
 made:Made H' F' w w' (cE H ob e.eat) e.make
 ids:∀o,(find e.make o).isSome->o∈e.eat\/n<=o
def lH(H:ay)(F:Nat->Prop)(w:World)(ob:Nat->Option (Nat×Th))(n:Nat)(e:eD)(v:Value)(w':World):Prop:=∃H' F',m6 H F w ob n e v w' H' F'
def uW(ρ:Nat->Value):Option Nat->Value->Nat->Value
 |some d,v=>D5 ρ d v
 |none,_=>ρ
theorem pg(ρ:Nat->Value)(d:Nat)(v:Value)(t:Nat):D5 ρ d v t=if t=d then v else ρ t:=by
 unfold D5;by_cases h:t=d
 .subst h;simp
 .have:al4 t d=false:=by
   cases hb:al4 t d with
   |false=>rfl
   |true=>exact absurd (amN hb) h
  simp[this,h]
section
variable {U:Nat->Prop} {H H':ay} {F F':Nat->Prop} {w w':World} {ρ:Nat->Value} {st:State}
theorem Nq.step{g:Nat->Prop}(h:Nq H F w H' F' w' g)(hF:∀b,F b->b<w.heap.size)(hg:∀k,g k->¬F k):Step F w F' w':=
 fun b hb=>⟨h.le b hb,h.ext.block b (hF b hb) fun e=>hg b e hb⟩
theorem az.iR{ob:Nat->Option (Nat×Th)}{n:Nat}(h:az U H F w ob n){eat:List Nat}:∀k,cE H ob eat k->¬F k:=by
 rintro k ⟨o,_,s,t,v,h1,h2,h3⟩
 obtain⟨v',e,hi⟩:=h.obj o s t h1;rw[h2]at e;obtain rfl:=alU e;exact hi.no k h3
theorem az.vQ{ob:Nat->Option (Nat×Th)}{n:Nat}(h:az U H F w ob n){eat:List Nat}:∀k,cE H ob eat k->k<w.heap.size:=by
 rintro k ⟨o,_,s,t,v,h1,h2,h3⟩
 obtain⟨v',e,hi⟩:=h.obj o s t h1;rw[h2]at e;obtain rfl:=alU e;exact hi.lt k h3
theorem az.ir{ob:Nat->Option (Nat×Th)}{n:Nat}(h:az U H F w ob n){eat:List Nat}:∀k,cE H ob eat k->U k:=by
 rintro k ⟨o,_,s,t,v,h1,h2,h3⟩
 obtain⟨v',e,hi⟩:=h.obj o s t h1;rw[h2]at e;obtain rfl:=alU e;exact hi.use k h3
theorem HK.mA{ob:Nat->Option (Nat×Th)}{n:Nat}(hs:az U H F w ob n){eat:List Nat}(he:Nq H F w H' F' w' (cE H ob eat)){o s:Nat}{t:Th}{v:Value}(ho:ob o=some (s,t))(hn:o∉eat)(hv:H.val o=some v)(h:HK U H F w v s t):HK U H' F' w' v s t:=by
 have Eb:∀k,fp (H.sub s) v t k->¬cE H ob eat k:=by
  rintro k hk ⟨o',lD,s',t',v',h1,h2,h3⟩
  exact hs.apart o o' s s' t t' v v' (fun e=>hn (e▸lD)) ho h1 hv h2 k hk h3
 have gI:=he.jO.sub _ _ h.con;refine⟨h.one,he.jO.con _ _ h.con,by rw[gI];exact h.ok.heap he.jO (he.step hs.lt hs.iR) fun k hk=>he.ext.block k (h.lt k hk) (Eb k hk),fun k hk hF=>?_,fun k hk=>amI (h.lt k (by rwa [gI]at hk)) he.ext.size,fun k hk=>h.use k (by rwa [gI]at hk)⟩;rw[gI]at hk
 rcases he.grow k hF with h1|h1|h1
 .exact h.no k hk h1
 .have:=h.lt k hk;omega
 .exact Eb k hk h1
theorem az.KA{ob Nr KB:Nat->Option (Nat×Th)}{n n' m:Nat}{e:eD}{v:Value}(h:az U H F w ob n)(hR:∀o x,Nr o=some x->ob o=some x)(hp:m6 H F w Nr m e v w' H' F')
 (part:∀o s t,KB o=some (s,t)->find e.make o=some (s,t)\/(o∉e.eat/\ob o=some (s,t)/\find e.make o=none))(Bu:∀m,n'<=m->m<n'+16->H'.val m=none/\H'.con m=none):
 az U H' F' w' KB n':=by
 have vR:∀k,cE H Nr e.eat k->cE H ob e.eat k:=fun k ⟨o,ho,s,t,v,h1,h2⟩=>⟨o,ho,s,t,v,hR _ _ h1,h2⟩
 have Ub:Nq H F w H' F' w' (cE H ob e.eat):=⟨hp.mA.jO,⟨hp.mA.ext.os,hp.mA.ext.tape,hp.mA.ext.output,hp.mA.ext.size,fun k hk hn=>hp.mA.ext.block k hk fun hh=>hn (vR k hh)⟩,hp.mA.le,fun b hb=>(hp.mA.grow b hb).imp id fun h=>h.imp id (vR b),hp.mA.lt⟩
 have HL:∀o s t,o∉e.eat->ob o=some (s,t)->∃v,H.val o=some v/\H'.val o=some v/\HK U H' F' w' v s t/\H'.sub s=H.sub s/\∀k,fp (H'.sub s) v t k->k<w.heap.size/\¬cE H ob e.eat k:=by
  intro o s t ho hf;obtain⟨v,hv,hi⟩:=h.obj o s t hf;have gI:=hp.mA.jO.sub _ _ hi.con;refine⟨v,hv,hp.mA.jO.val _ _ hv,hi.mA h Ub hf ho hv,gI,fun k hk=>?_⟩;rw[gI]at hk;refine⟨hi.lt k hk,?_⟩
  rintro⟨o',lD,s',t',v',h1,h2,h3⟩
  exact h.apart o o' s s' t t' v v' (fun e=>ho (e▸lD)) hf h1 hv h2 k hk h3
 refine⟨fun o s t ho=>?_,fun o o' s s' t t' v v' bR ho lD hv dM k hk dZ=>?_,Bu,hp.mA.lt,fun b hb=>h.new b (Nat.le_trans hp.mA.ext.size hb),h.gl.step (Ub.step h.lt h.iR)⟩
 .rcases part o s t ho with h1|⟨h1,h2,_⟩
  .obtain⟨v,a1,a2,a3,a4,a5⟩:=hp.made.obj o s t h1;exact⟨v,a1,a2,a3,a4,fun k hk=>(a5 k hk).1,fun k hk=>(a5 k hk).2.1,fun k hk=>(a5 k hk).2.2.elim (h.new k) (fun hh=>h.ir k (vR k hh))⟩
  .obtain⟨v,_,a2,a3,_,_⟩:=HL o s t h1 h2;exact⟨v,a2,a3⟩
 .rcases part o s t ho with h1|⟨h1,h2,_⟩<;>rcases part o' s' t' lD with th|⟨th,Kz,_⟩
  .exact hp.made.apart o o' s s' t t' v v' bR h1 th hv dM k hk dZ
  .obtain⟨u,_,a1,_,_,a5⟩:=hp.made.obj o s t h1;obtain⟨u',_,b2,_,_,b4⟩:=HL o' s' t' th Kz;have e1:=alU (dM.symm.trans b2);subst e1;have e2:=alU (hv.symm.trans ‹H'.val o=some u›);subst e2
   rcases(a5 k hk).2.2 with h3|h3
   .have:=(b4 k dZ).1;omega
   .exact(b4 k dZ).2 (vR k h3)
  .obtain⟨u,_,a1,_,_,a5⟩:=hp.made.obj o' s' t' th;obtain⟨u',_,b2,_,_,b4⟩:=HL o s t h1 h2;have e1:=alU (hv.symm.trans b2);subst e1;have e2:=alU (dM.symm.trans ‹H'.val o'=some u›);subst e2
   rcases(a5 k dZ).2.2 with h3|h3
   .have:=(b4 k hk).1;omega
   .exact(b4 k hk).2 (vR k h3)
  .obtain⟨u,b1,b2,_,b5,_⟩:=HL o s t h1 h2;obtain⟨u',c1,c2,_,c5,_⟩:=HL o' s' t' th Kz;rw[b5]at hk;rw[c5]at dZ;have e1:=alU (hv.symm.trans b2);have e2:=alU (dM.symm.trans c2);subst e1;subst e2;exact h.apart o o' s s' t t' v v' bR h2 Kz b1 c1 k hk dZ
theorem Ec{objs:List (Nat×(Nat×Th))}{e:eD}:∀o s t,find (e.make++del e.eat objs) o=some (s,t)->find e.make o=some (s,t)\/(o∉e.eat/\find objs o=some (s,t)/\find e.make o=none):=by
 intro o s t ho;rw[iO]at ho
 cases hm:find e.make o with
 |some x=>rw[hm]at ho;exact .inl ho
 |none=>
  rw[hm,am8]at ho;obtain⟨h1,h2⟩:=iP.1 ho;exact .inr ⟨h1,h2,rfl⟩
theorem Sat.apply{d:Option Nat}{e:eD}{v:Value}(h:Sat U H F w ρ st)(hp:m6 H F w (find st.objs) st.nxt e v w' H' F'):Sat U H' F' w' (uW ρ d v) (st.apply d e):=by
 have hZ:jD H' (st.nxt+16):=fun m hm=>⟨(hp.fresh m (.inr hm)).1 (h.all m (by omega)).1,(hp.fresh m (.inr hm)).2 (h.all m (by omega)).2⟩
 refine⟨fun t q hq=>?_,h.ob.KA (fun _ _ h=>h) hp Ec fun m hm _=>hZ m hm,hZ⟩;have fi:=hp.mA.step h.ob.lt h.ob.iR
 cases d with
 |none=>exact(h.slot t q hq).keep hp.mA.jO fi
 |some d=>
  have nq:find ((d,e.dst)::st.ak) t=some q:=hq;rw[aG]at nq
  show al H' F' w' q (D5 ρ d v t)
  rw[pg];by_cases hd:d=t
  .rw[if_pos hd]at nq;rw[if_pos hd.symm];obtain rfl:=alU nq;exact hp.dst
  .rw[if_neg hd]at nq;rw[if_neg (Ne.symm hd)];exact(h.slot t q nq).keep hp.mA.jO fi
end
end Go.Proofs.YtmihpkfkbfgigaaGreatDoor
end
section
open _root_.BitVec renaming ofInt->anH
open _root_.Int renaming tdiv->amh,tmod->amy
open _root_.Nat renaming blt->amS,le_refl->alZ
open _root_.Option.some renaming inj->alU
namespace Go.Proofs.YtmihpkfkbfgigaaGreatDoor
open Go Go.RowKit
def cC(P:Program)(ρ:Nat->Value)(o:Oper)(w:World)(Q:Value->World->Prop):Prop:=
 match(execOp (ev ρ) o).run P w with
 | .ok (.value v) w'=>o.dst.isSome/\Q v w'
 | .ok .skip w'=>o.dst=none/\Q undef w'
 | .ok (.enter f args) w'=>Calls P f args w' fun e ur=>∃v,e= .returned v/\Q v ur
 |_=>False
section
variable {P:Program} {n:Nat} {ops:Array Oper} {K:(Nat->Value)->World->Prop} {rest:List Oper} {ρ:Nat->Value} {w:World}
variable {dst:Option Nat} {op:Op} {ty:TypeId} {pos:String} {aft:Array Edge} {Q:Value->World->Prop}
theorem cC.mono{o:Oper}{Q':Value->World->Prop}(h:cC P ρ o w Q)(hq:∀v w',Q v w'->Q' v w'):cC P ρ o w Q':=by
 unfold cC at*;generalize(execOp (ev ρ) o).run P w=r at*
 cases r with
 |halt x w'=>exact h
 |ok x w'=>
  cases x<;>first
   |exact h
   |exact⟨h.1,hq _ _ h.2⟩
   |exact h.mono fun e ur ⟨v,he,hv⟩=>⟨v,he,hq _ _ hv⟩
theorem cC.val{d:Nat}{v:Value}{w':World}(hr:(execOp (ev ρ) ⟨some d,op,ty,pos,aft,none⟩).run P w= .ok (.value v) w')(h:Q v w'):cC P ρ ⟨some d,op,ty,pos,aft,none⟩ w Q:=by
 unfold cC;rw[hr];exact⟨rfl,h⟩
theorem cC.unit{w':World}(hr:(execOp (ev ρ) ⟨none,op,ty,pos,aft,none⟩).run P w= .ok .skip w')(h:Q undef w'):cC P ρ ⟨none,op,ty,pos,aft,none⟩ w Q:=by
 unfold cC;rw[hr];exact⟨rfl,h⟩
theorem Bv(h:cC P ρ ⟨dst,op,ty,pos,aft,none⟩ w Q)(hd:∀d,dst=some d->amS d n=true)
 (hk:∀v w',Q v w'->wpS P n ops K rest (uW ρ dst v) w'):wpS P n ops K (⟨dst,op,ty,pos,aft,none⟩::rest) ρ w:=
 fun QQ a hf KC=>wpList_plain rfl fun K' hK=>by
  unfold Oper.wp;rw[hf.eval];unfold cC at h;generalize(execOp (ev ρ) ⟨dst,op,ty,pos,aft,none⟩).run P w=r at*
  have vS:∀v,Fr n (a.put dst v) (uW ρ dst v):=fun v=>by
   cases dst with
   |none=>exact hf
   |some d=>exact hf.put (hd d rfl) v
  cases r with
  |halt x w'=>exact h.elim
  |ok x w'=>
   cases x<;>first
    |exact h.elim
    |skip
   case value v=>exact hK _ _ (hk v w' h.2 QQ _ (vS v) KC)
   case skip=>exact hK _ _ (hk undef w' h.2 QQ _ (vS undef) KC)
   case enter f args=>
    refine h.mono fun e ur ⟨v,he,hv⟩=>?_
    subst he;exact hK _ _ (hk v ur hv QQ _ (vS v) KC)
end
inductive JR where
 |int (k:IntKind)
 |bool
 |str
 |slice (e:TypeId)
 |struct (fs:List (TypeId×Nat))
 |array (n:Nat) (e:TypeId)
 |map (k v:TypeId)
 |ptr (e:TypeId)
 |other
def yz(P:Program)(t:TypeId):JR->Prop
 | .int k=>P.underlying t=some (.int k)
 | .bool=>P.underlying t=some .bool
 | .str=>P.underlying t=some .string
 | .slice e=>P.underlying t=some (.slice e)
 | .struct fs=>∃arr:Array Field,P.underlying t=some (.struct arr)/\arr.toList.map (fun f=>(f.type,f.offset))=fs
 | .array n e=>P.underlying t=some (.array n e)
 | .map k v=>P.underlying t=some (.map k v)
 | .ptr e=>P.underlying t=some (.pointer e)
 | .other=>∃d,P.underlying t=some d/\kP d=false
def KD(P:Program)(t:TypeId)(agg:Bool)(r:Row):Prop:=∃z,(P.info? t).bind (·.zero)=some z/\z=(bif agg then .agg r.fl.toArray else r.fl.headD undef)
def qJ(P:Program)(t:TypeId)(name:String)(f:FuncId)(pr:Bool):Prop:=
 ((P.info? t).bind fun i=>i.methods.find? fun m=>m.name==name).map (fun m=>(m.path.toList.length,m.func))=some (0,some (f,pr))
structure bg(P:Program)where
 und:List (Nat×JR)
 row:List (Nat×Row)
 eqs:List (Nat×Row)
 zer:List (Nat×(Bool×Row))
 und_ok:∀t k,find und t=some k->yz P t k
 row_ok:∀t r,find row t=some r->TI P t r
 eqs_ok:∀t r,find eqs t=some r->∃K d,rR P t r K/\d+K=10000/\P.eqGuardType P.depth t=false/\(P.underlying t).any kP=true
 zer_ok:∀t agg r,find zer t=some (agg,r)->KD P t agg r
 mth:List (TypeId×(String×(FuncId×Bool)))
 mth_ok:∀p∈mth,qJ P p.1 p.2.1 p.2.2.1 p.2.2.2
def lE:JR->Bool
 | .struct _| .array _ _=>true
 |_=>false
theorem yz.agg{P:Program}{t:TypeId}{k:JR}(h:yz P t k):∃d,P.underlying t=some d/\kP d=lE k:=by
 cases k<;>first
  |exact⟨_,h,rfl⟩
  |(obtain⟨arr,h,_⟩:=h;exact⟨_,h,rfl⟩)
  |exact h
theorem ph{α:Type}{Q:Nat->α->Prop}{l:List (Nat×α)}(h:∀p∈l,Q p.1 p.2):∀t a,find l t=some a->Q t a:=by
 intro t a
 induction l with
 |nil=>intro h';cases h'
 |cons p l ih=>
  obtain⟨m,b⟩:=p;rw[aG];split
  .rename_i e;intro h';obtain rfl:=alU h';subst e;exact h (m,b) (by simp)
  .exact ih (fun q hq=>h q (by simp[hq]))
def Ed:Value->Option aq
 | .int k n=>some (.val false (.leaf (.int k) n))
 | .bool b=>some (.val false (.leaf .bool b))
 | .string s=>some (.val false (.leaf .str s))
 | .slice none 0 0=>some (.val false .nil)
 | .map none=>some (.val false (.leaf (.nul .map) ()))
 | .pointer none=>some (.val false (.leaf (.nul .ptr) ()))
 | .nilFunc=>some (.val false (.leaf (.nul .func) ()))
 | .nilIface=>some .dead
 |_=>none
def JT(ak:List (Nat×aq)):Operand->Option aq
 | .tmp t=>find ak t
 | .const v=>Ed v
 | .func f=>some (.fn f [])
 | .global g=>match find FT g with
   |some d=>some (.at d.1 d.2)
   |none=>none
theorem aM.nx{H:ay}{F:Nat->Prop}{w:World}{r:Row}{x:r.den}{v:Value}(h:cR F w r [v] x):aM H F w false (.leaf r x) v:=⟨[v],h,rfl,fun _=>rfl⟩
theorem HM{H:ay}{F:Nat->Prop}{w:World}{v:Value}{d:aq}(h:Ed v=some d):al H F w d v:=by
 unfold Ed at h
 split at h<;>first|cases h|skip
 .exact aM.nx rfl
 .exact aM.nx rfl
 .exact aM.nx rfl
 .exact⟨_,rfl,rfl,fun _=>rfl⟩
 .exact aM.nx rfl
 .exact aM.nx rfl
 .exact aM.nx rfl
 .trivial
theorem vT{H:ay}{F:Nat->Prop}{w:World}{ρ:Nat->Value}{ak:List (Nat×aq)}(hg:q7 F w)(h:∀t d,find ak t=some d->al H F w d (ρ t)):∀x d,JT ak x=some d->al H F w d (ev ρ x):=by
 intro x d hx
 cases x with
 |tmp t=>exact h t d hx
 |const v=>exact HM hx
 |global g=>
  have QV:(match find FT g with|some d=>some (aq.at d.1 d.2)|none=>none)=some d:=hx;split at QV
  .rename_i q hq;obtain rfl:=alU QV;obtain⟨h1,h2⟩:=hg g q hq;exact⟨g,0,rfl,h1,h2⟩
  .cases QV
 |func f=>obtain rfl:=alU hx;exact⟨[],rfl,rfl⟩
theorem aM.inv{H:ay}{F:Nat->Prop}{w:World}{r:Row}{x:r.den}{v:Value}(h:aM H F w false (.leaf r x) v):cR F w r [v] x:=by
 obtain⟨cs,h1,_,h3⟩:=h;rw[h3 rfl]at h1;exact h1
theorem aM.int{H:ay}{F:Nat->Prop}{w:World}{k:IntKind}{x:Int}{v:Value}(h:aM H F w false (.leaf (.int k) x) v):v= .int k x:=by
 have:=h.inv;simpa[cR]using this
theorem aM.bool{H:ay}{F:Nat->Prop}{w:World}{x:Bool}{v:Value}(h:aM H F w false (.leaf .bool x) v):v= .bool x:=by
 have:=h.inv;simpa[cR]using this
theorem aM.str{H:ay}{F:Nat->Prop}{w:World}{x:ByteArray}{v:Value}(h:aM H F w false (.leaf .str x) v):v= .string x:=by
 have:=h.inv;simpa[cR]using this
theorem aM.kE(H:ay)(F:Nat->Prop)(w:World)(k:IntKind)(x:Int):aM H F w false (.leaf (.int k) x) (.int k x):=aM.nx rfl
theorem aM.gN(H:ay)(F:Nat->Prop)(w:World)(x:Bool):aM H F w false (.leaf .bool x) (.bool x):=aM.nx rfl
theorem aM.mkStr(H:ay)(F:Nat->Prop)(w:World)(x:ByteArray):aM H F w false (.leaf .str x) (.string x):=aM.nx rfl
abbrev m7(k:IntKind)(x:Int):aq:= .val false (.leaf (.int k) x)
abbrev ec(x:Bool):aq:= .val false (.leaf .bool x)
abbrev Yf(x:ByteArray):aq:= .val false (.leaf .str x)
def asInt:aq->Option (IntKind×Int)
 | .val false (.leaf (.int k) x)=>some (k,x)
 |_=>none
def asBool:aq->Option Bool
 | .val false (.leaf .bool x)=>some x
 |_=>none
def Bw:aq->Option ByteArray
 | .val false (.leaf .str x)=>some x
 |_=>none
section
variable {P:Program} {ρ:Nat->Value} {w w':World} {H H':ay} {F F':Nat->Prop} {U:Nat->Prop} {ob:Nat->Option (Nat×Th)} {n:Nat} {R:Type}
variable {dst:Option Nat} {op:Op} {ty:TypeId} {pos:String} {aft:Array Edge} {d:Nat}
theorem iS{D:aq}{k:IntKind}{x:Int}{v:Value}(h:asInt D=some (k,x))(hd:al H F w D v):v= .int k x:=by
 unfold asInt at h
 split at h<;>cases h
 exact aM.int hd
theorem nZ{D:aq}{x:Bool}{v:Value}(h:asBool D=some x)(hd:al H F w D v):v= .bool x:=by
 unfold asBool at h
 split at h<;>cases h
 exact aM.bool hd
theorem vU{D:aq}{x:ByteArray}{v:Value}(h:Bw D=some x)(hd:al H F w D v):v= .string x:=by
 unfold Bw at h
 split at h<;>cases h
 exact aM.str hd
def cS(P:Program)(_U:Nat->Prop)(H:ay)(F:Nat->Prop)(w:World)(ρ:Nat->Value)(ob:Nat->Option (Nat×Th))(n:Nat)(o:Oper)(e:eD):Prop:=
 cC P ρ o w (lH H F w ob n e)
theorem Nq.refl{g:Nat->Prop}(hF:∀b,F b->b<w.heap.size):Nq H F w H F w g:=⟨ay.le.refl H,⟨rfl,rfl,rfl,alZ _,fun _ _ _=>rfl⟩,fun _ h=>h,fun _ h=> .inl h,hF⟩
theorem Made.nil{g:Nat->Prop}:Made H' F' w w' g []:=⟨fun _ _ _ h=>(by cases h),fun _ _ _ _ _ _ _ _ _ h=>(by cases h)⟩
theorem m6.pure(hs:az U H F w ob n){D:aq}{v:Value}(h:al H F w D v):lH H F w ob n {dst:=D} v w:=
 ⟨H,F,Nq.refl hs.lt,fun m hm=>⟨id,id⟩,h,Made.nil,fun o h=>by cases h⟩
theorem bX(hs:az U H F w ob n){D:aq}{v:Value}(hr:(execOp (ev ρ) ⟨some d,op,ty,pos,aft,none⟩).run P w= .ok (.value v) w)(h:al H F w D v):cS P U H F w ρ ob n ⟨some d,op,ty,pos,aft,none⟩ {dst:=D}:=
 cC.val hr (m6.pure hs h)
theorem aQ(hs:az U H F w ob n){D:aq}{v:Value}(hr:Pure P ρ ⟨some d,op,ty,pos,aft,none⟩ v)(h:al H F w D v):cS P U H F w ρ ob n ⟨some d,op,ty,pos,aft,none⟩ {dst:=D}:=
 bX hs (hr w) h
def fP(o:BinOp)(k:IntKind)(a b:Int):Int:=
 match o with
 | .and=>k.wrap (anH k.bits a&&& anH k.bits b).toNat
 | .or=>k.wrap (anH k.bits a|||anH k.bits b).toNat
 | .xor=>k.wrap (anH k.bits a ^^^ anH k.bits b).toNat
 |_=>k.wrap (anH k.bits a&&& ~~~anH k.bits b).toNat
def zO(k:IntKind)(a b:Int):Int:=k.wrap (a*2 ^ min b.toNat k.bits)
def gp(k:IntKind)(a b:Int):Int:=a.fdiv (2 ^ min b.toNat k.bits)
def HN(k:IntKind)(a b:Int):Option Int:=if b<0 then none else some (zO k a b)
def HO(k:IntKind)(a b:Int):Option Int:=if b<0 then none else some (gp k a b)
def arith:BinOp->IntKind->Int->Int->Option aq
 | .add,k,a,b=>some (m7 k (k.wrap (a+b)))
 | .sub,k,a,b=>some (m7 k (k.wrap (a-b)))
 | .mul,k,a,b=>some (m7 k (k.wrap (a*b)))
 | .lss,_,a,b=>some (ec (decide (a<b)))
 | .leq,_,a,b=>some (ec (decide (a<=b)))
 | .gtr,_,a,b=>some (ec (decide (b<a)))
 | .geq,_,a,b=>some (ec (decide (b<=a)))
 | .eql,_,a,b=>some (ec (decide (a=b)))
 | .neq,_,a,b=>some (ec (!decide (a=b)))
 | .and,k,a,b=>some (m7 k (fP .and k a b))
 | .or,k,a,b=>some (m7 k (fP .or k a b))
 | .xor,k,a,b=>some (m7 k (fP .xor k a b))
 | .andNot,k,a,b=>some (m7 k (fP .andNot k a b))
 |_,_,_,_=>none
theorem pure_and{k:IntKind}{a b:Int}{t u:TypeId}{x y:Operand}(hx:ev ρ x= .int k a)(hy:ev ρ y= .int k b):Pure P ρ ⟨some d, .binOp .and t x y u,ty,pos,aft,none⟩ (.int k (fP .and k a b)):=fun w=>by simp[execOp,hx,hy,binOp,Op.intBits,eqGuard,fP,go_sem]
theorem pure_or{k:IntKind}{a b:Int}{t u:TypeId}{x y:Operand}(hx:ev ρ x= .int k a)(hy:ev ρ y= .int k b):Pure P ρ ⟨some d, .binOp .or t x y u,ty,pos,aft,none⟩ (.int k (fP .or k a b)):=fun w=>by simp[execOp,hx,hy,binOp,Op.intBits,eqGuard,fP,go_sem]
theorem KE{k:IntKind}{a b:Int}{t u:TypeId}{x y:Operand}(hx:ev ρ x= .int k a)(hy:ev ρ y= .int k b):Pure P ρ ⟨some d, .binOp .xor t x y u,ty,pos,aft,none⟩ (.int k (fP .xor k a b)):=fun w=>by simp[execOp,hx,hy,binOp,Op.intBits,eqGuard,fP,go_sem]
theorem Bx{k:IntKind}{a b:Int}{t u:TypeId}{x y:Operand}(hx:ev ρ x= .int k a)(hy:ev ρ y= .int k b):Pure P ρ ⟨some d, .binOp .andNot t x y u,ty,pos,aft,none⟩ (.int k (fP .andNot k a b)):=fun w=>by simp[execOp,hx,hy,binOp,Op.intBits,eqGuard,fP,go_sem]
theorem By{k k':IntKind}{a b:Int}{t u:TypeId}{x y:Operand}(hx:ev ρ x= .int k a)(hy:ev ρ y= .int k' b)(hb:¬b<0):Pure P ρ ⟨some d, .binOp .shl t x y u,ty,pos,aft,none⟩ (.int k (zO k a b)):=fun w=>by simp[execOp,hx,hy,binOp,Op.shift,eqGuard,zO,hb,go_sem]
theorem Bz{k k':IntKind}{a b:Int}{t u:TypeId}{x y:Operand}(hx:ev ρ x= .int k a)(hy:ev ρ y= .int k' b)(hb:¬b<0):Pure P ρ ⟨some d, .binOp .shr t x y u,ty,pos,aft,none⟩ (.int k (gp k a b)):=fun w=>by simp[execOp,hx,hy,binOp,Op.shift,eqGuard,gp,hb,go_sem]
theorem KF{o:BinOp}{k:IntKind}{a b:Int}{D:aq}{t u:TypeId}{x y:Operand}(h:arith o k a b=some D)(hs:az U H F w ob n)(hx:ev ρ x= .int k a)(hy:ev ρ y= .int k b):
 cS P U H F w ρ ob n ⟨some d, .binOp o t x y u,ty,pos,aft,none⟩ {dst:=D}:=by
 unfold arith at h
 split at h<;>cases h
 .exact aQ hs (J9 hx hy) (aM.kE ..)
 .exact aQ hs (Ka hx hy) (aM.kE ..)
 .exact aQ hs (Kb hx hy) (aM.kE ..)
 .exact aQ hs (Ke hx hy) (aM.gN ..)
 .exact aQ hs (Kf hx hy) (aM.gN ..)
 .exact aQ hs (Kg hx hy) (aM.gN ..)
 .exact aQ hs (Kh hx hy) (aM.gN ..)
 .exact aQ hs (Ki hx hy) (aM.gN ..)
 .exact aQ hs (Kj hx hy) (aM.gN ..)
 .exact aQ hs (pure_and hx hy) (aM.kE ..)
 .exact aQ hs (pure_or hx hy) (aM.kE ..)
 .exact aQ hs (KE hx hy) (aM.kE ..)
 .exact aQ hs (Bx hx hy) (aM.kE ..)
def zP(a b:Int):Option Int:=if b=0 then none else some (amh a b)
def HP(a b:Int):Option Int:=if b=0 then none else some (amy a b)
def Uc:Operand->Bool
 | .const _=>true
 |_=>false
theorem KG{k:IntKind}{a b:Int}{t u:TypeId}{x y:Operand}(hb:b≠0)(hs:az U H F w ob n)(hx:ev ρ x= .int k a)(hy:ev ρ y= .int k b):
 cS P U H F w ρ ob n ⟨some d, .binOp .quo t x y u,ty,pos,aft,none⟩ {dst:=m7 k (k.wrap (amh a b))}:=
 aQ hs (Kc hx hy hb) (aM.kE ..)
theorem KH{k:IntKind}{a b:Int}{t u:TypeId}{x y:Operand}(hb:b≠0)(hs:az U H F w ob n)(hx:ev ρ x= .int k a)(hy:ev ρ y= .int k b):
 cS P U H F w ρ ob n ⟨some d, .binOp .rem t x y u,ty,pos,aft,none⟩ {dst:=m7 k (amy a b)}:=
 aQ hs (Kd hx hy hb) (aM.kE ..)
end
end Go.Proofs.YtmihpkfkbfgigaaGreatDoor
end
section
open _root_.Bool renaming and_eq_true->ani
open _root_.List renaming append_assoc->amk,append_nil->amK,drop_append_of_le_length->amG,drop_of_length_le->amC,length_append->alY,take_append_of_le_length->aml,take_length->amc
open _root_.Nat renaming beq->al4,eq_of_beq_eq_true->amN,zero_add->amo
open _root_.Option.some renaming inj->alU,injEq->al7
open _root_.Prod.mk renaming inj->ant,injEq->amZ
namespace Go.Proofs.YtmihpkfkbfgigaaGreatDoor
open Go Go.RowKit
def Tree.split:Tree->Option (Tree×Tree)
 | .leaf (.pair a b) x=>some (.leaf a x.1, .leaf b x.2)
 | .pair a b=>some (a,b)
 |_=>none
def Tree.get:Tree->List Bool->Option (Tree×Nat)
 |t,[]=>some (t,0)
 |t,d::p=>match t.split with
  |none=>none
  |some (a,b)=>match d with
   |false=>Tree.get a p
   |true=>match Tree.get b p with
    |none=>none
    |some (s,off)=>some (s,a.size+off)
def Tree.put:Tree->List Bool->Tree->Option Tree
 |_,[],u=>some u
 |t,d::p,u=>match t.split with
  |none=>none
  |some (a,b)=>match d with
   |false=>match Tree.put a p u with
    |none=>none
    |some a'=>some (.pair a' b)
   |true=>match Tree.put b p u with
    |none=>none
    |some b'=>some (.pair a b')
def rX:Nat->Nat->List Bool
 |0,_=>[]
 |1,_=>[]
 |_+2,0=>[false]
 |m+2,f+1=>true::rX (m+1) f
section
variable {H:ay} {F:Nat->Prop} {w:World}
theorem Holds.split{t a b:Tree}{cs:List Value}(hs:t.split=some (a,b))(h:Holds H F w t cs):∃c1 c2,cs=c1++c2/\Holds H F w a c1/\Holds H F w b c2/\t.size=a.size+b.size:=by
 unfold Tree.split at hs
 split at hs<;>cases hs
 .obtain⟨c1,c2,e,h1,h2⟩:=h;exact⟨c1,c2,e,h1,h2,rfl⟩
 .obtain⟨c1,c2,e,h1,h2⟩:=h;exact⟨c1,c2,e,h1,h2,rfl⟩
theorem Holds.get:{p:List Bool}->{t s:Tree}->{off:Nat}->{cs:List Value}->t.get p=some (s,off)->Holds H F w t cs->Holds H F w s ((cs.drop off).take s.size)/\off+s.size<=cs.length
 |[],t,s,off,cs,hg,h=>by
  obtain⟨rfl,rfl⟩:=ant (alU hg);have hl:=h.length;refine⟨?_,by omega⟩;rw[List.drop_zero,<-hl,amc];exact h
 |d::p,t,s,off,cs,hg,h=>by
  unfold Tree.get at hg
  cases sV:t.split with
  |none=>rw[sV]at hg;cases hg
  |some ab=>
   obtain⟨a,b⟩:=ab;rw[sV]at hg;obtain⟨c1,c2,rfl,h1,h2,_⟩:=h.split sV;have JU:=h1.length
   cases d with
   |false=>
    obtain⟨g1,g2⟩:=Holds.get hg h1;refine⟨?_,by rw[alY];omega⟩;rw[amG (by omega),aml (by rw[List.length_drop];omega)];exact g1
   |true=>
    cases hb:b.get p with
    |none=>simp only[hb]at hg;cases hg
    |some so=>
     obtain⟨s',dV⟩:=so;simp only[hb,al7,amZ]at hg;obtain⟨rfl,rfl⟩:=hg;obtain⟨g1,g2⟩:=Holds.get hb h2;refine⟨?_,by rw[alY];omega⟩;rw[<-JU,List.drop_append,amC (by omega),List.nil_append,show c1.length+dV-c1.length=dV from by omega];exact g1
theorem Holds.put{u:Tree}{vs:List Value}(hu:Holds H F w u vs):{p:List Bool}->{t s t':Tree}->{off:Nat}->{cs:List Value}->t.get p=some (s,off)->t.put p u=some t'->s.size=u.size->Holds H F w t cs->
 Holds H F w t' (cs.take off++vs++cs.drop (off+u.size))
 |[],t,s,t',off,cs,hg,hp,hz,h=>by
  obtain⟨rfl,rfl⟩:=ant (alU hg);obtain rfl:=alU hp;have hl:=h.length;rw[List.take_zero,List.nil_append,amo,amC (by omega),amK];exact hu
 |d::p,t,s,t',off,cs,hg,hp,hz,h=>by
  unfold Tree.get at hg;unfold Tree.put at hp
  cases sV:t.split with
  |none=>rw[sV]at hg;cases hg
  |some ab=>
   obtain⟨a,b⟩:=ab;rw[sV]at hg hp;obtain⟨c1,c2,rfl,h1,h2,_⟩:=h.split sV;have JU:=h1.length
   cases d with
   |false=>
    cases hq:a.put p u with
    |none=>simp only[hq]at hp;cases hp
    |some a'=>
     simp only[hq,al7]at hp;subst hp;have h3:=Holds.put hu hg hq hz h1;have g2:=(Holds.get hg h1).2;refine⟨_,c2,?_,h3,h2⟩;rw[aml (by omega),amG (by omega)];simp[amk]
   |true=>
    cases hb:b.get p with
    |none=>simp only[hb]at hg;cases hg
    |some so=>
     obtain⟨s',dV⟩:=so;simp only[hb,al7,amZ]at hg;obtain⟨rfl,rfl⟩:=hg
     cases hq:b.put p u with
     |none=>simp only[hq]at hp;cases hp
     |some b'=>
      simp only[hq,al7]at hp;subst hp;have h3:=Holds.put hu hb hq hz h2;refine⟨c1,_,?_,h1,h3⟩
      rw[<-JU,List.take_append,List.take_of_length_le (by omega),List.drop_append,amC (by omega),show c1.length+dV-c1.length=dV from by omega,
       show c1.length+dV+u.size-c1.length=dV+u.size from by omega]
      simp[amk]
end
def JO.beq:JO->JO->Bool
 | .map, .map=>true
 | .ptr, .ptr=>true
 | .func, .func=>true
 |_,_=>false
theorem JO.eq_of_beq{a b:JO}(h:a.beq b=true):a=b:=by cases a<;>cases b<;>first|rfl|cases h
def Row.beq:Row->Row->Bool
 | .int k, .int k'=>decide (k=k')
 | .bool, .bool=>true
 | .str, .str=>true
 | .kD, .kD=>true
 | .nul a, .nul b=>a.beq b
 | .map a x b, .map c y d=>a.beq c&&(bif x then y else !y)&&b.beq d
 | .slice a, .slice b=>a.beq b
 | .pair a b, .pair c d=>a.beq c&&b.beq d
 |_,_=>false
theorem Row.eq_of_beq:{r s:Row}->r.beq s=true->r=s
 | .int k, .int k',h=>by rw[of_decide_eq_true (show decide (k=k')=true from h)]
 | .bool, .bool,_=>rfl
 | .str, .str,_=>rfl
 | .kD, .kD,_=>rfl
 | .nul a, .nul b,h=>by rw[JO.eq_of_beq (show a.beq b=true from h)]
 | .map a x b, .map c y d,h=>by
   have h':(a.beq c&&(bif x then y else !y)&&b.beq d)=true:=h;rw[ani,ani]at h'
   have xR:x=y:=by cases x<;>cases y<;>simp_all
   rw[Row.eq_of_beq h'.1.1,Row.eq_of_beq h'.2,xR]
 | .slice a, .slice b,h=>by rw[Row.eq_of_beq (show a.beq b=true from h)]
 | .pair a b, .pair c d,h=>by
   have h':(a.beq c&&b.beq d)=true:=h;rw[ani]at h';rw[Row.eq_of_beq h'.1,Row.eq_of_beq h'.2]
def jB{r s:Row}(h:r=s)(x:r.den):s.den:=h▸x
theorem Row.beq_refl:(r:Row)->r.beq r=true
 | .int k=>by simp[Row.beq]
 | .bool=>rfl
 | .str=>rfl
 | .kD=>rfl
 | .nul a=>by cases a<;>rfl
 | .map a x b=>by
   show(a.beq a&&(bif x then x else !x)&&b.beq b)=true
   rw[Row.beq_refl a,Row.beq_refl b]
   cases x<;>rfl
 | .slice a=>Row.beq_refl a
 | .pair a b=>by
   show(a.beq a&&b.beq b)=true
   rw[Row.beq_refl a,Row.beq_refl b];rfl
def DR.beq:DR->DR->Bool
 | .leaf r, .leaf s=>r.beq s
 | .sl T d, .sl T' d'=>al4 T T'&&d.beq d'
 | .pair a b, .pair c d=>a.beq c&&b.beq d
 |_,_=>false
theorem DR.eq_of_beq:{d e:DR}->d.beq e=true->d=e
 | .leaf r, .leaf s,h=>by rw[Row.eq_of_beq (show r.beq s=true from h)]
 | .sl T d, .sl T' d',h=>by
   obtain⟨h1,h2⟩:=(ani _ _▸(show(al4 T T'&&d.beq d')=true from h):al4 T T'=true/\d.beq d'=true)
   rw[amN h1,DR.eq_of_beq h2]
 | .pair a b, .pair c d,h=>by
   obtain⟨h1,h2⟩:=(ani _ _▸(show(a.beq c&&b.beq d)=true from h):a.beq c=true/\b.beq d=true)
   rw[DR.eq_of_beq h1,DR.eq_of_beq h2]
 | .leaf _, .sl ..,h=>by cases h
 | .leaf _, .pair ..,h=>by cases h
 | .sl .., .leaf _,h=>by cases h
 | .sl .., .pair ..,h=>by cases h
 | .pair .., .leaf _,h=>by cases h
 | .pair .., .sl ..,h=>by cases h
theorem DR.beq_refl:(d:DR)->d.beq d=true
 | .leaf r=>Row.beq_refl r
 | .sl T d=>by show(al4 T T&&d.beq d)=true;rw[DR.beq_refl d,Bool.and_true];exact Nat.beq_refl T
 | .pair a b=>by show(a.beq a&&b.beq b)=true;rw[DR.beq_refl a,DR.beq_refl b];rfl
def oD:List Bool->List Bool->Bool
 |[],[]=>true
 |a::p,b::q=>(bif a then b else !b)&&oD p q
 |_,_=>false
theorem q8:{p q:List Bool}->oD p q=true->p=q
 |[],[],_=>rfl
 |a::p,b::q,h=>by
  have h':((bif a then b else !b)&&oD p q)=true:=h;rw[ani]at h';rw[q8 h'.2];have:=h'.1
  cases a<;>cases b<;>simp_all
 |[],_::_,h=>by cases h
 |_::_,[],h=>by cases h
def flat(ob:Nat->Option (Nat×Th)):(r:Row)->Tree->Option r.den
 |r, .leaf s x=>if h:s.beq r=true then some (jB (Row.eq_of_beq h) x)else none
 | .slice e, .own o=>match ob o with
   |some (_, .td _ s l)=>if h:s.beq e=true then some (jB (r:= .slice s) (s:= .slice e) (congrArg Row.slice (Row.eq_of_beq h)) l)else none
   |some (_, .fdeep _ d l)=>if h:d.row.beq e=true then some (jB (r:= .slice d.row) (s:= .slice e) (congrArg Row.slice (Row.eq_of_beq h)) l)else none
   |_=>none
 | .slice _, .nil=>some []
 | .map K agg V, .own o=>match ob o with
   |some (_, .fmap _ K' me V' l)=>if h:(Row.map K' me V').beq (.map K agg V)=true then some (jB (Row.eq_of_beq h) l)else none
   |some (_, .fdmap _ K' _ r' l)=>if h:(Row.map K' false (.slice r')).beq (.map K agg V)=true then some (jB (r:= .map K' false (.slice r')) (Row.eq_of_beq h) l)else none
   |_=>none
 | .slice e, .view o s r m=>match ob o with
   |some (s', .td ..)=>bif al4 s' s then(if h:r.beq e=true then some (jB (r:= .slice r) (s:= .slice e) (congrArg Row.slice (Row.eq_of_beq h)) m)else none)else none
   |_=>none
 | .pair a b, .pair t u=>match flat ob a t with
   |none=>none
   |some x=>match flat ob b u with
    |none=>none
    |some y=>some (x,y)
 |_,_=>none
section
variable {U:Nat->Prop} {H:ay} {F:Nat->Prop} {w:World} {ob:Nat->Option (Nat×Th)} {n:Nat}
theorem yA(hs:az U H F w ob n){o s:Nat}{T:TypeId}{r0 r:Row}{l0:List r0.den}{m:List r.den}{v:Value}(ho:ob o=some (s, .td T r0 l0))(h:mz H o s r m v):cR F w (.slice r) [v] m:=by
 obtain⟨A,cap,T',l,a,b,h1,h2,h3,h4,rfl,rfl⟩:=h;obtain⟨v',dM,cx⟩:=hs.obj _ _ _ ho;rw[h1]at dM;obtain rfl:=alU dM;have e:=cx.con;rw[h2]at e;simp only[Th.base,al7,Th.own.injEq]at e;obtain⟨rfl,rfl,e⟩:=e;obtain rfl:=eq_of_heq e;exact cR.cut cx.ok h3 h4
theorem jo(hs:az U H F w ob n):{r:Row}->{t:Tree}->{x:r.den}->{cs:List Value}->flat ob r t=some x->Holds H F w t cs->cR F w r cs x
 |r, .leaf s x0,x,cs,hf,h=>by
  unfold flat at hf;split at hf
  .rename_i e;obtain rfl:=Row.eq_of_beq e;obtain rfl:=alU hf;exact h
  .cases hf
 | .slice e, .own o,x,cs,hf,h=>by
   unfold flat at hf;split at hf
   .rename_i s0 T s l xV;split at hf
    .rename_i e;obtain rfl:=Row.eq_of_beq e;obtain rfl:=alU hf;obtain⟨v,hv,_,rfl⟩:=h;obtain⟨v',dM,cx⟩:=hs.obj _ _ _ xV;rw[hv]at dM;obtain rfl:=alU dM;exact cx.ok
    .cases hf
   .rename_i s0 T d l xV;split at hf
    .rename_i e;obtain rfl:=Row.eq_of_beq e;obtain rfl:=alU hf;obtain⟨v,hv,_,rfl⟩:=h;obtain⟨v',dM,cx⟩:=hs.obj _ _ _ xV;rw[hv]at dM;obtain rfl:=alU dM;exact cx.ok
    .cases hf
   .cases hf
 | .map K agg V, .own o,x,cs,hf,h=>by
   unfold flat at hf;split at hf
   .rename_i s0 T K' me V' l xV;split at hf
    .rename_i e;cases Row.eq_of_beq e;obtain rfl:=alU hf;obtain⟨v,hv,_,rfl⟩:=h;obtain⟨v',dM,cx⟩:=hs.obj _ _ _ xV;rw[hv]at dM;obtain rfl:=alU dM;exact cx.ok
    .cases hf
   .rename_i s0 T K' E r' l xV;split at hf
    .rename_i e;cases Row.eq_of_beq e;obtain rfl:=alU hf;obtain⟨v,hv,_,rfl⟩:=h;obtain⟨v',dM,cx⟩:=hs.obj _ _ _ xV;rw[hv]at dM;obtain rfl:=alU dM;exact cx.ok
    .cases hf
   .cases hf
 | .slice e, .nil,x,cs,hf,h=>by
   unfold flat at hf;obtain rfl:=alU hf;rw[show cs=_ from h];exact cR.nil F w e
 | .slice e, .view o s r m,x,cs,hf,h=>by
   unfold flat at hf;split at hf
   .rename_i s' T r' l' xV
    cases hb:al4 s' s with
    |false=>rw[hb]at hf;cases hf
    |true=>
     rw[hb,cond_true]at hf;obtain rfl:=amN hb;split at hf
     .rename_i e;obtain rfl:=Row.eq_of_beq e;obtain rfl:=alU hf;obtain⟨v,rfl,h⟩:=h;exact yA hs xV h
     .cases hf
   .cases hf
 | .pair a b, .pair t u,x,cs,hf,h=>by
   obtain⟨c1,c2,rfl,h1,h2⟩:=h;unfold flat at hf
   cases ha:flat ob a t with
   |none=>simp only[ha]at hf;cases hf
   |some p=>
    cases hb:flat ob b u with
    |none=>simp only[ha,hb]at hf;cases hf
    |some q=>
     simp only[ha,hb,al7]at hf;subst hf;exact⟨c1,c2,rfl,jo hs ha h1,jo hs hb h2⟩
 | .int _, .own _,_,_,hf,_=>by unfold flat at hf;cases hf
 | .bool, .own _,_,_,hf,_=>by unfold flat at hf;cases hf
 | .str, .own _,_,_,hf,_=>by unfold flat at hf;cases hf
 | .kD, .own _,_,_,hf,_=>by unfold flat at hf;cases hf
 | .nul _, .own _,_,_,hf,_=>by unfold flat at hf;cases hf
 | .pair _ _, .own _,_,_,hf,_=>by unfold flat at hf;cases hf
 | .int _, .nil,_,_,hf,_=>by unfold flat at hf;cases hf
 | .bool, .nil,_,_,hf,_=>by unfold flat at hf;cases hf
 | .str, .nil,_,_,hf,_=>by unfold flat at hf;cases hf
 | .kD, .nil,_,_,hf,_=>by unfold flat at hf;cases hf
 | .nul _, .nil,_,_,hf,_=>by unfold flat at hf;cases hf
 | .map .., .nil,_,_,hf,_=>by unfold flat at hf;cases hf
 | .pair _ _, .nil,_,_,hf,_=>by unfold flat at hf;cases hf
 | .int _, .view ..,_,_,hf,_=>by unfold flat at hf;cases hf
 | .bool, .view ..,_,_,hf,_=>by unfold flat at hf;cases hf
 | .str, .view ..,_,_,hf,_=>by unfold flat at hf;cases hf
 | .kD, .view ..,_,_,hf,_=>by unfold flat at hf;cases hf
 | .nul _, .view ..,_,_,hf,_=>by unfold flat at hf;cases hf
 | .map .., .view ..,_,_,hf,_=>by unfold flat at hf;cases hf
 | .pair _ _, .view ..,_,_,hf,_=>by unfold flat at hf;cases hf
 | .int _, .junk _,_,_,hf,_=>by unfold flat at hf;cases hf
 | .bool, .junk _,_,_,hf,_=>by unfold flat at hf;cases hf
 | .str, .junk _,_,_,hf,_=>by unfold flat at hf;cases hf
 | .slice _, .junk _,_,_,hf,_=>by unfold flat at hf;cases hf
 | .kD, .junk _,_,_,hf,_=>by unfold flat at hf;cases hf
 | .nul _, .junk _,_,_,hf,_=>by unfold flat at hf;cases hf
 | .map .., .junk _,_,_,hf,_=>by unfold flat at hf;cases hf
 | .pair _ _, .junk _,_,_,hf,_=>by unfold flat at hf;cases hf
 | .int _, .pair _ _,_,_,hf,_=>by unfold flat at hf;cases hf
 | .bool, .pair _ _,_,_,hf,_=>by unfold flat at hf;cases hf
 | .str, .pair _ _,_,_,hf,_=>by unfold flat at hf;cases hf
 | .kD, .pair _ _,_,_,hf,_=>by unfold flat at hf;cases hf
 | .nul _, .pair _ _,_,_,hf,_=>by unfold flat at hf;cases hf
 | .map .., .pair _ _,_,_,hf,_=>by unfold flat at hf;cases hf
 | .slice _, .pair _ _,_,_,hf,_=>by unfold flat at hf;cases hf
end
def Row.BA:Row->Tree
 | .slice _=> .nil
 | .pair a b=> .pair a.BA b.BA
 |r=> .leaf r r.zero
theorem Row.ny(H:ay)(F:Nat->Prop)(w:World):(r:Row)->Holds H F w r.BA r.fl
 | .int _=>rfl
 | .bool=>rfl
 | .str=>rfl
 | .slice _=>rfl
 | .kD=>⟨rfl,none,0,0,rfl⟩
 | .nul _=>rfl
 | .map .. =>⟨_,rfl, .inl ⟨rfl,rfl⟩⟩
 | .pair a b=>⟨_,_,rfl,Row.ny H F w a,Row.ny H F w b⟩
end Go.Proofs.YtmihpkfkbfgigaaGreatDoor
end
section
open _root_.Go.Addr.mk renaming injEq->anx
open _root_.Array renaming toArray_toList->amL
open _root_.Int renaming toNat_natCast->al1
open _root_.List renaming getElem?_drop->ami,getElem?_map->amD,getElem?_take->amv
open _root_.Nat renaming add_assoc->am3,add_mul->amW,add_zero->am0,beq->al4,blt->amS,eq_of_beq_eq_true->amN,le_refl->alZ,lt_of_lt_of_le->amI
open _root_.Option renaming isSome_iff_exists->amA
open _root_.Option.some renaming inj->alU,injEq->al7
open _root_.Prod.mk renaming inj->ant,injEq->amZ
open _root_.Go.Value renaming oneCell'->ann
open _root_.Go.Value.pointer renaming injEq->anO
namespace Go.Proofs.YtmihpkfkbfgigaaGreatDoor
open Go Go.RowKit
section
variable {P:Program} {ρ:Nat->Value} {w w':World} {H H':ay} {F F':Nat->Prop} {U:Nat->Prop} {ob:Nat->Option (Nat×Th)} {n:Nat} {R:Type}
variable {op:Op} {ty:TypeId} {pos:String} {aft:Array Edge} {d:Nat}
theorem az.box(hs:az U H F w ob n){o s:Nat}{T:TypeId}{t:Tree}(ho:ob o=some (s, .box T t)){b:Nat}(hb:H.val o=some (.pointer (some ⟨b,0,none⟩))):
 ∃es,w.heap[b]? =some (.cells es.toArray T (0,0))/\Holds H F w t es:=by
 obtain⟨v,hv,hi⟩:=hs.obj _ _ _ ho;rw[hb]at hv;obtain rfl:=alU hv;obtain⟨b',es,e,h1,h2⟩:=hi.ok;simp only[anO,al7,anx,and_true]at e;subst e;exact⟨es,h1,h2⟩
theorem az.own(hs:az U H F w ob n){o s:Nat}{T:TypeId}{r:Row}{l:List r.den}(ho:ob o=some (s, .own T r l)){v:Value}(hv:H.val o=some v):jV 0 F w T r v l:=by
 obtain⟨v',dM,hi⟩:=hs.obj _ _ _ ho;rw[hv]at dM;obtain rfl:=alU dM;exact⟨hi.no,hi.ok⟩
theorem BB{fs:List (TypeId×Nat)}{arr:Array Field}(ha:arr.toList.map (fun f=>(f.type,f.offset))=fs){f:Nat}{ft:TypeId}{off:Nat}(hf:fs[f]? =some (ft,off)):∃fd,arr[f]? =some fd/\fd.type=ft/\fd.offset=off:=by
 subst ha;rw[amD]at hf
 cases hq:arr.toList[f]? with
 |none=>rw[hq]at hf;cases hf
 |some fd=>
  rw[hq]at hf;simp only[Option.map_some,al7,amZ]at hf;exact⟨fd,by rw[<-Array.getElem?_toList];exact hq,hf.1,hf.2⟩
def sub(r:Row)(x:r.den)(p:List Bool):Option ((s:Row)×s.den×Nat):=
 match Tree.get (.leaf r x) p with
 |some (.leaf s y,off)=>some ⟨s,y,off⟩
 |_=>none
theorem Ee{r s:Row}{x:r.den}{y:s.den}{p:List Bool}{off b k:Nat}(h:sub r x p=some ⟨s,y,off⟩)(ha:At F w r b k x):At F w s b (k+off) y:=by
 unfold sub at h;split at h
 .rename_i s' y' dV hg;simp only[al7,Sigma.mk.injEq]at h;obtain⟨rfl,h⟩:=h;obtain⟨rfl,rfl⟩:=ant (eq_of_heq h);obtain⟨es,hl,hc,hr⟩:=ha;obtain⟨g1,g2⟩:=Holds.get (H:=⟨fun _=>none,fun _=>none,fun _ _=>False⟩) (F:=F) (w:=w) (cs:=es) hg hr;have Ud:cR F w s' ((es.drop dV).take s'.size) y':=g1;refine⟨_,Ud.length,fun j u hu=>?_,Ud⟩;rw[amv]at hu;split at hu
  .rw[ami]at hu;rw[am3];exact hc _ u hu
  .cases hu
 .cases h
def Ef(T:bg P)(t:TypeId)(f:Nat)(D:aq):Option aq:=
 match find T.und t with
 |some (.struct fs)=>match fs[f]? with
  |some (ft,off)=>match find T.row ft with
   |some _=>match D with
    | .ptr o p k=>some (.ptr o (p++rX fs.length f) (k+off))
    | .at r x=>match sub r x (rX fs.length f)with
      |some ⟨s,y,dV⟩=>bif al4 dV off then some (.at s y)else none
      |none=>none
    | .elem o s r i x p k=>some (.elem o s r i x (p++rX fs.length f) (k+off))
    | .dlm o d i p k=>some (.dlm o d i (p++rX fs.length f) (k+off))
    |_=>none
   |none=>none
  |none=>none
 |_=>none
theorem beq_true{m k:Nat}(h:al4 m k=true):m=k:=amN h
theorem m8{α:Type}{b:Bool}{x:α}{y:α}(h:(bif b then some x else none)=some y):b=true/\x=y:=by
 cases b with
 |true=>exact⟨rfl,alU h⟩
 |false=>cases h
theorem HQ(T:bg P){t:TypeId}{f:Nat}{D D':aq}{x:Operand}(h:Ef T t f D=some D')(hs:az U H F w ob n)(hx:al H F w D (ev ρ x)):
 cS P U H F w ρ ob n ⟨some d, .fieldAddr t x f,ty,pos,aft,none⟩ {dst:=D'}:=by
 unfold Ef at h;split at h
 case h_2=>cases h
 rename_i fs hu;obtain⟨arr,DO,NW⟩:=T.und_ok _ _ hu;split at h
 case h_2=>cases h
 rename_i ft off hf;obtain⟨fd,Tu,rfl,rfl⟩:=BB NW hf;split at h
 case h_2=>cases h
 rename_i r' p6;have vV:=T.row_ok _ _ p6;split at h
 .obtain rfl:=alU h;obtain⟨b,h1,h2⟩:=hx;exact aQ hs (nv (r:=r') fd.offset DO Tu vV rfl h2) ⟨b,h1,rfl⟩
 .split at h
  .rename_i s y dV gI;obtain⟨h1,rfl⟩:=m8 h;obtain rfl:=beq_true h1;obtain⟨b,k,h2,h3,h4⟩:=hx;exact aQ hs (nv (r:=r') fd.offset DO Tu vV rfl h2) ⟨b,_,rfl,h3,Ee gI h4⟩
  .cases h
 .obtain rfl:=alU h;obtain⟨g,o0,q,T',m,cap,l,h1,h2,h3,h4,h5⟩:=hx;exact aQ hs (nv (r:=r') fd.offset DO Tu vV rfl h5) ⟨g,o0,q,T',m,cap,l,h1,h2,h3,h4,by rw[am3]⟩
 .obtain rfl:=alU h;obtain⟨g,o0,q,m,cap,h1,h2,h5⟩:=hx;exact aQ hs (nv (r:=r') fd.offset DO Tu vV rfl h5) ⟨g,o0,q,m,cap,h1,h2,by rw[am3]⟩
 .cases h
theorem cR.elemAt{r:Row}{v:Value}{l:List r.den}(h:cR F w (.slice r) [v] l){i:Int}{y:r.den}(hi:idx l i=some y):
 ∃b off cap k,v= .slice (some ⟨b,off,none⟩) l.length cap/\i=(k:Nat)/\k<l.length/\F b/\At F w r b (off+k*r.size) y:=by
 obtain⟨A,cap,hv,_,_,h4⟩:=h;obtain⟨k,hk,aj,rfl⟩:=gx hi;obtain⟨b,off,es,rfl,hF,rN,hc,hr⟩:=h4 k aj;exact⟨b,off,cap,k,by simpa using hv,hk,aj,hF,es,rN,hc,hr⟩
inductive KI where
 |read (r:Row) (l:List r.den)
 |own (o s:Nat) (T:TypeId) (r:Row) (l:List r.den)
 |nil
 |view (o s:Nat) (r:Row) (l:List r.den)
 |deep (o s:Nat) (T:TypeId) (d:DR) (l:List d.row.den) (h:Option vP)
def uX(ob:Nat->Option (Nat×Th)):aq->Option KI
 | .val false (.leaf (.slice r) l)=>some (.read r l)
 | .val false .nil=>some .nil
 | .val false (.own o)=>match ob o with
   |some (s, .own T r l)=>some (.own o s T r l)
   |some (_, .td _ r l)=>some (.read r l)
   |some (_, .fdeep _ d l)=>some (.read d.row l)
   |some (s, .deep T d l h)=>some (.deep o s T d l h)
   |_=>none
 | .val false (.view o s r m)=>match ob o with
   |some (s', .td ..)=>bif al4 s' s then some (.read r m)else some (.view o s r m)
   |_=>some (.view o s r m)
 |_=>none
def NX(U:Nat->Prop)(H:ay)(F:Nat->Prop)(w:World)(ob:Nat->Option (Nat×Th))(v:Value):KI->Prop
 | .read r l=>cR F w (.slice r) [v] l
 | .own o s T r l=>H.val o=some v/\ob o=some (s, .own T r l)/\jV 0 F w T r v l
 | .nil=>v= .slice none 0 0
 | .view o s r m=>mz H o s r m v
 | .deep o s T d l h=>H.val o=some v/\ob o=some (s, .deep T d l h)/\HK U H F w v s (.deep T d l h)
theorem jq(hs:az U H F w ob n){D:aq}{k:KI}{v:Value}(h:uX ob D=some k)(hd:al H F w D v):NX U H F w ob v k:=by
 unfold uX at h;split at h
 .cases h;exact aM.inv hd
 .cases h;obtain⟨cs,h1,_,h3⟩:=hd;have th:cs=_:=h1;rw[h3 rfl]at th;simpa[NX]using th
 .rename_i o;obtain⟨cs,⟨u,hu,DO,e⟩,_,h3⟩:=hd;rw[h3 rfl]at e
  obtain rfl:v=u:=by simpa using e
  split at h
  .rename_i s T r l xV;cases h;exact⟨hu,xV,hs.own xV hu⟩
  .rename_i s T r l xV;cases h;obtain⟨v',dM,hi⟩:=hs.obj _ _ _ xV;rw[hu]at dM;obtain rfl:=alU dM;exact hi.ok
  .rename_i s T d l xV;cases h;obtain⟨v',dM,hi⟩:=hs.obj _ _ _ xV;rw[hu]at dM;obtain rfl:=alU dM;exact hi.ok
  .rename_i s T d l h' xV;cases h;obtain⟨v',dM,hi⟩:=hs.obj _ _ _ xV;rw[hu]at dM;obtain rfl:=alU dM;exact⟨hu,xV,hi⟩
  .cases h
 .rename_i o s r m;obtain⟨cs,⟨u,e,hu⟩,_,h3⟩:=hd;rw[h3 rfl]at e
  obtain rfl:v=u:=by simpa using e
  split at h
  .rename_i s' T r' l' xV
   cases hb:al4 s' s with
   |false=>rw[hb]at h;cases h;exact hu
   |true=>
    rw[hb]at h;obtain rfl:=amN hb;cases h;exact yA hs xV hu
  .cases h;exact hu
 .cases h
def mB:Nat->(r:Row)->r.den->(e:Row)->Option (List e.den)
 |1,r,x,e=>if h:r.beq e=true then some [jB (Row.eq_of_beq h) x]else none
 |m+2, .pair a b,x,e=>if h:a.beq e=true then(match mB (m+1) b x.2 e with
  |some l=>some (jB (Row.eq_of_beq h) x.1::l)
  |none=>none)else none
 |_,_,_,_=>none
theorem FU{e:Row}{b:Nat}:{m:Nat}->{r:Row}->{x:r.den}->{l:List e.den}->{off:Nat}->mB m r x e=some l->At F w r b off x->l.length=m/\∀i(h:i<l.length),At F w e b (off+i*e.size) l[i]
 |0,r,x,l,off,h,_=>by unfold mB at h;cases h
 |1,r,x,l,off,h,ha=>by
  unfold mB at h;split at h
  case isFalse=>cases h
  rename_i hb;obtain rfl:=Row.eq_of_beq hb;obtain rfl:=alU h;refine⟨rfl,fun i hi=>?_⟩
  obtain rfl:i=0:=by simp at hi;omega
  rw[Nat.zero_mul,am0];exact ha
 |m+2, .pair a b',x,l,off,h,ha=>by
  unfold mB at h;split at h
  case isFalse=>cases h
  rename_i hb;obtain rfl:=Row.eq_of_beq hb;split at h
  case h_2=>cases h
  rename_i l' hl;obtain rfl:=alU h;obtain⟨g1,g2⟩:=FU hl (ha.snd _ rfl);refine⟨by simp[g1],fun i hi=>?_⟩
  cases i with
  |zero=>
   rw[Nat.zero_mul,am0];exact ha.fst
  |succ i=>
   have:=g2 i (by simpa using hi);rw[show off+(i+1)*a.size=off+a.size+i*a.size from by rw[amW];omega];exact this
 |m+2, .int _,_,_,_,h,_=>by unfold mB at h;cases h
 |m+2, .bool,_,_,_,h,_=>by unfold mB at h;cases h
 |m+2, .str,_,_,_,h,_=>by unfold mB at h;cases h
 |m+2, .slice _,_,_,_,h,_=>by unfold mB at h;cases h
 |m+2, .kD,_,_,_,h,_=>by unfold mB at h;cases h
 |m+2, .nul _,_,_,_,h,_=>by unfold mB at h;cases h
 |m+2, .map ..,_,_,_,h,_=>by unfold mB at h;cases h
theorem qK{t e:TypeId}{x y:Operand}{kd:IntKind}{a:Int}{ti:TypeInfo}{m pd off i:Nat}(size:Nat)(ht:P.underlying t=some (.array m e))(hi:P.info? e=some ti)(mE:ti.size=size)
 (hx:ev ρ x= .pointer (some ⟨pd,off,none⟩))(hy:ev ρ y= .int kd a)(ha:a=(i:Int))(aj:i<m):
 Pure P ρ ⟨some d, .indexAddr t x y,ty,pos,aft,none⟩ (.pointer (some ⟨pd,off+i*size,none⟩)):=fun w=>by
 subst mE;subst ha;simp[execOp,Instr.indexAt,Instr.sureAddr,asIntOf,run_underlying ht,sizeOf,typeInfo,hi,hx,hy,aj,cX]
theorem FV{α:Type}{b:Bool}{x:Option α}{y:α}(h:(bif b then x else none)=some y):b=true/\x=some y:=by
 cases b with
 |true=>exact⟨rfl,h⟩
 |false=>cases h
def p7(T:bg P)(m:Nat)(e:TypeId)(D:aq)(i:Int)(k:eD->Option R):Option R:=
 match find T.row e with
 |some re=>match D with
  | .at r x=>match mB m r x re with
    |some l=>(idx l i).bind fun y=>k {dst:= .at re y}
    |none=>none
  | .ptr o p off=>match i with
    | .ofNat j=>bif amS j m then k {dst:= .ptr o (p++rX m j) (off+j*re.size)}else none
    | .negSucc _=>none
  |_=>none
 |none=>none
theorem Eg(T:bg P){t:TypeId}{m:Nat}{e:TypeId}(hu:P.underlying t=some (.array m e)){D:aq}{x y:Operand}{kd:IntKind}{i:Int}{k:eD->Option R}{q:R}(h:p7 T m e D i k=some q)(hs:az U H F w ob n)(hx:al H F w D (ev ρ x))(hy:ev ρ y= .int kd i):
 ∃e,k e=some q/\cS P U H F w ρ ob n ⟨some d, .indexAddr t x y,ty,pos,aft,none⟩ e:=by
 unfold p7 at h;split at h
 case h_2=>cases h
 rename_i re hr;obtain⟨ti,z,h1,_,_,h4,_⟩:=T.row_ok _ _ hr;split at h
 case h_3=>cases h
 case h_2=>
  split at h
  case h_2=>cases h
  rename_i o p off _ j;obtain⟨aj,hk⟩:=FV h
  have aj:j<m:=by simpa using aj
  obtain⟨b,hb,hv⟩:=hx;exact⟨_,hk,aQ hs (qK re.size hu h1 h4 hv hy rfl aj) ⟨b,hb,rfl⟩⟩
 rename_i r v;split at h
 case h_2=>cases h
 rename_i l hl;obtain⟨a,ha,hk⟩:=bind_some h;obtain⟨b,off,hv,hF,oS⟩:=hx;obtain⟨g1,g2⟩:=FU hl oS;obtain⟨j,hj,aj,rfl⟩:=gx ha;exact⟨_,hk,aQ hs (qK re.size hu h1 h4 hv hy hj (by omega)) ⟨b,_,rfl,hF,g2 j aj⟩⟩
def tj(T:bg P)(ob:Nat->Option (Nat×Th))(t:TypeId)(D:aq)(i:Int)(k:eD->Option R):Option R:=
 match find T.und t with
 |some (.slice e)=>match find T.row e with
  |some re=>match uX ob D with
   |some (.read r l)=>bif al4 r.size re.size then(idx l i).bind fun x=>k {dst:= .at r x}else none
   |some (.own o s _ r l)=>bif al4 r.size re.size then(idx l i).bind fun x=>k {dst:= .elem o s r i x [] 0}else none
   |some (.deep o _ _ d l _)=>bif al4 d.low.size re.size then(idx l i).bind fun _=>k {dst:= .dlm o d i [] 0}else none
   |_=>none
  |none=>none
 |some (.array m e)=>p7 T m e D i k
 |_=>none
theorem HR(T:bg P){t:TypeId}{D:aq}{x y:Operand}{kd:IntKind}{i:Int}{k:eD->Option R}{q:R}(h:tj T ob t D i k=some q)(hs:az U H F w ob n)(hx:al H F w D (ev ρ x))(hy:ev ρ y= .int kd i):
 ∃e,k e=some q/\cS P U H F w ρ ob n ⟨some d, .indexAddr t x y,ty,pos,aft,none⟩ e:=by
 unfold tj at h;split at h
 case h_3=>cases h
 case h_2=>rename_i m e hu;exact Eg T (T.und_ok _ _ hu) h hs hx hy
 rename_i e hu;have hu:=T.und_ok _ _ hu;split at h
 case h_2=>cases h
 rename_i re hr;obtain⟨ti,z,h1,_,_,h4,_⟩:=T.row_ok _ _ hr;split at h
 .rename_i r l gJ
  cases hz:al4 r.size re.size with
  |false=>rw[hz]at h;cases h
  |true=>
   rw[hz,cond_true]at h;have hz:=beq_true hz;obtain⟨a,ha,hk⟩:=bind_some h;have gJ:=jq hs gJ hx;obtain⟨b,off,cap,j,hv,hj,aj,hF,oS⟩:=cR.elemAt gJ ha;refine⟨_,hk,aQ hs (mZ r.size hu h1 (h4.trans hz.symm) hv hy hj aj) ⟨b,_,rfl,hF,oS⟩⟩
 .rename_i o s T' r l gJ
  cases hz:al4 r.size re.size with
  |false=>rw[hz]at h;cases h
  |true=>
   rw[hz,cond_true]at h;have hz:=beq_true hz;obtain⟨a,ha,hk⟩:=bind_some h;obtain⟨hv,dh,eW⟩:=jq hs gJ hx;obtain⟨v',dM,cx⟩:=hs.obj _ _ _ dh;obtain⟨j,hj,aj,hja⟩:=gx ha;obtain⟨_,xs,Kq,_⟩:=eW
   rcases Kq.2 with⟨HS,h0⟩|⟨g,o0,cap,cur,zQ,_,_,_⟩
   .omega
   .have hp:=mZ (P:=P) (d:=some d) (ty:=ty) (pos:=pos) (aft:=aft) r.size hu h1 (h4.trans hz.symm) zQ hy hj aj;refine⟨_,hk,aQ hs hp ⟨g,o0,j,T',l.length,cap,l,?_,hj,cx.con,ha,rfl⟩⟩;rw[<-zQ];exact hv
 .rename_i o s T' d' l hh gJ;obtain⟨hz,h⟩:=FV h;have hz:=beq_true hz;obtain⟨a,ha,hk⟩:=bind_some h;obtain⟨hv,dh,cx⟩:=jq hs gJ hx;obtain⟨j,hj,aj,hja⟩:=gx ha;obtain⟨lh,_,⟨xs,Kq,_⟩,Bh,_⟩:=cx.ok
  rcases Kq.2 with⟨HS,h0⟩|⟨g,o0,cap,cur,zQ,_,_,_⟩
  .omega
  .have hp:=mZ (P:=P) (d:=some d) (ty:=ty) (pos:=pos) (aft:=aft) d'.low.size hu h1 (h4.trans hz.symm) zQ hy hj (by omega);refine⟨_,hk,aQ hs hp ⟨g,o0,j,lh.length,cap,?_,hj,rfl⟩⟩;rw[<-zQ];exact hv
 .cases h
theorem vW{b:Nat}{T:TypeId}{es:List Value}(hh:w.heap[b]? =some (.cells es.toArray T (0,0)))(j:Nat):w.cell? ⟨b,j,none⟩=es[j]? :=by
 rw[cell_of_row w b j _ T (0,0) hh];simp
theorem n4(T:bg P){t:TypeId}{kk:JR}(hu:find T.und t=some kk){x:Operand}{b off:Nat}{s:Tree}{cs:List Value}(hx:ev ρ x= .pointer (some ⟨b,off,none⟩))(hs:az U H F w ob n)
 (hh:Holds H F w s cs)(hc:∀j u,cs[j]? =some u->w.cell? ⟨b,off+j,none⟩=some u)
 (hz:if lE kk=true then∃r,find T.row t=some r/\r.size=s.size else s.size=1):
 cS P U H F w ρ ob n ⟨some d, .load t x,ty,pos,aft,none⟩ {dst:= .val (lE kk) s}:=by
 obtain⟨dd,xT,yy⟩:=(T.und_ok _ _ hu).agg;have hl:=hh.length
 cases ha:lE kk with
 |true=>
  rw[if_pos ha]at hz;obtain⟨r,hr,JV⟩:=hz;obtain⟨ti,z,h1,_,_,h4,_⟩:=T.row_ok _ _ hr;exact bX hs (Hz xT (yy.trans ha) h1 (by omega) hx hc) ⟨cs,hh,rfl,by simp⟩
 |false=>
  rw[if_neg (by simp[ha])]at hz
  obtain⟨v,rfl⟩:∃v,cs=[v]:=by
   match cs,hl.trans hz with
   |[v],_=>exact⟨v,rfl⟩
  exact bX hs (yu xT (yy.trans ha) hx (hc 0 v rfl)) ⟨[v],hh,rfl,fun _=>rfl⟩
def m9(T:bg P)(t:TypeId)(kk:JR)(m:Nat):Bool:=
 bif lE kk then(match find T.row t with|some r=>al4 r.size m|none=>false)else al4 m 1
theorem kF(T:bg P){t:TypeId}{kk:JR}{m:Nat}(h:m9 T t kk m=true):if lE kk=true then∃r,find T.row t=some r/\r.size=m else m=1:=by
 unfold m9 at h
 cases ha:lE kk with
 |true=>
  rw[ha,cond_true]at h;rw[if_pos rfl];split at h
  .rename_i r hr;exact⟨r,hr,beq_true h⟩
  .cases h
 |false=>
  rw[ha,cond_false]at h;rw[if_neg (by simp)];exact beq_true h
def yB(T:bg P)(ob:Nat->Option (Nat×Th))(t:TypeId)(D:aq)(k:eD->Option R):Option R:=
 match find T.und t with
 |none=>none
 |some kk=>match D with
  | .at r x=>bif m9 T t kk r.size then k {dst:= .val (lE kk) (.leaf r x)}else none
  | .ptr o p off=>match ob o with
    |some (_, .box _ tr)=>match tr.get p with
     |some (s,dV)=>bif al4 dV off&&m9 T t kk s.size then k {dst:= .val (lE kk) s}else none
     |none=>none
    |_=>none
  | .elem o s r i x p off=>match ob o with
    |some (s', .own _ r' l)=>bif al4 s' s then
      (match sub r x p with
      |some ⟨q,y,dV⟩=>bif al4 dV off&&m9 T t kk q.size then k {dst:= .val (lE kk) (.leaf q y)}else none
      |none=>none)
     else(idx l i).bind fun x'=>match sub r' x' p with
      |some ⟨q,y,dV⟩=>bif al4 dV off&&m9 T t kk q.size&&al4 r'.size r.size then k {dst:= .val (lE kk) (.leaf q y)}else none
      |none=>none
    |_=>none
  |_=>none
theorem aK{α:Type}{b:Bool}{x:Option α}{y:α}(h:(bif b then x else none)=some y):b=true/\x=some y:=by
 cases b with
 |true=>exact⟨rfl,h⟩
 |false=>cases h
theorem di{a b:Bool}(h:(a&&b)=true):a=true/\b=true:=by simpa using h
theorem FW(hs:az U H F w ob n){o s':Nat}{T':TypeId}{r':Row}{i:Int}{x':r'.den}{l:List r'.den}{g o0 q m cap:Nat}(dh:ob o=some (s', .own T' r' l))(hv:H.val o=some (.slice (some ⟨g,o0,none⟩) m cap))(hq:i=(q:Nat))(hi:idx l i=some x'):
 At F w r' g (o0+q*r'.size) x':=(hs.own dh hv).at rfl hq hi
theorem KJ(T:bg P){t:TypeId}{D:aq}{x:Operand}{k:eD->Option R}{q:R}(h:yB T ob t D k=some q)(hs:az U H F w ob n)(hx:al H F w D (ev ρ x)):
 ∃e,k e=some q/\cS P U H F w ρ ob n ⟨some d, .load t x,ty,pos,aft,none⟩ e:=by
 unfold yB at h;split at h
 .cases h
 rename_i kk hu;split at h
 .rename_i r y;obtain⟨h1,h2⟩:=aK h;obtain⟨b,off,e,hF,es,hl,hc,hr⟩:=hx;exact⟨_,h2,n4 T hu e hs (s:= .leaf r y) hr hc (kF T h1)⟩
 .rename_i o p off;split at h
  .rename_i st0 T0 tr dh;split at h
   .rename_i s dV hg;obtain⟨h1,h2⟩:=aK h;obtain⟨h1,h3⟩:=di h1;obtain rfl:=beq_true h1;obtain⟨b,hb,e⟩:=hx;obtain⟨es,hh,P5⟩:=hs.box dh hb;obtain⟨g1,g2⟩:=P5.get hg;refine⟨_,h2,n4 T hu e hs g1 (fun j u hj=>?_) (kF T h3)⟩;rw[vW hh];rw[amv]at hj;split at hj
    .rwa [ami]at hj
    .cases hj
   .cases h
  .cases h
 .rename_i o s r i y p off;split at h
  .rename_i s' T0 r' l dh;obtain⟨g,o0,qq,T',m,cap,l0,e1,e2,e3,e4,e5⟩:=hx
   cases rM:al4 s' s with
   |true=>
    rw[rM,cond_true]at h;obtain rfl:=beq_true rM;obtain⟨v,hv,cx⟩:=hs.obj _ _ _ dh;have hc:=cx.con;rw[e3]at hc
    obtain⟨rfl,vj⟩:T'=T0/\(⟨r,l0⟩:(r:Row)×List r.den)=⟨r',l⟩:=by
     have:=alU hc;simp only[Th.base,Th.own.injEq]at this;obtain⟨a,b,c⟩:=this;subst b;exact⟨a,by rw[eq_of_heq c]⟩
    cases vj;split at h
    .rename_i q' y' dV gI;obtain⟨h1,h2⟩:=aK h;obtain⟨h1,h3⟩:=di h1;obtain rfl:=beq_true h1;obtain⟨es,hl,NY,hr⟩:=Ee gI (FW hs dh e1 e2 e4);exact⟨_,h2,n4 T hu e5 hs (s:= .leaf q' y') hr NY (kF T h3)⟩
    .cases h
   |false=>
    rw[rM,cond_false]at h;obtain⟨x',QV,h⟩:=bind_some h;split at h
    .rename_i q' y' dV gI;obtain⟨h1,h2⟩:=aK h;obtain⟨h1,h4⟩:=di h1;obtain⟨h1,h3⟩:=di h1;obtain rfl:=beq_true h1;have h4:=beq_true h4;obtain⟨es,hl,NY,hr⟩:=Ee gI (FW hs dh e1 e2 QV);rw[h4]at NY;exact⟨_,h2,n4 T hu e5 hs (s:= .leaf q' y') hr NY (kF T h3)⟩
    .cases h
  .cases h
 .cases h
end
end Go.Proofs.YtmihpkfkbfgigaaGreatDoor
namespace Go.Proofs.YtmihpkfkbfgigaaGreatDoor
open Go Go.RowKit
def Eh:(r:Row)->List Bool->Option ((s:Row)×Path r s)
 |r,[]=>some ⟨r, .here⟩
 | .pair a b,d::p=>match d with
   |false=>match Eh a p with
    |some ⟨s,q⟩=>some ⟨s, .fst q⟩
    |none=>none
   |true=>match Eh b p with
    |some ⟨s,q⟩=>some ⟨s, .snd q⟩
    |none=>none
 |_,_::_=>none
section
variable {P:Program} {ρ:Nat->Value} {w w':World} {H H':ay} {F F':Nat->Prop} {U:Nat->Prop} {ob:Nat->Option (Nat×Th)} {n:Nat} {R:Type}
variable {op:Op} {ty:TypeId} {pos:String} {aft:Array Edge} {d:Nat}
def ay.bN(H:ay)(s:Nat)(t:Th):ay:=⟨H.val,fun m=>if m=s then some t else H.con m,H.sub⟩
def ay.dj(H:ay)(o:Nat)(v:Value):ay:=⟨fun m=>if m=o then some v else H.val m,H.con,H.sub⟩
def ay.fK(H:ay)(s:Nat)(S:Nat->Prop):ay:=⟨H.val,H.con,fun m=>if m=s then S else H.sub m⟩
theorem ay.jr{H:ay}{s:Nat}{t:Th}(h:H.con s=none):H.le (H.bN s t):=⟨fun _ _ h=>h,fun m q hq=>by
 by_cases e:m=s
 .subst e;rw[h]at hq;cases hq
 .simp[ay.bN,e,hq],fun _ _ _=>rfl⟩
theorem ay.HT{H:ay}{s:Nat}{S:Nat->Prop}(h:H.con s=none):H.le (H.fK s S):=⟨fun _ _ h=>h,fun _ _ h=>h,fun m t hm=>by
 have:m≠s:=fun e=>by rw[e,h]at hm;cases hm
 simp[ay.fK,this]⟩
theorem ay.p8{H:ay}{s:Nat}{t:Value}(h:H.val s=none):H.le (H.dj s t):=⟨fun m q hq=>by
 by_cases e:m=s
 .subst e;rw[h]at hq;cases hq
 .simp[ay.dj,e,hq],fun _ _ h=>h,fun _ _ _=>rfl⟩
theorem b9{α:Type}{o o':Nat}{x y:α}(h:find [(o,x)] o'=some y):o'=o/\y=x:=by
 rw[aG]at h;split at h
 .rename_i e;exact⟨e.symm,(alU h).symm⟩
 .cases h
theorem m6.zR(hs:az U H F w ob n){o s:Nat}{t t':Th}{v0:Value}(ho:ob o=some (s,t))(hv:H.val o=some v0)(hb:t'.base=t')(KK:∀k,fp (H.sub n) v0 t' k->fp (H.sub s) v0 t k){D:aq}{v:Value}
 (b7:Ext (fp (H.sub s) v0 t) w w')(nX:jn (H.bN n t') F w' (H.sub n) v0 t')(hd:al (H.bN n t') F w' D v):lH H F w ob n {dst:=D,eat:=[o],make:=[(o,(n,t'))]} v w':=by
 obtain⟨v1,vo,cx⟩:=hs.obj _ _ _ ho;rw[hv]at vo;obtain rfl:=alU vo
 have lF:∀k,fp (H.sub s) v0 t k->cE H ob [o] k:=fun k hk=>⟨o,by simp,s,t,v0,ho,hv,hk⟩
 refine⟨H.bN n t',F,⟨ay.jr (hs.fresh n (alZ _) (by omega)).2,⟨b7.os,b7.tape,b7.output,b7.size,fun k hk hn=>b7.block k hk fun e=>hn (lF k e)⟩,fun _ h=>h,fun _ h=> .inl h,fun b hb=>amI (hs.lt b hb) b7.size⟩,fun m hm=>?_,hd,⟨fun o' s' q hq=>?_,fun o1 o2 s1 s2 q1 q2 u1 u2 bR h1 h2=>?_⟩,fun o' h=>?_⟩
 .refine⟨id,fun h=>?_⟩;simp[ay.bN,show m≠n from by omega,h]
 .obtain⟨rfl,e⟩:=b9 hq;obtain⟨rfl,rfl⟩:=ant e;refine⟨v0,hv,cx.one,by simp[ay.bN,hb],nX,fun k hk=>⟨cx.no k (KK k hk),amI (cx.lt k (KK k hk)) b7.size, .inr (lF k (KK k hk))⟩⟩
 .exact absurd ((b9 h1).1.trans (b9 h2).1.symm) bR
 .left
  obtain⟨y,hy⟩:=amA.1 h;rw[(b9 hy).1];simp
theorem m6.new(hs:az U H F w ob n){eat:List Nat}{t:Th}{v0:Value}(hb:t.base=t)(h1:v0.oneCell'=true){D:aq}{v:Value}
 (b7:Ext (cE H ob eat) w w')(nX:jn ((H.bN n t).dj n v0) F w' (H.sub n) v0 t)(KK:∀k,fp (H.sub n) v0 t k->¬F k/\k<w'.heap.size/\(w.heap.size<=k\/cE H ob eat k))
 (hd:al ((H.bN n t).dj n v0) F w' D v):lH H F w ob n {dst:=D,eat:=eat,make:=[(n,(n,t))]} v w':=by
 have hf:=hs.fresh n (alZ _) (by omega);refine⟨(H.bN n t).dj n v0,F,⟨(ay.jr hf.2).trans (ay.p8 (by simp[ay.bN,hf.1])),b7,fun _ h=>h,fun _ h=> .inl h,fun b hb=>amI (hs.lt b hb) b7.size⟩,fun m hm=>?_,hd,⟨fun o' s' q hq=>?_,fun o1 o2 s1 s2 q1 q2 u1 u2 bR h1 h2=>?_⟩,fun o' h=>?_⟩
 .simp[ay.bN,ay.dj,show m≠n from by omega]
 .obtain⟨rfl,e⟩:=b9 hq;obtain⟨rfl,rfl⟩:=ant e;exact⟨v0,by simp[ay.dj],h1,by simp[ay.bN,ay.dj,hb],nX,KK⟩
 .exact absurd ((b9 h1).1.trans (b9 h2).1.symm) bR
 .right
  obtain⟨y,hy⟩:=amA.1 h;rw[(b9 hy).1];exact alZ _
def tl(T:bg P)(ob:Nat->Option (Nat×Th))(n:Nat)(t:TypeId)(D V:aq)(k:eD->Option R):Option R:=
 match find T.row t with
 |none=>none
 |some rt=>match V with
  | .val _ u=>match D with
    | .ptr o p off=>match ob o with
      |some (_, .box T0 tr)=>match tr.get p with
       |some (s,dV)=>bif al4 dV off&&al4 rt.size s.size&&al4 u.size s.size then
         (match tr.put p u with
         |some Xq=>k {dst:= .dead,eat:=[o],make:=[(o,(n, .box T0 Xq))]}
         |none=>none)else none
       |none=>none
      |_=>none
    | .elem o s r i x p off=>match ob o with
      |some (s', .own T0 r' l)=>match Eh r' p with
       |some ⟨q,yC⟩=>bif al4 yC.off off&&al4 rt.size q.size&&al4 r'.size r.size then
         (match flat ob q u with
         |some y=>bif al4 s' s then
           (if h:r.beq r'=true then k {dst:= .dead,eat:=[o],make:=[(o,(n, .own T0 r' (aH l i (yC.set (jB (Row.eq_of_beq h) x) y))))]}else none)
          else(idx l i).bind fun x'=>k {dst:= .dead,eat:=[o],make:=[(o,(n, .own T0 r' (aH l i (yC.set x' y))))]}
         |none=>none)else none
       |none=>none
      |_=>none
    |_=>none
  |_=>none
theorem aM.cells{agg:Bool}{t:Tree}{v:Value}(h:aM H F w agg t v):∃cs,Holds H F w t cs/\v.cells.toList=cs:=by
 obtain⟨cs,h1,h2,h3⟩:=h;refine⟨cs,h1,?_⟩
 cases agg with
 |true=>rw[h2];rfl
 |false=>
  have e:=h3 rfl;have h1c:=h1.jU v (by rw[e];simp);rw[e]
  cases v<;>first|rfl|simp[ann]at h1c
theorem vX(T:bg P){t:TypeId}{rt:Row}(FX:find T.row t=some rt){x y:Operand}{o s':Nat}{T0:TypeId}{r q:Row}{i:Int}{x':r.den}{z:q.den}{l:List r.den}{p:Path r q}{off g o0 j m cap:Nat}{agg:Bool}{u:Tree}
 (hs:az U H F w ob n)(dh:ob o=some (s', .own T0 r l))(hv:H.val o=some (.slice (some ⟨g,o0,none⟩) m cap))(hj:i=(j:Nat))(hi:idx l i=some x')(hx:ev ρ x= .pointer (some ⟨g,o0+j*r.size+off,none⟩))(KM:p.off=off)(hz:rt.size=q.size)
 (hf:flat ob q u=some z)(hV:aM H F w agg u (ev ρ y)):
 cS P U H F w ρ ob n ⟨none, .store t x y,ty,pos,aft,none⟩ {dst:= .dead,eat:=[o],make:=[(o,(n, .own T0 r (aH l i (p.set x' z))))]}:=by
 obtain⟨ti,z0,h1,_,_,h4,_⟩:=T.row_ok _ _ FX;obtain⟨cs,rO,yD⟩:=hV.cells;have hr:=jo hs hf rO;have eW:=hs.own dh hv;obtain⟨k',hk,aj,rfl⟩:=gx hi
 obtain rfl:k'=j:=by omega
 obtain⟨cur,hh,hle,b7,jN⟩:=eW.put rfl aj hs.lt p hr;subst KM;refine cC.unit (oz h1 (h4.trans (hz.trans hr.length.symm)) hx rfl yD hr.jU hh hle) ?_;refine m6.zR (t':= .own T0 r (aH l i (p.set l[k'] z))) (D:= .dead) hs dh hv rfl (fun _ h=>h) b7 ?_ trivial;have:jn (H.bN n (.own T0 r (aH l i (p.set l[k'] z)))) F (w.setRow g (cur.toList.take (o0+k'*r.size+p.off)++cs++cur.toList.drop (o0+k'*r.size+p.off+cs.length)).toArray) (H.sub n) (.slice (some ⟨g,o0,none⟩) m cap) (.own T0 r (l.set k' (p.set l[k'] z))):=jN.2;unfold aH;rw[hk,al1];exact this
theorem HU(T:bg P){t:TypeId}{D V:aq}{x y:Operand}{k:eD->Option R}{q:R}(h:tl T ob n t D V k=some q)(hs:az U H F w ob n)(hx:al H F w D (ev ρ x))(hy:al H F w V (ev ρ y)):
 ∃e,k e=some q/\cS P U H F w ρ ob n ⟨none, .store t x y,ty,pos,aft,none⟩ e:=by
 unfold tl at h;split at h
 .cases h
 rename_i rt FX;split at h
 case h_2=>cases h
 rename_i agg u;split at h
 .rename_i o p off;split at h
  case h_2=>cases h
  rename_i s0 T0 tr dh;split at h
  case h_2=>cases h
  rename_i s dV hg;obtain⟨h1,h2⟩:=aK h;obtain⟨h1,DP⟩:=di h1;obtain⟨h1,xW⟩:=di h1;obtain rfl:=beq_true h1;have xW:=beq_true xW;have DP:=beq_true DP;split at h2
  case h_2=>cases h2
  rename_i Xq hp;obtain⟨b,hb,e⟩:=hx;obtain⟨es,hh,P5⟩:=hs.box dh hb;obtain⟨cs,rO,yD⟩:=aM.cells hy;have hl:=rO.length;have hle:=(P5.get hg).2;have vS:=Holds.put rO hg hp DP.symm P5;obtain⟨ti,z0,g1,_,_,g4,_⟩:=T.row_ok _ _ FX;refine⟨_,h2,cC.unit (oz g1 (by omega) e rfl yD rO.jU hh (by simp;omega)) ?_⟩
  have P6:¬F b:=by
   obtain⟨v1,vo,cx⟩:=hs.obj _ _ _ dh;rw[hb]at vo;obtain rfl:=alU vo;exact cx.no b rfl
  have b7:Ext (fp (H.sub s0) (.pointer (some ⟨b,0,none⟩)) (.box T0 tr)) w (w.setRow b (es.toArray.toList.take dV++cs++es.toArray.toList.drop (dV+cs.length)).toArray):=
   ⟨rfl,rfl,rfl,by simp,fun k _ hk=>setRow_other w b k _ fun e=>hk (by simp[fp,e])⟩
  refine m6.zR (t':= .box T0 Xq) (D:= .dead) hs dh hb rfl (fun k hk=>hk) b7 ⟨b,_,rfl,setRow_heap w b _ _ T0 (0,0) hh,?_⟩ trivial
  have hk:=vS.keep (H':=H.bN n (.box T0 Xq)) (ay.jr (hs.fresh n (alZ _) (by omega)).2) (Step.ext b7 hs.lt fun k hk=>by
   simp only[fp,anO,al7,anx,and_true]at hk
   exact hk▸P6)
  rw[<-hl]at hk;simpa using hk
 .rename_i o s r i x0 p off;split at h
  case h_2=>cases h
  rename_i s' T0 r' l dh;split at h
  case h_2=>cases h
  rename_i q' yC zS;obtain⟨h1,h2⟩:=aK h;obtain⟨h1,DP⟩:=di h1;obtain⟨h1,xW⟩:=di h1;have h1:=beq_true h1;have xW:=beq_true xW;have DP:=beq_true DP;split at h2
  case h_2=>cases h2
  rename_i z hf;obtain⟨g,o0,qq,T',m,cap,l0,e1,e2,e3,e4,e5⟩:=hx;rw[<-DP]at e5
  cases rM:al4 s' s with
  |true=>
   rw[rM,cond_true]at h2;obtain rfl:=beq_true rM;split at h2
   case isFalse=>cases h2
   rename_i BC;obtain⟨v,hv,cx⟩:=hs.obj _ _ _ dh;have hc:=cx.con;rw[e3]at hc
   obtain⟨rfl,vj⟩:T'=T0/\(⟨r,l0⟩:(r:Row)×List r.den)=⟨r',l⟩:=by
    have:=alU hc;simp only[Th.base,Th.own.injEq]at this;obtain⟨a,b,c⟩:=this;subst b;exact⟨a,by rw[eq_of_heq c]⟩
   cases vj;exact⟨_,h2,vX T FX hs dh e1 e2 e4 e5 h1 xW hf hy⟩
  |false=>
   rw[rM,cond_false]at h2;obtain⟨x',QV,h2⟩:=bind_some h2;exact⟨_,h2,vX T FX hs dh e1 e2 QV e5 h1 xW hf hy⟩
 .cases h
theorem KN(hs:az U H F w ob n){t:TypeId}{tr:Tree}{cs:List Value}(hh:Holds H F w tr cs):
 lH H F w ob n {dst:= .ptr n [] 0,make:=[(n,(n, .box t tr))]} (.pointer (some ⟨w.heap.size,0,none⟩)) (w.alloc (.cells cs.toArray t)):=by
 have b7:Ext (cE H ob []) w (w.alloc (.cells cs.toArray t)):=⟨rfl,rfl,rfl,by simp,fun k hk _=>Below.heap_alloc w _ k hk⟩
 have hf:=hs.fresh n (alZ _) (by omega);refine m6.new (v0:= .pointer (some ⟨w.heap.size,0,none⟩)) hs rfl rfl b7 ⟨_,cs,rfl,heap_alloc_new w _,?_⟩ (fun k hk=>?_) ⟨w.heap.size,by simp[ay.dj],rfl⟩
 .exact hh.keep ((ay.jr hf.2).trans (ay.p8 (by simp[ay.bN,hf.1]))) (Step.alloc hs.lt _)
 .simp only[fp,anO,al7,anx,and_true]at hk;subst hk;exact⟨fun e=>by have:=hs.lt _ e;omega,by simp, .inl (alZ _)⟩
def tn(T:bg P)(n:Nat)(t:TypeId)(k:eD->Option R):Option R:=
 match find T.row t with
 |some r=>k {dst:= .ptr n [] 0,make:=[(n,(n, .box t r.BA))]}
 |none=>none
theorem HV(T:bg P){t:TypeId}{k:eD->Option R}{q:R}(h:tn T n t k=some q)(hs:az U H F w ob n):
 ∃e,k e=some q/\cS P U H F w ρ ob n ⟨some d, .alloc t,ty,pos,aft,none⟩ e:=by
 unfold tn at h;split at h
 case h_2=>cases h
 rename_i r hr;obtain⟨ti,z,h1,h2,h3,_,_⟩:=T.row_ok _ _ hr;refine⟨_,h,cC.val (HB h1 h2) ?_⟩;have:=KN (t:=t) hs (Row.ny H F w r);rw[<-h3,amL]at this;exact this
def HW(n:Nat)(t:TypeId)(V:aq)(k:eD->Option R):Option R:=
 match V with
 | .val _ u=>k {dst:= .ptr n [] 0,make:=[(n,(n, .box t u))]}
 |_=>none
theorem NZ{t:TypeId}{V:aq}{x:Operand}{k:eD->Option R}{q:R}(h:HW n t V k=some q)(hs:az U H F w ob n)(hx:al H F w V (ev ρ x)):
 ∃e,k e=some q/\cS P U H F w ρ ob n ⟨some d, .box t x,ty,pos,aft,none⟩ e:=by
 unfold HW at h;split at h
 case h_2=>cases h
 rename_i agg u;obtain⟨cs,rO,yD⟩:=aM.cells hx;refine⟨_,h,cC.val (NP rfl) ?_⟩;have:=KN (t:=t) hs rO;rw[<-yD,amL]at this;exact this
end
end Go.Proofs.YtmihpkfkbfgigaaGreatDoor
end
section
open _root_.Array renaming toArray_toList->amL
open _root_.Go.Instr renaming fill->anG
open _root_.Int renaming eq_ofNat_of_zero_le->al8,le_refl->am7,toNat_natCast->al1
open _root_.List renaming length_take->amd,map_cons->am9,replicate->alX
open _root_.Nat renaming add_mul->amW,beq->al4,min_eq_left->amF,mul_le_mul_right->ams,zero_le->amj
open _root_.Option.some renaming inj->alU,injEq->al7
open _root_.Go.Result renaming andThen_ok->amJ
open _root_.Go.Sem renaming run_bind->amr
open _root_.Go.Value renaming ownBlock->amw
namespace Go.Proofs.YtmihpkfkbfgigaaGreatDoor
open Go Go.RowKit
section
variable {P:Program} {ρ:Nat->Value} {w w':World} {H H':ay} {F F':Nat->Prop} {U:Nat->Prop} {ob:Nat->Option (Nat×Th)} {n:Nat} {R:Type}
variable {op:Op} {ty:TypeId} {pos:String} {aft:Array Edge} {d:Nat}
theorem p9{base:Nat}{T:TypeId}{r:Row}{v:Value}{l:List r.den}(h:jV base F w T r v l):v.oneCell'=true:=by
 obtain⟨A,cap,rfl,_⟩:=h.reads;rfl
theorem nz{H:ay}{o:Nat}{v:Value}(h:H.val o=some v)(h1:v.oneCell'=true):al H F w (.val false (.own o)) v:=⟨[v],⟨v,h,h1,rfl⟩,rfl,fun _=>rfl⟩
theorem tq(hs:az U H F w ob n){e:TypeId}{r:Row}{v:Value}{l:List r.den}{eat:List Nat}(b7:Ext (cE H ob eat) w w')(ho:jV 0 F w' e r v l)(hn:∀k,bw v k->cE H ob eat k\/w.heap.size<=k):
 lH H F w ob n {dst:= .val false (.own n),eat:=eat,make:=[(n,(n, .own e r l))]} v w':=
 m6.new (v0:=v) hs rfl (p9 ho) b7 ho.2 (fun k hk=>⟨ho.1 k hk,ho.lt k hk,(hn k hk).symm⟩) (nz (by simp[ay.dj]) (p9 ho))
theorem qa{g:Nat->Prop}(o:Obj):Ext g w (w.alloc o):=⟨rfl,rfl,rfl,by simp,fun k hk _=>Below.heap_alloc w _ k hk⟩
def Xr{α:Type}(a b:Int)(z:α):Option (List α):=if 0<=a/\a<=b/\b<=4294967296 then some (alX a.toNat z)else none
def pj:Operand->Operand->Bool
 | .tmp a, .tmp b=>al4 a b
 | .const (.int _ a), .const (.int _ b)=>decide (a=b)
 |_,_=>false
theorem yE{e t:TypeId}{r:Row}{a b:Int}(ht:P.underlying t=some (.slice e))(vV:TI P e r)(hs:az U H F w ob n){ka kb:IntKind}{x y:Operand}(hx:ev ρ x= .int ka a)(hy:ev ρ y= .int kb b)(h0:0<=a)(h1:a<=b)(h2:b<=4294967296):
 ∃v w',(execOp (ev ρ) ⟨some d, .makeSlice t x y,ty,pos,aft,none⟩).run P w= .ok (.value v) w'/\(∀g,Ext g w w')/\jV 0 F w' e r v (alX a.toNat r.zero)/\∀k,bw v k->w.heap.size<=k:=by
 obtain⟨ti,z,hi,hz,T4,mE,Ts⟩:=vV;obtain⟨ca,rfl⟩:=al8 h0;obtain⟨cb,rfl⟩:=al8 (Int.le_trans h0 h1)
 have hc:cb<=4294967296:=by omega
 have D6:ti.bytes*cb<=281474976710656:=Nat.le_trans (Nat.mul_le_mul Ts hc) (by omega)
 have qH:(ti.bytes:Int)*(cb:Int)<=281474976710656:=by
  have h:((ti.bytes*cb:Nat):Int)<=281474976710656:=by omega
  rwa [Int.natCast_mul]at h
 have bA:=run_make (P:=P) w t e ti z ht hi hz ka kb ca cb (by omega) (by omega) qH (by omega)
 have Yg:z.cells=r.fl.toArray:=by rw[<-T4,amL]
 have hzn:r.fl.length=r.size:=(cR.zero F w r).length;have nO:=r.size_pos;simp only[al1]at bA;refine⟨.slice (some ⟨w.heap.size,0,none⟩) ca cb,w.alloc (.cells (madeCells z.cells (cb*ti.size)) e),by simp[execOp,hx,hy,bA],fun _=>qa _,⟨fun q hq=>?_,(madeCells z.cells (cb*ti.size)).toList.take (ca*r.size),?_,?_⟩,fun q hq=>?_⟩
 .simp only[bw,amw,al7]at hq;intro e;have:=hs.lt _ e;omega
 .have hle:ca*r.size<=cb*r.size:=ams _ (by omega);have Ue:=size_madeCells z.cells (cb*ti.size);refine nu.of ⟨by rw[amd,Array.length_toList,Ue,mE,amF hle];simp, .inr ⟨w.heap.size,cb,madeCells z.cells (cb*ti.size),by simp,amj _,heap_alloc_new w _,by simp;omega,by simp[maxLen];omega,by rw[Ue,mE],by simp⟩⟩
 .intro i aj;simp only[al1,List.length_replicate]at aj;have hle:(i+1)*r.size<=ca*r.size:=ams _ aj;rw[amW]at hle;rw[List.drop_take,List.take_take,amF (by omega)];rw[mE,Yg,<-hzn,Kr _ _ _ (by omega) (by omega)];simpa using cR.zero F _ r
 .simp only[bw,amw,al7]at hq;omega
theorem BD{e t:TypeId}{r:Row}{a b:Int}(ht:P.underlying t=some (.slice e))(vV:TI P e r)(hs:az U H F w ob n){ka kb:IntKind}{x y:Operand}(hx:ev ρ x= .int ka a)(hy:ev ρ y= .int kb b)(h0:0<=a)(h1:a<=b)(h2:b<=4294967296):
 cS P U H F w ρ ob n ⟨some d, .makeSlice t x y,ty,pos,aft,none⟩ {dst:= .val false (.own n),make:=[(n,(n, .own e r (alX a.toNat r.zero)))]}:=by
 obtain⟨v,w',bA,b7,eW,HX⟩:=yE (d:=d) (ty:=ty) (pos:=pos) (aft:=aft) ht vV hs hx hy h0 h1 h2;exact cC.val bA (tq hs (b7 _) eW fun q hq=> .inr (HX q hq))
def vY(T:bg P)(n:Nat)(t:TypeId)(same:Bool)(a b:Int)(k:eD->Option R):Option R:=
 match find T.und t with
 |some (.slice e)=>match find T.row e with
  |some r=>(bif same then lB a r.zero else Xr a b r.zero).bind fun l=>k {dst:= .val false (.own n),make:=[(n,(n, .own e r l))]}
  |none=>none
 |_=>none
theorem yF{x y:Operand}(h:pj x y=true){a b:Int}{ka kb:IntKind}(hx:ev ρ x= .int ka a)(hy:ev ρ y= .int kb b):a=b:=by
 unfold pj at h;split at h
 .obtain rfl:=beq_true h;rw[hx]at hy;cases hy;rfl
 .simp only[ev,Value.int.injEq]at hx hy;have:=of_decide_eq_true h;omega
 .cases h
theorem BE(T:bg P){t:TypeId}{a b:Int}{ka kb:IntKind}{x y:Operand}{k:eD->Option R}{q:R}(h:vY T n t (pj x y) a b k=some q)(hs:az U H F w ob n)(hx:ev ρ x= .int ka a)(hy:ev ρ y= .int kb b):
 ∃e,k e=some q/\cS P U H F w ρ ob n ⟨some d, .makeSlice t x y,ty,pos,aft,none⟩ e:=by
 unfold vY at h;split at h
 case h_2=>cases h
 rename_i e hu;split at h
 case h_2=>cases h
 rename_i r hr;obtain⟨l,hl,hk⟩:=bind_some h;have vV:=T.row_ok _ _ hr;have ht:=T.und_ok _ _ hu
 cases kh:pj x y with
 |true=>
  rw[kh,cond_true]at hl;unfold lB at hl;split at hl
  case isFalse=>cases hl
  rename_i hc;obtain rfl:=alU hl;obtain rfl:=yF kh hx hy;exact⟨_,hk,BD ht vV hs hx hy hc.1 (am7 _) hc.2⟩
 |false=>
  rw[kh,cond_false]at hl;unfold Xr at hl;split at hl
  case isFalse=>cases hl
  rename_i hc;obtain rfl:=alU hl;exact⟨_,hk,BD ht vV hs hx hy hc.1 hc.2.1 hc.2.2⟩
def Yh(ob:Nat->Option (Nat×Th))(r:Row)(D:aq):Option (List r.den):=
 match uX ob D with
 |some (.read s l)=>if h:s.beq r=true then some (jB (r:= .slice s) (s:= .slice r) (congrArg Row.slice (Row.eq_of_beq h)) l)else none
 |some (.own _ _ _ s l)=>if h:s.beq r=true then some (jB (r:= .slice s) (s:= .slice r) (congrArg Row.slice (Row.eq_of_beq h)) l)else none
 |some .nil=>some []
 |some (.view ..)=>none
 |some (.deep ..)=>none
 |none=>none
theorem QW(hs:az U H F w ob n){r:Row}{D:aq}{l:List r.den}{v:Value}(h:Yh ob r D=some l)(hd:al H F w D v):Reads F w r v l:=by
 unfold Yh at h;split at h
 .rename_i s m gJ;split at h
  case isFalse=>cases h
  rename_i hb;obtain rfl:=Row.eq_of_beq hb;obtain rfl:=alU h;exact cR.reads (jq hs gJ hd)
 .rename_i o s0 T s m gJ;split at h
  case isFalse=>cases h
  rename_i hb;obtain rfl:=Row.eq_of_beq hb;obtain rfl:=alU h;exact(jq hs gJ hd).2.2.reads
 .rename_i gJ;obtain rfl:=alU h;have:v=_:=jq hs gJ hd;subst this;exact(cR.nil F w r).reads
 .cases h
 .cases h
 .cases h
def rY:KI->Int
 | .read _ l=>(l.length:Int)
 | .own _ _ _ _ l=>(l.length:Int)
 | .nil=>0
 | .view _ _ _ l=>(l.length:Int)
 | .deep _ _ _ _ l _=>(l.length:Int)
theorem KO{v:Value}{k:KI}(h:NX U H F w ob v k):∃A m cap,v= .slice A m cap/\rY k=(m:Int):=by
 cases k with
 |read r l=>
  obtain⟨A,cap,e,_⟩:=cR.D4 h;exact⟨A,_,cap,e,rfl⟩
 |own o s T r l=>
  obtain⟨A,cap,e,_⟩:=h.2.2.reads;exact⟨A,_,cap,e,rfl⟩
 |nil=>exact⟨none,0,0,h,rfl⟩
 |view o s r m=>
  obtain⟨A,cap,T,l,a,b,_,_,h3,h4,rfl,rfl⟩:=h;refine⟨_,_,_,rfl,?_⟩;simp only[rY,List.length_drop,amd,amF h4]
 |deep o s T d l hh=>
  obtain⟨lh,_,⟨xs,Kq,_⟩,Bh,_⟩:=h.2.2.ok
  rcases Kq.2 with⟨HS,h0⟩|⟨g,o0,cap,cur,zQ,_,_,_⟩
  .exact⟨none,0,0,HS,by simp only[rY];omega⟩
  .exact⟨_,_,_,zQ,by simp only[rY];omega⟩
def HY(T:bg P)(ob:Nat->Option (Nat×Th))(t:TypeId)(D:aq):Option aq:=
 match find T.und t with
 |some (.slice _)=>match uX ob D with
  |some k=>some (m7 .i64 (rY k))
  |none=>none
 |some .str=>match Bw D with
  |some s=>some (m7 .i64 (s.size:Int))
  |none=>none
 |_=>none
theorem FY(T:bg P){t:TypeId}{D D':aq}{x:Operand}(h:HY T ob t D=some D')(hs:az U H F w ob n)(hx:al H F w D (ev ρ x)):
 cS P U H F w ρ ob n ⟨some d, .call {callee:= .builtin .len,args:= #[x],argTypes:= #[t]},ty,pos,aft,none⟩ {dst:=D'}:=by
 unfold HY at h;split at h
 .rename_i e hu;split at h
  case h_2=>cases h
  rename_i k hk;obtain rfl:=alU h;obtain⟨A,m,cap,e1,e2⟩:=KO (jq hs hk hx);rw[e2];exact aQ hs (Ko rfl (T.und_ok _ _ hu) e1) (aM.kE ..)
 .rename_i hu;split at h
  case h_2=>cases h
  rename_i s hk;obtain rfl:=alU h;exact aQ hs (Hw (T.und_ok _ _ hu) (vU hk hx)) (aM.kE ..)
 .cases h
def qb(T:bg P)(ob:Nat->Option (Nat×Th))(n:Nat)(t:TypeId)(X Y:aq)(k:eD->Option R):Option R:=
 match find T.und t with
 |some (.slice e)=>match find T.row e with
  |some r=>match Yh ob r Y with
   |some m=>match uX ob X with
    |some .nil=>(bZ ([]:List r.den) m).bind fun l=>k {dst:= .val false (.own n),make:=[(n,(n, .own e r l))]}
    |some (.own o _ T0 s l0)=>bif al4 T0 e then
      (if h:s.beq r=true then(bZ (jB (r:= .slice s) (s:= .slice r) (congrArg Row.slice (Row.eq_of_beq h)) l0) m).bind fun l=>k {dst:= .val false (.own n),eat:=[o],make:=[(n,(n, .own e r l))]}else none)else none
    |_=>none
   |none=>none
  |none=>none
 |_=>none
theorem Ei(T:bg P){t:TypeId}{X Y:aq}{x y:Operand}{k:eD->Option R}{q:R}(h:qb T ob n t X Y k=some q)(hs:az U H F w ob n)(hx:al H F w X (ev ρ x))(hy:al H F w Y (ev ρ y)):
 ∃e,k e=some q/\cS P U H F w ρ ob n ⟨some d, .call {callee:= .builtin .append,args:= #[x,y],argTypes:= #[t,t]},ty,pos,aft,none⟩ e:=by
 unfold qb at h;split at h
 case h_2=>cases h
 rename_i e hu;split at h
 case h_2=>cases h
 rename_i r hr;obtain⟨ti,z,h1,h2,h3,h4,h5⟩:=T.row_ok _ _ hr;have ht:=T.und_ok _ _ hu;split at h
 case h_2=>cases h
 rename_i m hm;have gu:=QW hs hm hy
 have key:∀{l out:List r.den},jV 0 F w e r (ev ρ x) l->bZ l m=some out->∃v' w',(execOp (ev ρ) ⟨some d, .call {callee:= .builtin .append,args:= #[x,y],argTypes:= #[t,t]},ty,pos,aft,none⟩).run P w= .ok (.value v') w'/\Ext (bw (ev ρ x)) w w'/\jV 0 F w' e r v' out/\(∀k,bw v' k->bw (ev ρ x) k\/w.heap.size<=k):=by
  intro l out ho ha;obtain⟨v',w',bA,he,lD,JQ⟩:=vK ty ht h1 h2 h3 h4 h5 ho gu ha hs.lt (amj _);refine⟨v',w',by simp[execOp,resolve,invoke,builtin,bA],he,lD,fun k hk=>?_⟩
  rcases JQ with g|g
  .exact .inl (g▸hk)
  .rw[g]at hk;exact .inr (by omega)
 split at h
 .rename_i gJ;obtain⟨l,hl,hk⟩:=bind_some h;have hv:ev ρ x=_:=jq hs gJ hx;obtain⟨v',w',bA,he,lD,hn⟩:=key (by rw[hv];exact jV.nil 0 F w e r) hl
  have no:∀k,¬bw (ev ρ x) k:=fun k hk=>by rw[hv]at hk;simp[bw,amw]at hk
  exact⟨_,hk,cC.val bA (tq hs ⟨he.os,he.tape,he.output,he.size,fun k hk _=>he.block k hk (no k)⟩ lD fun k hk=>(hn k hk).imp (fun h=>absurd h (no k)) id)⟩
 .rename_i o s0 T0 s l0 gJ;obtain⟨hb,h⟩:=aK h;obtain rfl:=beq_true hb;split at h
  case isFalse=>cases h
  rename_i BC;obtain rfl:=Row.eq_of_beq BC;obtain⟨l,hl,hk⟩:=bind_some h;obtain⟨hv,dh,eW⟩:=jq hs gJ hx;obtain⟨v',w',bA,he,lD,hn⟩:=key eW hl
  have lF:∀k,bw (ev ρ x) k->cE H ob [o] k:=fun k hk=>⟨o,by simp,_,_,_,dh,hv,hk⟩
  exact⟨_,hk,cC.val bA (tq hs ⟨he.os,he.tape,he.output,he.size,fun k hk DN=>he.block k hk fun hm=>DN (lF k hm)⟩ lD fun k hk=>(hn k hk).imp (lF k) id)⟩
 .cases h
def BF(ob:Nat->Option (Nat×Th))(r:Row):List aq->Option (List r.den)
 |[]=>some []
 | .val _ u::l=>match flat ob r u with
   |some x=>match BF ob r l with
    |some xs=>some (x::xs)
    |none=>none
   |none=>none
 |_::_=>none
def rZ(rd:Operand->Option aq):List Operand->Option (List aq)
 |[]=>some []
 |x::xs=>match rd x with
  |some d=>match rZ rd xs with
   |some ds=>some (d::ds)
   |none=>none
  |none=>none
def fQ(H:ay)(F:Nat->Prop)(w:World):List aq->List Value->Prop
 |[],vs=>vs=[]
 |d::ds,vs=>∃v us,vs=v::us/\al H F w d v/\fQ H F w ds us
theorem n5{rd:Operand->Option aq}(h:∀x d,rd x=some d->al H F w d (ev ρ x)):{xs:List Operand}->{ds:List aq}->rZ rd xs=some ds->fQ H F w ds (xs.map (ev ρ))
 |[],ds,e=>by obtain rfl:=alU e;rfl
 |x::xs,ds,e=>by
  unfold rZ at e
  cases h1:rd x with
  |none=>rw[h1]at e;cases e
  |some d=>
   cases h2:rZ rd xs with
   |none=>simp only[h1,h2]at e;cases e
   |some Xs=>
    simp only[h1,h2,al7]at e;subst e;exact⟨_,_,rfl,h _ _ h1,n5 h h2⟩
theorem BG(hs:az U H F w ob n){r:Row}:{ds:List aq}->{l:List r.den}->{vs:List Value}->BF ob r ds=some l->fQ H F w ds vs->vM F w r vs l
 |[],l,vs,e,h=>by
  obtain rfl:=alU e;rw[show vs=[]from h];exact .nil
 | .val _ u::ds,l,vs,e,h=>by
   obtain⟨v,us,rfl,h1,h2⟩:=h;unfold BF at e
   cases hf:flat ob r u with
   |none=>rw[hf]at e;cases e
   |some x=>
    cases hg:BF ob r ds with
    |none=>simp only[hf,hg]at e;cases e
    |some xs=>
     simp only[hf,hg,al7]at e;subst e;obtain⟨cs,rO,yD⟩:=aM.cells h1;exact .cons yD (jo hs hf rO) (BG hs hg h2)
 | .dead::_,_,_,e,_=>by cases e
 | .undef::_,_,_,e,_=>by cases e
 | .ptr .. ::_,_,_,e,_=>by cases e
 | .at .. ::_,_,_,e,_=>by cases e
 | .elem .. ::_,_,_,e,_=>by cases e
 | .tup _::_,_,_,e,_=>by cases e
 | .dlm .. ::_,_,_,e,_=>by cases e
theorem vZ{e t:TypeId}{r:Row}{xs:List Operand}{l:List r.den}{parts:Array (Nat×Operand)}(ht:P.underlying t=some (.slice e))(vV:TI P e r)(dT:parts=((xs.zipIdx).map fun p=>(p.2,p.1)).toArray)(kh:xs.length*r.size<=16777216)
 (hl:vM F w r (xs.map (ev ρ)) l)(hs:az U H F w ob n):
 ∃v w',(execOp (ev ρ) ⟨some d, .buildSlice t xs.length parts,ty,pos,aft,none⟩).run P w= .ok (.value v) w'/\(∀g,Ext g w w')/\jV 0 F w' e r v l/\∀k,bw v k->w.heap.size<=k:=by
 obtain⟨ti,z,h1,h2,h3,h4,h5⟩:=vV
 have JW:(xs.map (ev ρ)).length=xs.length:=by simp
 have Bh:=hl.length;have nO:=r.size_pos
 have TZ:z.cells.size=r.size:=by rw[<-(cR.zero F w r).length,<-h3];simp
 have HZ:(parts.map fun(i,q)=>(i,ev ρ q)).toList=((xs.map (ev ρ)).zipIdx).map fun p=>(p.2,p.1):=by
  subst dT;simp[List.zipIdx_map,Function.comp_def]
 generalize hm:xs.length=m at*;generalize xs.map (ev ρ)=vs at*
 have key:∀zz:Array Value,zz.size=m*r.size->∃DQ:List Value,anG (fun i=>some (i*r.size,r.size)) zz ((vs.zipIdx).map fun p=>(p.2,p.1))=some DQ.toArray/\DQ.length=l.length*r.size/\∀i(hi:i<l.length),cR F w r ((DQ.drop (i*r.size)).take r.size) l[i]:=by
  intro zz Uf;obtain⟨DQ,a1,a2,a3⟩:=hl.fill 0 [] zz.toList (by simp) (by rw[Array.length_toList,Uf,JW]);exact⟨DQ,by simpa using a1,a2,a3⟩
 have bA:∃DQ:List Value,(execOp (ev ρ) ⟨some d, .buildSlice t m parts,ty,pos,aft,none⟩).run P w= .ok (.value (.slice (some ⟨w.heap.size,0,none⟩) m m)) (w.alloc (.cells DQ.toArray e))/\DQ.length=l.length*r.size/\∀i(hi:i<l.length),cR F w r ((DQ.drop (i*r.size)).take r.size) l[i]:=by
  by_cases h0:m*r.size=0
  .obtain⟨DQ,a1,a2,a3⟩:=key #[] (by simp[h0]);refine⟨DQ,?_,a2,a3⟩;simp only[execOp,Instr.buildSlice,amr,run_underlying ht,amJ];rw[HZ]
   have Yi:Array.range 0=(#[]:Array Nat):=by rfl
   simp[sizeOf,typeInfo,h1,h4,h0,newRow,Yi,a1]
  .obtain⟨DQ,a1,a2,a3⟩:=key ((Array.range (m*r.size)).map (z.cells[· %z.cells.size]!)) (by simp);refine⟨DQ,?_,a2,a3⟩;simp only[execOp,Instr.buildSlice,amr,run_underlying ht,amJ];rw[HZ];simp[sizeOf,typeInfo,h1,h4,h0,zeroValue,h2,newRow,a1,show¬(16777216<m*r.size)from by omega]
 obtain⟨DQ,bA,a2,a3⟩:=bA
 have FZ:m=l.length:=by omega
 have afU:m<=16777216:=Nat.le_trans (Nat.le_mul_of_pos_right m nO) kh;refine⟨_,_,bA,fun g=>qa _,⟨fun k hk=>?_,DQ,?_,fun i hi=>(a3 i hi).step (Step.alloc hs.lt _)⟩,fun k hk=>?_⟩
 .simp only[bw,amw,al7]at hk;intro e;have:=hs.lt _ e;omega
 .have:=World.ownsRow_lit (base:=0) (e:=e) (size:=r.size) w DQ.toArray m (amj _) (by simp[maxLen];omega) (by simp[a2,FZ]);rw[FZ]at this⊢;simpa using nu.of this
 .simp only[bw,amw,al7]at hk;omega
theorem run_build{e t:TypeId}{r:Row}{xs:List Operand}{l:List r.den}{parts:Array (Nat×Operand)}(ht:P.underlying t=some (.slice e))(vV:TI P e r)(dT:parts=((xs.zipIdx).map fun p=>(p.2,p.1)).toArray)(kh:xs.length*r.size<=16777216)
 (hl:vM F w r (xs.map (ev ρ)) l)(hs:az U H F w ob n):
 cS P U H F w ρ ob n ⟨some d, .buildSlice t xs.length parts,ty,pos,aft,none⟩ {dst:= .val false (.own n),make:=[(n,(n, .own e r l))]}:=by
 obtain⟨v,w',h1,h2,h3,h4⟩:=vZ (d:=d) (ty:=ty) (pos:=pos) (aft:=aft) ht vV dT kh hl hs;exact cC.val h1 (tq hs (h2 _) h3 fun k hk=> .inr (h4 k hk))
def F5:Nat->List (Nat×Operand)->Bool
 |_,[]=>true
 |k,p::l=>al4 p.1 k&&F5 (k+1) l
theorem wa:{k:Nat}->{l:List (Nat×Operand)}->F5 k l=true->l=((l.map (·.2)).zipIdx k).map fun p=>(p.2,p.1)
 |_,[],_=>rfl
 |k,p::l,h=>by
  obtain⟨h1,h2⟩:=di h;have h1:=beq_true h1;have ih:=wa h2;obtain⟨a,b⟩:=p;subst h1;rw[am9,List.zipIdx_cons,am9,<-ih]
def kG(T:bg P)(rd:Operand->Option aq)(ob:Nat->Option (Nat×Th))(n:Nat)(t:TypeId)(m:Nat)(parts:Array (Nat×Operand))(k:eD->Option R):Option R:=
 match find T.und t with
 |some (.slice e)=>match find T.row e with
  |some r=>bif F5 0 parts.toList&&al4 m parts.toList.length&&Nat.ble (m*r.size) 16777216 then
    (match rZ rd (parts.toList.map (·.2))with
    |some ds=>match BF ob r ds with
     |some l=>k {dst:= .val false (.own n),make:=[(n,(n, .own e r l))]}
     |none=>none
    |none=>none)else none
  |none=>none
 |_=>none
theorem wb(T:bg P){rd:Operand->Option aq}(gu:∀x d,rd x=some d->al H F w d (ev ρ x)){t:TypeId}{m:Nat}{parts:Array (Nat×Operand)}{k:eD->Option R}{q:R}(h:kG T rd ob n t m parts k=some q)(hs:az U H F w ob n):
 ∃e,k e=some q/\cS P U H F w ρ ob n ⟨some d, .buildSlice t m parts,ty,pos,aft,none⟩ e:=by
 unfold kG at h;split at h
 case h_2=>cases h
 rename_i e hu;split at h
 case h_2=>cases h
 rename_i r hr;obtain⟨h1,h⟩:=aK h;obtain⟨h1,h3⟩:=di h1;obtain⟨h1,h2⟩:=di h1;have h2:=beq_true h2
 have h3:m*r.size<=16777216:=by simpa using h3
 split at h
 case h_2=>cases h
 rename_i ds vp;split at h
 case h_2=>cases h
 rename_i l hl;have Ug:=BG hs hl (n5 gu vp)
 have hp:parts=(((parts.toList.map (·.2)).zipIdx).map fun p=>(p.2,p.1)).toArray:=by
  rw[<-wa h1,amL]
 have hm:m=(parts.toList.map (·.2)).length:=by simpa using h2
 refine⟨_,h,?_⟩;have:=run_build (d:=d) (ty:=ty) (pos:=pos) (aft:=aft) (T.und_ok _ _ hu) (T.row_ok _ _ hr) hp (by rw[<-hm];exact h3) Ug hs;rw[<-hm]at this;exact this
def F6{P:Program}(T:bg P)(fs:List (TypeId×Nat)):Tree->List (Nat×aq)->Option Tree
 |t,[]=>some t
 |t,(f, .val _ u)::l=>match t.get (rX fs.length f)with
  |some (s,off)=>match fs[f]? with
   |some (ft,dV)=>bif al4 off dV&&al4 u.size s.size&&(match find T.row ft with|some r=>al4 r.size u.size|none=>false)then
     (match t.put (rX fs.length f) u with
     |some t'=>F6 T fs t' l
     |none=>none)else none
   |none=>none
  |none=>none
 |_,_::_=>none
def vq(T:bg P):List (TypeId×Nat)->Bool
 |[]=>true
 |p::fs=>(match find T.row p.1 with|some _=>true|none=>false)&&vq T fs
def place(T:bg P)(fs:List (TypeId×Nat))(i:Nat):Option (Nat×Nat):=
 match fs[i]? with
 |some (ft,off)=>match find T.row ft with
  |some r=>some (off,r.size)
  |none=>none
 |none=>none
theorem wc(T:bg P):{l:List Field}->{fs:List (TypeId×Nat)}->l.map (fun f=>(f.type,f.offset))=fs->vq T fs=true->
 ∃pl:List (Nat×Nat),(l.mapM fun(f:Field)=>(do pure (f.offset,<-sizeOf f.type):Sem (Nat×Nat))).run P w= .ok pl w/\∀i,pl[i]? =place T fs i
 |[],fs,h,_=>by
  subst h;exact⟨[],by simp,fun i=>by simp[place]⟩
 |f::l,fs,h,hz=>by
  subst h;obtain⟨h1,h2⟩:=di hz;obtain⟨pl,F7,Ns⟩:=wc T (l:=l) rfl h2
  cases hr:find T.row f.type with
  |none=>rw[hr]at h1;cases h1
  |some r=>
   obtain⟨ti,z,g1,_,_,g4,_⟩:=T.row_ok _ _ hr;refine⟨(f.offset,r.size)::pl,?_,fun i=>?_⟩
   .have xW:(sizeOf f.type).run P w= .ok r.size w:=by simp[sizeOf,typeInfo,g1,g4]
    rw[List.mapM_cons];simp only[amr,xW,Sem.run_pure,amJ,F7]
   .cases i with
    |zero=>simp[place,hr]
    |succ i=>simpa[place]using Ns i
end
end Go.Proofs.YtmihpkfkbfgigaaGreatDoor
end
