/- Joined texts: Sym Eff Path Effs2 Effs3. -/
import Derived.Test.YtbladfbbhijpmaaGreatU1
section
open _root_.List renaming any_eq_true->ZJ,cons_append->Z8,mem_append->YL
open _root_.Nat renaming beq->YE,eq_of_beq_eq_true->Zo,le_trans->Y3,lt_of_lt_of_le->Y8
open _root_.Option renaming none_or->ZW
open _root_.Option.some renaming inj->YA,injEq->YH
open _root_.Go.Value renaming oneCell'->ZU
namespace Go.Proofs.YtbladfbbhijpmaaGreat
open Go Go.RowKit
inductive Tree where
 |leaf (r:Row) (x:r.den)
 |own (o:Nat)
 |nil
 |pair (a b:Tree)
 |view (o s:Nat) (r:Row) (m:List r.den)
 |junk (n:Nat)
structure ql where
 i:Int
 p:List Bool
 o:Nat
 s:Nat
inductive Th where
 |box (T:TypeId) (t:Tree)
 |own (T:TypeId) (r:Row) (l:List r.den)
 |oj (T:TypeId) (r:Row) (l:List r.den)
 |map (T:TypeId) (K:Row) (agg:Bool) (V:Row) (l:List (K.den×V.den))
 |fmap (T:TypeId) (K:Row) (agg:Bool) (V:Row) (l:List (K.den×V.den))
 |deep (T:TypeId) (d:DR) (l:List d.row.den) (h:Option ql)
 |fdeep (T:TypeId) (d:DR) (l:List d.row.den)
 |smap (T:TypeId) (K:Row) (agg:Bool) (V:Row) (l:List (K.den×V.den)) (it:Option (Nat×List (K.den×V.den)×Option (K.den×V.den)))
def Th.base:Th->Th
 | .oj T r l=> .own T r l
 | .fmap T K agg V l=> .map T K agg V l
 | .fdeep T d l=> .deep T d l none
 |t=>t
inductive ag where
 |dead
 |undef
 |val (agg:Bool) (t:Tree)
 |ptr (o:Nat) (p:List Bool) (off:Nat)
 |at (r:Row) (x:r.den)
 |elem (o s:Nat) (r:Row) (i:Int) (x:r.den) (p:List Bool) (off:Nat)
 |tup (ds:List (Bool×Tree))
 |dlm (o:Nat) (d:DR) (i:Int) (p:List Bool) (off:Nat)
 |fn (f:FuncId) (caps:List (Nat×List Bool×Nat))
 |ifc (T:TypeId) (d:ag)
structure aj where
 val:Nat->Option Value
 con:Nat->Option Th
 sub:Nat->Nat->Prop
structure aj.le(H H':aj):Prop where
 val:∀o v,H.val o=some v->H'.val o=some v
 con:∀s t,H.con s=some t->H'.con s=some t
 sub:∀s t,H.con s=some t->H'.sub s=H.sub s
theorem aj.le.refl(H:aj):H.le H:=⟨fun _ _ h=>h,fun _ _ h=>h,fun _ _ _=>rfl⟩
theorem aj.le.trans{H H' pJ:aj}(h:H.le H')(k:H'.le pJ):H.le pJ:=⟨fun o v e=>k.val o v (h.val o v e),fun o v e=>k.con o v (h.con o v e),fun s t e=>(k.sub s t (h.con s t e)).trans (h.sub s t e)⟩
def gY(H:aj)(o s:Nat)(r:Row)(m:List r.den)(v:Value):Prop:=
 ∃A cap T,∃l:List r.den,∃a b,H.val o=some (.slice A l.length cap)/\H.con s=some (.own T r l)/\a<=b/\b<=l.length/\m=(l.take b).drop a/\v=sliced A a b cap r.size
theorem gY.keep{H H':aj}(hH:H.le H'){o s:Nat}{r:Row}{m:List r.den}{v:Value}(h:gY H o s r m v):gY H' o s r m v:=by
 obtain⟨A,cap,T,l,a,b,h1,h2,h3⟩:=h;exact⟨A,cap,T,l,a,b,hH.val _ _ h1,hH.con _ _ h2,h3⟩
theorem gY.back{H H' pJ:aj}(hH:H.le H')(xO:H.le pJ){o s:Nat}{r:Row}{m:List r.den}{v0 v:Value}(h0:gY H o s r m v0)(h:gY H' o s r m v):gY pJ o s r m v:=by
 obtain⟨A,cap,T,l,a,b,h1,h2,_⟩:=h0;obtain⟨A',Dq,T',l',a',b',k1,k2,k3⟩:=h;have e1:=hH.val _ _ h1;have e2:=hH.con _ _ h2;rw[k1]at e1;rw[k2]at e2;simp only[YH,Th.own.injEq,heq_eq_eq,true_and]at e2;obtain⟨rfl,rfl⟩:=e2;exact⟨A',Dq,T',l',a',b',by rw[e1];exact xO.val _ _ h1,xO.con _ _ h2,k3⟩
theorem gY.one{H:aj}{o s:Nat}{r:Row}{m:List r.den}{v:Value}(h:gY H o s r m v):v.oneCell'=true:=by
 obtain⟨A,cap,T,l,a,b,_,_,_,_,_,rfl⟩:=h;simp[sliced,ZU]
def gn(H:aj):List (Nat×List Bool×Nat)->List Value->Prop
 |[],vs=>vs=[]
 |c::cs,vs=>∃v us,vs=v::us/\(∃b,H.val c.1=some (.pointer (some ⟨b,0,none⟩))/\v= .pointer (some ⟨b,c.2.2,none⟩))/\gn H cs us
theorem gn.keep{H H':aj}(hH:∀o v,H.val o=some v->H'.val o=some v):{cs:List (Nat×List Bool×Nat)}->{vs:List Value}->gn H cs vs->gn H' cs vs
 |[],_,h=>h
 |_::_,_,h=>by obtain⟨v,us,e,⟨b,h1,h2⟩,h3⟩:=h;exact⟨v,us,e,⟨b,hH _ _ h1,h2⟩,h3.keep hH⟩
def Holds(H:aj)(F:Nat->Prop)(w:World):Tree->List Value->Prop
 | .leaf r x,cs=>bF F w r cs x
 | .own o,cs=>∃v,H.val o=some v/\v.oneCell'=true/\cs=[v]
 | .nil,cs=>cs=[.slice none 0 0]
 | .pair a b,cs=>∃c1 c2,cs=c1++c2/\Holds H F w a c1/\Holds H F w b c2
 | .view o s r m,cs=>∃v,cs=[v]/\gY H o s r m v
 | .junk n,cs=>cs.length=n/\∀u∈cs,u.oneCell'=true
def Tree.size:Tree->Nat
 | .leaf r _=>r.size
 | .own _=>1
 | .nil=>1
 | .pair a b=>a.size+b.size
 | .view .. =>1
 | .junk n=>n
def au(H:aj)(F:Nat->Prop)(w:World)(agg:Bool)(t:Tree)(v:Value):Prop:=
 ∃cs,Holds H F w t cs/\v=(bif agg then .agg cs.toArray else cs.headD undef)/\(agg=false->cs=[v])
def nC(H:aj)(F:Nat->Prop)(w:World):List (Bool×Tree)->List Value->Prop
 |[],vs=>vs=[]
 |d::ds,vs=>∃v us,vs=v::us/\au H F w d.1 d.2 v/\nC H F w ds us
def af(H:aj)(F:Nat->Prop)(w:World):ag->Value->Prop
 | .dead,_=>True
 | .undef,v=>v=Go.undef
 | .val agg t,v=>au H F w agg t v
 | .ptr o _ off,v=>∃b,H.val o=some (.pointer (some ⟨b,0,none⟩))/\v= .pointer (some ⟨b,off,none⟩)
 | .at r x,v=>∃b off,v= .pointer (some ⟨b,off,none⟩)/\F b/\At F w r b off x
 | .elem o s r i x _ off,v=>∃g o0 q T m cap l,H.val o=some (.slice (some ⟨g,o0,none⟩) m cap)/\i=(q:Nat)/\H.con s=some (.own T r l)/\idx l i=some x/\v= .pointer (some ⟨g,o0+q*r.size+off,none⟩)
 | .tup ds,v=>∃vs,v= .tuple vs.toArray/\nC H F w ds vs
 | .dlm o d i _ off,v=>∃g o0 q m cap,H.val o=some (.slice (some ⟨g,o0,none⟩) m cap)/\i=(q:Nat)/\v= .pointer (some ⟨g,o0+q*d.low.size+off,none⟩)
 | .fn f caps,v=>∃vs,v= .func (.func f) #[] vs.toArray/\gn H caps vs
 | .ifc T d,v=>∃u,v= .iface T u/\af H F w d u
section
variable {H H':aj} {F F':Nat->Prop} {w w':World}
theorem Holds.length:{t:Tree}->{cs:List Value}->Holds H F w t cs->cs.length=t.size
 | .leaf _ _,_,h=>bF.length h
 | .own _,_,h=>by obtain⟨v,_,_,rfl⟩:=h;rfl
 | .nil,_,h=>by rw[show _=_ from h];rfl
 | .pair a b,_,h=>by obtain⟨c1,c2,rfl,h1,h2⟩:=h;simp[h1.length,h2.length,Tree.size]
 | .view ..,_,h=>by obtain⟨v,rfl,_⟩:=h;rfl
 | .junk _,_,h=>h.1
theorem Holds.fu:{t:Tree}->{cs:List Value}->Holds H F w t cs->∀u∈cs,u.oneCell'=true
 | .leaf _ _,_,h=>bF.fu h
 | .own _,_,h=>by obtain⟨v,_,h1,rfl⟩:=h;simpa using h1
 | .nil,_,h=>by rw[show _=_ from h];simp[ZU]
 | .pair a b,_,h=>by
   obtain⟨c1,c2,rfl,h1,h2⟩:=h;intro u hu
   rcases YL.1 hu with h'|h'
   .exact h1.fu u h'
   .exact h2.fu u h'
 | .view ..,_,h=>by obtain⟨v,rfl,h⟩:=h;simpa using h.one
 | .junk _,_,h=>h.2
theorem Holds.keep(hH:H.le H')(hs:Step F w F' w'):{t:Tree}->{cs:List Value}->Holds H F w t cs->Holds H' F' w' t cs
 | .leaf _ _,_,h=>bF.step hs h
 | .own _,_,h=>by obtain⟨v,h0,h1,rfl⟩:=h;exact⟨v,hH.val _ _ h0,h1,rfl⟩
 | .nil,_,h=>h
 | .pair a b,_,h=>by obtain⟨c1,c2,rfl,h1,h2⟩:=h;exact⟨c1,c2,rfl,h1.keep hH hs,h2.keep hH hs⟩
 | .view ..,_,h=>by obtain⟨v,rfl,h⟩:=h;exact⟨v,rfl,h.keep hH⟩
 | .junk _,_,h=>h
theorem Holds.back{pJ:aj}{w0:World}{F0:Nat->Prop}(hH:H.le H')(xO:H.le pJ):{t:Tree}->{Sc cs:List Value}->Holds H F0 w0 t Sc->Holds H' F w t cs->Holds pJ F w t cs
 | .leaf _ _,_,_,_,h=>h
 | .own _,_,_,h0,h=>by
   obtain⟨v,a0,_,_⟩:=h0;obtain⟨u,b0,b1,rfl⟩:=h;have:=hH.val _ _ a0;rw[b0]at this;obtain rfl:=YA this;exact⟨u,xO.val _ _ a0,b1,rfl⟩
 | .nil,_,_,_,h=>h
 | .pair a b,_,_,h0,h=>by
   obtain⟨_,_,_,a1,a2⟩:=h0;obtain⟨c1,c2,rfl,h1,h2⟩:=h;exact⟨c1,c2,rfl,Holds.back (w0:=w0) (F0:=F0) hH xO a1 h1,Holds.back (w0:=w0) (F0:=F0) hH xO a2 h2⟩
 | .view ..,_,_,h0,h=>by
   obtain⟨_,_,h0⟩:=h0;obtain⟨v,rfl,h⟩:=h;exact⟨v,rfl,h0.back hH xO h⟩
 | .junk _,_,_,_,h=>h
theorem au.keep{agg:Bool}{t:Tree}{v:Value}(hH:H.le H')(hs:Step F w F' w')(h:au H F w agg t v):au H' F' w' agg t v:=by
 obtain⟨cs,h1,h2⟩:=h;exact⟨cs,h1.keep hH hs,h2⟩
theorem nC.keep(hH:H.le H')(hs:Step F w F' w'):{ds:List (Bool×Tree)}->{vs:List Value}->nC H F w ds vs->nC H' F' w' ds vs
 |[],_,h=>h
 |_::_,_,h=>by obtain⟨v,us,rfl,h1,h2⟩:=h;exact⟨v,us,rfl,h1.keep hH hs,h2.keep hH hs⟩
theorem At.keep{r:Row}{b off:Nat}{x:r.den}(hs:Step F w F' w')(hb:F b)(h:At F w r b off x):At F' w' r b off x:=by
 obtain⟨es,hl,hc,hr⟩:=h;exact⟨es,hl,fun j u hu=>(World.cell?_of_block (hs b hb).2).trans (hc j u hu),hr.step hs⟩
theorem af.keep(hH:H.le H')(hs:Step F w F' w'):{d:ag}->{v:Value}->af H F w d v->af H' F' w' d v
 | .dead,_,_=>trivial
 | .undef,_,h=>h
 | .val _ _,_,h=>au.keep hH hs h
 | .ptr _ _ _,_,h=>by obtain⟨b,h1,h2⟩:=h;exact⟨b,hH.val _ _ h1,h2⟩
 | .at _ _,_,h=>by obtain⟨b,off,h1,h2,h3⟩:=h;exact⟨b,off,h1,(hs b h2).1,h3.keep hs h2⟩
 | .elem ..,_,h=>by obtain⟨g,o0,q,T,m,cap,l,h1,h2,h3,h4⟩:=h;exact⟨g,o0,q,T,m,cap,l,hH.val _ _ h1,h2,hH.con _ _ h3,h4⟩
 | .tup _,_,h=>by obtain⟨vs,h1,h2⟩:=h;exact⟨vs,h1,h2.keep hH hs⟩
 | .dlm ..,_,h=>by obtain⟨g,o0,q,m,cap,h1,h2,h3⟩:=h;exact⟨g,o0,q,m,cap,hH.val _ _ h1,h2,h3⟩
 | .fn ..,_,h=>by obtain⟨vs,h1,h2⟩:=h;exact⟨vs,h1,h2.keep hH.val⟩
 | .ifc _ d,_,h=>by obtain⟨u,h1,h2⟩:=h;exact⟨u,h1,af.keep hH hs (d:=d) h2⟩
def find{α:Type}:List (Nat×α)->Nat->Option α
 |[],_=>none
 |(m,a)::l,n=>bif YE m n then some a else find l n
def del{α:Type}(ns:List Nat):List (Nat×α)->List (Nat×α)
 |[]=>[]
 |(m,a)::l=>bif ns.any (YE m)then del ns l else(m,a)::del ns l
theorem aw{α:Type}{m:Nat}{a:α}{l:List (Nat×α)}{n:Nat}:find ((m,a)::l) n=if m=n then some a else find l n:=by
 show(bif YE m n then some a else find l n)=_
 by_cases h:m=n
 .subst h;simp
 .rw[if_neg h]
  have:YE m n=false:=by
   cases hb:YE m n with
   |false=>rfl
   |true=>exact absurd (Zo hb) h
  simp[this]
theorem eG{α:Type}{l l':List (Nat×α)}{n:Nat}:find (l++l') n=(find l n).or (find l' n):=by
 induction l with
 |nil=>rfl
 |cons p l ih=>
  obtain⟨m,a⟩:=p;rw[Z8,aw,aw,ih]
  split<;>rfl
theorem any_beq{ns:List Nat}{m:Nat}:ns.any (YE m)=true↔m∈ns:=by
 simp only[ZJ,Nat.beq_eq];exact⟨fun⟨x,hx,e⟩=>e▸hx,fun h=>⟨m,h,rfl⟩⟩
theorem eH{α:Type}{ns:List Nat}{l:List (Nat×α)}{n:Nat}{a:α}:find (del ns l) n=some a↔n∉ns/\find l n=some a:=by
 induction l with
 |nil=>simp[del,find]
 |cons p l ih=>
  obtain⟨m,b⟩:=p;unfold del
  cases hm:ns.any (YE m)with
  |true=>
   have bH:=any_beq.1 hm;rw[cond_true,ih,aw];constructor
   .rintro⟨h1,h2⟩
    have b8:m≠n:=fun e=>h1 (e▸bH)
    exact⟨h1,by rw[if_neg b8];exact h2⟩
   .rintro⟨h1,h2⟩
    have b8:m≠n:=fun e=>h1 (e▸bH)
    rw[if_neg b8]at h2;exact⟨h1,h2⟩
  |false=>
   have bH:m∉ns:=fun e=>by rw[any_beq.2 e]at hm;cases hm
   rw[cond_false,aw,aw];by_cases h:m=n
   .subst h;simp[bH]
   .simp only[if_neg h];exact ih
def mN(F:Nat->Prop)(w:World):Prop:=∀g d,find Dz g=some d->F g/\At F w d.1 g 0 d.2
theorem mN.step{F F':Nat->Prop}{w w':World}(h:mN F w)(hs:Step F w F' w'):mN F' w':=fun g d hg=>⟨(hs g (h g d hg).1).1,(h g d hg).2.keep hs (h g d hg).1⟩
def dD(H:aj)(F:Nat->Prop)(w:World)(K:Row)(agg:Bool)(V:Row):List MapEntry->List (K.den×V.den)->Prop
 |[],l=>l=[]
 |e::es,l=>∃k x l',l=(k,x)::l'/\fN K k=some e.key/\au H F w agg (.leaf V x) e.val/\dD H F w K agg V es l'
theorem dD.keep{H H':aj}{F F':Nat->Prop}{w w':World}(hH:H.le H')(hs:Step F w F' w'){K:Row}{agg:Bool}{V:Row}:{es:List MapEntry}->{l:List (K.den×V.den)}->dD H F w K agg V es l->dD H' F' w' K agg V es l
 |[],_,h=>h
 |_::_,_,h=>by obtain⟨k,x,l',e,h1,h2,h3⟩:=h;exact⟨k,x,l',e,h1,h2.keep hH hs,dD.keep hH hs h3⟩
theorem dD.dU{H H':aj}{F:Nat->Prop}{w:World}{K:Row}{agg:Bool}{V:Row}:{es:List MapEntry}->{l:List (K.den×V.den)}->dD H F w K agg V es l->dD H' F w K agg V es l
 |[],_,h=>h
 |_::_,_,h=>by
  obtain⟨k,x,l',e,h1,⟨cs,h2,rJ⟩,h3⟩:=h;exact⟨k,x,l',e,h1,⟨cs,h2,rJ⟩,dD.dU h3⟩
noncomputable def bP:(K:Row)->K.den->K.den->Bool
 | .int _,a,b=>decide ((a:Int)=b)
 | .bool,a,b=>decide ((a:Bool)=b)
 | .str,a,b=>decide ((a:ByteArray)=b)
 | .pair (.int _) (.int _),a,b=>decide ((a.1:Int)=b.1/\(a.2:Int)=b.2)
 |_,_,_=>false
def xP(H:aj)(F:Nat->Prop)(w:World)(S:Nat->Prop)(K:Row)(agg:Bool)(V:Row)(b:Nat)(es:Array MapEntry)(clock:Nat):Option (Nat×List (K.den×V.den)×Option (K.den×V.den))->Prop
 |none=>True
 |some (n,left,cur)=>∃r since seen last,S r/\r≠b/\H.val n=some (.pointer (some ⟨r,0,none⟩))/\w.heap[r]? =some (.mapIter (some b) since seen last)/\(∀x∈es.toList,x.born<since)/\since<=last/\since<=clock/\
   (∃l2,dD H F w K agg V (leftOf es seen).toList l2/\l2.Perm left)/\∀p,cur=some p->last=clock/\∃e∈es.toList,(∃s0:Array Nat,seen=s0.push e.born)/\fN K p.1=some e.key/\au H F w agg (.leaf V p.2) e.val
theorem xP.keep{H H':aj}{F F':Nat->Prop}{w w':World}{S:Nat->Prop}{K:Row}{agg:Bool}{V:Row}{b:Nat}{es:Array MapEntry}{clock:Nat}{it:Option (Nat×List (K.den×V.den)×Option (K.den×V.den))}
 (hH:H.le H')(hs:Step F w F' w')(hb:∀k,S k->w'.heap[k]? =w.heap[k]?)(h:xP H F w S K agg V b es clock it):xP H' F' w' S K agg V b es clock it:=by
 match it,h with
 |none,_=>trivial
 |some (n,left,cur),⟨r,since,seen,last,h1,h2,h3,h4,h5,h6,Om,⟨l2,h7,h8⟩,h9⟩=>
  exact⟨r,since,seen,last,h1,h2,hH.val _ _ h3,(hb r h1).trans h4,h5,h6,Om,⟨l2,h7.keep hH hs,h8⟩,fun p hp=>by
   obtain⟨g1,e,g2,g3,g4,g5⟩:=h9 p hp
   exact⟨g1,e,g2,g3,g4,g5.keep hH hs⟩⟩
theorem xP.dU{H H':aj}{F:Nat->Prop}{w:World}{S:Nat->Prop}{K:Row}{agg:Bool}{V:Row}{b:Nat}{es:Array MapEntry}{clock:Nat}{it:Option (Nat×List (K.den×V.den)×Option (K.den×V.den))}
 (hn:∀n x u,it=some (n,x)->H.val n=some u->H'.val n=some u)(h:xP H F w S K agg V b es clock it):xP H' F w S K agg V b es clock it:=by
 match it,h,hn with
 |none,_,_=>trivial
 |some (n,left,cur),⟨r,since,seen,last,h1,h2,h3,h4,h5,h6,Om,⟨l2,h7,h8⟩,h9⟩,hn=>
  exact⟨r,since,seen,last,h1,h2,hn _ _ _ rfl h3,h4,h5,h6,Om,⟨l2,h7.dU,h8⟩,fun p hp=>by
   obtain⟨g1,e,g2,g3,g4,cs,g5,g6⟩:=h9 p hp
   exact⟨g1,e,g2,g3,g4,cs,g5,g6⟩⟩
def km(H:aj)(F:Nat->Prop)(w:World)(d:DR)(h:Option ql)(i:Nat)(x':d.low.den)(x:d.row.den)(S:Nat->Prop):Prop:=
 match h with
 |none=>fO F w d x' x S
 |some h=>(h.i≠(i:Int)->fO F w d x' x S)/\(h.i=(i:Int)->∃T' e,∃q:dA d (.sl T' e),d.path h.p=some ⟨_,q⟩/\gX F w q x' x S/\H.val h.o=some (q.lo.get x'))
theorem km.keep{H H':aj}{F F':Nat->Prop}{w w':World}{d:DR}{h:Option ql}{i:Nat}{x':d.low.den}{x:d.row.den}{S:Nat->Prop}(hr:km H F w d h i x' x S)(hH:H.le H')(hs:Step F w F' w')(hb:∀k,S k->w'.heap[k]? =w.heap[k]?):km H' F' w' d h i x' x S:=by
 cases h with
 |none=>exact fO.keep hs hr hb
 |some h=>
  refine⟨fun hi=>(hr.1 hi).keep hs hb,fun hi=>?_⟩;obtain⟨T',e,q,h1,h2,h3⟩:=hr.2 hi;exact⟨T',e,q,h1,h2.keep hs hb,hH.val _ _ h3⟩
def fp(S:Nat->Prop)(v:Value):Th->Nat->Prop
 | .box ..,k=>v= .pointer (some ⟨k,0,none⟩)
 | .own ..,k=>aS v k
 | .oj ..,_=>False
 | .map ..,k=>v= .map (some k)
 | .fmap ..,_=>False
 | .deep ..,k=>S k
 | .fdeep ..,_=>False
 | .smap ..,k=>S k
def eF(H:aj)(F:Nat->Prop)(w:World)(S:Nat->Prop)(v:Value):Th->Prop
 | .box T t=>∃b es,v= .pointer (some ⟨b,0,none⟩)/\w.heap[b]? =some (.cells es.toArray T (0,0))/\Holds H F w t es
 | .own T r l=>∃xs,iY w 0 T r.size v l.length xs/\∀i(h:i<l.length),bF F w r ((xs.drop (i*r.size)).take r.size) l[i]
 | .oj _ r l=>bF F w (.slice r) [v] l
 | .fmap _ K agg V l=>bF F w (.map K agg V) [v] l
 | .map _ K agg V l=>∃b es clock,v= .map (some b)/\w.heap[b]? =some (.map es clock)/\MapKept.Stamped es clock/\dD H F w K agg V es.toList l
 | .deep T d l h=>Ba F w T d.low (km H F w d h) v l S
 | .fdeep _ d l=>bF F w (.slice d.row) [v] l
 | .smap _ K agg V l it=>∃b es clock l',v= .map (some b)/\S b/\w.heap[b]? =some (.map es clock)/\MapKept.Stamped es clock/\dD H F w K agg V es.toList l'/\l'.Perm l/\xP H F w S K agg V b es clock it
structure Bb(U:Nat->Prop)(H:aj)(F:Nat->Prop)(w:World)(v:Value)(s:Nat)(t:Th):Prop where
 one:v.oneCell'=true
 con:H.con s=some t.base
 ok:eF H F w (H.sub s) v t
 no:∀k,fp (H.sub s) v t k->¬F k
 lt:∀k,fp (H.sub s) v t k->k<w.heap.size
 use:∀k,fp (H.sub s) v t k->U k
structure ak(U:Nat->Prop)(H:aj)(F:Nat->Prop)(w:World)(ob:Nat->Option (Nat×Th))(n:Nat):Prop where
 obj:∀o s t,ob o=some (s,t)->∃v,H.val o=some v/\Bb U H F w v s t
 apart:∀o o' s s' t t' v v',o≠o'->ob o=some (s,t)->ob o'=some (s',t')->H.val o=some v->H.val o'=some v'->∀k,fp (H.sub s) v t k->¬fp (H.sub s') v' t' k
 fresh:∀m,n<=m->m<n+16->H.val m=none/\H.con m=none
 lt:∀b,F b->b<w.heap.size
 new:∀b,w.heap.size<=b->U b
 gl:mN F w
theorem eF.heap{S:Nat->Prop}{v:Value}{t:Th}(h:eF H F w S v t)(hH:H.le H')(hs:Step F w F' w')(hb:∀k,fp S v t k->w'.heap[k]? =w.heap[k]?):eF H' F' w' S v t:=by
 cases t with
 |box T t=>
  obtain⟨b,es,rfl,h1,h2⟩:=h;exact⟨b,es,rfl,(hb b rfl).trans h1,h2.keep hH hs⟩
 |own T r l=>
  obtain⟨xs,⟨vg,xx⟩,h3⟩:=h;refine⟨xs,⟨vg,?_⟩,fun i hi=>(h3 i hi).step hs⟩
  rcases xx with h2|⟨gg,o0,cap,cur,rfl,pW,hg,rest⟩
  .exact .inl h2
  .exact .inr ⟨gg,o0,cap,cur,rfl,pW,(hb gg rfl).trans hg,rest⟩
 |oj T r l=>exact bF.step (r:= .slice r) hs h
 |fmap T K agg V l=>exact bF.step (r:= .map K agg V) hs h
 |fdeep T d l=>exact bF.step (r:= .slice d.row) hs h
 |deep T d l hh=>exact Ba.mono (show Ba F w T d.low _ v l S from h) hs hb fun i x' hi A hA hr=>hr.keep hH hs fun k hk=>hb k (hA k hk)
 |map T K agg V l=>
  obtain⟨b,es,clock,rfl,h1,h2,h3⟩:=h;exact⟨b,es,clock,rfl,(hb b rfl).trans h1,h2,h3.keep hH hs⟩
 |smap T K agg V l it=>
  obtain⟨b,es,clock,l',rfl,h0,h1,h2,h3,h4,h5⟩:=h;exact⟨b,es,clock,l',rfl,h0,(hb b h0).trans h1,h2,h3.keep hH hs,h4,h5.keep hH hs hb⟩
theorem fa.of{v:Value}{T:TypeId}{r:Row}{l:List r.den}{S:Nat->Prop}(h:eF H F w S v (.own T r l))(hn:∀k,aS v k->¬F k):fa 0 F w T r v l:=⟨hn,h⟩
theorem fa.to{v:Value}{T:TypeId}{r:Row}{l:List r.den}(S:Nat->Prop)(h:fa 0 F w T r v l):eF H F w S v (.own T r l):=h.2
end
structure State where
 ah:List (Nat×ag)
 objs:List (Nat×(Nat×Th))
 nxt:Nat
def eI(H:aj)(n:Nat):Prop:=∀m,n<=m->H.val m=none/\H.con m=none
structure Sat(U:Nat->Prop)(H:aj)(F:Nat->Prop)(w:World)(ρ:Nat->Value)(st:State):Prop where
 slot:∀t d,find st.ah t=some d->af H F w d (ρ t)
 ob:ak U H F w (find st.objs) st.nxt
 all:eI H st.nxt
structure cL where
 dst:ag
 eat:List Nat:=[]
 make:List (Nat×(Nat×Th)):=[]
def State.apply(st:State)(d:Option Nat)(e:cL):State:=
 {ah:=(match d with|some d=>(d,e.dst)::st.ah|none=>st.ah),objs:=e.make++del e.eat st.objs,nxt:=st.nxt+16}
def bq(H:aj)(ob:Nat->Option (Nat×Th))(eat:List Nat)(k:Nat):Prop:=∃o∈eat,∃s t v,ob o=some (s,t)/\H.val o=some v/\fp (H.sub s) v t k
structure F6(H:aj)(F:Nat->Prop)(w:World)(H':aj)(F':Nat->Prop)(w':World)(g:Nat->Prop):Prop where
 dU:H.le H'
 ext:Ext g w w'
 le:∀b,F b->F' b
 grow:∀b,F' b->F b\/w.heap.size<=b\/g b
 lt:∀b,F' b->b<w'.heap.size
structure Made(H':aj)(F':Nat->Prop)(w w':World)(g:Nat->Prop)(make:List (Nat×(Nat×Th))):Prop where
 obj:∀o s t,find make o=some (s,t)->∃v,H'.val o=some v/\v.oneCell'=true/\H'.con s=some t.base/\eF H' F' w' (H'.sub s) v t/\∀k,fp (H'.sub s) v t k->¬F' k/\k<w'.heap.size/\(w.heap.size<=k\/g k)
 apart:∀o o' s s' t t' v v',o≠o'->find make o=some (s,t)->find make o'=some (s',t')->H'.val o=some v->H'.val o'=some v'->∀k,fp (H'.sub s) v t k->¬fp (H'.sub s') v' t' k
structure gZ(H:aj)(F:Nat->Prop)(w:World)(ob:Nat->Option (Nat×Th))(n:Nat)(e:cL)(v:Value)(w':World)(H':aj)(F':Nat->Prop):Prop where
 gz:F6 H F w H' F' w' (bq H ob e.eat)
 fresh:∀m,(m<n\/n+16<=m)->(H.val m=none->H'.val m=none)/\(H.con m=none->H'.con m=none)
 dst:af H' F' w' e.dst v
 made:Made H' F' w w' (bq H ob e.eat) e.make
 ids:∀o,(find e.make o).isSome->o∈e.eat\/n<=o
def ie(H:aj)(F:Nat->Prop)(w:World)(ob:Nat->Option (Nat×Th))(n:Nat)(e:cL)(v:Value)(w':World):Prop:=∃H' F',gZ H F w ob n e v w' H' F'
def pK(ρ:Nat->Value):Option Nat->Value->Nat->Value
 |some d,v=>xw ρ d v
 |none,_=>ρ
theorem ko(ρ:Nat->Value)(d:Nat)(v:Value)(t:Nat):xw ρ d v t=if t=d then v else ρ t:=by
 unfold xw;by_cases h:t=d
 .subst h;simp
 .have:YE t d=false:=by
   cases hb:YE t d with
   |false=>rfl
   |true=>exact absurd (Zo hb) h
  simp[this,h]
section
variable {U:Nat->Prop} {H H':aj} {F F':Nat->Prop} {w w':World} {ρ:Nat->Value} {st:State}
theorem F6.step{g:Nat->Prop}(h:F6 H F w H' F' w' g)(hF:∀b,F b->b<w.heap.size)(hg:∀k,g k->¬F k):Step F w F' w':=
 fun b hb=>⟨h.le b hb,h.ext.block b (hF b hb) fun e=>hg b e hb⟩
theorem ak.de{ob:Nat->Option (Nat×Th)}{n:Nat}(h:ak U H F w ob n){eat:List Nat}:∀k,bq H ob eat k->¬F k:=by
 rintro k ⟨o,_,s,t,v,h1,h2,h3⟩
 obtain⟨v',e,hi⟩:=h.obj o s t h1;rw[h2]at e;obtain rfl:=YA e;exact hi.no k h3
theorem ak.qm{ob:Nat->Option (Nat×Th)}{n:Nat}(h:ak U H F w ob n){eat:List Nat}:∀k,bq H ob eat k->k<w.heap.size:=by
 rintro k ⟨o,_,s,t,v,h1,h2,h3⟩
 obtain⟨v',e,hi⟩:=h.obj o s t h1;rw[h2]at e;obtain rfl:=YA e;exact hi.lt k h3
theorem ak.dG{ob:Nat->Option (Nat×Th)}{n:Nat}(h:ak U H F w ob n){eat:List Nat}:∀k,bq H ob eat k->U k:=by
 rintro k ⟨o,_,s,t,v,h1,h2,h3⟩
 obtain⟨v',e,hi⟩:=h.obj o s t h1;rw[h2]at e;obtain rfl:=YA e;exact hi.use k h3
theorem Bb.gz{ob:Nat->Option (Nat×Th)}{n:Nat}(hs:ak U H F w ob n){eat:List Nat}(he:F6 H F w H' F' w' (bq H ob eat)){o s:Nat}{t:Th}{v:Value}(ho:ob o=some (s,t))(hn:o∉eat)(hv:H.val o=some v)(h:Bb U H F w v s t):Bb U H' F' w' v s t:=by
 have Sd:∀k,fp (H.sub s) v t k->¬bq H ob eat k:=by
  rintro k hk ⟨o',gm,s',t',v',h1,h2,h3⟩
  exact hs.apart o o' s s' t t' v v' (fun e=>hn (e▸gm)) ho h1 hv h2 k hk h3
 have dQ:=he.dU.sub _ _ h.con;refine⟨h.one,he.dU.con _ _ h.con,by rw[dQ];exact h.ok.heap he.dU (he.step hs.lt hs.de) fun k hk=>he.ext.block k (h.lt k hk) (Sd k hk),fun k hk hF=>?_,fun k hk=>Y8 (h.lt k (by rwa [dQ]at hk)) he.ext.size,fun k hk=>h.use k (by rwa [dQ]at hk)⟩;rw[dQ]at hk
 rcases he.grow k hF with h1|h1|h1
 .exact h.no k hk h1
 .have:=h.lt k hk;omega
 .exact Sd k hk h1
theorem ak.DB{ob F7 DC:Nat->Option (Nat×Th)}{n n' m:Nat}{e:cL}{v:Value}(h:ak U H F w ob n)(hR:∀o x,F7 o=some x->ob o=some x)(hp:gZ H F w F7 m e v w' H' F')
 (part:∀o s t,DC o=some (s,t)->find e.make o=some (s,t)\/(o∉e.eat/\ob o=some (s,t)/\find e.make o=none))(tR:∀m,n'<=m->m<n'+16->H'.val m=none/\H'.con m=none):
 ak U H' F' w' DC n':=by
 have qn:∀k,bq H F7 e.eat k->bq H ob e.eat k:=fun k ⟨o,ho,s,t,v,h1,h2⟩=>⟨o,ho,s,t,v,hR _ _ h1,h2⟩
 have K6:F6 H F w H' F' w' (bq H ob e.eat):=⟨hp.gz.dU,⟨hp.gz.ext.os,hp.gz.ext.tape,hp.gz.ext.output,hp.gz.ext.size,fun k hk hn=>hp.gz.ext.block k hk fun hh=>hn (qn k hh)⟩,hp.gz.le,fun b hb=>(hp.gz.grow b hb).imp id fun h=>h.imp id (qn b),hp.gz.lt⟩
 have F8:∀o s t,o∉e.eat->ob o=some (s,t)->∃v,H.val o=some v/\H'.val o=some v/\Bb U H' F' w' v s t/\H'.sub s=H.sub s/\∀k,fp (H'.sub s) v t k->k<w.heap.size/\¬bq H ob e.eat k:=by
  intro o s t ho hf;obtain⟨v,hv,hi⟩:=h.obj o s t hf;have dQ:=hp.gz.dU.sub _ _ hi.con;refine⟨v,hv,hp.gz.dU.val _ _ hv,hi.gz h K6 hf ho hv,dQ,fun k hk=>?_⟩;rw[dQ]at hk;refine⟨hi.lt k hk,?_⟩
  rintro⟨o',gm,s',t',v',h1,h2,h3⟩
  exact h.apart o o' s s' t t' v v' (fun e=>ho (e▸gm)) hf h1 hv h2 k hk h3
 refine⟨fun o s t ho=>?_,fun o o' s s' t t' v v' b8 ho gm hv cQ k hk ig=>?_,tR,hp.gz.lt,fun b hb=>h.new b (Y3 hp.gz.ext.size hb),h.gl.step (K6.step h.lt h.de)⟩
 .rcases part o s t ho with h1|⟨h1,h2,_⟩
  .obtain⟨v,a1,a2,a3,a4,a5⟩:=hp.made.obj o s t h1;exact⟨v,a1,a2,a3,a4,fun k hk=>(a5 k hk).1,fun k hk=>(a5 k hk).2.1,fun k hk=>(a5 k hk).2.2.elim (h.new k) (fun hh=>h.dG k (qn k hh))⟩
  .obtain⟨v,_,a2,a3,_,_⟩:=F8 o s t h1 h2;exact⟨v,a2,a3⟩
 .rcases part o s t ho with h1|⟨h1,h2,_⟩<;>rcases part o' s' t' gm with qp|⟨qp,rJ,_⟩
  .exact hp.made.apart o o' s s' t t' v v' b8 h1 qp hv cQ k hk ig
  .obtain⟨u,_,a1,_,_,a5⟩:=hp.made.obj o s t h1;obtain⟨u',_,b2,_,_,b4⟩:=F8 o' s' t' qp rJ;have e1:=YA (cQ.symm.trans b2);subst e1;have e2:=YA (hv.symm.trans ‹H'.val o=some u›);subst e2
   rcases(a5 k hk).2.2 with h3|h3
   .have:=(b4 k ig).1;omega
   .exact(b4 k ig).2 (qn k h3)
  .obtain⟨u,_,a1,_,_,a5⟩:=hp.made.obj o' s' t' qp;obtain⟨u',_,b2,_,_,b4⟩:=F8 o s t h1 h2;have e1:=YA (hv.symm.trans b2);subst e1;have e2:=YA (cQ.symm.trans ‹H'.val o'=some u›);subst e2
   rcases(a5 k ig).2.2 with h3|h3
   .have:=(b4 k hk).1;omega
   .exact(b4 k hk).2 (qn k h3)
  .obtain⟨u,b1,b2,_,b5,_⟩:=F8 o s t h1 h2;obtain⟨u',c1,c2,_,c5,_⟩:=F8 o' s' t' qp rJ;rw[b5]at hk;rw[c5]at ig;have e1:=YA (hv.symm.trans b2);have e2:=YA (cQ.symm.trans c2);subst e1;subst e2;exact h.apart o o' s s' t t' v v' b8 h2 rJ b1 c1 k hk ig
theorem xQ{objs:List (Nat×(Nat×Th))}{e:cL}:∀o s t,find (e.make++del e.eat objs) o=some (s,t)->find e.make o=some (s,t)\/(o∉e.eat/\find objs o=some (s,t)/\find e.make o=none):=by
 intro o s t ho;rw[eG]at ho
 cases hm:find e.make o with
 |some x=>rw[hm]at ho;exact .inl ho
 |none=>
  rw[hm,ZW]at ho;obtain⟨h1,h2⟩:=eH.1 ho;exact .inr ⟨h1,h2,rfl⟩
theorem Sat.apply{d:Option Nat}{e:cL}{v:Value}(h:Sat U H F w ρ st)(hp:gZ H F w (find st.objs) st.nxt e v w' H' F'):Sat U H' F' w' (pK ρ d v) (st.apply d e):=by
 have di:eI H' (st.nxt+16):=fun m hm=>⟨(hp.fresh m (.inr hm)).1 (h.all m (by omega)).1,(hp.fresh m (.inr hm)).2 (h.all m (by omega)).2⟩
 refine⟨fun t q hq=>?_,h.ob.DB (fun _ _ h=>h) hp xQ fun m hm _=>di m hm,di⟩;have dC:=hp.gz.step h.ob.lt h.ob.de
 cases d with
 |none=>exact(h.slot t q hq).keep hp.gz.dU dC
 |some d=>
  have pc:find ((d,e.dst)::st.ah) t=some q:=hq;rw[aw]at pc
  show af H' F' w' q (xw ρ d v t)
  rw[ko];by_cases hd:d=t
  .rw[if_pos hd]at pc;rw[if_pos hd.symm];obtain rfl:=YA pc;exact hp.dst
  .rw[if_neg hd]at pc;rw[if_neg (Ne.symm hd)];exact(h.slot t q pc).keep hp.gz.dU dC
end
end Go.Proofs.YtbladfbbhijpmaaGreat
end
section
open _root_.BitVec renaming ofInt->ZA
open _root_.Int renaming tdiv->ZK,tmod->Z7
open _root_.Nat renaming blt->Zl,le_refl->YD
open _root_.Option.some renaming inj->YA
namespace Go.Proofs.YtbladfbbhijpmaaGreat
open Go Go.RowKit
def bl(P:Program)(ρ:Nat->Value)(o:Oper)(w:World)(Q:Value->World->Prop):Prop:=
 match(execOp (ev ρ) o).run P w with
 | .ok (.value v) w'=>True/\Q v w'
 | .ok .skip w'=>o.dst=none/\Q undef w'
 | .ok (.enter f args) w'=>Calls P f args w' fun e p3=>∃v,e= .returned v/\Q v p3
 |_=>False
section
variable {P:Program} {n:Nat} {ops:Array Oper} {K:(Nat->Value)->World->Prop} {rest:List Oper} {ρ:Nat->Value} {w:World}
variable {dst:Option Nat} {op:Op} {ty:TypeId} {pos:String} {aft:Array Edge} {Q:Value->World->Prop}
theorem bl.mono{o:Oper}{Q':Value->World->Prop}(h:bl P ρ o w Q)(hq:∀v w',Q v w'->Q' v w'):bl P ρ o w Q':=by
 unfold bl at*;generalize(execOp (ev ρ) o).run P w=r at*
 cases r with
 |halt x w'=>exact h
 |ok x w'=>
  cases x<;>first
   |exact h
   |exact⟨h.1,hq _ _ h.2⟩
   |exact h.mono fun e p3 ⟨v,he,hv⟩=>⟨v,he,hq _ _ hv⟩
theorem bl.val{d:Option Nat}{v:Value}{w':World}(hr:(execOp (ev ρ) ⟨d,op,ty,pos,aft,none⟩).run P w= .ok (.value v) w')(h:Q v w'):bl P ρ ⟨d,op,ty,pos,aft,none⟩ w Q:=by
 unfold bl;rw[hr];exact⟨trivial,h⟩
theorem bl.unit{w':World}(hr:(execOp (ev ρ) ⟨none,op,ty,pos,aft,none⟩).run P w= .ok .skip w')(h:Q undef w'):bl P ρ ⟨none,op,ty,pos,aft,none⟩ w Q:=by
 unfold bl;rw[hr];exact⟨rfl,h⟩
theorem qs(h:bl P ρ ⟨dst,op,ty,pos,aft,none⟩ w Q)(hd:∀d,dst=some d->Zl d n=true)
 (hk:∀v w',Q v w'->wpS P n ops K rest (pK ρ dst v) w'):wpS P n ops K (⟨dst,op,ty,pos,aft,none⟩::rest) ρ w:=
 fun QQ a hf Bc=>wpList_plain rfl fun K' hK=>by
  unfold Oper.wp;rw[hf.eval];unfold bl at h;generalize(execOp (ev ρ) ⟨dst,op,ty,pos,aft,none⟩).run P w=r at*
  have mO:∀v,Fr n (a.put dst v) (pK ρ dst v):=fun v=>by
   cases dst with
   |none=>exact hf
   |some d=>exact hf.put (hd d rfl) v
  cases r with
  |halt x w'=>exact h.elim
  |ok x w'=>
   cases x<;>first
    |exact h.elim
    |skip
   case value v=>exact hK _ _ (hk v w' h.2 QQ _ (mO v) Bc)
   case skip=>exact hK _ _ (hk undef w' h.2 QQ _ (mO undef) Bc)
   case enter f args=>
    refine h.mono fun e p3 ⟨v,he,hv⟩=>?_
    subst he;exact hK _ _ (hk v p3 hv QQ _ (mO v) Bc)
end
inductive CV where
 |int (k:IntKind)
 |bool
 |str
 |slice (e:TypeId)
 |struct (fs:List (TypeId×Nat))
 |array (n:Nat) (e:TypeId)
 |map (k v:TypeId)
 |ptr (e:TypeId)
 |other
def sj(P:Program)(t:TypeId):CV->Prop
 | .int k=>P.underlying t=some (.int k)
 | .bool=>P.underlying t=some .bool
 | .str=>P.underlying t=some .string
 | .slice e=>P.underlying t=some (.slice e)
 | .struct fs=>∃arr:Array Field,P.underlying t=some (.struct arr)/\arr.toList.map (fun f=>(f.type,f.offset))=fs
 | .array n e=>P.underlying t=some (.array n e)
 | .map k v=>P.underlying t=some (.map k v)
 | .ptr e=>P.underlying t=some (.pointer e)
 | .other=>∃d,P.underlying t=some d/\fy d=false
def tS(P:Program)(t:TypeId)(agg:Bool)(r:Row):Prop:=∃z,(P.info? t).bind (·.zero)=some z/\z=(bif agg then .agg r.dc.toArray else r.dc.headD undef)
def zG(P:Program)(t:TypeId)(name:String)(f:FuncId)(pr:Bool):Prop:=
 ((P.info? t).bind fun i=>i.methods.find? fun m=>m.name==name).map (fun m=>(m.path.toList.length,m.func))=some (0,some (f,pr))
structure aI(P:Program)where
 und:List (Nat×CV)
 row:List (Nat×Row)
 eqs:List (Nat×Row)
 zer:List (Nat×(Bool×Row))
 und_ok:∀t k,find und t=some k->sj P t k
 row_ok:∀t r,find row t=some r->TI P t r
 eqs_ok:∀t r,find eqs t=some r->∃K d,kj P t r K/\d+K=10000/\P.eqGuardType P.depth t=false/\(P.underlying t).any fy=true
 zer_ok:∀t agg r,find zer t=some (agg,r)->tS P t agg r
 kys:List TypeId
 kys_ok:∀t∈kys,∀(em:Bool)(a b:Value)(w:World),(Instr.checkKey em 10000 t (.agg #[a,b])).run P w= .ok () w
 mth:List (TypeId×(String×(FuncId×Bool)))
 mth_ok:∀p∈mth,zG P p.1 p.2.1 p.2.2.1 p.2.2.2
def fP:CV->Bool
 | .struct _| .array _ _=>true
 |_=>false
theorem sj.agg{P:Program}{t:TypeId}{k:CV}(h:sj P t k):∃d,P.underlying t=some d/\fy d=fP k:=by
 cases k<;>first
  |exact⟨_,h,rfl⟩
  |(obtain⟨arr,h,_⟩:=h;exact⟨_,h,rfl⟩)
  |exact h
theorem jc{α:Type}{Q:Nat->α->Prop}{l:List (Nat×α)}(h:∀p∈l,Q p.1 p.2):∀t a,find l t=some a->Q t a:=by
 intro t a
 induction l with
 |nil=>intro h';cases h'
 |cons p l ih=>
  obtain⟨m,b⟩:=p;rw[aw];split
  .rename_i e;intro h';obtain rfl:=YA h';subst e;exact h (m,b) (by simp)
  .exact ih (fun q hq=>h q (by simp[hq]))
def xR:Value->Option ag
 | .int k n=>some (.val false (.leaf (.int k) n))
 | .bool b=>some (.val false (.leaf .bool b))
 | .string s=>some (.val false (.leaf .str s))
 | .slice none 0 0=>some (.val false .nil)
 | .map none=>some (.val false (.leaf (.nul .map) ()))
 | .pointer none=>some (.val false (.leaf (.nul .ptr) ()))
 | .nilFunc=>some (.val false (.leaf (.nul .func) ()))
 | .nilIface=>some .dead
 |_=>none
def Bd(ah:List (Nat×ag)):Operand->Option ag
 | .tmp t=>find ah t
 | .const v=>xR v
 | .func f=>some (.fn f [])
 | .global g=>match find Dz g with
   |some d=>some (.at d.1 d.2)
   |none=>none
theorem au.jd{H:aj}{F:Nat->Prop}{w:World}{r:Row}{x:r.den}{v:Value}(h:bF F w r [v] x):au H F w false (.leaf r x) v:=⟨[v],h,rfl,fun _=>rfl⟩
theorem Be{H:aj}{F:Nat->Prop}{w:World}{v:Value}{d:ag}(h:xR v=some d):af H F w d v:=by
 unfold xR at h
 split at h<;>first|cases h|skip
 .exact au.jd rfl
 .exact au.jd rfl
 .exact au.jd rfl
 .exact⟨_,rfl,rfl,fun _=>rfl⟩
 .exact au.jd rfl
 .exact au.jd rfl
 .exact au.jd rfl
 .trivial
theorem ol{H:aj}{F:Nat->Prop}{w:World}{ρ:Nat->Value}{ah:List (Nat×ag)}(hg:mN F w)(h:∀t d,find ah t=some d->af H F w d (ρ t)):∀x d,Bd ah x=some d->af H F w d (ev ρ x):=by
 intro x d hx
 cases x with
 |tmp t=>exact h t d hx
 |const v=>exact Be hx
 |global g=>
  have F9:(match find Dz g with|some d=>some (ag.at d.1 d.2)|none=>none)=some d:=hx;split at F9
  .rename_i q hq;obtain rfl:=YA F9;obtain⟨h1,h2⟩:=hg g q hq;exact⟨g,0,rfl,h1,h2⟩
  .cases F9
 |func f=>obtain rfl:=YA hx;exact⟨[],rfl,rfl⟩
theorem au.inv{H:aj}{F:Nat->Prop}{w:World}{r:Row}{x:r.den}{v:Value}(h:au H F w false (.leaf r x) v):bF F w r [v] x:=by
 obtain⟨cs,h1,_,h3⟩:=h;rw[h3 rfl]at h1;exact h1
theorem au.int{H:aj}{F:Nat->Prop}{w:World}{k:IntKind}{x:Int}{v:Value}(h:au H F w false (.leaf (.int k) x) v):v= .int k x:=by
 have:=h.inv;simpa[bF]using this
theorem au.bool{H:aj}{F:Nat->Prop}{w:World}{x:Bool}{v:Value}(h:au H F w false (.leaf .bool x) v):v= .bool x:=by
 have:=h.inv;simpa[bF]using this
theorem au.str{H:aj}{F:Nat->Prop}{w:World}{x:ByteArray}{v:Value}(h:au H F w false (.leaf .str x) v):v= .string x:=by
 have:=h.inv;simpa[bF]using this
theorem au.fD(H:aj)(F:Nat->Prop)(w:World)(k:IntKind)(x:Int):au H F w false (.leaf (.int k) x) (.int k x):=au.jd rfl
theorem au.dy(H:aj)(F:Nat->Prop)(w:World)(x:Bool):au H F w false (.leaf .bool x) (.bool x):=au.jd rfl
theorem au.mkStr(H:aj)(F:Nat->Prop)(w:World)(x:ByteArray):au H F w false (.leaf .str x) (.string x):=au.jd rfl
abbrev iG(k:IntKind)(x:Int):ag:= .val false (.leaf (.int k) x)
abbrev cJ(x:Bool):ag:= .val false (.leaf .bool x)
abbrev On(x:ByteArray):ag:= .val false (.leaf .str x)
def asInt:ag->Option (IntKind×Int)
 | .val false (.leaf (.int k) x)=>some (k,x)
 |_=>none
def asBool:ag->Option Bool
 | .val false (.leaf .bool x)=>some x
 |_=>none
def vo:ag->Option ByteArray
 | .val false (.leaf .str x)=>some x
 |_=>none
section
variable {P:Program} {ρ:Nat->Value} {w w':World} {H H':aj} {F F':Nat->Prop} {U:Nat->Prop} {ob:Nat->Option (Nat×Th)} {n:Nat} {R:Type}
variable {dst:Option Nat} {op:Op} {ty:TypeId} {pos:String} {aft:Array Edge} {d:Nat}
theorem eJ{D:ag}{k:IntKind}{x:Int}{v:Value}(h:asInt D=some (k,x))(hd:af H F w D v):v= .int k x:=by
 unfold asInt at h
 split at h<;>cases h
 exact au.int hd
theorem jG{D:ag}{x:Bool}{v:Value}(h:asBool D=some x)(hd:af H F w D v):v= .bool x:=by
 unfold asBool at h
 split at h<;>cases h
 exact au.bool hd
theorem qt{D:ag}{x:ByteArray}{v:Value}(h:vo D=some x)(hd:af H F w D v):v= .string x:=by
 unfold vo at h
 split at h<;>cases h
 exact au.str hd
def bz(P:Program)(_U:Nat->Prop)(H:aj)(F:Nat->Prop)(w:World)(ρ:Nat->Value)(ob:Nat->Option (Nat×Th))(n:Nat)(o:Oper)(e:cL):Prop:=
 bl P ρ o w (ie H F w ob n e)
theorem F6.refl{g:Nat->Prop}(hF:∀b,F b->b<w.heap.size):F6 H F w H F w g:=⟨aj.le.refl H,⟨rfl,⟨rfl,YD _⟩,rfl,YD _,fun _ _ _=>rfl⟩,fun _ h=>h,fun _ h=> .inl h,hF⟩
theorem Made.nil{g:Nat->Prop}:Made H' F' w w' g []:=⟨fun _ _ _ h=>(by cases h),fun _ _ _ _ _ _ _ _ _ h=>(by cases h)⟩
theorem gZ.pure(hs:ak U H F w ob n){D:ag}{v:Value}(h:af H F w D v):ie H F w ob n {dst:=D} v w:=
 ⟨H,F,F6.refl hs.lt,fun m hm=>⟨id,id⟩,h,Made.nil,fun o h=>by cases h⟩
theorem aW(hs:ak U H F w ob n){D:ag}{v:Value}(hr:(execOp (ev ρ) ⟨some d,op,ty,pos,aft,none⟩).run P w= .ok (.value v) w)(h:af H F w D v):bz P U H F w ρ ob n ⟨some d,op,ty,pos,aft,none⟩ {dst:=D}:=
 bl.val hr (gZ.pure hs h)
theorem ay(hs:ak U H F w ob n){D:ag}{v:Value}(hr:Pure P ρ ⟨some d,op,ty,pos,aft,none⟩ v)(h:af H F w D v):bz P U H F w ρ ob n ⟨some d,op,ty,pos,aft,none⟩ {dst:=D}:=
 aW hs (hr w) h
def al(o:BinOp)(k:IntKind)(a b:Int):Int:=
 match o with
 | .and=>k.wrap (ZA k.bits a&&& ZA k.bits b).toNat
 | .or=>k.wrap (ZA k.bits a|||ZA k.bits b).toNat
 | .xor=>k.wrap (ZA k.bits a ^^^ ZA k.bits b).toNat
 |_=>k.wrap (ZA k.bits a&&& ~~~ZA k.bits b).toNat
def DD(k:IntKind)(a b:Int):Int:=k.wrap (a*2 ^ min b.toNat k.bits)
def bQ(k:IntKind)(a b:Int):Int:=a.fdiv (2 ^ min b.toNat k.bits)
def om(k:IntKind)(a b:Int):Option Int:=if b<0 then none else some (DD k a b)
def Bf(k:IntKind)(a b:Int):Option Int:=if b<0 then none else some (bQ k a b)
def arith:BinOp->IntKind->Int->Int->Option ag
 | .add,k,a,b=>some (iG k (k.wrap (a+b)))
 | .sub,k,a,b=>some (iG k (k.wrap (a-b)))
 | .mul,k,a,b=>some (iG k (k.wrap (a*b)))
 | .lss,_,a,b=>some (cJ (decide (a<b)))
 | .leq,_,a,b=>some (cJ (decide (a<=b)))
 | .gtr,_,a,b=>some (cJ (decide (b<a)))
 | .geq,_,a,b=>some (cJ (decide (b<=a)))
 | .eql,_,a,b=>some (cJ (decide (a=b)))
 | .neq,_,a,b=>some (cJ (!decide (a=b)))
 | .and,k,a,b=>some (iG k (al .and k a b))
 | .or,k,a,b=>some (iG k (al .or k a b))
 | .xor,k,a,b=>some (iG k (al .xor k a b))
 | .andNot,k,a,b=>some (iG k (al .andNot k a b))
 |_,_,_,_=>none
theorem pure_and{k:IntKind}{a b:Int}{t u:TypeId}{x y:Operand}(hx:ev ρ x= .int k a)(hy:ev ρ y= .int k b):Pure P ρ ⟨some d, .binOp .and t x y u,ty,pos,aft,none⟩ (.int k (al .and k a b)):=fun w=>by simp[execOp,hx,hy,binOp,Op.intBits,eqGuard,al,go_sem]
theorem pure_or{k:IntKind}{a b:Int}{t u:TypeId}{x y:Operand}(hx:ev ρ x= .int k a)(hy:ev ρ y= .int k b):Pure P ρ ⟨some d, .binOp .or t x y u,ty,pos,aft,none⟩ (.int k (al .or k a b)):=fun w=>by simp[execOp,hx,hy,binOp,Op.intBits,eqGuard,al,go_sem]
theorem DE{k:IntKind}{a b:Int}{t u:TypeId}{x y:Operand}(hx:ev ρ x= .int k a)(hy:ev ρ y= .int k b):Pure P ρ ⟨some d, .binOp .xor t x y u,ty,pos,aft,none⟩ (.int k (al .xor k a b)):=fun w=>by simp[execOp,hx,hy,binOp,Op.intBits,eqGuard,al,go_sem]
theorem vp{k:IntKind}{a b:Int}{t u:TypeId}{x y:Operand}(hx:ev ρ x= .int k a)(hy:ev ρ y= .int k b):Pure P ρ ⟨some d, .binOp .andNot t x y u,ty,pos,aft,none⟩ (.int k (al .andNot k a b)):=fun w=>by simp[execOp,hx,hy,binOp,Op.intBits,eqGuard,al,go_sem]
theorem vq{k k':IntKind}{a b:Int}{t u:TypeId}{x y:Operand}(hx:ev ρ x= .int k a)(hy:ev ρ y= .int k' b)(hb:¬b<0):Pure P ρ ⟨some d, .binOp .shl t x y u,ty,pos,aft,none⟩ (.int k (DD k a b)):=fun w=>by simp[execOp,hx,hy,binOp,Op.shift,eqGuard,DD,hb,go_sem]
theorem vr{k k':IntKind}{a b:Int}{t u:TypeId}{x y:Operand}(hx:ev ρ x= .int k a)(hy:ev ρ y= .int k' b)(hb:¬b<0):Pure P ρ ⟨some d, .binOp .shr t x y u,ty,pos,aft,none⟩ (.int k (bQ k a b)):=fun w=>by simp[execOp,hx,hy,binOp,Op.shift,eqGuard,bQ,hb,go_sem]
theorem DF{o:BinOp}{k:IntKind}{a b:Int}{D:ag}{t u:TypeId}{x y:Operand}(h:arith o k a b=some D)(hs:ak U H F w ob n)(hx:ev ρ x= .int k a)(hy:ev ρ y= .int k b):
 bz P U H F w ρ ob n ⟨some d, .binOp o t x y u,ty,pos,aft,none⟩ {dst:=D}:=by
 unfold arith at h
 split at h<;>cases h
 .exact ay hs (C8 hx hy) (au.fD ..)
 .exact ay hs (C9 hx hy) (au.fD ..)
 .exact ay hs (Da hx hy) (au.fD ..)
 .exact ay hs (Dd hx hy) (au.dy ..)
 .exact ay hs (De hx hy) (au.dy ..)
 .exact ay hs (Df hx hy) (au.dy ..)
 .exact ay hs (Dg hx hy) (au.dy ..)
 .exact ay hs (Dh hx hy) (au.dy ..)
 .exact ay hs (Di hx hy) (au.dy ..)
 .exact ay hs (pure_and hx hy) (au.fD ..)
 .exact ay hs (pure_or hx hy) (au.fD ..)
 .exact ay hs (DE hx hy) (au.fD ..)
 .exact ay hs (vp hx hy) (au.fD ..)
def K7(a b:Int):Option Int:=if b=0 then none else some (ZK a b)
def K8(a b:Int):Option Int:=if b=0 then none else some (Z7 a b)
def K9:Operand->Bool
 | .const _=>true
 |_=>false
theorem DG{k:IntKind}{a b:Int}{t u:TypeId}{x y:Operand}(hb:b≠0)(hs:ak U H F w ob n)(hx:ev ρ x= .int k a)(hy:ev ρ y= .int k b):
 bz P U H F w ρ ob n ⟨some d, .binOp .quo t x y u,ty,pos,aft,none⟩ {dst:=iG k (k.wrap (ZK a b))}:=
 ay hs (Db hx hy hb) (au.fD ..)
theorem DH{k:IntKind}{a b:Int}{t u:TypeId}{x y:Operand}(hb:b≠0)(hs:ak U H F w ob n)(hx:ev ρ x= .int k a)(hy:ev ρ y= .int k b):
 bz P U H F w ρ ob n ⟨some d, .binOp .rem t x y u,ty,pos,aft,none⟩ {dst:=iG k (Z7 a b)}:=
 ay hs (Dc hx hy hb) (au.fD ..)
end
end Go.Proofs.YtbladfbbhijpmaaGreat
end
section
open _root_.Bool renaming and_eq_true->Zr
open _root_.List renaming append_assoc->Y2,drop_append_of_le_length->Zu,drop_of_length_le->ZC,length_append->YV,take_length->YS
open _root_.Nat renaming beq->YE,eq_of_beq_eq_true->Zo,zero_add->Ze
open _root_.Option.some renaming inj->YA,injEq->YH
open _root_.Prod.mk renaming inj->Z3,injEq->Zx
namespace Go.Proofs.YtbladfbbhijpmaaGreat
open Go Go.RowKit
def Tree.split:Tree->Option (Tree×Tree)
 | .leaf (.pair a b) x=>some (.leaf a x.1, .leaf b x.2)
 | .pair a b=>some (a,b)
 |_=>none
def Tree.get:Tree->List Bool->Option (Tree×Nat)
 |t,[]=>some (t,0)
 |t,d::p=>match t.split with
  |none=>none
  |some (a,b)=>match d with
   |false=>Tree.get a p
   |true=>match Tree.get b p with
    |none=>none
    |some (s,off)=>some (s,a.size+off)
def Tree.put:Tree->List Bool->Tree->Option Tree
 |_,[],u=>some u
 |t,d::p,u=>match t.split with
  |none=>none
  |some (a,b)=>match d with
   |false=>match Tree.put a p u with
    |none=>none
    |some a'=>some (.pair a' b)
   |true=>match Tree.put b p u with
    |none=>none
    |some b'=>some (.pair a b')
def nD:Nat->Nat->List Bool
 |0,_=>[]
 |1,_=>[]
 |_+2,0=>[false]
 |m+2,f+1=>true::nD (m+1) f
section
variable {H:aj} {F:Nat->Prop} {w:World}
theorem Holds.split{t a b:Tree}{cs:List Value}(hs:t.split=some (a,b))(h:Holds H F w t cs):∃c1 c2,cs=c1++c2/\Holds H F w a c1/\Holds H F w b c2/\t.size=a.size+b.size:=by
 unfold Tree.split at hs
 split at hs<;>cases hs
 .obtain⟨c1,c2,e,h1,h2⟩:=h;exact⟨c1,c2,e,h1,h2,rfl⟩
 .obtain⟨c1,c2,e,h1,h2⟩:=h;exact⟨c1,c2,e,h1,h2,rfl⟩
theorem Holds.get:{p:List Bool}->{t s:Tree}->{off:Nat}->{cs:List Value}->t.get p=some (s,off)->Holds H F w t cs->Holds H F w s ((cs.drop off).take s.size)/\off+s.size<=cs.length
 |[],t,s,off,cs,hg,h=>by
  obtain⟨rfl,rfl⟩:=Z3 (YA hg);have hl:=h.length;refine⟨?_,by omega⟩;rw[List.drop_zero,<-hl,YS];exact h
 |d::p,t,s,off,cs,hg,h=>by
  unfold Tree.get at hg
  cases rN:t.split with
  |none=>rw[rN]at hg;cases hg
  |some ab=>
   obtain⟨a,b⟩:=ab;rw[rN]at hg;obtain⟨c1,c2,rfl,h1,h2,_⟩:=h.split rN;have CW:=h1.length
   cases d with
   |false=>
    obtain⟨g1,g2⟩:=Holds.get hg h1;refine⟨?_,by rw[YV];omega⟩;rw[Zu (by omega),List.take_append_of_le_length (by rw[List.length_drop];omega)];exact g1
   |true=>
    cases hb:b.get p with
    |none=>simp only[hb]at hg;cases hg
    |some so=>
     obtain⟨s',cF⟩:=so;simp only[hb,YH,Zx]at hg;obtain⟨rfl,rfl⟩:=hg;obtain⟨g1,g2⟩:=Holds.get hb h2;refine⟨?_,by rw[YV];omega⟩;rw[<-CW,List.drop_append,ZC (by omega),List.nil_append,show c1.length+cF-c1.length=cF from by omega];exact g1
theorem Holds.put{u:Tree}{vs:List Value}(hu:Holds H F w u vs):{p:List Bool}->{t s t':Tree}->{off:Nat}->{cs:List Value}->t.get p=some (s,off)->t.put p u=some t'->s.size=u.size->Holds H F w t cs->
 Holds H F w t' (cs.take off++vs++cs.drop (off+u.size))
 |[],t,s,t',off,cs,hg,hp,hz,h=>by
  obtain⟨rfl,rfl⟩:=Z3 (YA hg);obtain rfl:=YA hp;have hl:=h.length;rw[List.take_zero,List.nil_append,Ze,ZC (by omega),List.append_nil];exact hu
 |d::p,t,s,t',off,cs,hg,hp,hz,h=>by
  unfold Tree.get at hg;unfold Tree.put at hp
  cases rN:t.split with
  |none=>rw[rN]at hg;cases hg
  |some ab=>
   obtain⟨a,b⟩:=ab;rw[rN]at hg hp;obtain⟨c1,c2,rfl,h1,h2,_⟩:=h.split rN;have CW:=h1.length
   cases d with
   |false=>
    cases hq:a.put p u with
    |none=>simp only[hq]at hp;cases hp
    |some a'=>
     simp only[hq,YH]at hp;subst hp;have h3:=Holds.put hu hg hq hz h1;have g2:=(Holds.get hg h1).2;refine⟨_,c2,?_,h3,h2⟩;rw[List.take_append_of_le_length (by omega),Zu (by omega)];simp[Y2]
   |true=>
    cases hb:b.get p with
    |none=>simp only[hb]at hg;cases hg
    |some so=>
     obtain⟨s',cF⟩:=so;simp only[hb,YH,Zx]at hg;obtain⟨rfl,rfl⟩:=hg
     cases hq:b.put p u with
     |none=>simp only[hq]at hp;cases hp
     |some b'=>
      simp only[hq,YH]at hp;subst hp;have h3:=Holds.put hu hb hq hz h2;refine⟨c1,_,?_,h1,h3⟩
      rw[<-CW,List.take_append,List.take_of_length_le (by omega),List.drop_append,ZC (by omega),show c1.length+cF-c1.length=cF from by omega,
       show c1.length+cF+u.size-c1.length=cF+u.size from by omega]
      simp[Y2]
end
def CU.beq:CU->CU->Bool
 | .map, .map=>true
 | .ptr, .ptr=>true
 | .func, .func=>true
 |_,_=>false
theorem CU.eq_of_beq{a b:CU}(h:a.beq b=true):a=b:=by cases a<;>cases b<;>first|rfl|cases h
def Row.beq:Row->Row->Bool
 | .int k, .int k'=>decide (k=k')
 | .bool, .bool=>true
 | .str, .str=>true
 | .gW, .gW=>true
 | .nul a, .nul b=>a.beq b
 | .map a x b, .map c y d=>a.beq c&&(bif x then y else !y)&&b.beq d
 | .slice a, .slice b=>a.beq b
 | .pair a b, .pair c d=>a.beq c&&b.beq d
 |_,_=>false
theorem Row.eq_of_beq:{r s:Row}->r.beq s=true->r=s
 | .int k, .int k',h=>by rw[of_decide_eq_true (show decide (k=k')=true from h)]
 | .bool, .bool,_=>rfl
 | .str, .str,_=>rfl
 | .gW, .gW,_=>rfl
 | .nul a, .nul b,h=>by rw[CU.eq_of_beq (show a.beq b=true from h)]
 | .map a x b, .map c y d,h=>by
   have h':(a.beq c&&(bif x then y else !y)&&b.beq d)=true:=h;rw[Zr,Zr]at h'
   have mM:x=y:=by cases x<;>cases y<;>simp_all
   rw[Row.eq_of_beq h'.1.1,Row.eq_of_beq h'.2,mM]
 | .slice a, .slice b,h=>by rw[Row.eq_of_beq (show a.beq b=true from h)]
 | .pair a b, .pair c d,h=>by
   have h':(a.beq c&&b.beq d)=true:=h;rw[Zr]at h';rw[Row.eq_of_beq h'.1,Row.eq_of_beq h'.2]
def fj{r s:Row}(h:r=s)(x:r.den):s.den:=h▸x
theorem Row.beq_refl:(r:Row)->r.beq r=true
 | .int k=>by simp[Row.beq]
 | .bool=>rfl
 | .str=>rfl
 | .gW=>rfl
 | .nul a=>by cases a<;>rfl
 | .map a x b=>by
   show(a.beq a&&(bif x then x else !x)&&b.beq b)=true
   rw[Row.beq_refl a,Row.beq_refl b]
   cases x<;>rfl
 | .slice a=>Row.beq_refl a
 | .pair a b=>by
   show(a.beq a&&b.beq b)=true
   rw[Row.beq_refl a,Row.beq_refl b];rfl
def DR.beq:DR->DR->Bool
 | .leaf r, .leaf s=>r.beq s
 | .sl T d, .sl T' d'=>YE T T'&&d.beq d'
 | .pair a b, .pair c d=>a.beq c&&b.beq d
 |_,_=>false
theorem DR.eq_of_beq:{d e:DR}->d.beq e=true->d=e
 | .leaf r, .leaf s,h=>by rw[Row.eq_of_beq (show r.beq s=true from h)]
 | .sl T d, .sl T' d',h=>by
   obtain⟨h1,h2⟩:=(Zr _ _▸(show(YE T T'&&d.beq d')=true from h):YE T T'=true/\d.beq d'=true)
   rw[Zo h1,DR.eq_of_beq h2]
 | .pair a b, .pair c d,h=>by
   obtain⟨h1,h2⟩:=(Zr _ _▸(show(a.beq c&&b.beq d)=true from h):a.beq c=true/\b.beq d=true)
   rw[DR.eq_of_beq h1,DR.eq_of_beq h2]
 | .leaf _, .sl ..,h=>by cases h
 | .leaf _, .pair ..,h=>by cases h
 | .sl .., .leaf _,h=>by cases h
 | .sl .., .pair ..,h=>by cases h
 | .pair .., .leaf _,h=>by cases h
 | .pair .., .sl ..,h=>by cases h
theorem DR.beq_refl:(d:DR)->d.beq d=true
 | .leaf r=>Row.beq_refl r
 | .sl T d=>by show(YE T T&&d.beq d)=true;rw[DR.beq_refl d,Bool.and_true];exact Nat.beq_refl T
 | .pair a b=>by show(a.beq a&&b.beq b)=true;rw[DR.beq_refl a,DR.beq_refl b];rfl
def kq:List Bool->List Bool->Bool
 |[],[]=>true
 |a::p,b::q=>(bif a then b else !b)&&kq p q
 |_,_=>false
theorem mP:{p q:List Bool}->kq p q=true->p=q
 |[],[],_=>rfl
 |a::p,b::q,h=>by
  have h':((bif a then b else !b)&&kq p q)=true:=h;rw[Zr]at h';rw[mP h'.2];have:=h'.1
  cases a<;>cases b<;>simp_all
 |[],_::_,h=>by cases h
 |_::_,[],h=>by cases h
def flat(ob:Nat->Option (Nat×Th)):(r:Row)->Tree->Option r.den
 |r, .leaf s x=>if h:s.beq r=true then some (fj (Row.eq_of_beq h) x)else none
 | .slice e, .own o=>match ob o with
   |some (_, .oj _ s l)=>if h:s.beq e=true then some (fj (r:= .slice s) (s:= .slice e) (congrArg Row.slice (Row.eq_of_beq h)) l)else none
   |some (_, .fdeep _ d l)=>if h:d.row.beq e=true then some (fj (r:= .slice d.row) (s:= .slice e) (congrArg Row.slice (Row.eq_of_beq h)) l)else none
   |_=>none
 | .slice _, .nil=>some []
 | .map K agg V, .own o=>match ob o with
   |some (_, .fmap _ K' cZ V' l)=>if h:(Row.map K' cZ V').beq (.map K agg V)=true then some (fj (Row.eq_of_beq h) l)else none
   |_=>none
 | .slice e, .view o s r m=>match ob o with
   |some (s', .oj ..)=>bif YE s' s then(if h:r.beq e=true then some (fj (r:= .slice r) (s:= .slice e) (congrArg Row.slice (Row.eq_of_beq h)) m)else none)else none
   |_=>none
 | .pair a b, .pair t u=>match flat ob a t with
   |none=>none
   |some x=>match flat ob b u with
    |none=>none
    |some y=>some (x,y)
 |_,_=>none
section
variable {U:Nat->Prop} {H:aj} {F:Nat->Prop} {w:World} {ob:Nat->Option (Nat×Th)} {n:Nat}
theorem sq(hs:ak U H F w ob n){o s:Nat}{T:TypeId}{r0 r:Row}{l0:List r0.den}{m:List r.den}{v:Value}(ho:ob o=some (s, .oj T r0 l0))(h:gY H o s r m v):bF F w (.slice r) [v] m:=by
 obtain⟨A,cap,T',l,a,b,h1,h2,h3,h4,rfl,rfl⟩:=h;obtain⟨v',cQ,bH⟩:=hs.obj _ _ _ ho;rw[h1]at cQ;obtain rfl:=YA cQ;have e:=bH.con;rw[h2]at e;simp only[Th.base,YH,Th.own.injEq]at e;obtain⟨rfl,rfl,e⟩:=e;obtain rfl:=eq_of_heq e;exact bF.cut bH.ok h3 h4
theorem dV(hs:ak U H F w ob n):{r:Row}->{t:Tree}->{x:r.den}->{cs:List Value}->flat ob r t=some x->Holds H F w t cs->bF F w r cs x
 |r, .leaf s x0,x,cs,hf,h=>by
  unfold flat at hf;split at hf
  .rename_i e;obtain rfl:=Row.eq_of_beq e;obtain rfl:=YA hf;exact h
  .cases hf
 | .slice e, .own o,x,cs,hf,h=>by
   unfold flat at hf;split at hf
   .rename_i s0 T s l pd;split at hf
    .rename_i e;obtain rfl:=Row.eq_of_beq e;obtain rfl:=YA hf;obtain⟨v,hv,_,rfl⟩:=h;obtain⟨v',cQ,bH⟩:=hs.obj _ _ _ pd;rw[hv]at cQ;obtain rfl:=YA cQ;exact bH.ok
    .cases hf
   .rename_i s0 T d l pd;split at hf
    .rename_i e;obtain rfl:=Row.eq_of_beq e;obtain rfl:=YA hf;obtain⟨v,hv,_,rfl⟩:=h;obtain⟨v',cQ,bH⟩:=hs.obj _ _ _ pd;rw[hv]at cQ;obtain rfl:=YA cQ;exact bH.ok
    .cases hf
   .cases hf
 | .map K agg V, .own o,x,cs,hf,h=>by
   unfold flat at hf;split at hf
   .rename_i s0 T K' cZ V' l pd;split at hf
    .rename_i e;cases Row.eq_of_beq e;obtain rfl:=YA hf;obtain⟨v,hv,_,rfl⟩:=h;obtain⟨v',cQ,bH⟩:=hs.obj _ _ _ pd;rw[hv]at cQ;obtain rfl:=YA cQ;exact bH.ok
    .cases hf
   .cases hf
 | .slice e, .nil,x,cs,hf,h=>by
   unfold flat at hf;obtain rfl:=YA hf;rw[show cs=_ from h];exact bF.nil F w e
 | .slice e, .view o s r m,x,cs,hf,h=>by
   unfold flat at hf;split at hf
   .rename_i s' T r' l' pd
    cases hb:YE s' s with
    |false=>rw[hb]at hf;cases hf
    |true=>
     rw[hb,cond_true]at hf;obtain rfl:=Zo hb;split at hf
     .rename_i e;obtain rfl:=Row.eq_of_beq e;obtain rfl:=YA hf;obtain⟨v,rfl,h⟩:=h;exact sq hs pd h
     .cases hf
   .cases hf
 | .pair a b, .pair t u,x,cs,hf,h=>by
   obtain⟨c1,c2,rfl,h1,h2⟩:=h;unfold flat at hf
   cases ha:flat ob a t with
   |none=>simp only[ha]at hf;cases hf
   |some p=>
    cases hb:flat ob b u with
    |none=>simp only[ha,hb]at hf;cases hf
    |some q=>
     simp only[ha,hb,YH]at hf;subst hf;exact⟨c1,c2,rfl,dV hs ha h1,dV hs hb h2⟩
 | .int _, .own _,_,_,hf,_=>by unfold flat at hf;cases hf
 | .bool, .own _,_,_,hf,_=>by unfold flat at hf;cases hf
 | .str, .own _,_,_,hf,_=>by unfold flat at hf;cases hf
 | .gW, .own _,_,_,hf,_=>by unfold flat at hf;cases hf
 | .nul _, .own _,_,_,hf,_=>by unfold flat at hf;cases hf
 | .pair _ _, .own _,_,_,hf,_=>by unfold flat at hf;cases hf
 | .int _, .nil,_,_,hf,_=>by unfold flat at hf;cases hf
 | .bool, .nil,_,_,hf,_=>by unfold flat at hf;cases hf
 | .str, .nil,_,_,hf,_=>by unfold flat at hf;cases hf
 | .gW, .nil,_,_,hf,_=>by unfold flat at hf;cases hf
 | .nul _, .nil,_,_,hf,_=>by unfold flat at hf;cases hf
 | .map .., .nil,_,_,hf,_=>by unfold flat at hf;cases hf
 | .pair _ _, .nil,_,_,hf,_=>by unfold flat at hf;cases hf
 | .int _, .view ..,_,_,hf,_=>by unfold flat at hf;cases hf
 | .bool, .view ..,_,_,hf,_=>by unfold flat at hf;cases hf
 | .str, .view ..,_,_,hf,_=>by unfold flat at hf;cases hf
 | .gW, .view ..,_,_,hf,_=>by unfold flat at hf;cases hf
 | .nul _, .view ..,_,_,hf,_=>by unfold flat at hf;cases hf
 | .map .., .view ..,_,_,hf,_=>by unfold flat at hf;cases hf
 | .pair _ _, .view ..,_,_,hf,_=>by unfold flat at hf;cases hf
 | .int _, .junk _,_,_,hf,_=>by unfold flat at hf;cases hf
 | .bool, .junk _,_,_,hf,_=>by unfold flat at hf;cases hf
 | .str, .junk _,_,_,hf,_=>by unfold flat at hf;cases hf
 | .slice _, .junk _,_,_,hf,_=>by unfold flat at hf;cases hf
 | .gW, .junk _,_,_,hf,_=>by unfold flat at hf;cases hf
 | .nul _, .junk _,_,_,hf,_=>by unfold flat at hf;cases hf
 | .map .., .junk _,_,_,hf,_=>by unfold flat at hf;cases hf
 | .pair _ _, .junk _,_,_,hf,_=>by unfold flat at hf;cases hf
 | .int _, .pair _ _,_,_,hf,_=>by unfold flat at hf;cases hf
 | .bool, .pair _ _,_,_,hf,_=>by unfold flat at hf;cases hf
 | .str, .pair _ _,_,_,hf,_=>by unfold flat at hf;cases hf
 | .gW, .pair _ _,_,_,hf,_=>by unfold flat at hf;cases hf
 | .nul _, .pair _ _,_,_,hf,_=>by unfold flat at hf;cases hf
 | .map .., .pair _ _,_,_,hf,_=>by unfold flat at hf;cases hf
 | .slice _, .pair _ _,_,_,hf,_=>by unfold flat at hf;cases hf
end
def Row.vu:Row->Tree
 | .slice _=> .nil
 | .pair a b=> .pair a.vu b.vu
 |r=> .leaf r r.zero
theorem Row.je(H:aj)(F:Nat->Prop)(w:World):(r:Row)->Holds H F w r.vu r.dc
 | .int _=>rfl
 | .bool=>rfl
 | .str=>rfl
 | .slice _=>rfl
 | .gW=>⟨rfl,none,0,0,rfl⟩
 | .nul _=>rfl
 | .map .. =>⟨_,rfl, .inl ⟨rfl,rfl⟩⟩
 | .pair a b=>⟨_,_,rfl,Row.je H F w a,Row.je H F w b⟩
end Go.Proofs.YtbladfbbhijpmaaGreat
end
section
open _root_.Go.Addr.mk renaming injEq->Z2
open _root_.Array renaming toArray_toList->Zi
open _root_.Int renaming toNat_natCast->YK
open _root_.List renaming getElem?_drop->YR,getElem?_take->Y0
open _root_.Nat renaming add_mul->Zm,add_zero->ZD,beq->YE,blt->Zl,eq_of_beq_eq_true->Zo,le_refl->YD,lt_of_lt_of_le->Y8
open _root_.Option renaming isSome_iff_exists->Zg
open _root_.Option.some renaming inj->YA,injEq->YH
open _root_.Prod.mk renaming inj->Z3,injEq->Zx
open _root_.Go.Value renaming oneCell'->ZU
open _root_.Go.Value.pointer renaming injEq->aam
namespace Go.Proofs.YtbladfbbhijpmaaGreat
open Go Go.RowKit
section
variable {P:Program} {ρ:Nat->Value} {w w':World} {H H':aj} {F F':Nat->Prop} {U:Nat->Prop} {ob:Nat->Option (Nat×Th)} {n:Nat} {R:Type}
variable {op:Op} {ty:TypeId} {pos:String} {aft:Array Edge} {d:Nat}
theorem ak.box(hs:ak U H F w ob n){o s:Nat}{T:TypeId}{t:Tree}(ho:ob o=some (s, .box T t)){b:Nat}(hb:H.val o=some (.pointer (some ⟨b,0,none⟩))):
 ∃es,w.heap[b]? =some (.cells es.toArray T (0,0))/\Holds H F w t es:=by
 obtain⟨v,hv,hi⟩:=hs.obj _ _ _ ho;rw[hb]at hv;obtain rfl:=YA hv;obtain⟨b',es,e,h1,h2⟩:=hi.ok;simp only[aam,YH,Z2,and_true]at e;subst e;exact⟨es,h1,h2⟩
theorem ak.own(hs:ak U H F w ob n){o s:Nat}{T:TypeId}{r:Row}{l:List r.den}(ho:ob o=some (s, .own T r l)){v:Value}(hv:H.val o=some v):fa 0 F w T r v l:=by
 obtain⟨v',cQ,hi⟩:=hs.obj _ _ _ ho;rw[hv]at cQ;obtain rfl:=YA cQ;exact⟨hi.no,hi.ok⟩
theorem vv{fs:List (TypeId×Nat)}{arr:Array Field}(ha:arr.toList.map (fun f=>(f.type,f.offset))=fs){f:Nat}{ft:TypeId}{off:Nat}(hf:fs[f]? =some (ft,off)):∃fd,arr[f]? =some fd/\fd.type=ft/\fd.offset=off:=by
 subst ha;rw[List.getElem?_map]at hf
 cases hq:arr.toList[f]? with
 |none=>rw[hq]at hf;cases hf
 |some fd=>
  rw[hq]at hf;simp only[Option.map_some,YH,Zx]at hf;exact⟨fd,by rw[<-Array.getElem?_toList];exact hq,hf.1,hf.2⟩
def sub(r:Row)(x:r.den)(p:List Bool):Option ((s:Row)×s.den×Nat):=
 match Tree.get (.leaf r x) p with
 |some (.leaf s y,off)=>some ⟨s,y,off⟩
 |_=>none
theorem xS{r s:Row}{x:r.den}{y:s.den}{p:List Bool}{off b k:Nat}(h:sub r x p=some ⟨s,y,off⟩)(ha:At F w r b k x):At F w s b (k+off) y:=by
 unfold sub at h;split at h
 .rename_i s' y' cF hg;simp only[YH,Sigma.mk.injEq]at h;obtain⟨rfl,h⟩:=h;obtain⟨rfl,rfl⟩:=Z3 (eq_of_heq h);obtain⟨es,hl,hc,hr⟩:=ha;obtain⟨g1,g2⟩:=Holds.get (H:=⟨fun _=>none,fun _=>none,fun _ _=>False⟩) (F:=F) (w:=w) (cs:=es) hg hr;have Oo:bF F w s' ((es.drop cF).take s'.size) y':=g1;refine⟨_,Oo.length,fun j u hu=>?_,Oo⟩;rw[Y0]at hu;split at hu
  .rw[YR]at hu;rw[Nat.add_assoc];exact hc _ u hu
  .cases hu
 .cases h
def xT(T:aI P)(t:TypeId)(f:Nat)(D:ag):Option ag:=
 match find T.und t with
 |some (.struct fs)=>match fs[f]? with
  |some (ft,off)=>match find T.row ft with
   |some _=>match D with
    | .ptr o p k=>some (.ptr o (p++nD fs.length f) (k+off))
    | .at r x=>match sub r x (nD fs.length f)with
      |some ⟨s,y,cF⟩=>bif YE cF off then some (.at s y)else none
      |none=>none
    | .elem o s r i x p k=>some (.elem o s r i x (p++nD fs.length f) (k+off))
    | .dlm o d i p k=>some (.dlm o d i (p++nD fs.length f) (k+off))
    |_=>none
   |none=>none
  |none=>none
 |_=>none
theorem beq_true{m k:Nat}(h:YE m k=true):m=k:=Zo h
theorem nE{α:Type}{b:Bool}{x:α}{y:α}(h:(bif b then some x else none)=some y):b=true/\x=y:=by
 cases b with
 |true=>exact⟨rfl,YA h⟩
 |false=>cases h
theorem Bg(T:aI P){t:TypeId}{f:Nat}{D D':ag}{x:Operand}(h:xT T t f D=some D')(hs:ak U H F w ob n)(hx:af H F w D (ev ρ x)):
 bz P U H F w ρ ob n ⟨some d, .fieldAddr t x f,ty,pos,aft,none⟩ {dst:=D'}:=by
 unfold xT at h;split at h
 case h_2=>cases h
 rename_i fs hu;obtain⟨arr,CX,GB⟩:=T.und_ok _ _ hu;split at h
 case h_2=>cases h
 rename_i ft off hf;obtain⟨fd,Ky,rfl,rfl⟩:=vv GB hf;split at h
 case h_2=>cases h
 rename_i r' CY;have sr:=T.row_ok _ _ CY;split at h
 .obtain rfl:=YA h;obtain⟨b,h1,h2⟩:=hx;exact ay hs (iZ (r:=r') fd.offset CX Ky sr rfl h2) ⟨b,h1,rfl⟩
 .split at h
  .rename_i s y cF dQ;obtain⟨h1,rfl⟩:=nE h;obtain rfl:=beq_true h1;obtain⟨b,k,h2,h3,h4⟩:=hx;exact ay hs (iZ (r:=r') fd.offset CX Ky sr rfl h2) ⟨b,_,rfl,h3,xS dQ h4⟩
  .cases h
 .obtain rfl:=YA h;obtain⟨g,o0,q,T',m,cap,l,h1,h2,h3,h4,h5⟩:=hx;exact ay hs (iZ (r:=r') fd.offset CX Ky sr rfl h5) ⟨g,o0,q,T',m,cap,l,h1,h2,h3,h4,by rw[Nat.add_assoc]⟩
 .obtain rfl:=YA h;obtain⟨g,o0,q,m,cap,h1,h2,h5⟩:=hx;exact ay hs (iZ (r:=r') fd.offset CX Ky sr rfl h5) ⟨g,o0,q,m,cap,h1,h2,by rw[Nat.add_assoc]⟩
 .cases h
theorem bF.elemAt{r:Row}{v:Value}{l:List r.den}(h:bF F w (.slice r) [v] l){i:Int}{y:r.den}(hi:idx l i=some y):
 ∃b off cap k,v= .slice (some ⟨b,off,none⟩) l.length cap/\i=(k:Nat)/\k<l.length/\F b/\At F w r b (off+k*r.size) y:=by
 obtain⟨A,cap,hv,_,_,h4⟩:=h;obtain⟨k,hk,av,rfl⟩:=dF hi;obtain⟨b,off,es,rfl,hF,pF,hc,hr⟩:=h4 k av;exact⟨b,off,cap,k,by simpa using hv,hk,av,hF,es,pF,hc,hr⟩
inductive DJ where
 |read (r:Row) (l:List r.den)
 |own (o s:Nat) (T:TypeId) (r:Row) (l:List r.den)
 |nil
 |view (o s:Nat) (r:Row) (l:List r.den)
 |deep (o s:Nat) (T:TypeId) (d:DR) (l:List d.row.den) (h:Option ql)
def pL(ob:Nat->Option (Nat×Th)):ag->Option DJ
 | .val false (.leaf (.slice r) l)=>some (.read r l)
 | .val false .nil=>some .nil
 | .val false (.own o)=>match ob o with
   |some (s, .own T r l)=>some (.own o s T r l)
   |some (_, .oj _ r l)=>some (.read r l)
   |some (_, .fdeep _ d l)=>some (.read d.row l)
   |some (s, .deep T d l h)=>some (.deep o s T d l h)
   |_=>none
 | .val false (.view o s r m)=>match ob o with
   |some (s', .oj ..)=>bif YE s' s then some (.read r m)else some (.view o s r m)
   |_=>some (.view o s r m)
 |_=>none
def GC(U:Nat->Prop)(H:aj)(F:Nat->Prop)(w:World)(ob:Nat->Option (Nat×Th))(v:Value):DJ->Prop
 | .read r l=>bF F w (.slice r) [v] l
 | .own o s T r l=>H.val o=some v/\ob o=some (s, .own T r l)/\fa 0 F w T r v l
 | .nil=>v= .slice none 0 0
 | .view o s r m=>gY H o s r m v
 | .deep o s T d l h=>H.val o=some v/\ob o=some (s, .deep T d l h)/\Bb U H F w v s (.deep T d l h)
theorem eT(hs:ak U H F w ob n){D:ag}{k:DJ}{v:Value}(h:pL ob D=some k)(hd:af H F w D v):GC U H F w ob v k:=by
 unfold pL at h;split at h
 .cases h;exact au.inv hd
 .cases h;obtain⟨cs,h1,_,h3⟩:=hd;have qp:cs=_:=h1;rw[h3 rfl]at qp;simpa[GC]using qp
 .rename_i o;obtain⟨cs,⟨u,hu,CX,e⟩,_,h3⟩:=hd;rw[h3 rfl]at e
  obtain rfl:v=u:=by simpa using e
  split at h
  .rename_i s T r l pd;cases h;exact⟨hu,pd,hs.own pd hu⟩
  .rename_i s T r l pd;cases h;obtain⟨v',cQ,hi⟩:=hs.obj _ _ _ pd;rw[hu]at cQ;obtain rfl:=YA cQ;exact hi.ok
  .rename_i s T d l pd;cases h;obtain⟨v',cQ,hi⟩:=hs.obj _ _ _ pd;rw[hu]at cQ;obtain rfl:=YA cQ;exact hi.ok
  .rename_i s T d l h' pd;cases h;obtain⟨v',cQ,hi⟩:=hs.obj _ _ _ pd;rw[hu]at cQ;obtain rfl:=YA cQ;exact⟨hu,pd,hi⟩
  .cases h
 .rename_i o s r m;obtain⟨cs,⟨u,e,hu⟩,_,h3⟩:=hd;rw[h3 rfl]at e
  obtain rfl:v=u:=by simpa using e
  split at h
  .rename_i s' T r' l' pd
   cases hb:YE s' s with
   |false=>rw[hb]at h;cases h;exact hu
   |true=>
    rw[hb]at h;obtain rfl:=Zo hb;cases h;exact sq hs pd hu
  .cases h;exact hu
 .cases h
def hU:Nat->(r:Row)->r.den->(e:Row)->Option (List e.den)
 |1,r,x,e=>if h:r.beq e=true then some [fj (Row.eq_of_beq h) x]else none
 |m+2, .pair a b,x,e=>if h:a.beq e=true then(match hU (m+1) b x.2 e with
  |some l=>some (fj (Row.eq_of_beq h) x.1::l)
  |none=>none)else none
 |_,_,_,_=>none
theorem zH{e:Row}{b:Nat}:{m:Nat}->{r:Row}->{x:r.den}->{l:List e.den}->{off:Nat}->hU m r x e=some l->At F w r b off x->l.length=m/\∀i(h:i<l.length),At F w e b (off+i*e.size) l[i]
 |0,r,x,l,off,h,_=>by unfold hU at h;cases h
 |1,r,x,l,off,h,ha=>by
  unfold hU at h;split at h
  case isFalse=>cases h
  rename_i hb;obtain rfl:=Row.eq_of_beq hb;obtain rfl:=YA h;refine⟨rfl,fun i hi=>?_⟩
  obtain rfl:i=0:=by simp at hi;omega
  rw[Nat.zero_mul,ZD];exact ha
 |m+2, .pair a b',x,l,off,h,ha=>by
  unfold hU at h;split at h
  case isFalse=>cases h
  rename_i hb;obtain rfl:=Row.eq_of_beq hb;split at h
  case h_2=>cases h
  rename_i l' hl;obtain rfl:=YA h;obtain⟨g1,g2⟩:=zH hl (ha.snd _ rfl);refine⟨by simp[g1],fun i hi=>?_⟩
  cases i with
  |zero=>
   rw[Nat.zero_mul,ZD];exact ha.fst
  |succ i=>
   have:=g2 i (by simpa using hi);rw[show off+(i+1)*a.size=off+a.size+i*a.size from by rw[Zm];omega];exact this
 |m+2, .int _,_,_,_,h,_=>by unfold hU at h;cases h
 |m+2, .bool,_,_,_,h,_=>by unfold hU at h;cases h
 |m+2, .str,_,_,_,h,_=>by unfold hU at h;cases h
 |m+2, .slice _,_,_,_,h,_=>by unfold hU at h;cases h
 |m+2, .gW,_,_,_,h,_=>by unfold hU at h;cases h
 |m+2, .nul _,_,_,_,h,_=>by unfold hU at h;cases h
 |m+2, .map ..,_,_,_,h,_=>by unfold hU at h;cases h
theorem my{t e:TypeId}{x y:Operand}{kd:IntKind}{a:Int}{ti:TypeInfo}{m jE off i:Nat}(size:Nat)(ht:P.underlying t=some (.array m e))(hi:P.info? e=some ti)(iz:ti.size=size)
 (hx:ev ρ x= .pointer (some ⟨jE,off,none⟩))(hy:ev ρ y= .int kd a)(ha:a=(i:Int))(av:i<m):
 Pure P ρ ⟨some d, .indexAddr t x y,ty,pos,aft,none⟩ (.pointer (some ⟨jE,off+i*size,none⟩)):=fun w=>by
 subst iz;subst ha;simp[execOp,Instr.indexAt,Instr.sureAddr,asIntOf,run_underlying ht,sizeOf,typeInfo,hi,hx,hy,av,bM]
theorem zI{α:Type}{b:Bool}{x:Option α}{y:α}(h:(bif b then x else none)=some y):b=true/\x=some y:=by
 cases b with
 |true=>exact⟨rfl,h⟩
 |false=>cases h
def lO(T:aI P)(m:Nat)(e:TypeId)(D:ag)(i:Int)(k:cL->Option R):Option R:=
 match find T.row e with
 |some re=>match D with
  | .at r x=>match hU m r x re with
    |some l=>(idx l i).bind fun y=>k {dst:= .at re y}
    |none=>none
  | .ptr o p off=>match i with
    | .ofNat j=>bif Zl j m then k {dst:= .ptr o (p++nD m j) (off+j*re.size)}else none
    | .negSucc _=>none
  |_=>none
 |none=>none
theorem xU(T:aI P){t:TypeId}{m:Nat}{e:TypeId}(hu:P.underlying t=some (.array m e)){D:ag}{x y:Operand}{kd:IntKind}{i:Int}{k:cL->Option R}{q:R}(h:lO T m e D i k=some q)(hs:ak U H F w ob n)(hx:af H F w D (ev ρ x))(hy:ev ρ y= .int kd i):
 ∃e,k e=some q/\bz P U H F w ρ ob n ⟨some d, .indexAddr t x y,ty,pos,aft,none⟩ e:=by
 unfold lO at h;split at h
 case h_2=>cases h
 rename_i re hr;obtain⟨ti,z,h1,_,_,h4,_⟩:=T.row_ok _ _ hr;split at h
 case h_3=>cases h
 case h_2=>
  split at h
  case h_2=>cases h
  rename_i o p off _ j;obtain⟨av,hk⟩:=zI h
  have av:j<m:=by simpa using av
  obtain⟨b,hb,hv⟩:=hx;exact⟨_,hk,ay hs (my re.size hu h1 h4 hv hy rfl av) ⟨b,hb,rfl⟩⟩
 rename_i r v;split at h
 case h_2=>cases h
 rename_i l hl;obtain⟨a,ha,hk⟩:=bind_some h;obtain⟨b,off,hv,hF,pV⟩:=hx;obtain⟨g1,g2⟩:=zH hl pV;obtain⟨j,hj,av,rfl⟩:=dF ha;exact⟨_,hk,ay hs (my re.size hu h1 h4 hv hy hj (by omega)) ⟨b,_,rfl,hF,g2 j av⟩⟩
def oo(T:aI P)(ob:Nat->Option (Nat×Th))(t:TypeId)(D:ag)(i:Int)(k:cL->Option R):Option R:=
 match find T.und t with
 |some (.slice e)=>match find T.row e with
  |some re=>match pL ob D with
   |some (.read r l)=>bif YE r.size re.size then(idx l i).bind fun x=>k {dst:= .at r x}else none
   |some (.own o s _ r l)=>bif YE r.size re.size then(idx l i).bind fun x=>k {dst:= .elem o s r i x [] 0}else none
   |some (.deep o _ _ d l _)=>bif YE d.low.size re.size then(idx l i).bind fun _=>k {dst:= .dlm o d i [] 0}else none
   |_=>none
  |none=>none
 |some (.array m e)=>lO T m e D i k
 |_=>none
theorem Bh(T:aI P){t:TypeId}{D:ag}{x y:Operand}{kd:IntKind}{i:Int}{k:cL->Option R}{q:R}(h:oo T ob t D i k=some q)(hs:ak U H F w ob n)(hx:af H F w D (ev ρ x))(hy:ev ρ y= .int kd i):
 ∃e,k e=some q/\bz P U H F w ρ ob n ⟨some d, .indexAddr t x y,ty,pos,aft,none⟩ e:=by
 unfold oo at h;split at h
 case h_3=>cases h
 case h_2=>rename_i m e hu;exact xU T (T.und_ok _ _ hu) h hs hx hy
 rename_i e hu;have hu:=T.und_ok _ _ hu;split at h
 case h_2=>cases h
 rename_i re hr;obtain⟨ti,z,h1,_,_,h4,_⟩:=T.row_ok _ _ hr;split at h
 .rename_i r l eD
  cases hz:YE r.size re.size with
  |false=>rw[hz]at h;cases h
  |true=>
   rw[hz,cond_true]at h;have hz:=beq_true hz;obtain⟨a,ha,hk⟩:=bind_some h;have eD:=eT hs eD hx;obtain⟨b,off,cap,j,hv,hj,av,hF,pV⟩:=bF.elemAt eD ha;refine⟨_,hk,ay hs (iD r.size hu h1 (h4.trans hz.symm) hv hy hj av) ⟨b,_,rfl,hF,pV⟩⟩
 .rename_i o s T' r l eD
  cases hz:YE r.size re.size with
  |false=>rw[hz]at h;cases h
  |true=>
   rw[hz,cond_true]at h;have hz:=beq_true hz;obtain⟨a,ha,hk⟩:=bind_some h;obtain⟨hv,bJ,cV⟩:=eT hs eD hx;obtain⟨v',cQ,bH⟩:=hs.obj _ _ _ bJ;obtain⟨j,hj,av,TK⟩:=dF ha;obtain⟨_,xs,xx,_⟩:=cV
   rcases xx.2 with⟨Bi,h0⟩|⟨g,o0,cap,cur,tT,_,_,_⟩
   .omega
   .have hp:=iD (P:=P) (d:=some d) (ty:=ty) (pos:=pos) (aft:=aft) r.size hu h1 (h4.trans hz.symm) tT hy hj av;refine⟨_,hk,ay hs hp ⟨g,o0,j,T',l.length,cap,l,?_,hj,bH.con,ha,rfl⟩⟩;rw[<-tT];exact hv
 .rename_i o s T' d' l hh eD;obtain⟨hz,h⟩:=zI h;have hz:=beq_true hz;obtain⟨a,ha,hk⟩:=bind_some h;obtain⟨hv,bJ,bH⟩:=eT hs eD hx;obtain⟨j,hj,av,TK⟩:=dF ha;obtain⟨lh,_,⟨xs,xx,_⟩,Kx,_⟩:=bH.ok
  rcases xx.2 with⟨Bi,h0⟩|⟨g,o0,cap,cur,tT,_,_,_⟩
  .omega
  .have hp:=iD (P:=P) (d:=some d) (ty:=ty) (pos:=pos) (aft:=aft) d'.low.size hu h1 (h4.trans hz.symm) tT hy hj (by omega);refine⟨_,hk,ay hs hp ⟨g,o0,j,lh.length,cap,?_,hj,rfl⟩⟩;rw[<-tT];exact hv
 .cases h
theorem qv{b:Nat}{T:TypeId}{es:List Value}(hh:w.heap[b]? =some (.cells es.toArray T (0,0)))(j:Nat):w.cell? ⟨b,j,none⟩=es[j]? :=by
 rw[cell_of_row w b j _ T (0,0) hh];simp
theorem jH(T:aI P){t:TypeId}{kk:CV}(hu:find T.und t=some kk){x:Operand}{b off:Nat}{s:Tree}{cs:List Value}(hx:ev ρ x= .pointer (some ⟨b,off,none⟩))(hs:ak U H F w ob n)
 (hh:Holds H F w s cs)(hc:∀j u,cs[j]? =some u->w.cell? ⟨b,off+j,none⟩=some u)
 (hz:if fP kk=true then∃r,find T.row t=some r/\r.size=s.size else s.size=1):
 bz P U H F w ρ ob n ⟨some d, .load t x,ty,pos,aft,none⟩ {dst:= .val (fP kk) s}:=by
 obtain⟨dd,si,rI⟩:=(T.und_ok _ _ hu).agg;have hl:=hh.length
 cases ha:fP kk with
 |true=>
  rw[if_pos ha]at hz;obtain⟨r,hr,Ga⟩:=hz;obtain⟨ti,z,h1,_,_,h4,_⟩:=T.row_ok _ _ hr;exact aW hs (AW si (rI.trans ha) h1 (by omega) hx hc) ⟨cs,hh,rfl,by simp⟩
 |false=>
  rw[if_neg (by simp[ha])]at hz
  obtain⟨v,rfl⟩:∃v,cs=[v]:=by
   match cs,hl.trans hz with
   |[v],_=>exact⟨v,rfl⟩
  exact aW hs (sd si (rI.trans ha) hx (hc 0 v rfl)) ⟨[v],hh,rfl,fun _=>rfl⟩
def iH(T:aI P)(t:TypeId)(kk:CV)(m:Nat):Bool:=
 bif fP kk then(match find T.row t with|some r=>YE r.size m|none=>false)else YE m 1
theorem fE(T:aI P){t:TypeId}{kk:CV}{m:Nat}(h:iH T t kk m=true):if fP kk=true then∃r,find T.row t=some r/\r.size=m else m=1:=by
 unfold iH at h
 cases ha:fP kk with
 |true=>
  rw[ha,cond_true]at h;rw[if_pos rfl];split at h
  .rename_i r hr;exact⟨r,hr,beq_true h⟩
  .cases h
 |false=>
  rw[ha,cond_false]at h;rw[if_neg (by simp)];exact beq_true h
def su(T:aI P)(ob:Nat->Option (Nat×Th))(t:TypeId)(D:ag)(k:cL->Option R):Option R:=
 match find T.und t with
 |none=>none
 |some kk=>match D with
  | .at r x=>bif iH T t kk r.size then k {dst:= .val (fP kk) (.leaf r x)}else none
  | .ptr o p off=>match ob o with
    |some (_, .box _ tr)=>match tr.get p with
     |some (s,cF)=>bif YE cF off&&iH T t kk s.size then k {dst:= .val (fP kk) s}else none
     |none=>none
    |_=>none
  | .elem o s r i x p off=>match ob o with
    |some (s', .own _ r' l)=>bif YE s' s then
      (match sub r x p with
      |some ⟨q,y,cF⟩=>bif YE cF off&&iH T t kk q.size then k {dst:= .val (fP kk) (.leaf q y)}else none
      |none=>none)
     else(idx l i).bind fun x'=>match sub r' x' p with
      |some ⟨q,y,cF⟩=>bif YE cF off&&iH T t kk q.size&&YE r'.size r.size then k {dst:= .val (fP kk) (.leaf q y)}else none
      |none=>none
    |_=>none
  |_=>none
theorem ax{α:Type}{b:Bool}{x:Option α}{y:α}(h:(bif b then x else none)=some y):b=true/\x=some y:=by
 cases b with
 |true=>exact⟨rfl,h⟩
 |false=>cases h
theorem bE{a b:Bool}(h:(a&&b)=true):a=true/\b=true:=by simpa using h
theorem zJ(hs:ak U H F w ob n){o s':Nat}{T':TypeId}{r':Row}{i:Int}{x':r'.den}{l:List r'.den}{g o0 q m cap:Nat}(bJ:ob o=some (s', .own T' r' l))(hv:H.val o=some (.slice (some ⟨g,o0,none⟩) m cap))(hq:i=(q:Nat))(hi:idx l i=some x'):
 At F w r' g (o0+q*r'.size) x':=(hs.own bJ hv).at rfl hq hi
theorem DK(T:aI P){t:TypeId}{D:ag}{x:Operand}{k:cL->Option R}{q:R}(h:su T ob t D k=some q)(hs:ak U H F w ob n)(hx:af H F w D (ev ρ x)):
 ∃e,k e=some q/\bz P U H F w ρ ob n ⟨some d, .load t x,ty,pos,aft,none⟩ e:=by
 unfold su at h;split at h
 .cases h
 rename_i kk hu;split at h
 .rename_i r y;obtain⟨h1,h2⟩:=ax h;obtain⟨b,off,e,hF,es,hl,hc,hr⟩:=hx;exact⟨_,h2,jH T hu e hs (s:= .leaf r y) hr hc (fE T h1)⟩
 .rename_i o p off;split at h
  .rename_i TL T0 tr bJ;split at h
   .rename_i s cF hg;obtain⟨h1,h2⟩:=ax h;obtain⟨h1,h3⟩:=bE h1;obtain rfl:=beq_true h1;obtain⟨b,hb,e⟩:=hx;obtain⟨es,hh,Ic⟩:=hs.box bJ hb;obtain⟨g1,g2⟩:=Ic.get hg;refine⟨_,h2,jH T hu e hs g1 (fun j u hj=>?_) (fE T h3)⟩;rw[qv hh];rw[Y0]at hj;split at hj
    .rwa [YR]at hj
    .cases hj
   .cases h
  .cases h
 .rename_i o s r i y p off;split at h
  .rename_i s' T0 r' l bJ;obtain⟨g,o0,qq,T',m,cap,l0,e1,e2,e3,e4,e5⟩:=hx
   cases Gb:YE s' s with
   |true=>
    rw[Gb,cond_true]at h;obtain rfl:=beq_true Gb;obtain⟨v,hv,bH⟩:=hs.obj _ _ _ bJ;have hc:=bH.con;rw[e3]at hc
    obtain⟨rfl,vm⟩:T'=T0/\(⟨r,l0⟩:(r:Row)×List r.den)=⟨r',l⟩:=by
     have:=YA hc;simp only[Th.base,Th.own.injEq]at this;obtain⟨a,b,c⟩:=this;subst b;exact⟨a,by rw[eq_of_heq c]⟩
    cases vm;split at h
    .rename_i q' y' cF dQ;obtain⟨h1,h2⟩:=ax h;obtain⟨h1,h3⟩:=bE h1;obtain rfl:=beq_true h1;obtain⟨es,hl,GD,hr⟩:=xS dQ (zJ hs bJ e1 e2 e4);exact⟨_,h2,jH T hu e5 hs (s:= .leaf q' y') hr GD (fE T h3)⟩
    .cases h
   |false=>
    rw[Gb,cond_false]at h;obtain⟨x',F9,h⟩:=bind_some h;split at h
    .rename_i q' y' cF dQ;obtain⟨h1,h2⟩:=ax h;obtain⟨h1,h4⟩:=bE h1;obtain⟨h1,h3⟩:=bE h1;obtain rfl:=beq_true h1;have h4:=beq_true h4;obtain⟨es,hl,GD,hr⟩:=xS dQ (zJ hs bJ e1 e2 F9);rw[h4]at GD;exact⟨_,h2,jH T hu e5 hs (s:= .leaf q' y') hr GD (fE T h3)⟩
    .cases h
  .cases h
 .cases h
end
end Go.Proofs.YtbladfbbhijpmaaGreat
namespace Go.Proofs.YtbladfbbhijpmaaGreat
open Go Go.RowKit
def xV:(r:Row)->List Bool->Option ((s:Row)×Path r s)
 |r,[]=>some ⟨r, .here⟩
 | .pair a b,d::p=>match d with
   |false=>match xV a p with
    |some ⟨s,q⟩=>some ⟨s, .fst q⟩
    |none=>none
   |true=>match xV b p with
    |some ⟨s,q⟩=>some ⟨s, .snd q⟩
    |none=>none
 |_,_::_=>none
section
variable {P:Program} {ρ:Nat->Value} {w w':World} {H H':aj} {F F':Nat->Prop} {U:Nat->Prop} {ob:Nat->Option (Nat×Th)} {n:Nat} {R:Type}
variable {op:Op} {ty:TypeId} {pos:String} {aft:Array Edge} {d:Nat}
def aj.aP(H:aj)(s:Nat)(t:Th):aj:=⟨H.val,fun m=>if m=s then some t else H.con m,H.sub⟩
def aj.bL(H:aj)(o:Nat)(v:Value):aj:=⟨fun m=>if m=o then some v else H.val m,H.con,H.sub⟩
def aj.cW(H:aj)(s:Nat)(S:Nat->Prop):aj:=⟨H.val,H.con,fun m=>if m=s then S else H.sub m⟩
theorem aj.dH{H:aj}{s:Nat}{t:Th}(h:H.con s=none):H.le (H.aP s t):=⟨fun _ _ h=>h,fun m q hq=>by
 by_cases e:m=s
 .subst e;rw[h]at hq;cases hq
 .simp[aj.aP,e,hq],fun _ _ _=>rfl⟩
theorem aj.Bj{H:aj}{s:Nat}{S:Nat->Prop}(h:H.con s=none):H.le (H.cW s S):=⟨fun _ _ h=>h,fun _ _ h=>h,fun m t hm=>by
 have:m≠s:=fun e=>by rw[e,h]at hm;cases hm
 simp[aj.cW,this]⟩
theorem aj.lP{H:aj}{s:Nat}{t:Value}(h:H.val s=none):H.le (H.bL s t):=⟨fun m q hq=>by
 by_cases e:m=s
 .subst e;rw[h]at hq;cases hq
 .simp[aj.bL,e,hq],fun _ _ h=>h,fun _ _ _=>rfl⟩
theorem bh{α:Type}{o o':Nat}{x y:α}(h:find [(o,x)] o'=some y):o'=o/\y=x:=by
 rw[aw]at h;split at h
 .rename_i e;exact⟨e.symm,(YA h).symm⟩
 .cases h
theorem gZ.p4(hs:ak U H F w ob n){o s:Nat}{t t':Th}{v0:Value}(ho:ob o=some (s,t))(hv:H.val o=some v0)(hb:t'.base=t')(DL:∀k,fp (H.sub n) v0 t' k->fp (H.sub s) v0 t k){D:ag}{v:Value}
 (aY:Ext (fp (H.sub s) v0 t) w w')(iV:eF (H.aP n t') F w' (H.sub n) v0 t')(hd:af (H.aP n t') F w' D v):ie H F w ob n {dst:=D,eat:=[o],make:=[(o,(n,t'))]} v w':=by
 obtain⟨v1,p5,bH⟩:=hs.obj _ _ _ ho;rw[hv]at p5;obtain rfl:=YA p5
 have ee:∀k,fp (H.sub s) v0 t k->bq H ob [o] k:=fun k hk=>⟨o,by simp,s,t,v0,ho,hv,hk⟩
 refine⟨H.aP n t',F,⟨aj.dH (hs.fresh n (YD _) (by omega)).2,⟨aY.os,aY.tape,aY.output,aY.size,fun k hk hn=>aY.block k hk fun e=>hn (ee k e)⟩,fun _ h=>h,fun _ h=> .inl h,fun b hb=>Y8 (hs.lt b hb) aY.size⟩,fun m hm=>?_,hd,⟨fun o' s' q hq=>?_,fun o1 o2 s1 s2 q1 q2 u1 u2 b8 h1 h2=>?_⟩,fun o' h=>?_⟩
 .refine⟨id,fun h=>?_⟩;simp[aj.aP,show m≠n from by omega,h]
 .obtain⟨rfl,e⟩:=bh hq;obtain⟨rfl,rfl⟩:=Z3 e;refine⟨v0,hv,bH.one,by simp[aj.aP,hb],iV,fun k hk=>⟨bH.no k (DL k hk),Y8 (bH.lt k (DL k hk)) aY.size, .inr (ee k (DL k hk))⟩⟩
 .exact absurd ((bh h1).1.trans (bh h2).1.symm) b8
 .left
  obtain⟨y,hy⟩:=Zg.1 h;rw[(bh hy).1];simp
theorem gZ.new(hs:ak U H F w ob n){eat:List Nat}{t:Th}{v0:Value}(hb:t.base=t)(h1:v0.oneCell'=true){D:ag}{v:Value}
 (aY:Ext (bq H ob eat) w w')(iV:eF ((H.aP n t).bL n v0) F w' (H.sub n) v0 t)(DL:∀k,fp (H.sub n) v0 t k->¬F k/\k<w'.heap.size/\(w.heap.size<=k\/bq H ob eat k))
 (hd:af ((H.aP n t).bL n v0) F w' D v):ie H F w ob n {dst:=D,eat:=eat,make:=[(n,(n,t))]} v w':=by
 have hf:=hs.fresh n (YD _) (by omega);refine⟨(H.aP n t).bL n v0,F,⟨(aj.dH hf.2).trans (aj.lP (by simp[aj.aP,hf.1])),aY,fun _ h=>h,fun _ h=> .inl h,fun b hb=>Y8 (hs.lt b hb) aY.size⟩,fun m hm=>?_,hd,⟨fun o' s' q hq=>?_,fun o1 o2 s1 s2 q1 q2 u1 u2 b8 h1 h2=>?_⟩,fun o' h=>?_⟩
 .simp[aj.aP,aj.bL,show m≠n from by omega]
 .obtain⟨rfl,e⟩:=bh hq;obtain⟨rfl,rfl⟩:=Z3 e;exact⟨v0,by simp[aj.bL],h1,by simp[aj.aP,aj.bL,hb],iV,DL⟩
 .exact absurd ((bh h1).1.trans (bh h2).1.symm) b8
 .right
  obtain⟨y,hy⟩:=Zg.1 h;rw[(bh hy).1];exact YD _
def oq(T:aI P)(ob:Nat->Option (Nat×Th))(n:Nat)(t:TypeId)(D V:ag)(k:cL->Option R):Option R:=
 match find T.row t with
 |none=>none
 |some rt=>match V with
  | .val _ u=>match D with
    | .ptr o p off=>match ob o with
      |some (_, .box T0 tr)=>match tr.get p with
       |some (s,cF)=>bif YE cF off&&YE rt.size s.size&&YE u.size s.size then
         (match tr.put p u with
         |some NH=>k {dst:= .dead,eat:=[o],make:=[(o,(n, .box T0 NH))]}
         |none=>none)else none
       |none=>none
      |_=>none
    | .elem o s r i x p off=>match ob o with
      |some (s', .own T0 r' l)=>match xV r' p with
       |some ⟨q,sv⟩=>bif YE sv.off off&&YE rt.size q.size&&YE r'.size r.size then
         (match flat ob q u with
         |some y=>bif YE s' s then
           (if h:r.beq r'=true then k {dst:= .dead,eat:=[o],make:=[(o,(n, .own T0 r' (bg l i (sv.set (fj (Row.eq_of_beq h) x) y))))]}else none)
          else(idx l i).bind fun x'=>k {dst:= .dead,eat:=[o],make:=[(o,(n, .own T0 r' (bg l i (sv.set x' y))))]}
         |none=>none)else none
       |none=>none
      |_=>none
    |_=>none
  |_=>none
theorem au.cells{agg:Bool}{t:Tree}{v:Value}(h:au H F w agg t v):∃cs,Holds H F w t cs/\v.cells.toList=cs:=by
 obtain⟨cs,h1,h2,h3⟩:=h;refine⟨cs,h1,?_⟩
 cases agg with
 |true=>rw[h2];rfl
 |false=>
  have e:=h3 rfl;have TM:=h1.fu v (by rw[e];simp);rw[e]
  cases v<;>first|rfl|simp[ZU]at TM
theorem qw(T:aI P){t:TypeId}{rt:Row}(DM:find T.row t=some rt){x y:Operand}{o s':Nat}{T0:TypeId}{r q:Row}{i:Int}{x':r.den}{z:q.den}{l:List r.den}{p:Path r q}{off g o0 j m cap:Nat}{agg:Bool}{u:Tree}
 (hs:ak U H F w ob n)(bJ:ob o=some (s', .own T0 r l))(hv:H.val o=some (.slice (some ⟨g,o0,none⟩) m cap))(hj:i=(j:Nat))(hi:idx l i=some x')(hx:ev ρ x= .pointer (some ⟨g,o0+j*r.size+off,none⟩))(DN:p.off=off)(hz:rt.size=q.size)
 (hf:flat ob q u=some z)(hV:au H F w agg u (ev ρ y)):
 bz P U H F w ρ ob n ⟨none, .store t x y,ty,pos,aft,none⟩ {dst:= .dead,eat:=[o],make:=[(o,(n, .own T0 r (bg l i (p.set x' z))))]}:=by
 obtain⟨ti,z0,h1,_,_,h4,_⟩:=T.row_ok _ _ DM;obtain⟨cs,mK,sw⟩:=hV.cells;have hr:=dV hs hf mK;have cV:=hs.own bJ hv;obtain⟨k',hk,av,rfl⟩:=dF hi
 obtain rfl:k'=j:=by omega
 obtain⟨cur,hh,hle,aY,ed⟩:=cV.put rfl av hs.lt p hr;subst DN;refine bl.unit (kh h1 (h4.trans (hz.trans hr.length.symm)) hx rfl sw hr.fu hh hle) ?_;refine gZ.p4 (t':= .own T0 r (bg l i (p.set l[k'] z))) (D:= .dead) hs bJ hv rfl (fun _ h=>h) aY ?_ trivial;have:eF (H.aP n (.own T0 r (bg l i (p.set l[k'] z)))) F (w.setRow g (cur.toList.take (o0+k'*r.size+p.off)++cs++cur.toList.drop (o0+k'*r.size+p.off+cs.length)).toArray) (H.sub n) (.slice (some ⟨g,o0,none⟩) m cap) (.own T0 r (l.set k' (p.set l[k'] z))):=ed.2;unfold bg;rw[hk,YK];exact this
theorem Bk(T:aI P){t:TypeId}{D V:ag}{x y:Operand}{k:cL->Option R}{q:R}(h:oq T ob n t D V k=some q)(hs:ak U H F w ob n)(hx:af H F w D (ev ρ x))(hy:af H F w V (ev ρ y)):
 ∃e,k e=some q/\bz P U H F w ρ ob n ⟨none, .store t x y,ty,pos,aft,none⟩ e:=by
 unfold oq at h;split at h
 .cases h
 rename_i rt DM;split at h
 case h_2=>cases h
 rename_i agg u;split at h
 .rename_i o p off;split at h
  case h_2=>cases h
  rename_i s0 T0 tr bJ;split at h
  case h_2=>cases h
  rename_i s cF hg;obtain⟨h1,h2⟩:=ax h;obtain⟨h1,xz⟩:=bE h1;obtain⟨h1,xA⟩:=bE h1;obtain rfl:=beq_true h1;have xA:=beq_true xA;have xz:=beq_true xz;split at h2
  case h_2=>cases h2
  rename_i NH hp;obtain⟨b,hb,e⟩:=hx;obtain⟨es,hh,Ic⟩:=hs.box bJ hb;obtain⟨cs,mK,sw⟩:=au.cells hy;have hl:=mK.length;have hle:=(Ic.get hg).2;have mO:=Holds.put mK hg hp xz.symm Ic;obtain⟨ti,z0,g1,_,_,g4,_⟩:=T.row_ok _ _ DM;refine⟨_,h2,bl.unit (kh g1 (by omega) e rfl sw mK.fu hh (by simp;omega)) ?_⟩
  have NI:¬F b:=by
   obtain⟨v1,p5,bH⟩:=hs.obj _ _ _ bJ;rw[hb]at p5;obtain rfl:=YA p5;exact bH.no b rfl
  have aY:Ext (fp (H.sub s0) (.pointer (some ⟨b,0,none⟩)) (.box T0 tr)) w (w.setRow b (es.toArray.toList.take cF++cs++es.toArray.toList.drop (cF+cs.length)).toArray):=
   ⟨rfl,⟨rfl,YD _⟩,rfl,by simp,fun k _ hk=>setRow_other w b k _ fun e=>hk (by simp[fp,e])⟩
  refine gZ.p4 (t':= .box T0 NH) (D:= .dead) hs bJ hb rfl (fun k hk=>hk) aY ⟨b,_,rfl,setRow_heap w b _ _ T0 (0,0) hh,?_⟩ trivial
  have hk:=mO.keep (H':=H.aP n (.box T0 NH)) (aj.dH (hs.fresh n (YD _) (by omega)).2) (Step.ext aY hs.lt fun k hk=>by
   simp only[fp,aam,YH,Z2,and_true]at hk
   exact hk▸NI)
  rw[<-hl]at hk;simpa using hk
 .rename_i o s r i x0 p off;split at h
  case h_2=>cases h
  rename_i s' T0 r' l bJ;split at h
  case h_2=>cases h
  rename_i q' sv tU;obtain⟨h1,h2⟩:=ax h;obtain⟨h1,xz⟩:=bE h1;obtain⟨h1,xA⟩:=bE h1;have h1:=beq_true h1;have xA:=beq_true xA;have xz:=beq_true xz;split at h2
  case h_2=>cases h2
  rename_i z hf;obtain⟨g,o0,qq,T',m,cap,l0,e1,e2,e3,e4,e5⟩:=hx;rw[<-xz]at e5
  cases Gb:YE s' s with
  |true=>
   rw[Gb,cond_true]at h2;obtain rfl:=beq_true Gb;split at h2
   case isFalse=>cases h2
   rename_i vw;obtain⟨v,hv,bH⟩:=hs.obj _ _ _ bJ;have hc:=bH.con;rw[e3]at hc
   obtain⟨rfl,vm⟩:T'=T0/\(⟨r,l0⟩:(r:Row)×List r.den)=⟨r',l⟩:=by
    have:=YA hc;simp only[Th.base,Th.own.injEq]at this;obtain⟨a,b,c⟩:=this;subst b;exact⟨a,by rw[eq_of_heq c]⟩
   cases vm;exact⟨_,h2,qw T DM hs bJ e1 e2 e4 e5 h1 xA hf hy⟩
  |false=>
   rw[Gb,cond_false]at h2;obtain⟨x',F9,h2⟩:=bind_some h2;exact⟨_,h2,qw T DM hs bJ e1 e2 F9 e5 h1 xA hf hy⟩
 .cases h
theorem DO(hs:ak U H F w ob n){t:TypeId}{tr:Tree}{cs:List Value}(hh:Holds H F w tr cs):
 ie H F w ob n {dst:= .ptr n [] 0,make:=[(n,(n, .box t tr))]} (.pointer (some ⟨w.heap.size,0,none⟩)) (w.alloc (.cells cs.toArray t)):=by
 have aY:Ext (bq H ob []) w (w.alloc (.cells cs.toArray t)):=⟨rfl,⟨rfl,YD _⟩,rfl,by simp,fun k hk _=>Below.heap_alloc w _ k hk⟩
 have hf:=hs.fresh n (YD _) (by omega);refine gZ.new (v0:= .pointer (some ⟨w.heap.size,0,none⟩)) hs rfl rfl aY ⟨_,cs,rfl,heap_alloc_new w _,?_⟩ (fun k hk=>?_) ⟨w.heap.size,by simp[aj.bL],rfl⟩
 .exact hh.keep ((aj.dH hf.2).trans (aj.lP (by simp[aj.aP,hf.1]))) (Step.alloc hs.lt _)
 .simp only[fp,aam,YH,Z2,and_true]at hk;subst hk;exact⟨fun e=>by have:=hs.lt _ e;omega,by simp, .inl (YD _)⟩
def ot(T:aI P)(n:Nat)(t:TypeId)(k:cL->Option R):Option R:=
 match find T.row t with
 |some r=>k {dst:= .ptr n [] 0,make:=[(n,(n, .box t r.vu))]}
 |none=>none
theorem Bl(T:aI P){t:TypeId}{k:cL->Option R}{q:R}(h:ot T n t k=some q)(hs:ak U H F w ob n):
 ∃e,k e=some q/\bz P U H F w ρ ob n ⟨some d, .alloc t,ty,pos,aft,none⟩ e:=by
 unfold ot at h;split at h
 case h_2=>cases h
 rename_i r hr;obtain⟨ti,z,h1,h2,h3,_,_⟩:=T.row_ok _ _ hr;refine⟨_,h,bl.val (A3 h1 h2) ?_⟩;have:=DO (t:=t) hs (Row.je H F w r);rw[<-h3,Zi]at this;exact this
def Bm(n:Nat)(t:TypeId)(V:ag)(k:cL->Option R):Option R:=
 match V with
 | .val _ u=>k {dst:= .ptr n [] 0,make:=[(n,(n, .box t u))]}
 |_=>none
theorem GF{t:TypeId}{V:ag}{x:Operand}{k:cL->Option R}{q:R}(h:Bm n t V k=some q)(hs:ak U H F w ob n)(hx:af H F w V (ev ρ x)):
 ∃e,k e=some q/\bz P U H F w ρ ob n ⟨some d, .box t x,ty,pos,aft,none⟩ e:=by
 unfold Bm at h;split at h
 case h_2=>cases h
 rename_i agg u;obtain⟨cs,mK,sw⟩:=au.cells hx;refine⟨_,h,bl.val (Gu rfl) ?_⟩;have:=DO (t:=t) hs mK;rw[<-sw,Zi]at this;exact this
end
end Go.Proofs.YtbladfbbhijpmaaGreat
end
section
open _root_.Array renaming toArray_toList->Zi
open _root_.Go.Instr renaming fill->aaf
open _root_.Int renaming eq_ofNat_of_zero_le->YN,toNat_natCast->YK
open _root_.List renaming length_take->Zw,replicate->Y4
open _root_.Nat renaming add_mul->Zm,beq->YE,le_refl->YD,le_trans->Y3,min_eq_left->ZF,mul_le_mul_right->YX
open _root_.Option.some renaming inj->YA,injEq->YH
open _root_.Go.Result renaming andThen_ok->Zh
open _root_.Go.Sem renaming run_bind->Y6
open _root_.Go.Value renaming ownBlock->Y9
namespace Go.Proofs.YtbladfbbhijpmaaGreat
open Go Go.RowKit
section
variable {P:Program} {ρ:Nat->Value} {w w':World} {H H':aj} {F F':Nat->Prop} {U:Nat->Prop} {ob:Nat->Option (Nat×Th)} {n:Nat} {R:Type}
variable {op:Op} {ty:TypeId} {pos:String} {aft:Array Edge} {d:Nat}
theorem lQ{base:Nat}{T:TypeId}{r:Row}{v:Value}{l:List r.den}(h:fa base F w T r v l):v.oneCell'=true:=by
 obtain⟨A,cap,rfl,_⟩:=h.reads;rfl
theorem jf{H:aj}{o:Nat}{v:Value}(h:H.val o=some v)(h1:v.oneCell'=true):af H F w (.val false (.own o)) v:=⟨[v],⟨v,h,h1,rfl⟩,rfl,fun _=>rfl⟩
theorem ou(hs:ak U H F w ob n){e:TypeId}{r:Row}{v:Value}{l:List r.den}{eat:List Nat}(aY:Ext (bq H ob eat) w w')(ho:fa 0 F w' e r v l)(hn:∀k,aS v k->bq H ob eat k\/w.heap.size<=k):
 ie H F w ob n {dst:= .val false (.own n),eat:=eat,make:=[(n,(n, .own e r l))]} v w':=
 gZ.new (v0:=v) hs rfl (lQ ho) aY ho.2 (fun k hk=>⟨ho.1 k hk,ho.lt k hk,(hn k hk).symm⟩) (jf (by simp[aj.bL]) (lQ ho))
theorem jI{g:Nat->Prop}(o:Obj):Ext g w (w.alloc o):=⟨rfl,⟨rfl,YD _⟩,rfl,by simp,fun k hk _=>Below.heap_alloc w _ k hk⟩
def NJ{α:Type}(a b:Int)(z:α):Option (List α):=if 0<=a/\a<=b/\b<=4294967296 then some (Y4 a.toNat z)else none
def k8:Operand->Operand->Bool
 | .tmp a, .tmp b=>YE a b
 | .const (.int _ a), .const (.int _ b)=>decide (a=b)
 |_,_=>false
theorem sx{e t:TypeId}{r:Row}{a b:Int}(ht:P.underlying t=some (.slice e))(sr:TI P e r)(hs:ak U H F w ob n){ka kb:IntKind}{x y:Operand}(hx:ev ρ x= .int ka a)(hy:ev ρ y= .int kb b)(h0:0<=a)(h1:a<=b)(h2:b<=4294967296):
 ∃v w',(execOp (ev ρ) ⟨some d, .makeSlice t x y,ty,pos,aft,none⟩).run P w= .ok (.value v) w'/\(∀g,Ext g w w')/\fa 0 F w' e r v (Y4 a.toNat r.zero)/\∀k,aS v k->w.heap.size<=k:=by
 obtain⟨ti,z,hi,hz,KX,iz,Kv⟩:=sr;obtain⟨ca,rfl⟩:=YN h0;obtain⟨cb,rfl⟩:=YN (Int.le_trans h0 h1)
 have hc:cb<=4294967296:=by omega
 have tK:ti.bytes*cb<=281474976710656:=Y3 (Nat.mul_le_mul Kv hc) (by omega)
 have pW:(ti.bytes:Int)*(cb:Int)<=281474976710656:=by
  have h:((ti.bytes*cb:Nat):Int)<=281474976710656:=by omega
  rwa [Int.natCast_mul]at h
 have aZ:=run_make (P:=P) w t e ti z ht hi hz ka kb ca cb (by omega) (by omega) pW (by omega)
 have TO:z.cells=r.dc.toArray:=by rw[<-KX,Zi]
 have TP:r.dc.length=r.size:=(bF.zero F w r).length;have nz:=r.size_pos;simp only[YK]at aZ;refine⟨.slice (some ⟨w.heap.size,0,none⟩) ca cb,w.alloc (.cells (madeCells z.cells (cb*ti.size)) e),by simp[execOp,hx,hy,aZ],fun _=>jI _,⟨fun q hq=>?_,(madeCells z.cells (cb*ti.size)).toList.take (ca*r.size),?_,?_⟩,fun q hq=>?_⟩
 .simp only[aS,Y9,YH]at hq;intro e;have:=hs.lt _ e;omega
 .have hle:ca*r.size<=cb*r.size:=YX _ (by omega);have La:=size_madeCells z.cells (cb*ti.size);refine iY.of ⟨by rw[Zw,Array.length_toList,La,iz,ZF hle];simp, .inr ⟨w.heap.size,cb,madeCells z.cells (cb*ti.size),by simp,Nat.zero_le _,heap_alloc_new w _,by simp;omega,by simp[maxLen];omega,by rw[La,iz],by simp⟩⟩
 .intro i av;simp only[YK,List.length_replicate]at av;have hle:(i+1)*r.size<=ca*r.size:=YX _ av;rw[Zm]at hle;rw[List.drop_take,List.take_take,ZF (by omega)];rw[iz,TO,<-TP,Dn _ _ _ (by omega) (by omega)];simpa using bF.zero F _ r
 .simp only[aS,Y9,YH]at hq;omega
theorem vx{e t:TypeId}{r:Row}{a b:Int}(ht:P.underlying t=some (.slice e))(sr:TI P e r)(hs:ak U H F w ob n){ka kb:IntKind}{x y:Operand}(hx:ev ρ x= .int ka a)(hy:ev ρ y= .int kb b)(h0:0<=a)(h1:a<=b)(h2:b<=4294967296):
 bz P U H F w ρ ob n ⟨some d, .makeSlice t x y,ty,pos,aft,none⟩ {dst:= .val false (.own n),make:=[(n,(n, .own e r (Y4 a.toNat r.zero)))]}:=by
 obtain⟨v,w',aZ,aY,cV,qx⟩:=sx (d:=d) (ty:=ty) (pos:=pos) (aft:=aft) ht sr hs hx hy h0 h1 h2;exact bl.val aZ (ou hs (aY _) cV fun q hq=> .inr (qx q hq))
def qy(T:aI P)(n:Nat)(t:TypeId)(same:Bool)(a b:Int)(k:cL->Option R):Option R:=
 match find T.und t with
 |some (.slice e)=>match find T.row e with
  |some r=>(bif same then sf a r.zero else NJ a b r.zero).bind fun l=>k {dst:= .val false (.own n),make:=[(n,(n, .own e r l))]}
  |none=>none
 |_=>none
theorem sy{x y:Operand}(h:k8 x y=true){a b:Int}{ka kb:IntKind}(hx:ev ρ x= .int ka a)(hy:ev ρ y= .int kb b):a=b:=by
 unfold k8 at h;split at h
 .obtain rfl:=beq_true h;rw[hx]at hy;cases hy;rfl
 .simp only[ev,Value.int.injEq]at hx hy;have:=of_decide_eq_true h;omega
 .cases h
theorem vy(T:aI P){t:TypeId}{a b:Int}{ka kb:IntKind}{x y:Operand}{k:cL->Option R}{q:R}(h:qy T n t (k8 x y) a b k=some q)(hs:ak U H F w ob n)(hx:ev ρ x= .int ka a)(hy:ev ρ y= .int kb b):
 ∃e,k e=some q/\bz P U H F w ρ ob n ⟨some d, .makeSlice t x y,ty,pos,aft,none⟩ e:=by
 unfold qy at h;split at h
 case h_2=>cases h
 rename_i e hu;split at h
 case h_2=>cases h
 rename_i r hr;obtain⟨l,hl,hk⟩:=bind_some h;have sr:=T.row_ok _ _ hr;have ht:=T.und_ok _ _ hu
 cases DP:k8 x y with
 |true=>
  rw[DP,cond_true]at hl;unfold sf at hl;split at hl
  case isFalse=>cases hl
  rename_i hc;obtain rfl:=YA hl;obtain rfl:=sy DP hx hy;exact⟨_,hk,vx ht sr hs hx hy hc.1 (Int.le_refl _) hc.2⟩
 |false=>
  rw[DP,cond_false]at hl;unfold NJ at hl;split at hl
  case isFalse=>cases hl
  rename_i hc;obtain rfl:=YA hl;exact⟨_,hk,vx ht sr hs hx hy hc.1 hc.2.1 hc.2.2⟩
def Oq(ob:Nat->Option (Nat×Th))(r:Row)(D:ag):Option (List r.den):=
 match pL ob D with
 |some (.read s l)=>if h:s.beq r=true then some (fj (r:= .slice s) (s:= .slice r) (congrArg Row.slice (Row.eq_of_beq h)) l)else none
 |some (.own _ _ _ s l)=>if h:s.beq r=true then some (fj (r:= .slice s) (s:= .slice r) (congrArg Row.slice (Row.eq_of_beq h)) l)else none
 |some .nil=>some []
 |some (.view ..)=>none
 |some (.deep ..)=>none
 |none=>none
theorem IR(hs:ak U H F w ob n){r:Row}{D:ag}{l:List r.den}{v:Value}(h:Oq ob r D=some l)(hd:af H F w D v):Reads F w r v l:=by
 unfold Oq at h;split at h
 .rename_i s m eD;split at h
  case isFalse=>cases h
  rename_i hb;obtain rfl:=Row.eq_of_beq hb;obtain rfl:=YA h;exact bF.reads (eT hs eD hd)
 .rename_i o s0 T s m eD;split at h
  case isFalse=>cases h
  rename_i hb;obtain rfl:=Row.eq_of_beq hb;obtain rfl:=YA h;exact(eT hs eD hd).2.2.reads
 .rename_i eD;obtain rfl:=YA h;have:v=_:=eT hs eD hd;subst this;exact(bF.nil F w r).reads
 .cases h
 .cases h
 .cases h
def nF:DJ->Int
 | .read _ l=>(l.length:Int)
 | .own _ _ _ _ l=>(l.length:Int)
 | .nil=>0
 | .view _ _ _ l=>(l.length:Int)
 | .deep _ _ _ _ l _=>(l.length:Int)
theorem DQ{v:Value}{k:DJ}(h:GC U H F w ob v k):∃A m cap,v= .slice A m cap/\nF k=(m:Int):=by
 cases k with
 |read r l=>
  obtain⟨A,cap,e,_⟩:=bF.xH h;exact⟨A,_,cap,e,rfl⟩
 |own o s T r l=>
  obtain⟨A,cap,e,_⟩:=h.2.2.reads;exact⟨A,_,cap,e,rfl⟩
 |nil=>exact⟨none,0,0,h,rfl⟩
 |view o s r m=>
  obtain⟨A,cap,T,l,a,b,_,_,h3,h4,rfl,rfl⟩:=h;refine⟨_,_,_,rfl,?_⟩;simp only[nF,List.length_drop,Zw,ZF h4]
 |deep o s T d l hh=>
  obtain⟨lh,_,⟨xs,xx,_⟩,Kx,_⟩:=h.2.2.ok
  rcases xx.2 with⟨Bi,h0⟩|⟨g,o0,cap,cur,tT,_,_,_⟩
  .exact⟨none,0,0,Bi,by simp only[nF];omega⟩
  .exact⟨_,_,_,tT,by simp only[nF];omega⟩
def Bn(T:aI P)(ob:Nat->Option (Nat×Th))(t:TypeId)(D:ag):Option ag:=
 match find T.und t with
 |some (.slice _)=>match pL ob D with
  |some k=>some (iG .i64 (nF k))
  |none=>none
 |some .str=>match vo D with
  |some s=>some (iG .i64 (s.size:Int))
  |none=>none
 |_=>none
theorem zK(T:aI P){t:TypeId}{D D':ag}{x:Operand}(h:Bn T ob t D=some D')(hs:ak U H F w ob n)(hx:af H F w D (ev ρ x)):
 bz P U H F w ρ ob n ⟨some d, .call {callee:= .builtin .len,args:= #[x],argTypes:= #[t]},ty,pos,aft,none⟩ {dst:=D'}:=by
 unfold Bn at h;split at h
 .rename_i e hu;split at h
  case h_2=>cases h
  rename_i k hk;obtain rfl:=YA h;obtain⟨A,m,cap,e1,e2⟩:=DQ (eT hs hk hx);rw[e2];exact ay hs (Dl rfl (T.und_ok _ _ hu) e1) (au.fD ..)
 .rename_i hu;split at h
  case h_2=>cases h
  rename_i s hk;obtain rfl:=YA h;exact ay hs (AT (T.und_ok _ _ hu) (qt hk hx)) (au.fD ..)
 .cases h
def lR(T:aI P)(ob:Nat->Option (Nat×Th))(n:Nat)(t:TypeId)(X Y:ag)(k:cL->Option R):Option R:=
 match find T.und t with
 |some (.slice e)=>match find T.row e with
  |some r=>match Oq ob r Y with
   |some m=>match pL ob X with
    |some .nil=>(bZ ([]:List r.den) m).bind fun l=>k {dst:= .val false (.own n),make:=[(n,(n, .own e r l))]}
    |some (.own o _ T0 s l0)=>bif YE T0 e then
      (if h:s.beq r=true then(bZ (fj (r:= .slice s) (s:= .slice r) (congrArg Row.slice (Row.eq_of_beq h)) l0) m).bind fun l=>k {dst:= .val false (.own n),eat:=[o],make:=[(n,(n, .own e r l))]}else none)else none
    |_=>none
   |none=>none
  |none=>none
 |_=>none
theorem xW(T:aI P){t:TypeId}{X Y:ag}{x y:Operand}{k:cL->Option R}{q:R}(h:lR T ob n t X Y k=some q)(hs:ak U H F w ob n)(hx:af H F w X (ev ρ x))(hy:af H F w Y (ev ρ y)):
 ∃e,k e=some q/\bz P U H F w ρ ob n ⟨some d, .call {callee:= .builtin .append,args:= #[x,y],argTypes:= #[t,t]},ty,pos,aft,none⟩ e:=by
 unfold lR at h;split at h
 case h_2=>cases h
 rename_i e hu;split at h
 case h_2=>cases h
 rename_i r hr;obtain⟨ti,z,h1,h2,h3,h4,h5⟩:=T.row_ok _ _ hr;have ht:=T.und_ok _ _ hu;split at h
 case h_2=>cases h
 rename_i m hm;have dj:=IR hs hm hy
 have key:∀{l out:List r.den},fa 0 F w e r (ev ρ x) l->bZ l m=some out->∃v' w',(execOp (ev ρ) ⟨some d, .call {callee:= .builtin .append,args:= #[x,y],argTypes:= #[t,t]},ty,pos,aft,none⟩).run P w= .ok (.value v') w'/\Ext (aS (ev ρ x)) w w'/\fa 0 F w' e r v' out/\(∀k,aS v' k->aS (ev ρ x) k\/w.heap.size<=k):=by
  intro l out ho ha;obtain⟨v',w',aZ,he,gm,Ol⟩:=qj ty ht h1 h2 h3 h4 h5 ho dj ha hs.lt (Nat.zero_le _);refine⟨v',w',by simp[execOp,resolve,invoke,builtin,aZ],he,gm,fun k hk=>?_⟩
  rcases Ol with g|g
  .exact .inl (g▸hk)
  .rw[g]at hk;exact .inr (by omega)
 split at h
 .rename_i eD;obtain⟨l,hl,hk⟩:=bind_some h;have hv:ev ρ x=_:=eT hs eD hx;obtain⟨v',w',aZ,he,gm,hn⟩:=key (by rw[hv];exact fa.nil 0 F w e r) hl
  have no:∀k,¬aS (ev ρ x) k:=fun k hk=>by rw[hv]at hk;simp[aS,Y9]at hk
  exact⟨_,hk,bl.val aZ (ou hs ⟨he.os,he.tape,he.output,he.size,fun k hk _=>he.block k hk (no k)⟩ gm fun k hk=>(hn k hk).imp (fun h=>absurd h (no k)) id)⟩
 .rename_i o s0 T0 s l0 eD;obtain⟨hb,h⟩:=ax h;obtain rfl:=beq_true hb;split at h
  case isFalse=>cases h
  rename_i vw;obtain rfl:=Row.eq_of_beq vw;obtain⟨l,hl,hk⟩:=bind_some h;obtain⟨hv,bJ,cV⟩:=eT hs eD hx;obtain⟨v',w',aZ,he,gm,hn⟩:=key cV hl
  have ee:∀k,aS (ev ρ x) k->bq H ob [o] k:=fun k hk=>⟨o,by simp,_,_,_,bJ,hv,hk⟩
  exact⟨_,hk,bl.val aZ (ou hs ⟨he.os,he.tape,he.output,he.size,fun k hk xy=>he.block k hk fun hm=>xy (ee k hm)⟩ gm fun k hk=>(hn k hk).imp (ee k) id)⟩
 .cases h
def vz(ob:Nat->Option (Nat×Th))(r:Row):List ag->Option (List r.den)
 |[]=>some []
 | .val _ u::l=>match flat ob r u with
   |some x=>match vz ob r l with
    |some xs=>some (x::xs)
    |none=>none
   |none=>none
 |_::_=>none
def nG(rd:Operand->Option ag):List Operand->Option (List ag)
 |[]=>some []
 |x::xs=>match rd x with
  |some d=>match nG rd xs with
   |some ds=>some (d::ds)
   |none=>none
  |none=>none
def du(H:aj)(F:Nat->Prop)(w:World):List ag->List Value->Prop
 |[],vs=>vs=[]
 |d::ds,vs=>∃v us,vs=v::us/\af H F w d v/\du H F w ds us
theorem jJ{rd:Operand->Option ag}(h:∀x d,rd x=some d->af H F w d (ev ρ x)):{xs:List Operand}->{ds:List ag}->nG rd xs=some ds->du H F w ds (xs.map (ev ρ))
 |[],ds,e=>by obtain rfl:=YA e;rfl
 |x::xs,ds,e=>by
  unfold nG at e
  cases h1:rd x with
  |none=>rw[h1]at e;cases e
  |some d=>
   cases h2:nG rd xs with
   |none=>simp only[h1,h2]at e;cases e
   |some NK=>
    simp only[h1,h2,YH]at e;subst e;exact⟨_,_,rfl,h _ _ h1,jJ h h2⟩
theorem vA(hs:ak U H F w ob n){r:Row}:{ds:List ag}->{l:List r.den}->{vs:List Value}->vz ob r ds=some l->du H F w ds vs->qk F w r vs l
 |[],l,vs,e,h=>by
  obtain rfl:=YA e;rw[show vs=[]from h];exact .nil
 | .val _ u::ds,l,vs,e,h=>by
   obtain⟨v,us,rfl,h1,h2⟩:=h;unfold vz at e
   cases hf:flat ob r u with
   |none=>rw[hf]at e;cases e
   |some x=>
    cases hg:vz ob r ds with
    |none=>simp only[hf,hg]at e;cases e
    |some xs=>
     simp only[hf,hg,YH]at e;subst e;obtain⟨cs,mK,sw⟩:=au.cells h1;exact .cons sw (dV hs hf mK) (vA hs hg h2)
 | .dead::_,_,_,e,_=>by cases e
 | .undef::_,_,_,e,_=>by cases e
 | .ptr .. ::_,_,_,e,_=>by cases e
 | .at .. ::_,_,_,e,_=>by cases e
 | .elem .. ::_,_,_,e,_=>by cases e
 | .tup _::_,_,_,e,_=>by cases e
 | .dlm .. ::_,_,_,e,_=>by cases e
theorem qz{e t:TypeId}{r:Row}{xs:List Operand}{l:List r.den}{parts:Array (Nat×Operand)}(ht:P.underlying t=some (.slice e))(sr:TI P e r)(cD:parts=((xs.zipIdx).map fun p=>(p.2,p.1)).toArray)(DP:xs.length*r.size<=16777216)
 (hl:qk F w r (xs.map (ev ρ)) l)(hs:ak U H F w ob n):
 ∃v w',(execOp (ev ρ) ⟨some d, .buildSlice t xs.length parts,ty,pos,aft,none⟩).run P w= .ok (.value v) w'/\(∀g,Ext g w w')/\fa 0 F w' e r v l/\∀k,aS v k->w.heap.size<=k:=by
 obtain⟨ti,z,h1,h2,h3,h4,h5⟩:=sr
 have TQ:(xs.map (ev ρ)).length=xs.length:=by simp
 have Kx:=hl.length;have nz:=r.size_pos
 have KW:z.cells.size=r.size:=by rw[<-(bF.zero F w r).length,<-h3];simp
 have nH:(parts.map fun(i,q)=>(i,ev ρ q)).toList=((xs.map (ev ρ)).zipIdx).map fun p=>(p.2,p.1):=by
  subst cD;simp[List.zipIdx_map,Function.comp_def]
 generalize hm:xs.length=m at*;generalize xs.map (ev ρ)=vs at*
 have key:∀zz:Array Value,zz.size=m*r.size->∃xB:List Value,aaf (fun i=>some (i*r.size,r.size)) zz ((vs.zipIdx).map fun p=>(p.2,p.1))=some xB.toArray/\xB.length=l.length*r.size/\∀i(hi:i<l.length),bF F w r ((xB.drop (i*r.size)).take r.size) l[i]:=by
  intro zz Lb;obtain⟨xB,a1,a2,a3⟩:=hl.fill 0 [] zz.toList (by simp) (by rw[Array.length_toList,Lb,TQ]);exact⟨xB,by simpa using a1,a2,a3⟩
 have aZ:∃xB:List Value,(execOp (ev ρ) ⟨some d, .buildSlice t m parts,ty,pos,aft,none⟩).run P w= .ok (.value (.slice (some ⟨w.heap.size,0,none⟩) m m)) (w.alloc (.cells xB.toArray e))/\xB.length=l.length*r.size/\∀i(hi:i<l.length),bF F w r ((xB.drop (i*r.size)).take r.size) l[i]:=by
  by_cases h0:m*r.size=0
  .obtain⟨xB,a1,a2,a3⟩:=key #[] (by simp[h0]);refine⟨xB,?_,a2,a3⟩;simp only[execOp,Instr.buildSlice,Y6,run_underlying ht,Zh];rw[nH]
   have Ot:Array.range 0=(#[]:Array Nat):=by rfl
   simp[sizeOf,typeInfo,h1,h4,h0,newRow,Ot,a1]
  .obtain⟨xB,a1,a2,a3⟩:=key ((Array.range (m*r.size)).map (z.cells[· %z.cells.size]!)) (by simp);refine⟨xB,?_,a2,a3⟩;simp only[execOp,Instr.buildSlice,Y6,run_underlying ht,Zh];rw[nH];simp[sizeOf,typeInfo,h1,h4,h0,zeroValue,h2,newRow,a1,show¬(16777216<m*r.size)from by omega]
 obtain⟨xB,aZ,a2,a3⟩:=aZ
 have Gc:m=l.length:=by omega
 have TR:m<=16777216:=Y3 (Nat.le_mul_of_pos_right m nz) DP;refine⟨_,_,aZ,fun g=>jI _,⟨fun k hk=>?_,xB,?_,fun i hi=>(a3 i hi).step (Step.alloc hs.lt _)⟩,fun k hk=>?_⟩
 .simp only[aS,Y9,YH]at hk;intro e;have:=hs.lt _ e;omega
 .have:=World.ownsRow_lit (base:=0) (e:=e) (size:=r.size) w xB.toArray m (Nat.zero_le _) (by simp[maxLen];omega) (by simp[a2,Gc]);rw[Gc]at this⊢;simpa using iY.of this
 .simp only[aS,Y9,YH]at hk;omega
theorem run_build{e t:TypeId}{r:Row}{xs:List Operand}{l:List r.den}{parts:Array (Nat×Operand)}(ht:P.underlying t=some (.slice e))(sr:TI P e r)(cD:parts=((xs.zipIdx).map fun p=>(p.2,p.1)).toArray)(DP:xs.length*r.size<=16777216)
 (hl:qk F w r (xs.map (ev ρ)) l)(hs:ak U H F w ob n):
 bz P U H F w ρ ob n ⟨some d, .buildSlice t xs.length parts,ty,pos,aft,none⟩ {dst:= .val false (.own n),make:=[(n,(n, .own e r l))]}:=by
 obtain⟨v,w',h1,h2,h3,h4⟩:=qz (d:=d) (ty:=ty) (pos:=pos) (aft:=aft) ht sr cD DP hl hs;exact bl.val h1 (ou hs (h2 _) h3 fun k hk=> .inr (h4 k hk))
def zL:Nat->List (Nat×Operand)->Bool
 |_,[]=>true
 |k,p::l=>YE p.1 k&&zL (k+1) l
theorem qA:{k:Nat}->{l:List (Nat×Operand)}->zL k l=true->l=((l.map (·.2)).zipIdx k).map fun p=>(p.2,p.1)
 |_,[],_=>rfl
 |k,p::l,h=>by
  obtain⟨h1,h2⟩:=bE h;have h1:=beq_true h1;have ih:=qA h2;obtain⟨a,b⟩:=p;subst h1;rw[List.map_cons,List.zipIdx_cons,List.map_cons,<-ih]
def fF(T:aI P)(rd:Operand->Option ag)(ob:Nat->Option (Nat×Th))(n:Nat)(t:TypeId)(m:Nat)(parts:Array (Nat×Operand))(k:cL->Option R):Option R:=
 match find T.und t with
 |some (.slice e)=>match find T.row e with
  |some r=>bif zL 0 parts.toList&&YE m parts.toList.length&&Nat.ble (m*r.size) 16777216 then
    (match nG rd (parts.toList.map (·.2))with
    |some ds=>match vz ob r ds with
     |some l=>k {dst:= .val false (.own n),make:=[(n,(n, .own e r l))]}
     |none=>none
    |none=>none)else none
  |none=>none
 |_=>none
theorem qB(T:aI P){rd:Operand->Option ag}(dj:∀x d,rd x=some d->af H F w d (ev ρ x)){t:TypeId}{m:Nat}{parts:Array (Nat×Operand)}{k:cL->Option R}{q:R}(h:fF T rd ob n t m parts k=some q)(hs:ak U H F w ob n):
 ∃e,k e=some q/\bz P U H F w ρ ob n ⟨some d, .buildSlice t m parts,ty,pos,aft,none⟩ e:=by
 unfold fF at h;split at h
 case h_2=>cases h
 rename_i e hu;split at h
 case h_2=>cases h
 rename_i r hr;obtain⟨h1,h⟩:=ax h;obtain⟨h1,h3⟩:=bE h1;obtain⟨h1,h2⟩:=bE h1;have h2:=beq_true h2
 have h3:m*r.size<=16777216:=by simpa using h3
 split at h
 case h_2=>cases h
 rename_i ds p6;split at h
 case h_2=>cases h
 rename_i l hl;have Lc:=vA hs hl (jJ dj p6)
 have hp:parts=(((parts.toList.map (·.2)).zipIdx).map fun p=>(p.2,p.1)).toArray:=by
  rw[<-qA h1,Zi]
 have hm:m=(parts.toList.map (·.2)).length:=by simpa using h2
 refine⟨_,h,?_⟩;have:=run_build (d:=d) (ty:=ty) (pos:=pos) (aft:=aft) (T.und_ok _ _ hu) (T.row_ok _ _ hr) hp (by rw[<-hm];exact h3) Lc hs;rw[<-hm]at this;exact this
def zM{P:Program}(T:aI P)(fs:List (TypeId×Nat)):Tree->List (Nat×ag)->Option Tree
 |t,[]=>some t
 |t,(f, .val _ u)::l=>match t.get (nD fs.length f)with
  |some (s,off)=>match fs[f]? with
   |some (ft,cF)=>bif YE off cF&&YE u.size s.size&&(match find T.row ft with|some r=>YE r.size u.size|none=>false)then
     (match t.put (nD fs.length f) u with
     |some t'=>zM T fs t' l
     |none=>none)else none
   |none=>none
  |none=>none
 |_,_::_=>none
def p7(T:aI P):List (TypeId×Nat)->Bool
 |[]=>true
 |p::fs=>(match find T.row p.1 with|some _=>true|none=>false)&&p7 T fs
def place(T:aI P)(fs:List (TypeId×Nat))(i:Nat):Option (Nat×Nat):=
 match fs[i]? with
 |some (ft,off)=>match find T.row ft with
  |some r=>some (off,r.size)
  |none=>none
 |none=>none
theorem qC(T:aI P):{l:List Field}->{fs:List (TypeId×Nat)}->l.map (fun f=>(f.type,f.offset))=fs->p7 T fs=true->
 ∃pl:List (Nat×Nat),(l.mapM fun(f:Field)=>(do pure (f.offset,<-sizeOf f.type):Sem (Nat×Nat))).run P w= .ok pl w/\∀i,pl[i]? =place T fs i
 |[],fs,h,_=>by
  subst h;exact⟨[],by simp,fun i=>by simp[place]⟩
 |f::l,fs,h,hz=>by
  subst h;obtain⟨h1,h2⟩:=bE hz;obtain⟨pl,Ld,Gd⟩:=qC T (l:=l) rfl h2
  cases hr:find T.row f.type with
  |none=>rw[hr]at h1;cases h1
  |some r=>
   obtain⟨ti,z,g1,_,_,g4,_⟩:=T.row_ok _ _ hr;refine⟨(f.offset,r.size)::pl,?_,fun i=>?_⟩
   .have xA:(sizeOf f.type).run P w= .ok r.size w:=by simp[sizeOf,typeInfo,g1,g4]
    rw[List.mapM_cons];simp only[Y6,xA,Sem.run_pure,Zh,Ld]
   .cases i with
    |zero=>simp[place,hr]
    |succ i=>simpa[place]using Gd i
end
end Go.Proofs.YtbladfbbhijpmaaGreat
end
