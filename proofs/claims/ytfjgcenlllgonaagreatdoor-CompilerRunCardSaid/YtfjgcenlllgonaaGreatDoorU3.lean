/- Joined texts: Pack2 Call Call2 Ifc Exec. -/
import Derived.Test.YtfjgcenlllgonaaGreatDoorU2
set_option linter.defProp false
open _root_.Bool renaming false->ah,true->af
open _root_.Option renaming none->ae,some->aa,isSome_iff_exists->arA
open _root_.List.cons renaming injEq->arE
open _root_.Nat renaming beq->aqU,le_refl->aqS,blt->art,lt_of_lt_of_le->ars
open _root_.Option.some renaming inj->aqL,injEq->aq1
open _root_.Go.Value.slice renaming injEq->ar8
open _root_.Go.Result renaming andThen->asj
open _root_.Go.Sem renaming run_bind->arf
open _root_.Array renaming toArray_toList->arG
section
open _root_.Bool renaming false->ah,true->af
open _root_.Option renaming none->ae,some->aa
open _root_.List renaming append_assoc->ard,length_cons->arh,mem_cons_self->ary
open _root_.Nat renaming beq->aqU,blt->art,le_refl->aqS
open _root_.Option.some renaming inj->aqL,injEq->aq1
open _root_.Go.Value renaming ownBlock->ark
namespace Go.Proofs.YtfjgcenlllgonaaGreatDoor
open Go Go.RowKit
def hZ(objs:List (Nat×(Nat×Th))):List Nat->Option (List (Nat×(Nat×Th)))
 |[]=>aa objs
 |o::os=>match find objs o with
  |some (s, .own T r l)=>hZ ((o,(s, .yx T r l))::del [o] objs) os
  |some (s, .map T K agg V l)=>hZ ((o,(s, .fmap T K agg V l))::del [o] objs) os
  |some (s, .deep T d l ae)=>hZ ((o,(s, .fdeep T d l))::del [o] objs) os
  |some (s, .dmap T K E r l ae)=>hZ ((o,(s, .fdmap T K E r l))::del [o] objs) os
  |some (_, .yx ..)=>hZ objs os
  |some (_, .fmap ..)=>hZ objs os
  |some (_, .fdeep ..)=>hZ objs os
  |some (_, .fdmap ..)=>hZ objs os
  |_=>ae
def iB:Th->Bool
 | .yx .. =>af
 | .fmap .. =>af
 | .fdeep .. =>af
 | .fdmap .. =>af
 |_=>ah
structure Y8(t t':Th):Prop where
 froz:iB t'=af
 base:t'.base=t.base
 fp:∀S v k,¬fp S v t' k
 ok:∀{H:aW}{F:Nat->Prop}{w:World}{S:Nat->Prop}{v:Value},(∀k,Go.Proofs.YtfjgcenlllgonaaGreatDoor.fp S v t k->¬F k)->mJ H F w S v t->mJ H (λb=>F b\/Go.Proofs.YtfjgcenlllgonaaGreatDoor.fp S v t b) w S v t'
structure dB(H:aW)(F:Nat->Prop)(w:World)(H':aW)(F':Nat->Prop)(w':World):Prop where
 mi:H.le H'
 step:Step F w F' w'
def dB.refl(H:aW)(F:Nat->Prop)(w:World):dB H F w H F w:=⟨aW.le.refl H,Step.refl F w⟩
def dB.trans{H H' wV:aW}{F F' Fq:Nat->Prop}{w w' yQ:World}(h:dB H F w H' F' w')(k:dB H' F' w' wV Fq yQ):dB H F w wV Fq yQ:=⟨h.mi.trans k.mi,h.step.trans k.step⟩
structure PM(G:Nat->Prop)(w0:World)(F0:Nat->Prop)(w:World)(F:Nat->Prop):Prop where
 ext:Ext G w0 w
 le:∀b,F0 b->F b
 new:∀b,F b->F0 b\/w0.heap.size<=b\/G b
section
variable {U:Nat->Prop} {H:aW} {F:Nat->Prop} {w:World} {n:Nat}
def TO(T:TypeId)(r:Row)(l:List r.den):Y8 (.own T r l) (.yx T r l) where
 froz:=rfl
 base:=rfl
 fp _ _ _ h:=h
 ok hn h:=qa.freeze (base:=0) (T:=T) (l:=l) ⟨hn,h⟩
def TP(T:TypeId)(K:Row)(agg:Bool)(V:Row)(l:List (K.den×V.den)):Y8 (.map T K agg V l) (.fmap T K agg V l) where
 froz:=rfl
 base:=rfl
 fp _ _ _ h:=h
 ok {H F w S v} _ h:=by
  obtain⟨b,es,clock,h1,h2,h3,h4⟩:=h;obtain⟨g1,g2⟩:=Kq h4;refine⟨v,rfl, .inr ⟨b,es,clock,h1, .inr h1,h2,h3,by simpa using g1,λi hi=>?_⟩⟩;obtain⟨e,cs,q1,q2,q3,q4,q5⟩:=g2 i hi;exact⟨e,cs,by simpa using q1,q2,q3.step (Step.freeze F w _),q4,q5⟩
def o7.mX{F:Nat->Prop}{w:World}{T:TypeId}{r:Row}{v:Value}{l:List r.den}(h:o7 F w T r v l):eF F w .mX [v] v:=by
 obtain⟨xs,⟨_,h⟩,_⟩:=h
 rcases h with⟨rfl,_⟩|⟨gg,o0,cap,cur,rfl,_⟩<;>exact⟨rfl,_,_,_,rfl⟩
def PN(T:TypeId)(d:DR)(l:List d.row.den):Y8 (.deep T d l ae) (.fdeep T d l) where
 froz:=rfl
 base:=rfl
 fp _ _ _ h:=h
 ok {H F w S v} hn h:=by
  have h':mZ F w (.sl T d) v l S:=h;obtain⟨lh,Ss,h1,_⟩:=h;exact mZ.freeze h' hn h1.mX
def PO(T:TypeId)(K:Row)(E:TypeId)(r:Row)(l:List (K.den×List r.den)):Y8 (.dmap T K E r l ae) (.fdmap T K E r l) where
 froz:=rfl
 base:=rfl
 fp _ _ _ h:=h
 ok {H F w S v} hn h:=by
  obtain⟨b,es,clock,B,h1,h2,h3,h4,h5,_⟩:=h;obtain⟨g1,g2⟩:=Fj h4;refine⟨v,rfl, .inr ⟨b,es,clock,h1, .inr (h5.left b rfl),h2,h3,by simpa using g1,λi hi=>?_⟩⟩;obtain⟨e,A,q1,q2,q3,q4⟩:=g2 i hi
  have hAS:∀k,A k->S k:=λk hk=>h5.right k (q4 k hk)
  have hf:=qa.freeze (base:=0) (T:=E) (l:=l[i].2) ⟨λk hk=>hn k (hAS k ((q3.2 k).2 hk)),q3.1⟩;exact⟨e,[e.val],by simpa using q1,q2,hf.step (r:= .slice r) λk hk=>⟨hk.imp id λh=>hAS k ((q3.2 k).2 h),rfl⟩,rfl,λ_=>rfl⟩
def TQ{objs:List (Nat×(Nat×Th))}{o s:Nat}{t0 t1:Th}(hf:Y8 t0 t1)(hs:aX U H F w (find objs) n)(ho:find objs o=aa (s,t0)):
 ∃F',aX U H F' w (find ((o,(s,t1))::del [o] objs)) n/\(∀b,F b->F' b)/\(∀b,F' b->F b\/∃v,H.val o=aa v/\fp (H.sub s) v t0 b):=by
 obtain⟨v,hv,eJ⟩:=hs.obj _ _ _ ho;refine⟨λb=>F b\/fp (H.sub s) v t0 b,?_,λ_ h=> .inl h,(by grind)⟩
 have part:∀o' s' t',find ((o,(s,t1))::del [o] objs) o'=aa (s',t')->(o'=o/\s'=s/\t'=t1)\/(o'≠o/\find objs o'=aa (s',t')):=by
  intro o' s' t' h;rw[bA]at h;split at h
  .grind
  .grind [kI]
 have fz:Step F w (λb=>F b\/fp (H.sub s) v t0 b) w:=Step.freeze F w _;refine⟨λo' s' t' h=>?_,λo1 o2 s1 s2 t1' t2 v1 v2 dG h1 h2 e1 e2 k hk jh=>?_,hs.fresh,λb hb=>hb.elim (hs.lt b) (eJ.lt b),hs.new,hs.gl.step fz⟩
 .rcases part o' s' t' h with⟨rfl,rfl,rfl⟩|⟨dG,h'⟩
  .exact⟨v,hv,eJ.one,by rw[hf.base];exact eJ.con,hf.ok eJ.no eJ.ok,λk hk=>(hf.fp _ _ _ hk).elim,λk hk=>(hf.fp _ _ _ hk).elim,λk hk=>(hf.fp _ _ _ hk).elim⟩
  .obtain⟨v',gZ,Fs⟩:=hs.obj _ _ _ h';refine⟨v',gZ,Fs.one,Fs.con,Fs.ok.heap (aW.le.refl H) fz λ_ _=>rfl,λk hk hF=>?_,Fs.lt,Fs.use⟩
   rcases hF with hF|hF
   .exact Fs.no k hk hF
   .exact hs.apart _ _ _ _ _ _ _ _ dG h' ho gZ hv k hk hF
 .rcases part o1 s1 t1' h1 with⟨rfl,rfl,rfl⟩|⟨alk,Da⟩
  .exact hf.fp _ _ _ hk
  .rcases part o2 s2 t2 h2 with⟨rfl,rfl,rfl⟩|⟨alm,SP⟩
   .exact hf.fp _ _ _ jh
   .exact hs.apart _ _ _ _ _ _ _ _ dG Da SP e1 e2 k hk jh
def qX:{os:List Nat}->{F:Nat->Prop}->{objs qh:List (Nat×(Nat×Th))}->hZ objs os=aa qh->aX U H F w (find objs) n->
 ∃F',aX U H F' w (find qh) n/\(∀b,F b->F' b)/\(∀b,F' b->F b\/dH H (find objs) os b)
 |[],F,objs,qh,h,hs=>by obtain rfl:=aqL h;grind
 |o::os,F,objs,qh,h,hs=>by
  have main:∀s t t',Y8 t t'->find objs o=aa (s,t)->hZ ((o,(s,t'))::del [o] objs) os=aa qh->
   ∃F',aX U H F' w (find qh) n/\(∀b,F b->F' b)/\(∀b,F' b->F b\/dH H (find objs) (o::os) b):=by
   intro s t t' hf ho h;obtain⟨F1,a1,a2,a3⟩:=TQ hf hs ho;obtain⟨F2,b1,b2,b3⟩:=qX h a1;refine⟨F2,b1,λb hb=>b2 b (a2 b hb),λb hb=>?_⟩
   rcases b3 b hb with h1|⟨o',oY,s',t',v,h1,h2,h3⟩
   .rcases a3 b h1 with h2|⟨v,hv,hm⟩
    .exact .inl h2
    .exact .inr ⟨o,by simp,s,_,v,ho,hv,hm⟩
   .rw[bA]at h1;split at h1
    .simp only[aq1,Prod.mk.injEq]at h1;rw[<-h1.2]at h3;exact(hf.fp _ _ _ h3).elim
    .exact .inr ⟨o',by simp[oY],s',t',v,(kI.1 h1).2,h2,h3⟩
  have same:hZ objs os=aa qh->∃F',aX U H F' w (find qh) n/\(∀b,F b->F' b)/\(∀b,F' b->F b\/dH H (find objs) (o::os) b):=by
   intro h;obtain⟨F2,b1,b2,b3⟩:=qX h hs;exact⟨F2,b1,b2,λb hb=>(b3 b hb).imp id λ⟨o',oY,rest⟩=>⟨o',by simp[oY],rest⟩⟩
  unfold hZ at h;split at h
  .rename_i ho;exact main _ _ _ (TO ..) ho h
  .rename_i ho;exact main _ _ _ (TP ..) ho h
  .rename_i ho;exact main _ _ _ (PN ..) ho h
  .rename_i ho;exact main _ _ _ (PO ..) ho h
  .exact same h
  .exact same h
  .exact same h
  .exact same h
  .cases h
end
theorem ko{S:Nat->Prop}{v:Value}{t:Th}{k:Nat}(h:iB t=af)(hk:fp S v t k):False:=by
 cases t<;>first|(exact hk)|(cases h)
def kQ:{os:List Nat}->{objs qh:List (Nat×(Nat×Th))}->hZ objs os=aa qh->∀o s t,find qh o=aa (s,t)->
 find objs o=aa (s,t)\/iB t=af
 |[],objs,qh,h,o,s,t,ho=>by obtain rfl:=aqL h;exact .inl ho
 |o0::os,objs,qh,h,o,s,t,ho=>by
  have main:∀s0 t1,iB t1=af->hZ ((o0,(s0,t1))::del [o0] objs) os=aa qh->find objs o=aa (s,t)\/iB t=af:=by
   intro s0 t1 hf h
   rcases kQ h o s t ho with h1|g
   .grind [bA,kI]
   .exact .inr g
  unfold hZ at h;split at h
  .exact main _ _ rfl h
  .exact main _ _ rfl h
  .exact main _ _ rfl h
  .exact main _ _ rfl h
  .exact kQ h o s t ho
  .exact kQ h o s t ho
  .exact kQ h o s t ho
  .exact kQ h o s t ho
  .cases h
inductive Sh where
 |leaf (r:Row)
 |own (j:Nat)
 |nil
 |pair (a b:Sh)
 |junk (n:Nat)
inductive SS where
 |val (agg:Bool) (t:Sh)
 |ptr (j:Nat) (p:List Bool) (off:Nat)
 |at (r:Row)
 |undef
 |fn (f:FuncId) (js:List (Nat×List Bool×Nat))
 |ifc (T:TypeId) (s:SS)
inductive OS where
 |box (T:TypeId) (t:Sh)
 |own (T:TypeId) (r:Row)
 |map (T:TypeId) (K:Row) (agg:Bool) (V:Row)
 |deep (T:TypeId) (d:DR)
 |dmap (T:TypeId) (K:Row) (E:TypeId) (r:Row)
structure JS where
 aK:List (Nat×SS)
 objs:List (Nat×OS):=[]
 drop:List Nat:=[]
 nxt:Nat
def Sh.rows:Sh->List Row
 | .leaf r=>[r]
 | .own _=>[]
 | .nil=>[]
 | .pair a b=>a.rows++b.rows
 | .junk _=>[]
def SS.rows:SS->List Row
 | .val _ t=>t.rows
 | .ptr .. =>[]
 | .at r=>[r]
 | .undef=>[]
 | .fn .. =>[]
 | .ifc _ s=>s.rows
def OS.rows:OS->List Row
 | .box _ t=>t.rows
 | .own _ r=>[.slice r]
 | .map _ K _ V=>[.slice (.pair K V)]
 | .deep _ d=>[.slice d.row]
 | .dmap _ K _ r=>[.slice (.pair K (.slice r))]
def Ft:List (Nat×SS)->List Row
 |[]=>[]
 |p::l=>p.2.rows++Ft l
def Ks:List (Nat×OS)->List Row
 |[]=>[]
 |p::l=>p.2.rows++Ks l
def JS.rows(J:JS):List Row:=Ft J.aK++Ks J.objs
abbrev nT:=(r:Row)×r.den
@[reducible] def dj:List Row->Type
  |[]=>Unit
  |[r]=>r.den
  |r::s::rs=>r.den×dj (s::rs)
def fD:(rs:List Row)->dj rs->List nT
 |[],_=>[]
 |[r],x=>[⟨r,x⟩]
 |r::s::rs,x=>⟨r,x.1⟩::fD (s::rs) x.2
def Fu:(rs:List Row)->List nT->Option (dj rs)
 |[],[]=>aa ()
 |[r],[⟨s,x⟩]=>if h:s.beq r=af then aa (lO (Row.eq_of_beq h) x)else ae
 |r::r'::rs,⟨s,x⟩::vs=>if h:s.beq r=af then(match Fu (r'::rs) vs with
  |some y=>aa (lO (Row.eq_of_beq h) x,y)
  |none=>ae)else ae
 |_,_=>ae
def B5{r s:Row}(h:s=r)(x:s.den):(⟨r,lO h x⟩:nT)=⟨s,x⟩:=by subst h;rfl
def xW:{rs:List Row}->{vs:List nT}->{x:dj rs}->Fu rs vs=aa x->fD rs x=vs
 |[],[],x,_=>rfl
 |[],_::_,_,h=>by cases h
 |[r],[],_,h=>by cases h
 |[r],[⟨s,x⟩],y,h=>by
  unfold Fu at h;split at h
  .rename_i hb;obtain rfl:=aqL h
   show[(⟨r,_⟩:nT)]=_
   rw[B5]
  .cases h
 |[r],_::_::_,_,h=>by cases h
 |r::r'::rs,[],_,h=>by cases h
 |r::r'::rs,⟨s,x⟩::vs,y,h=>by
  unfold Fu at h;split at h
  .rename_i hb;split at h
   .rename_i z hz;obtain rfl:=aqL h;have:=xW hz
    show(⟨r,_⟩:nT)::fD (r'::rs) z=_
    rw[B5,this]
   .cases h
  .cases h
def sx:Sh->List nT->Tree×List nT
 | .leaf r,⟨s,x⟩::vs=>(bif s.beq r then .leaf s x else .nil,vs)
 | .leaf _,[]=>(.nil,[])
 | .own j,vs=>(.own j,vs)
 | .nil,vs=>(.nil,vs)
 | .pair a b,vs=>(.pair (sx a vs).1 (sx b (sx a vs).2).1,(sx b (sx a vs).2).2)
 | .junk n,vs=>(.junk n,vs)
def gG:SS->List nT->aN×List nT
 | .val agg t,vs=>(.val agg (sx t vs).1,(sx t vs).2)
 | .ptr j p off,vs=>(.ptr j p off,vs)
 | .at r,⟨s,x⟩::vs=>(bif s.beq r then .at s x else .dead,vs)
 | .at _,[]=>(.dead,[])
 | .undef,vs=>(.undef,vs)
 | .fn f js,vs=>(.fn f js,vs)
 | .ifc T s,vs=>(.ifc T (gG s vs).1,(gG s vs).2)
def eU:List (Nat×SS)->List nT->List (Nat×aN)×List nT
 |[],vs=>([],vs)
 |(t,s)::l,vs=>((t,(gG s vs).1)::(eU l (gG s vs).2).1,(eU l (gG s vs).2).2)
def dI:OS->List nT->Th×List nT
 | .box T t,vs=>(.box T (sx t vs).1,(sx t vs).2)
 | .own T r,⟨.slice s,l⟩::vs=>(bif s.beq r then .own T s l else .own T r [],vs)
 | .own T r,vs=>(.own T r [],vs)
 | .map T K agg V,⟨.slice (.pair K' V'),l⟩::vs=>(if h:K'.beq K=af/\V'.beq V=af then .map T K agg V (lO (r:= .slice (.pair K' V')) (s:= .slice (.pair K V)) (by rw[Row.eq_of_beq h.1,Row.eq_of_beq h.2]) l)else .map T K agg V [],vs)
 | .map T K agg V,vs=>(.map T K agg V [],vs)
 | .deep T d,⟨.slice s,l⟩::vs=>(if h:s.beq d.row=af then .deep T d (lO (r:= .slice s) (s:= .slice d.row) (ay Row.slice (Row.eq_of_beq h)) l) ae else .deep T d [] ae,vs)
 | .deep T d,vs=>(.deep T d [] ae,vs)
 | .dmap T K E r,⟨.slice (.pair K' (.slice s)),l⟩::vs=>(if h:K'.beq K=af/\s.beq r=af then .dmap T K E r (lO (r:= .slice (.pair K' (.slice s))) (s:= .slice (.pair K (.slice r))) (by rw[Row.eq_of_beq h.1,Row.eq_of_beq h.2]) l) ae else .dmap T K E r [] ae,vs)
 | .dmap T K E r,vs=>(.dmap T K E r [] ae,vs)
def lk(m:Nat):List (Nat×OS)->List nT->List (Nat×(Nat×Th))
 |[],_=>[]
 |(j,s)::l,vs=>(j,(m,(dI s vs).1))::lk (m+1) l (dI s vs).2
abbrev Bs:=List (Nat×Option Nat)
def IM:Option Nat->Option Nat->Bool
 |some a,aa b=>aqU a b
 |none,ae=>af
 |_,_=>ah
theorem B6{a b:Option Nat}(h:IM a b=af):a=b:=by
 cases a<;>cases b<;>first|rfl|cases h|(rw[beq_true h])
def B7(bs:Bs)(j:Nat)(v:Option Nat):Option Bs:=
 match find bs j with
 |none=>aa ((j,v)::bs)
 |some u=>bif IM u v then aa bs else ae
def HW(ob:Nat->Option (Nat×Th)):Sh->Tree->Bs->Option (List nT×Bs)
 | .leaf r,t,bs=>match flat ob r t with
   |some x=>aa ([⟨r,x⟩],bs)
   |none=>ae
 | .own j, .own o,bs=>match B7 bs j (aa o)with
   |some jE=>aa ([],jE)
   |none=>ae
 | .own j, .nil,bs=>match B7 bs j ae with
   |some jE=>aa ([],jE)
   |none=>ae
 | .nil, .nil,bs=>aa ([],bs)
 | .junk n,t,bs=>bif aqU t.size n then aa ([],bs)else ae
 | .pair a b,t,bs=>match t.split with
   |some (x,y)=>match HW ob a x bs with
    |some (vs,IN)=>match HW ob b y IN with
     |some (us,Kt)=>aa (vs++us,Kt)
     |none=>ae
    |none=>ae
   |none=>ae
 |_,_,_=>ae
def xe:List (Nat×List Bool×Nat)->List (Nat×List Bool×Nat)->Bs->Option Bs
 |[],[],bs=>aa bs
 |(j,_,off)::js,(o,_,fZ)::cs,bs=>bif aqU off fZ then(match B7 bs j (aa o)with
  |some jE=>xe js cs jE
  |none=>ae)else ae
 |_,_,_=>ae
def PP(ob:Nat->Option (Nat×Th))(s:SS)(d:aN)(bs:Bs):Option (List nT×Bs):=
 match s,d with
 | .val agg sh, .val vI t=>bif (bif agg then vI else !vI)then HW ob sh t bs else ae
 | .ptr j _ off, .ptr o _ fZ=>bif aqU off fZ then(match B7 bs j (aa o)with
   |some jE=>aa ([],jE)
   |none=>ae)else ae
 | .at r, .at s x=>if h:s.beq r=af then aa ([⟨r,lO (Row.eq_of_beq h) x⟩],bs)else ae
 | .undef, .undef=>aa ([],bs)
 | .fn f js, .fn f' cs=>bif aqU f f' then(match xe js cs bs with
   |some jE=>aa ([],jE)
   |none=>ae)else ae
 |_,_=>ae
def MO(ob:Nat->Option (Nat×Th)):SS->aN->Bs->Option (List nT×Bs)
 | .ifc T s,d,bs=>match d with
   | .ifc T' d'=>bif aqU T T' then MO ob s d' bs else ae
   |_=>ae
 |s,d,bs=>PP ob s d bs
def Y9(ob:Nat->Option (Nat×Th))(aK:List (Nat×aN)):List (Nat×SS)->Bs->Option (List nT×Bs)
 |[],bs=>aa ([],bs)
 |(t,s)::l,bs=>match find aK t with
  |some d=>match MO ob s d bs with
   |some (vs,IN)=>match Y9 ob aK l IN with
    |some (us,Kt)=>aa (vs++us,Kt)
    |none=>ae
   |none=>ae
  |none=>ae
def PQ(ob:Nat->Option (Nat×Th))(j:Nat)(s:OS)(bs:Bs):Option (List nT×Bs):=
 match find bs j with
 |some (aa o)=>match ob o with
  |some (_,t)=>match s,t with
   | .own T r, .own T' r' l=>bif aqU T T' then(if h:r'.beq r=af then aa ([⟨.slice r,lO (r:= .slice r') (s:= .slice r) (ay Row.slice (Row.eq_of_beq h)) l⟩],bs)else ae)else ae
   | .box T sh, .box T' t=>bif aqU T T' then HW ob sh t bs else ae
   | .map T K agg V, .map T' K' vI V' l=>bif aqU T T'&&(bif agg then vI else !vI)then(if h:K'.beq K=af/\V'.beq V=af then aa ([⟨.slice (.pair K V),lO (r:= .slice (.pair K' V')) (s:= .slice (.pair K V)) (by rw[Row.eq_of_beq h.1,Row.eq_of_beq h.2]) l⟩],bs)else ae)else ae
   | .deep T d, .deep T' d' l ae=>bif aqU T T'&&d'.beq d then aa ([⟨.slice d'.row,l⟩],bs)else ae
   | .dmap T K E r, .dmap T' K' E' r' l ae=>bif aqU T T'&&aqU E E'&&K'.beq K&&r'.beq r then aa ([⟨.slice (.pair K' (.slice r')),l⟩],bs)else ae
   |_,_=>ae
  |none=>ae
 |some ae=>match s with
  | .own _ r=>aa ([⟨.slice r,([]:List r.den)⟩],bs)
  | .deep _ d=>aa ([⟨.slice d.row,([]:List d.row.den)⟩],bs)
  |_=>ae
 |none=>ae
def Za(ob:Nat->Option (Nat×Th)):List (Nat×OS)->Bs->Option (List nT×Bs)
 |[],bs=>aa ([],bs)
 |(j,s)::l,bs=>match PQ ob j s bs with
  |some (vs,IN)=>match Za ob l IN with
   |some (us,Kt)=>aa (vs++us,Kt)
   |none=>ae
  |none=>ae
section
variable {U:Nat->Prop} {H H':aW} {F:Nat->Prop} {w:World} {n:Nat} {ob:Nat->Option (Nat×Th)}
def Fv(bs jE:Bs):Prop:=∀j v,find bs j=aa v->find jE j=aa v
def oI{bs jE:Bs}{j:Nat}{v:Option Nat}(h:B7 bs j v=aa jE):Fv bs jE/\find jE j=aa v:=by
 unfold B7 at h;split at h
 .rename_i hn;obtain rfl:=aqL h;refine⟨λi u hu=>?_,by rw[bA,al rfl]⟩
  grind [bA]
 .rename_i u hu;obtain⟨h1,rfl⟩:=pQ h;obtain rfl:=B6 h1;exact⟨λ_ _ h=>h,hu⟩
def valOf(H:aW):Option Nat->Option Value
 |some o=>H.val o
 |none=>aa (.slice ae 0 0)
def qY(H H':aW)(bs:Bs):Prop:=∀j v,find bs j=aa v->∀u,valOf H v=aa u->H'.val j=aa u
def zM:{sh:Sh}->{t:Tree}->{bs jE:Bs}->{vs:List nT}->HW ob sh t bs=aa (vs,jE)->Fv bs jE
 | .leaf r,t,bs,jE,vs,h=>by
   unfold HW at h
   split at h<;>cases h
   exact λ_ _ h=>h
 | .own j, .own o,bs,jE,vs,h=>by
   unfold HW at h
   split at h<;>cases h
   rename_i hb;exact(oI hb).1
 | .own j, .nil,bs,jE,vs,h=>by
   unfold HW at h
   split at h<;>cases h
   rename_i hb;exact(oI hb).1
 | .nil, .nil,bs,jE,vs,h=>by cases h;exact λ_ _ h=>h
 | .pair a b,t,bs,jE,vs,h=>by
   unfold HW at h;split at h
   case h_2=>cases h
   split at h
   case h_2=>cases h
   rename_i h1;split at h
   case h_2=>cases h
   rename_i h2;cases h
   exact λj v hj=>zM h2 j v (zM h1 j v hj)
 | .own _, .leaf _ _,_,_,_,h=>by cases h
 | .own _, .pair _ _,_,_,_,h=>by cases h
 | .nil, .leaf _ _,_,_,_,h=>by cases h
 | .nil, .own _,_,_,_,h=>by cases h
 | .nil, .pair _ _,_,_,_,h=>by cases h
 | .own _, .view ..,_,_,_,h=>by cases h
 | .nil, .view ..,_,_,_,h=>by cases h
 | .own _, .junk _,_,_,_,h=>by cases h
 | .nil, .junk _,_,_,_,h=>by cases h
 | .junk n,t,bs,jE,vs,h=>by
   unfold HW at h;obtain⟨_,h⟩:=bz h;cases h
   exact λ_ _ h=>h
def Dq(hs:aX U H F w ob n):{sh:Sh}->{t:Tree}->{bs jE:Bs}->{vs:List nT}->{cs:List Value}->HW ob sh t bs=aa (vs,jE)->Holds H F w t cs->qY H H' jE->∀rest,
 Holds H' F w (sx sh (vs++rest)).1 cs/\(sx sh (vs++rest)).2=rest
 | .leaf r,t,bs,jE,vs,cs,h,hh,hb,rest=>by
   unfold HW at h
   split at h<;>cases h
   rename_i x hf;refine⟨?_,rfl⟩
   show Holds H' F w (bif r.beq r then Tree.leaf r x else .nil) cs
   rw[Row.beq_refl,cond_true];exact m5 hs hf hh
 | .own j, .own o,bs,jE,vs,cs,h,hh,hb,rest=>by
   unfold HW at h
   split at h<;>cases h
   rename_i HT;obtain⟨v,hv,h1,rfl⟩:=hh;exact⟨⟨v,hb _ _ (oI HT).2 v hv,h1,rfl⟩,rfl⟩
 | .own j, .nil,bs,jE,vs,cs,h,hh,hb,rest=>by
   unfold HW at h
   split at h<;>cases h
   rename_i HT;rw[show cs=_ from hh];exact⟨⟨_,hb _ _ (oI HT).2 _ rfl,rfl,rfl⟩,rfl⟩
 | .nil, .nil,bs,jE,vs,cs,h,hh,hb,rest=>by cases h;exact⟨hh,rfl⟩
 | .pair a b,t,bs,jE,vs,cs,h,hh,hb,rest=>by
   unfold HW at h;split at h
   case h_2=>cases h
   rename_i x y wT;split at h
   case h_2=>cases h
   rename_i vs1 IN h1;split at h
   case h_2=>cases h
   rename_i us Kt h2;cases h;obtain⟨c1,c2,rfl,g1,g2,_⟩:=hh.split wT
   have Ko:qY H H' IN:=λj v hj=>hb j v (zM h2 j v hj)
   obtain⟨k1,k2⟩:=Dq hs h1 g1 Ko (us++rest);obtain⟨m1,m2⟩:=Dq hs h2 g2 hb rest;rw[ard];unfold sx;rw[k2];exact⟨⟨c1,c2,rfl,k1,m1⟩,m2⟩
 | .own _, .leaf _ _,_,_,_,_,h,_,_,_=>by cases h
 | .own _, .pair _ _,_,_,_,_,h,_,_,_=>by cases h
 | .nil, .leaf _ _,_,_,_,_,h,_,_,_=>by cases h
 | .nil, .own _,_,_,_,_,h,_,_,_=>by cases h
 | .nil, .pair _ _,_,_,_,_,h,_,_,_=>by cases h
 | .own _, .view ..,_,_,_,_,h,_,_,_=>by cases h
 | .nil, .view ..,_,_,_,_,h,_,_,_=>by cases h
 | .own _, .junk _,_,_,_,_,h,_,_,_=>by cases h
 | .nil, .junk _,_,_,_,_,h,_,_,_=>by cases h
 | .junk n,t,bs,jE,vs,cs,h,hh,hb,rest=>by
   unfold HW at h;obtain⟨hn,h⟩:=bz h;cases h;exact⟨⟨hh.length.trans (Nat.eq_of_beq_eq_true hn),hh.mw⟩,rfl⟩
theorem xf:{js cs:List (Nat×List Bool×Nat)}->{bs jE:Bs}->xe js cs bs=aa jE->Fv bs jE
 |[],[],bs,jE,h=>by obtain rfl:=aqL h;exact λ_ _ h=>h
 |(j,p,off)::js,(o,p',fZ)::cs,bs,jE,h=>by
  unfold xe at h;obtain⟨_,h⟩:=bz h;split at h
  case h_2=>cases h
  rename_i hb
  exact λi v hi=>xf h i v ((oI hb).1 i v hi)
 |[],_::_,_,_,h=>by cases h
 |_::_,[],_,_,h=>by cases h
def B8:{js cs:List (Nat×List Bool×Nat)}->{bs jE:Bs}->{vs:List Value}->xe js cs bs=aa jE->nY H cs vs->qY H H' jE->nY H' js vs
 |[],[],bs,jE,vs,h,hc,hb=>hc
 |(j,p,off)::js,(o,p',fZ)::cs,bs,jE,vs,h,hc,hb=>by
  unfold xe at h;obtain⟨ho,h'⟩:=bz h;clear h;split at h'
  case h_2=>cases h'
  rename_i b1 HT;obtain⟨v,us,rfl,⟨b,h1,rfl⟩,h2⟩:=hc;have ho:=beq_true ho;subst ho;exact⟨_,us,rfl,⟨b,hb _ _ (xf h' _ _ (oI HT).2) _ h1,rfl⟩,B8 h' h2 hb⟩
 |[],_::_,_,_,_,h,_,_=>by cases h
 |_::_,[],_,_,_,h,_,_=>by cases h
def TR{s:SS}{d:aN}{bs jE:Bs}{vs:List nT}(h:PP ob s d bs=aa (vs,jE)):Fv bs jE:=by
 unfold PP at h;split at h
 .obtain⟨_,h⟩:=bz h;exact zM h
 .obtain⟨_,h⟩:=bz h
  split at h<;>cases h
  rename_i hb;exact(oI hb).1
 .split at h<;>cases h
  exact λ_ _ h=>h
 .cases h
  exact λ_ _ h=>h
 .obtain⟨_,h'⟩:=bz h
  grind [xf]
 .cases h
def TS{s:SS}{d:aN}{bs jE:Bs}{vs:List nT}(h:MO ob s d bs=aa (vs,jE)):Fv bs jE:=by
 induction s generalizing d with
 |ifc T s ih=>
  cases d with
  |ifc T' d'=>
   obtain⟨_,h'⟩:=bz (show(bif aqU T T' then MO ob s d' bs else ae)=aa (vs,jE)from h);exact ih h'
  |_=>cases h
 |_=>exact TR h
def TT(hs:aX U H F w ob n){s:SS}{d:aN}{bs jE:Bs}{vs:List nT}{v:Value}(h:PP ob s d bs=aa (vs,jE))(hd:aO H F w d v)(hb:qY H H' jE)(rest:List nT):
 aO H' F w (gG s (vs++rest)).1 v/\(gG s (vs++rest)).2=rest:=by
 unfold PP at h;split at h
 .rename_i agg sh vI t;obtain⟨ha,h'⟩:=bz h;clear h
  have:agg=vI:=by cases agg<;>cases vI<;>simp_all
  subst this;obtain⟨cs,h1,h2⟩:=hd;obtain⟨k1,k2⟩:=Dq hs h' h1 hb rest;exact⟨⟨cs,k1,h2⟩,k2⟩
 .rename_i j p off o p' fZ;obtain⟨ho,h'⟩:=bz h;clear h
  split at h'<;>cases h'
  rename_i HT;obtain⟨b,h1,h2⟩:=hd;refine⟨⟨b,hb _ _ (oI HT).2 _ h1,?_⟩,rfl⟩
  simp_all
 .rename_i r s x
  split at h<;>cases h
  rename_i E3;obtain rfl:=Row.eq_of_beq E3;refine⟨?_,rfl⟩
  show aO H' F w (bif s.beq s then aN.at s x else .dead) v
  rw[Row.beq_refl,cond_true];exact hd
 .cases h;exact⟨hd,rfl⟩
 .rename_i f js f' cs;obtain⟨hf,h'⟩:=bz h
  split at h'<;>cases h'
  rename_i HT;obtain⟨us,h1,h2⟩:=hd;refine⟨⟨us,?_,B8 HT h2 hb⟩,rfl⟩
  simp_all
 .cases h
def TU(hs:aX U H F w ob n){s:SS}{d:aN}{bs jE:Bs}{vs:List nT}{v:Value}(h:MO ob s d bs=aa (vs,jE))(hd:aO H F w d v)(hb:qY H H' jE)(rest:List nT):
 aO H' F w (gG s (vs++rest)).1 v/\(gG s (vs++rest)).2=rest:=by
 induction s generalizing d v with
 |ifc T s ih=>
  cases d with
  |ifc T' d'=>
   obtain⟨hT,h'⟩:=bz (show(bif aqU T T' then MO ob s d' bs else ae)=aa (vs,jE)from h);obtain⟨u,e,h2⟩:=hd;obtain⟨k1,k2⟩:=ih h' h2;exact⟨⟨u,by simp_all,k1⟩,k2⟩
  |_=>cases h
 |_=>exact TT hs h hd hb rest
def PR:{l:List (Nat×SS)}->{aK:List (Nat×aN)}->{bs jE:Bs}->{vs:List nT}->Y9 ob aK l bs=aa (vs,jE)->Fv bs jE
 |[],_,_,_,_,h=>by cases h;exact λ_ _ h=>h
 |(t,s)::l,aK,bs,jE,vs,h=>by
  unfold Y9 at h;split at h
  case h_2=>cases h
  split at h
  case h_2=>cases h
  rename_i h1;split at h
  case h_2=>cases h
  rename_i h2;cases h
  exact λj v hj=>PR h2 j v (TS h1 j v hj)
def PS(hs:aX U H F w ob n){aK:List (Nat×aN)}{ρ:Nat->Value}(jq:∀t d,find aK t=aa d->aO H F w d (ρ t)):{l:List (Nat×SS)}->{bs jE:Bs}->{vs:List nT}->Y9 ob aK l bs=aa (vs,jE)->qY H H' jE->∀rest,
 (∀t d,find (eU l (vs++rest)).1 t=aa d->aO H' F w d (ρ t))/\(eU l (vs++rest)).2=rest
 |[],bs,jE,vs,h,_,rest=>by cases h;exact⟨λ_ _ h=>(by cases h),rfl⟩
 |(t,s)::l,bs,jE,vs,h,hb,rest=>by
  unfold Y9 at h;split at h
  case h_2=>cases h
  rename_i d hd;split at h
  case h_2=>cases h
  rename_i vs1 IN h1;split at h
  case h_2=>cases h
  rename_i us Kt h2;cases h
  have Ko:qY H H' IN:=λj v hj=>hb j v (PR h2 j v hj)
  obtain⟨k1,k2⟩:=TU hs h1 (jq t d hd) Ko (us++rest);obtain⟨m1,m2⟩:=PS hs jq h2 hb rest
  grind [eU,bA]
end
end Go.Proofs.YtfjgcenlllgonaaGreatDoor
namespace Go.Proofs.YtfjgcenlllgonaaGreatDoor
open Go Go.RowKit
def Tree.owns:Tree->List Nat
 | .own o=>[o]
 | .pair a b=>a.owns++b.owns
 | .view o _ _ _=>[o]
 |_=>[]
def Fw:Sh->Tree->List Nat
 | .leaf _,t=>t.owns
 | .pair a b,t=>match t.split with
   |some (x,y)=>Fw a x++Fw b y
   |none=>[]
 |_,_=>[]
def Ku(aK:List (Nat×aN)):List (Nat×SS)->List Nat
 |[]=>[]
 |(t, .val _ sh)::l=>(match find aK t with
  |some (.val _ tr)=>Fw sh tr
  |_=>[])++Ku aK l
 |(t, .ifc _ (.val _ sh))::l=>(match find aK t with
  |some (.ifc _ (.val _ tr))=>Fw sh tr
  |_=>[])++Ku aK l
 |_::l=>Ku aK l
def VV(j:Nat):List (Nat×List Bool×Nat)->List (Nat×List Bool×Nat)->Option Nat
 |(j',_)::js,(o,_)::cs=>bif aqU j' j then aa o else VV j js cs
 |_,_=>ae
def Fx(aK:List (Nat×aN))(j:Nat):List (Nat×SS)->Option Nat
 |[]=>ae
 |(t, .ptr j' _ _)::l=>bif aqU j' j then(match find aK t with
  |some (.ptr o _ _)=>aa o
  |_=>ae)else Fx aK j l
 |(t, .ifc _ (.ptr j' _ _))::l=>bif aqU j' j then(match find aK t with
  |some (.ifc _ (.ptr o _ _))=>aa o
  |_=>ae)else Fx aK j l
 |(t, .fn _ js)::l=>match(match find aK t with
    |some (.fn _ cs)=>VV j js cs
    |_=>ae)with
  |some o=>aa o
  |none=>Fx aK j l
 |_::l=>Fx aK j l
def PT(nb:Nat)(aK:List (Nat×aN))(ss:List (Nat×SS))(objs:List (Nat×(Nat×Th))):List (Nat×OS)->List Nat
 |[]=>[]
 |(j, .box _ sh)::l=>(match(bif art j nb then aa j else Fx aK j ss)with
  |some o=>(match find objs o with
   |some (_, .box _ tr)=>Fw sh tr
   |_=>[])
  |none=>[])++PT nb aK ss objs l
 |_::l=>PT nb aK ss objs l
def idB(nb:Nat):List (Nat×OS)->Bs
 |[]=>[]
 |(j,_)::l=>bif art j nb then(j,aa j)::idB nb l else idB nb l
def ku:Bs->List Nat
 |[]=>[]
 |(_,aa o)::l=>o::ku l
 |(_,ae)::l=>ku l
def rH(o:Nat)(l:List Nat):Bool:=l.any (aqU o)
def IP:List Nat->Bool
 |[]=>af
 |o::l=> !rH o l&&IP l
def PU(nb nxt:Nat):Bs->Bool
 |[]=>af
 |(j,u)::l=>(bif art j nb then IM u (aa j)else art j nxt)&&PU nb nxt l
def IQ(objs:List (Nat×(Nat×Th)))(Fy:List Nat):List (Nat×(Nat×Th))->Bool
 |[]=>af
 |(o,(s,t))::l=>(match find objs o with
  |some (s',t')=>aqU s s'&&(bif iB t then iB t' else !iB t')
  |none=>ah)&& !rH o Fy&&IQ objs Fy l
def B9(nb:Nat)(J:JS)(aK:List (Nat×aN))(objs:List (Nat×(Nat×Th))):List Nat:=Ku aK J.aK++PT nb aK J.aK objs J.objs
def Ca(nb:Nat)(frame:List (Nat×(Nat×Th)))(J:JS)(aK:List (Nat×aN))(objs:List (Nat×(Nat×Th))):Option (dj J.rows×Bs×List (Nat×(Nat×Th))):=
 match hZ objs (B9 nb J aK objs)with
 |none=>ae
 |some bC=>match Y9 (find bC) aK J.aK (idB nb J.objs)with
  |none=>ae
  |some (vs,IN)=>match Za (find bC) J.objs IN with
   |none=>ae
   |some (us,Kt)=>bif IP (ku Kt)&&PU nb J.nxt Kt&&Nat.ble (nb+J.objs.length) J.nxt&&IQ bC (ku Kt) frame then
     (match Fu J.rows (vs++us)with
     |some x=>aa (x,Kt,bC)
     |none=>ae)else ae
def vN:List (Nat×(Nat×Th))->Nat->Option Th
 |[],_=>ae
 |(_,(s,t))::l,m=>bif aqU s m then aa t else vN l m
def WX:List (Nat×(Nat×Th))->Nat->Option Nat
 |[],_=>ae
 |(j,(s,_))::l,m=>bif aqU s m then aa j else WX l m
def zN(H:aW)(ob:Nat->Option (Nat×Th)):Option (Option Nat)->Nat->Prop
 |some (aa o)=>match ob o with
  |some (s,_)=>H.sub s
  |none=>λ_=>False
 |_=>λ_=>False
def gf(H:aW)(nb:Nat)(bs:Bs)(cons:List (Nat×(Nat×Th)))(ob:Nat->Option (Nat×Th)):aW where
 val m:=if m<nb then H.val m else match find bs m with
  |some u=>valOf H u
  |none=>ae
 con m:=if m<nb then H.con m else vN cons m
 sub m:=if m<nb then H.sub m else match WX cons m with
  |some j=>zN H ob (find bs j)
  |none=>λ_=>False
section
variable {U:Nat->Prop} {H H':aW} {F:Nat->Prop} {w:World} {n:Nat} {ob:Nat->Option (Nat×Th)}
def Kv{j:Nat}{s:OS}{bs jE:Bs}{vs:List nT}(h:PQ ob j s bs=aa (vs,jE)):Fv bs jE:=by
 unfold PQ at h;split at h
 .split at h
  case h_2=>cases h
  split at h
  .obtain⟨_,h'⟩:=bz h
   split at h'<;>cases h'
   exact λ_ _ h=>h
  .obtain⟨_,h'⟩:=bz h;exact zM h'
  .obtain⟨_,h'⟩:=bz h
   split at h'<;>cases h'
   exact λ_ _ h=>h
  .obtain⟨_,h'⟩:=bz h;cases h'
   exact λ_ _ h=>h
  .obtain⟨_,h'⟩:=bz h;cases h'
   exact λ_ _ h=>h
  .cases h
 .split at h<;>cases h
  .exact λ_ _ h=>h
  .exact λ_ _ h=>h
 .cases h
def Dr:{l:List (Nat×OS)}->{bs jE:Bs}->{vs:List nT}->Za ob l bs=aa (vs,jE)->Fv bs jE
 |[],_,_,_,h=>by cases h;exact λ_ _ h=>h
 |(j,s)::l,bs,jE,vs,h=>by
  unfold Za at h;split at h
  case h_2=>cases h
  rename_i h1;split at h
  case h_2=>cases h
  rename_i h2;cases h
  exact λj v hj=>Dr h2 j v (Kv h1 j v hj)
def po(H H':aW)(F:Nat->Prop)(w:World)(ob:Nat->Option (Nat×Th))(bs:Bs)(j:Nat)(t:Th):Prop:=
 ∃u v,find bs j=aa u/\valOf H u=aa v/\v.oneCell'=af/\t.base=t/\mJ H' F w (zN H ob (find bs j)) v t/\∀k,fp (zN H ob (find bs j)) v t k->∃o s0 t0,u=aa o/\ob o=aa (s0,t0)/\H.val o=aa v/\fp (H.sub s0) v t0 k
def TV(hs:aX U H F w ob n){j:Nat}{s:OS}{bs jE:Bs}{vs:List nT}(h:PQ ob j s bs=aa (vs,jE))(hb:qY H H' jE)(rest:List nT):
 po H H' F w ob bs j (dI s (vs++rest)).1/\(dI s (vs++rest)).2=rest:=by
 unfold PQ at h;split at h
 .rename_i o Zb;split at h
  case h_2=>cases h
  rename_i s0 t0 gz;obtain⟨v,hv,eJ⟩:=hs.obj _ _ _ gz
  have kK:zN H ob (find bs j)=H.sub s0:=by rw[Zb];simp[zN,gz]
  have mk:∀t,t.base=t->mJ H' F w (H.sub s0) v t->(∀k,fp (H.sub s0) v t k->fp (H.sub s0) v t0 k)->po H H' F w ob bs j t:=by
   intro t hb sB hf;refine⟨aa o,v,Zb,hv,eJ.one,hb,by rw[kK];exact sB,λk hk=>?_⟩;rw[kK]at hk;exact⟨o,_,_,rfl,gz,hv,hf k hk⟩
  split at h
  .rename_i T r T' r' l;obtain⟨hT,h'⟩:=bz h;clear h
   split at h'<;>cases h'
   rename_i E3;obtain rfl:=Row.eq_of_beq E3;obtain rfl:=beq_true hT;refine⟨?_,rfl⟩
   show po H H' F w ob bs j (bif r'.beq r' then Th.own T r' l else .own T r' [])
   rw[Row.beq_refl,cond_true]
   exact mk _ rfl eJ.ok λk hk=>hk
  .rename_i T sh T' t;obtain⟨hT,h'⟩:=bz h;clear h;obtain rfl:=beq_true hT;obtain⟨b,es,e,h1,h2⟩:=eJ.ok;obtain⟨k1,k2⟩:=Dq hs h' h2 hb rest;exact⟨mk _ rfl ⟨b,es,e,h1,k1⟩ λk hk=>hk,k2⟩
  .rename_i T K agg V T' K' vI V' l;obtain⟨hT,h'⟩:=bz h;clear h
   split at h'<;>cases h'
   rename_i E3;obtain⟨ZV,ha⟩:=e8 hT;clear hT
   have ha:agg=vI:=by cases agg<;>cases vI<;>simp_all
   subst ha;obtain⟨hK,hV⟩:=E3;obtain rfl:=Row.eq_of_beq hK;obtain rfl:=Row.eq_of_beq hV;obtain rfl:=beq_true ZV;refine⟨?_,rfl⟩
   show po H H' F w ob bs j (if h:K'.beq K'=af/\V'.beq V'=af then Th.map T K' agg V' l else .map T K' agg V' [])
   rw[dif_pos ⟨Row.beq_refl _,Row.beq_refl _⟩];obtain⟨b,es,clock,e,h1,h2,h3⟩:=eJ.ok
   exact mk _ rfl ⟨b,es,clock,e,h1,h2,h3.mi⟩ λk hk=>hk
  .rename_i T d T' d' l;obtain⟨hT,h'⟩:=bz h;clear h;obtain⟨ZV,hd⟩:=e8 hT;obtain rfl:=DR.eq_of_beq hd;obtain rfl:=beq_true ZV;cases h';refine⟨?_,rfl⟩
   show po H H' F w ob bs j (if h:d'.row.beq d'.row=af then Th.deep T d' l ae else .deep T d' [] ae)
   rw[dif_pos (Row.beq_refl _)]
   exact mk _ rfl eJ.ok λk hk=>hk
  .rename_i T K E r T' K' E' r' l;obtain⟨hT,h'⟩:=bz h;clear h;obtain⟨hT,hd⟩:=e8 hT;obtain⟨hT,zk⟩:=e8 hT;obtain⟨ZV,hE⟩:=e8 hT;obtain rfl:=Row.eq_of_beq hd;obtain rfl:=Row.eq_of_beq zk;obtain rfl:=beq_true ZV;obtain rfl:=beq_true hE;cases h';refine⟨?_,rfl⟩
   show po H H' F w ob bs j (if h:K'.beq K'=af/\r'.beq r'=af then Th.dmap T K' E r' l ae else .dmap T K' E r' [] ae)
   rw[dif_pos ⟨Row.beq_refl _,Row.beq_refl _⟩];obtain⟨b,es,clock,B,e,h1,h2,h3,h4,_⟩:=eJ.ok
   exact mk _ rfl ⟨b,es,clock,B,e,h1,h2,h3.keep (Step.refl F w) (λ_ _ _ e=>by cases e) (λ_ _=>rfl),h4,λ_ _ e=>by cases e⟩ λk hk=>hk
  .cases h
 .rename_i Zb
  split at h<;>cases h
  .rename_i T r;refine⟨?_,rfl⟩
   show po H H' F w ob bs j (bif r.beq r then Th.own T r []else .own T r [])
   rw[Row.beq_refl,cond_true];refine⟨ae,_,Zb,rfl,rfl,rfl,(qa.nil 0 F w T r).2,λk hk=>?_⟩;have jh:cF (.slice ae 0 0) k:=hk;simp[cF,ark]at jh
  .rename_i T d;refine⟨?_,rfl⟩
   show po H H' F w ob bs j (if h:d.row.beq d.row=af then Th.deep T d [] ae else .deep T d [] ae)
   rw[dif_pos (Row.beq_refl _)]
   have kK:zN H ob (find bs j)=λ_=>False:=by rw[Zb];rfl
   refine⟨ae,_,Zb,rfl,rfl,rfl,?_,λk hk=>?_⟩
   .rw[kK];exact⟨[],λ_ _=>False,o7.nil F w T d.low,rfl,λi h=>absurd h (by simp),⟨λk=>by simp[cF,ark],λ_ _ _ h=>absurd h (by simp),λ_ _ h=>absurd h (by simp)⟩⟩
   .rw[kK]at hk;exact hk.elim
 .cases h
theorem Fz:{l:List (Nat×OS)}->{m k:Nat}->{vs:List nT}->m+l.length<=k->vN (lk m l vs) k=ae
 |[],_,_,_,_=>rfl
 |(j,s)::l,m,k,vs,h=>by
  show(bif aqU m k then _ else vN (lk (m+1) l _) k)=ae
  rw[arh]at h
  have:aqU m k=ah:=by
   cases hb:aqU m k with
   |false=>rfl
   |true=>have:=beq_true hb;omega
  rw[this,cond_false];exact Fz (by omega)
def PV(hs:aX U H F w ob n):{l:List (Nat×OS)}->{bs jE:Bs}->{vs:List nT}->Za ob l bs=aa (vs,jE)->qY H H' jE->∀m,
 ∀j s t,find (lk m l vs) j=aa (s,t)->m<=s/\s<m+l.length/\vN (lk m l vs) s=aa t/\WX (lk m l vs) s=aa j/\po H H' F w ob jE j t
 |[],_,_,_,h,_,m=>by cases h;intro j s t h;cases h
 |(j0,s0)::l,bs,jE,vs,h,hb,m=>by
  unfold Za at h;split at h
  case h_2=>cases h
  rename_i vs1 IN h1;split at h
  case h_2=>cases h
  rename_i us Kt h2;cases h
  have Ko:qY H H' IN:=λj v hj=>hb j v (Dr h2 j v hj)
  obtain⟨⟨u,v,g1,g2⟩,k2⟩:=TV hs h1 Ko us;intro j s t hf;unfold lk at hf⊢;rw[bA]at hf;rw[k2]at hf⊢;split at hf
  .rename_i e;subst e;simp only[aq1,Prod.mk.injEq]at hf;obtain⟨rfl,rfl⟩:=hf;have e1:=Dr h2 _ _ (Kv h1 _ _ g1);rw[g1]at g2;refine⟨aqS _,by simp,?_,?_,u,v,e1,?_⟩
   .show(bif aqU m m then _ else _)=_
    simp
   .show(bif aqU m m then _ else _)=_
    simp
   grind
  .obtain⟨a1,a2,a3,a4,a5⟩:=PV hs h2 hb (m+1) j s t hf
   have:aqU m s=ah:=by
    cases hb:aqU m s with
    |false=>rfl
    |true=>have:=beq_true hb;omega
   refine⟨by omega,by grind,?_,?_,a5⟩
   .show(bif aqU m s then _ else _)=_
    grind
   .show(bif aqU m s then _ else _)=_
    grind
theorem iM{o:Nat}{l:List Nat}:rH o l=af↔o∈l:=any_beq
theorem mK:{bs:Bs}->{j o:Nat}->find bs j=aa (aa o)->o∈ku bs
 |[],_,_,h=>by cases h
 |(i,u)::bs,j,o,h=>by
  rw[bA]at h;split at h
  .obtain rfl:=aqL h;exact ary
  .have:=mK h
   cases u with
   |none=>exact this
   |some q=>exact List.mem_cons_of_mem _ this
def xg:{bs:Bs}->IP (ku bs)=af->{j j' o:Nat}->find bs j=aa (aa o)->find bs j'=aa (aa o)->j=j'
 |[],_,_,_,_,h,_=>by cases h
 |(i,u)::bs,hn,j,j',o,h,h'=>by
  rw[bA]at h h'
  cases u with
  |none=>
   split at h
   .cases h
   .split at h'
    .cases h'
    .exact xg (bs:=bs) hn h h'
  |some q=>
   obtain⟨hq,Tp⟩:=e8 hn
   have hq:q∉ku bs:=λe=>by rw[iM.2 e]at hq;cases hq
   split at h
   .grind [mK]
   .split at h'
    .grind [mK]
    .exact xg Tp h h'
def zO{nb nxt:Nat}:{bs:Bs}->PU nb nxt bs=af->{j:Nat}->{u:Option Nat}->find bs j=aa u->(j<nb->u=aa j)/\(nb<=j->j<nxt)
 |[],_,_,_,h=>by cases h
 |(i,v)::bs,hk,j,u,h=>by
  obtain⟨h1,h2⟩:=e8 hk;rw[bA]at h;split at h
  .rename_i e;subst e;obtain rfl:=aqL h
   cases hb:art i nb with
   |true=>
    rw[hb,cond_true]at h1
    have:i<nb:=by simpa using hb
    grind [B6]
   |false=>
    rw[hb,cond_false]at h1
    have hge:¬i<nb:=λe=>by have:art i nb=af:=by simpa using e
                           grind
    exact⟨λe=>absurd e hge,λ_=>by simpa using h1⟩
  .exact zO h2 h
def Cb{objs:List (Nat×(Nat×Th))}{Fy:List Nat}:{fr:List (Nat×(Nat×Th))}->IQ objs Fy fr=af->{o s:Nat}->{t:Th}->find fr o=aa (s,t)->
 o∉Fy/\∃t',find objs o=aa (s,t')/\iB t'=iB t
 |[],_,_,_,_,h=>by cases h
 |(i,(s0,t0))::fr,hf,o,s,t,h=>by
  obtain⟨h1,h2⟩:=e8 hf;obtain⟨h1,h3⟩:=e8 h1;rw[bA]at h;split at h
  .rename_i e;subst e;simp only[aq1,Prod.mk.injEq]at h;obtain⟨rfl,rfl⟩:=h;split at h1
   .rename_i s' t' ho;obtain⟨h4,h5⟩:=e8 h1
    grind [beq_true,iM]
   .cases h1
  .exact Cb h2 h
def PW{t t':Th}(h:t.base=t'.base)(hf:iB t=iB t'):t=t':=by
 cases t<;>cases t'<;>simp_all[Th.base,iB]
def zP{U':Nat->Prop}{H0:aW}{F0:Nat->Prop}{w0:World}{objs0:List (Nat×(Nat×Th))}{nb:Nat}{ns:List Nat}{J:JS}{aK:List (Nat×aN)}{objs bC:List (Nat×(Nat×Th))}{x:dj J.rows}{bs:Bs}{ρ:Nat->Value}
 (h:Ca nb (del ns objs0) J aK objs=aa (x,bs,bC))(OB:aX U H0 F0 w0 (find objs0) nb)(VW:lT H0 nb)(hk:dB H0 F0 w0 H F w)(hs:aX U H F w (find objs) n)(jq:∀t d,find aK t=aa d->aO H F w d (ρ t)):
 ∃F1 H1,aX U H F1 w (find bC) n/\(∀b,F b->F1 b)/\(∀b,F1 b->F b\/dH H (find objs) (B9 nb J aK objs) b)/\hZ objs (B9 nb J aK objs)=aa bC/\H0.le H1/\qY H H1 bs/\lT H1 J.nxt/\
  (∀t d,find (eU J.aK (fD J.rows x)).1 t=aa d->aO H1 F1 w d (ρ t))/\
  ((∀b,w.heap.size<=b->U' b)->(∀o s t v k,o∈ku bs->find bC o=aa (s,t)->H.val o=aa v->fp (H.sub s) v t k->U' k)->(∀o s t v k,find (del ns objs0) o=aa (s,t)->H.val o=aa v->fp (H.sub s) v t k->U' k)->
    aX U' H1 F1 w (find (lk nb J.objs (eU J.aK (fD J.rows x)).2++del ns objs0)) J.nxt):=by
 unfold Ca at h;split at h
 case h_1=>cases h
 rename_i ad4 Bn;split at h
 case h_1=>cases h
 rename_i vs IN hS;split at h
 case h_1=>cases h
 rename_i us Kt hO;obtain⟨hc,h'⟩:=bz h;clear h;split at h'
 case h_2=>cases h'
 rename_i x' hx;cases h';obtain⟨hc,hc4⟩:=e8 hc;obtain⟨hc,TW⟩:=e8 hc;obtain⟨Ow,C9⟩:=e8 hc
 have TW:nb+J.objs.length<=J.nxt:=by simpa using TW
 obtain⟨F1,yW,ET,SY⟩:=qX Bn hs
 have mf:Step F w F1 w:=λb hb=>⟨ET b hb,rfl⟩
 have ad5:∀t d,find aK t=aa d->aO H F1 w d (ρ t):=λt d hd=>(jq t d hd).keep (aW.le.refl H) mf
 rw[xW hx]
 have PX:∃cons,cons=lk nb J.objs us:=⟨_,rfl⟩
 obtain⟨cons,Kw⟩:=PX
 have FA:H0.le (gf H nb bs cons (find bC)):=by
  have aI:∀s t,H0.con s=aa t->s<nb:=λs t mf=>by
   rcases Nat.lt_or_ge s nb with h|h
   .exact h
   .rw[(VW s h).2]at mf;cases mf
  refine⟨λo v ho=>?_,λs t mf=>?_,λs t mf=>?_⟩
  .have:o<nb:=by
    rcases Nat.lt_or_ge o nb with h|h
    .exact h
    .rw[(VW o h).1]at ho;cases ho
   simp[gf,this,hk.mi.val _ _ ho]
  .simp[gf,aI s t mf,hk.mi.con _ _ mf]
  .simp[gf,aI s t mf,hk.mi.sub _ _ mf]
 have xh:qY H (gf H nb bs cons (find bC)) bs:=by
  intro j u hj v hv;obtain⟨a1,a2⟩:=zO C9 hj;by_cases aI:j<nb
  .grind [gf,valOf]
  .simpa[gf,aI,hj]using hv
 have TX:qY H (gf H nb bs cons (find bC)) IN:=λj v hj=>xh j v (Dr hO j v hj)
 obtain⟨p1,p2⟩:=PS yW ad5 hS TX us
 have Kx:lT (gf H nb bs cons (find bC)) J.nxt:=λm hm=>by
  have Y3:¬m<nb:=by omega
  refine⟨?_,?_⟩
  .simp only[gf,aj Y3];split
   .rename_i u hu;have:=(zO C9 hu).2 (by omega);omega
   .rfl
  grind [gf,Fz]
 refine⟨F1,gf H nb bs cons (find bC),yW,ET,SY,Bn,FA,xh,Kx,p1,λhU1 hU2 hU3=>?_⟩;rw[p2,<-Kw];have ZW:=PV (H':=gf H nb bs cons (find bC)) yW hO xh nb;rw[<-Kw]at ZW
 have part:∀o s t,find (cons++del ns objs0) o=aa (s,t)->find cons o=aa (s,t)\/find (del ns objs0) o=aa (s,t):=by
  intro o s t ho;rw[kH]at ho
  cases hm:find cons o with
  |some y=>grind
  |none=>grind
 have EU:∀o s t,find (del ns objs0) o=aa (s,t)->o∉ku bs/\find bC o=aa (s,t)/\∃v,H.val o=aa v/\(gf H nb bs cons (find bC)).val o=aa v/\v.oneCell'=af/\(gf H nb bs cons (find bC)).con s=aa t.base/\(gf H nb bs cons (find bC)).sub s=H.sub s/\mJ (gf H nb bs cons (find bC)) F1 w (H.sub s) v t:=by
  intro o s t ho;obtain⟨q1,t',q2,q3⟩:=Cb hc4 ho;have ho0:=(kI.1 ho).2;obtain⟨v0,Iy,IR⟩:=OB.obj _ _ _ ho0;obtain⟨v1,wY,rG⟩:=yW.obj _ _ _ q2;have e1:=hk.mi.val _ _ Iy;rw[wY]at e1;obtain rfl:=aqL e1;have e2:=hk.mi.con _ _ IR.con;rw[rG.con]at e2;have ht:=PW (aqL e2) q3;subst ht;refine⟨q1,q2,v1,wY,FA.val _ _ Iy,rG.one,FA.con _ _ IR.con,(FA.sub _ _ IR.con).trans (hk.mi.sub _ _ IR.con).symm,?_⟩
  cases t' with
  |fdeep T d l=>exact rG.ok
  |deep T d l hh=>
   obtain⟨lh0,_,_,e0,r0,_⟩:=IR.ok
   refine Mo.mono (show Mo F1 w T d.low _ v1 l (H.sub s)from rG.ok) (Step.refl F1 w) (λ_ _=>rfl) λi x' hi A hA hr=>?_
   cases hh with
   |none=>exact hr
   |some h=>
    refine⟨hr.1,λhh=>?_⟩;obtain⟨T',e,q,g1,g2,g3⟩:=hr.2 hh;obtain⟨_,_,q0,_,_,k3⟩:=(r0 i (by omega) hi).2 hh;have e3:=hk.mi.val _ _ k3;rw[g3]at e3;exact⟨T',e,q,g1,g2,by rw[aqL e3];exact FA.val _ _ k3⟩
  |box T tr=>
   obtain⟨b,es,e,g1,g2⟩:=rG.ok;obtain⟨b',wN,e',ZE,g2'⟩:=IR.ok;exact⟨b,es,e,g1,Holds.back hk.mi FA g2' g2⟩
  |own T r l=>exact rG.ok
  |yx T r l=>exact rG.ok
  |fmap T K agg V l=>exact rG.ok
  |fdmap T K E r l=>exact rG.ok
  |dmap T K E r l hh=>
   obtain⟨b,es,clock,B,e,g1,g2,g3,g4,g5⟩:=rG.ok;obtain⟨_,_,_,_,_,_,_,_,_,r5⟩:=IR.ok
   have key:∀a o u,hh=aa (a,o)->H.val o=aa u->(gf H nb bs cons (find bC)).val o=aa u:=by
    intro a o u e hu;obtain⟨u0,hu0⟩:=r5 a o e;have e3:=hk.mi.val _ _ hu0;rw[hu]at e3;rw[aqL e3];exact FA.val _ _ hu0
   exact⟨b,es,clock,B,e,g1,g2,g3.keep (Step.refl F1 w) key (λ_ _=>rfl),g4,λa o e=>(g5 a o e).imp λu hu=>key a o u e hu⟩
  |map T K agg V l=>
   obtain⟨b,es,clock,e,g1,g2,g3⟩:=rG.ok;exact⟨b,es,clock,e,g1,g2,g3.mi⟩
 have ZX:∀o s t,find cons o=aa (s,t)->∃v,(gf H nb bs cons (find bC)).val o=aa v/\v.oneCell'=af/\(gf H nb bs cons (find bC)).con s=aa t.base/\mJ (gf H nb bs cons (find bC)) F1 w ((gf H nb bs cons (find bC)).sub s) v t/\
  ∀k,fp ((gf H nb bs cons (find bC)).sub s) v t k->∃o' s0 t0,find bs o=aa (aa o')/\find bC o'=aa (s0,t0)/\H.val o'=aa v/\fp (H.sub s0) v t0 k:=by
  intro o s t ho;obtain⟨a1,a2,a3,a4,u,v,b1,b2,b3,b4,b5,b6⟩:=ZW o s t ho
  have kK:(gf H nb bs cons (find bC)).sub s=zN H (find bC) (find bs o):=by
   simp only[gf];rw[aj (by omega),a4]
  rw[kK];refine⟨v,xh o u b1 v b2,b3,?_,b5,λk hk=>?_⟩
  .grind [gf]
  .grind
 refine⟨λo s t ho=>?_,λo o' s s' t t' v v' dG ho oY hv gZ k hk jh=>?_,λm hm _=>Kx m hm,yW.lt,hU1,yW.gl⟩
 .rcases part o s t ho with h1|h1
  .obtain⟨v,a1,a2,a3,a4,a5⟩:=ZX o s t h1
   refine⟨v,a1,a2,a3,a4,λk hk hF=>?_,λk hk=>?_,λk hk=>?_⟩<;>obtain⟨o',s0,t0,b1,b2,b3,b4⟩:=a5 k hk<;>obtain⟨v',gZ,eJ⟩:=yW.obj _ _ _ b2
   all_goals
    rw[b3]at gZ;obtain rfl:=aqL gZ
   .exact eJ.no k b4 hF
   .exact eJ.lt k b4
   grind [mK]
  .obtain⟨q1,q2,v,a1,a2,a3,a4,a6,a5⟩:=EU o s t h1;obtain⟨v',gZ,eJ⟩:=yW.obj _ _ _ q2;rw[a1]at gZ;obtain rfl:=aqL gZ;exact⟨v,a2,a3,a4,by rw[a6];exact a5,by rw[a6];exact eJ.no,by rw[a6];exact eJ.lt,(by grind)⟩
 .rcases part o s t ho with h1|h1<;>rcases part o' s' t' oY with h2|h2
  .obtain⟨u,a1,_,_,_,a5⟩:=ZX o s t h1;obtain⟨u',c1,_,_,_,c5⟩:=ZX o' s' t' h2;rw[hv]at a1;rw[gZ]at c1;obtain rfl:=aqL a1;obtain rfl:=aqL c1;obtain⟨p,s0,t0,d1,d2,d3,d4⟩:=a5 k hk;obtain⟨p',s0',t0',e1,e2,e3,e4⟩:=c5 k jh;refine yW.apart p p' _ _ _ _ _ _ (λe=>dG ?_) d2 e2 d3 e3 k d4 e4;subst e;exact xg Ow d1 e1
  .obtain⟨u,a1,_,_,_,a5⟩:=ZX o s t h1;obtain⟨q1,q2,u',c1,c2,_,_,c6,_⟩:=EU o' s' t' h2;rw[c6]at jh;rw[hv]at a1;rw[gZ]at c2;obtain rfl:=aqL a1;obtain rfl:=aqL c2;obtain⟨p,s0,t0,d1,d2,d3,d4⟩:=a5 k hk;exact yW.apart p o' _ _ _ _ _ _ (λe=>q1 (e▸mK d1)) d2 q2 d3 c1 k d4 jh
  .obtain⟨u,a1,_,_,_,a5⟩:=ZX o' s' t' h2;obtain⟨q1,q2,u',c1,c2,_,_,c6,_⟩:=EU o s t h1;rw[c6]at hk;rw[gZ]at a1;rw[hv]at c2;obtain rfl:=aqL a1;obtain rfl:=aqL c2;obtain⟨p,s0,t0,d1,d2,d3,d4⟩:=a5 k jh;exact yW.apart o p _ _ _ _ _ _ (λe=>q1 (e▸mK d1)) q2 d2 c1 d3 k hk d4
  .obtain⟨q1,q2,u,c1,c2,_,_,c6,_⟩:=EU o s t h1;obtain⟨q1',q2',u',c1',ZY,_,_,c6',_⟩:=EU o' s' t' h2;rw[c6]at hk;rw[c6']at jh;rw[hv]at c2;rw[gZ]at ZY;obtain rfl:=aqL c2;obtain rfl:=aqL ZY;exact yW.apart o o' _ _ _ _ _ _ dG q2 q2' c1 c1' k hk jh
end
end Go.Proofs.YtfjgcenlllgonaaGreatDoor
end
namespace Go.Proofs.YtfjgcenlllgonaaGreatDoor
open Go Go.RowKit
set_option maxRecDepth 100000
set_option linter.unusedSimpArgs false
set_option linter.unusedVariables false
set_option linter.defProp false
section
structure qc where
 inn:JS
 out:JS
 fn:dj inn.rows->Option (dj out.rows)
def Bo:List Value->Value
 |[v]=>v
 |vs=> .tuple vs.toArray
structure jF(P:Program)(f:FuncId)(sg:qc):Prop where
 fn:∃fn,P.funcs[f]? =aa fn/\(fn.name== "runtime.NumGoroutine")=ah/\fn.body.isNone=ah
 ok:∀x y,sg.fn x=aa y->∀(args:List Value)(w:World)(H:aW)(F G:Nat->Prop),args.length=sg.inn.aK.length->
  (∀t d,find (eU sg.inn.aK (fD _ x)).1 t=aa d->aO H F w d (args.getD t undef))->
  aX (λk=>w.heap.size<=k\/G k) H F w (find (lk 0 sg.inn.objs (eU sg.inn.aK (fD _ x)).2)) sg.inn.nxt->lT H sg.inn.nxt->(∀k,G k->¬F k)->
  Calls P f args.toArray w λe w'=>∃vs,e= .returned (Bo vs)/\vs.length=sg.out.aK.length/\∃H' F',Ext G w w'/\H.le H'/\(∀b,F b->F' b)/\(∀b,F' b->F b\/w.heap.size<=b\/G b)/\
   (∀t d,find (eU sg.out.aK (fD _ y)).1 t=aa d->aO H' F' w' d (vs.getD t undef))/\
   aX (λk=>w.heap.size<=k\/G k) H' F' w' (find (lk sg.inn.nxt sg.out.objs (eU sg.out.aK (fD _ y)).2)) sg.out.nxt/\lT H' sg.out.nxt
def Sh.vb(φ:Nat->Nat):Sh->Sh
 | .leaf r=> .leaf r
 | .own j=> .own (φ j)
 | .nil=> .nil
 | .pair a b=> .pair (a.vb φ) (b.vb φ)
 | .junk n=> .junk n
def SS.vb(φ:Nat->Nat):SS->SS
 | .val agg t=> .val agg (t.vb φ)
 | .ptr j p off=> .ptr (φ j) p off
 | .at r=> .at r
 | .undef=> .undef
 | .fn f js=> .fn f (js.map λc=>(φ c.1,c.2))
 | .ifc T s=> .ifc T (s.vb φ)
def OS.vb(φ:Nat->Nat):OS->OS
 | .box T t=> .box T (t.vb φ)
 | .own T r=> .own T r
 | .map T K agg V=> .map T K agg V
 | .deep T d=> .deep T d
 | .dmap T K E r=> .dmap T K E r
def vO(φ:Nat->Nat):List (Nat×SS)->List (Nat×SS)
 |[]=>[]
 |(t,s)::l=>(t,s.vb φ)::vO φ l
def FB(φ:Nat->Nat):List (Nat×OS)->List (Nat×OS)
 |[]=>[]
 |(j,s)::l=>(φ j,s.vb φ)::FB φ l
def Row.FC:Row->Bool
 | .slice _=>ah
 | .map .. =>ah
 | .pair a b=>a.FC&&b.FC
 |_=>af
def DR.lV(p:Row->Bool):DR->Bool
 | .leaf r=>p r
 | .sl _ d=>d.lV p
 | .pair a b=>a.lV p&&b.lV p
def Sh.lV(p:Row->Bool):Sh->Bool
 | .leaf r=>p r
 | .pair a b=>a.lV p&&b.lV p
 |_=>af
def SS.lV(p:Row->Bool):SS->Bool
 | .val _ t=>t.lV p
 | .at r=>p (.slice r)
 | .ifc _ s=>s.lV p
 |_=>af
def OS.lV(p:Row->Bool):OS->Bool
 | .box _ t=>t.lV p
 | .own _ r=>p r
 | .map _ _ _ V=>p V
 | .deep _ d=>d.lV p
 | .dmap _ _ _ r=>p r
def vc(p:Row->Bool):List (Nat×SS)->Bool
 |[]=>af
 |(_,s)::l=>s.lV p&&vc p l
def Cc(p:Row->Bool):List (Nat×OS)->Bool
 |[]=>af
 |(_,s)::l=>s.lV p&&Cc p l
section
variable {H H':aW} {F F':Nat->Prop} {w w':World} {φ:Nat->Nat} {p:Row->Bool}
def eF.IS:{r:Row}->{cs:List Value}->{x:r.den}->r.FC=af->eF F w r cs x->eF F' w' r cs x
 | .int _,_,_,_,h=>h
 | .bool,_,_,_,h=>h
 | .str,_,_,_,h=>h
 | .mX,_,_,_,h=>h
 | .nul _,_,_,_,h=>h
 | .map ..,_,_,hf,_=>by cases hf
 | .slice _,_,_,hf,_=>by cases hf
 | .pair a b,_,_,hf,h=>by
   obtain⟨c1,c2,e,h1,h2⟩:=h;obtain⟨f1,f2⟩:=e8 hf;exact⟨c1,c2,e,eF.IS f1 h1,eF.IS f2 h2⟩
def Ren(H H':aW)(φ:Nat->Nat):Prop:=∀j v,H.val j=aa v->H'.val (φ j)=aa v
def vP(p:Row->Bool)(F F':Nat->Prop)(w:World):Prop:=∀r,p r=af->∀cs x,eF F w r cs x->eF F' w r cs x
def sO:(sh:Sh)->(vs:List nT)->(sx (sh.vb φ) vs).2=(sx sh vs).2
 | .leaf r,[]=>rfl
 | .leaf r,_::_=>rfl
 | .own j,vs=>rfl
 | .nil,vs=>rfl
 | .pair a b,vs=>by
   show(sx (b.vb φ) (sx (a.vb φ) vs).2).2=_
   rw[sO a,sO b];rfl
 | .junk _,_=>rfl
def Cf(s:SS)(vs:List nT):(gG (s.vb φ) vs).2=(gG s vs).2:=by
 induction s with
 |ifc T s ih=>exact ih
 |val agg t=>exact sO t vs
 |ptr j p off=>rfl
 |«at» r=>cases vs<;>rfl
 |undef=>rfl
 |fn f js=>rfl
theorem Cg(s:OS)(vs:List nT):(dI (s.vb φ) vs).2=(dI s vs).2:=by
 cases s with
 |box T t=>exact sO t vs
 |own T r=>rfl
 |map T K agg V=>rfl
 |deep T d=>rfl
 |dmap T K E r=>rfl
def FD:(l:List (Nat×SS))->(vs:List nT)->(eU (vO φ l) vs).2=(eU l vs).2
 |[],_=>rfl
 |(t,s)::l,vs=>by
  show(eU (vO φ l) (gG (s.vb φ) vs).2).2=(eU l (gG s vs).2).2
  rw[Cf,FD l]
def vQ(hr:Ren H H' φ)(hm:vP p F F' w):{sh:Sh}->{vs:List nT}->{cs:List Value}->sh.lV p=af->Holds H F w (sx sh vs).1 cs->Holds H' F' w (sx (sh.vb φ) vs).1 cs
 | .leaf r,[],cs,_,h=>h
 | .leaf r,⟨s,x⟩::vs,cs,hp,h=>by
   have h':Holds H F w (bif s.beq r then Tree.leaf s x else .nil) cs:=h
   show Holds H' F' w (bif s.beq r then Tree.leaf s x else .nil) cs
   cases hb:s.beq r with
   |true=>
    rw[hb,cond_true]at h';obtain rfl:=Row.eq_of_beq hb;exact hm _ hp _ _ h'
   |false=>rw[hb]at h';exact h'
 | .own j,vs,cs,_,h=>by obtain⟨v,h1,h2⟩:=h;exact⟨v,hr j v h1,h2⟩
 | .nil,vs,cs,_,h=>h
 | .pair a b,vs,cs,hp,h=>by
   obtain⟨c1,c2,e,h1,h2⟩:=h;obtain⟨p1,p2⟩:=e8 hp;refine⟨c1,c2,e,vQ hr hm p1 h1,?_⟩;rw[sO a];exact vQ hr hm p2 h2
 | .junk _,vs,cs,_,h=>h
def nY.vb(hr:Ren H H' φ):{cs:List (Nat×List Bool×Nat)}->{vs:List Value}->nY H cs vs->nY H' (cs.map λc=>(φ c.1,c.2)) vs
 |[],_,h=>h
 |_::_,_,h=>by obtain⟨v,us,e,⟨b,h1,h2⟩,h3⟩:=h;exact⟨v,us,e,⟨b,hr _ _ h1,h2⟩,nY.vb hr h3⟩
theorem MP(hr:Ren H H' φ)(hm:vP p F F' w){s:SS}{vs:List nT}{v:Value}(hp:s.lV p=af)(h:aO H F w (gG s vs).1 v):aO H' F' w (gG (s.vb φ) vs).1 v:=by
 induction s generalizing v with
 |ifc T s ih=>
  obtain⟨u,e,h2⟩:=h;exact⟨u,e,ih hp h2⟩
 |val agg t=>
  obtain⟨cs,h1,h2⟩:=h;exact⟨cs,vQ hr hm hp h1,h2⟩
 |ptr j p off=>
  obtain⟨b,h1,h2⟩:=h;exact⟨b,hr _ _ h1,h2⟩
 |«at» r=>
  match vs,h with
  |[],h=>exact h
  |⟨s,x⟩::vs,h=>
   have h':aO H F w (bif s.beq r then aN.at s x else .dead) v:=h
   show aO H' F' w (bif s.beq r then aN.at s x else .dead) v
   cases hb:s.beq r with
   |false=>trivial
   |true=>
    rw[hb,cond_true]at h';obtain rfl:=Row.eq_of_beq hb;obtain⟨b,off,rfl,hF,es,h1,h2,h3⟩:=h'
    have jq:eF F w (.slice s) [.slice (aa ⟨b,off,ae⟩) 1 1] [x]:=⟨aa ⟨b,off,ae⟩,1,rfl,aqS _,by unfold maxLen;omega,λi hi=>by
     have e:i=0:=by simp at hi;omega
     subst e
     grind⟩
    obtain⟨A,cap,e1,_,_,wR⟩:=hm (.slice s) hp _ _ jq;obtain⟨b',fZ,wN,hA,g1,g2,g3,g4⟩:=wR 0 (by simp);simp only[arE,ar8,and_true]at e1;obtain⟨e1,_,_⟩:=e1;rw[<-e1]at hA;simp only[aq1,Addr.mk.injEq,and_true]at hA;obtain⟨rfl,rfl⟩:=hA;exact⟨b,off,rfl,g1,wN,g2,(by grind),g4⟩
 |undef=>exact h
 |fn f js=>
  obtain⟨us,h1,h2⟩:=h;exact⟨us,h1,h2.vb hr⟩
def uz.si{K:Row}{agg:Bool}{V:Row}(hm:∀cs x,eF F w V cs x->eF F' w' V cs x):{es:List MapEntry}->{l:List (K.den×V.den)}->uz H F w K agg V es l->uz H' F' w' K agg V es l
 |[],_,h=>h
 |_::_,_,h=>by
  obtain⟨k,x,l',e,h1,⟨cs,h2,SP⟩,h3⟩:=h;exact⟨k,x,l',e,h1,⟨cs,hm _ _ h2,SP⟩,uz.si hm h3⟩
def eF.zQ(hm:vP p F F' w):{d:DR}->{cs:List Value}->{x:d.low.den}->d.lV p=af->eF F w d.low cs x->eF F' w d.low cs x
 | .leaf r,_,_,hp,h=>hm r hp _ _ h
 | .sl _ _,_,_,_,h=>h
 | .pair a b,_,_,hp,h=>by
   obtain⟨p1,p2⟩:=e8 hp;obtain⟨c1,c2,e,h1,h2⟩:=h;exact⟨c1,c2,e,eF.zQ hm p1 h1,eF.zQ hm p2 h2⟩
def o7.si(hm:vP p F F' w){d:DR}(hp:d.lV p=af){T:TypeId}{v:Value}{l:List d.low.den}(h:o7 F w T d.low v l):o7 F' w T d.low v l:=by
 obtain⟨xs,h1,h2⟩:=h;exact⟨xs,h1,λi hi=>eF.zQ hm hp (h2 i hi)⟩
def mZ.si(hm:vP p F F' w):{d:DR}->{x':d.low.den}->{x:d.row.den}->{S:Nat->Prop}->d.lV p=af->mZ F w d x' x S->mZ F' w d x' x S
 | .leaf _,_,_,_,_,h=>h
 | .sl _ d,_,_,_,hp,h=>by
   obtain⟨lh,Ss,h1,h2,h3,h4⟩:=h;exact⟨lh,Ss,h1.si hm (show d.lV p=af from hp),h2,λi a b=>mZ.si hm (show d.lV p=af from hp) (h3 i a b),h4⟩
 | .pair a b,_,_,_,hp,h=>by
   obtain⟨p1,p2⟩:=e8 hp;obtain⟨A,B,h1,h2,h3⟩:=h;exact⟨A,B,mZ.si hm p1 h1,mZ.si hm p2 h2,h3⟩
def IT(T:TypeId)(d:DR):(vs:List nT)->∃l,(dI (.deep T d) vs).1= .deep T d l ae
 |[]=>⟨[],rfl⟩
 |⟨.slice s,l⟩::vs=>by
  unfold dI;simp only
  split<;>exact⟨_,rfl⟩
 |⟨.int _,_⟩::_|⟨.bool,_⟩::_|⟨.str,_⟩::_|⟨.mX,_⟩::_|⟨.nul _,_⟩::_|⟨.pair _ _,_⟩::_|⟨.map ..,_⟩::_=>⟨[],rfl⟩
def MQ(T:TypeId)(K:Row)(agg:Bool)(V:Row):(vs:List nT)->∃l,(dI (.map T K agg V) vs).1= .map T K agg V l
 |[]=>⟨[],rfl⟩
 |⟨.slice (.pair K' V'),l⟩::vs=>by
  unfold dI;simp only
  split<;>exact⟨_,rfl⟩
 |⟨.slice (.int _),_⟩::_|⟨.slice .bool,_⟩::_|⟨.slice .str,_⟩::_|⟨.slice (.slice _),_⟩::_|⟨.slice .mX,_⟩::_|⟨.slice (.nul _),_⟩::_|⟨.slice (.map ..),_⟩::_=>⟨[],rfl⟩
 |⟨.int _,_⟩::_|⟨.bool,_⟩::_|⟨.str,_⟩::_|⟨.mX,_⟩::_|⟨.nul _,_⟩::_|⟨.pair _ _,_⟩::_|⟨.map ..,_⟩::_=>⟨[],rfl⟩
def sf.si(hm:vP p F F' w){K:Row}{E:TypeId}{r:Row}(hp:p r=af):{es:List MapEntry}->{l:List (K.den×List r.den)}->{S:Nat->Prop}->sf H F w K E r ae es l S->sf H' F' w K E r ae es l S
 |[],_,_,h=>h
 |_::_,_,_,h=>by
  obtain⟨k,y,l',A,B,e,h1,⟨⟨xs,h2,h3⟩,h4⟩,h5,h6⟩:=h;exact⟨k,y,l',A,B,e,h1,⟨⟨xs,h2,λi hi=>hm r hp _ _ (h3 i hi)⟩,h4⟩,sf.si hm hp h5,h6⟩
def IU(T:TypeId)(K:Row)(E:TypeId)(r:Row):(vs:List nT)->∃l,(dI (.dmap T K E r) vs).1= .dmap T K E r l ae
 |[]=>⟨[],rfl⟩
 |⟨.slice (.pair K' (.slice s)),l⟩::vs=>by
  unfold dI;simp only
  split<;>exact⟨_,rfl⟩
 |⟨.slice (.pair _ (.int _)),_⟩::_|⟨.slice (.pair _ .bool),_⟩::_|⟨.slice (.pair _ .str),_⟩::_|⟨.slice (.pair _ .mX),_⟩::_|⟨.slice (.pair _ (.nul _)),_⟩::_|⟨.slice (.pair _ (.pair _ _)),_⟩::_|⟨.slice (.pair _ (.map ..)),_⟩::_=>⟨[],rfl⟩
 |⟨.slice (.int _),_⟩::_|⟨.slice .bool,_⟩::_|⟨.slice .str,_⟩::_|⟨.slice (.slice _),_⟩::_|⟨.slice .mX,_⟩::_|⟨.slice (.nul _),_⟩::_|⟨.slice (.map ..),_⟩::_=>⟨[],rfl⟩
 |⟨.int _,_⟩::_|⟨.bool,_⟩::_|⟨.str,_⟩::_|⟨.mX,_⟩::_|⟨.nul _,_⟩::_|⟨.pair _ _,_⟩::_|⟨.map ..,_⟩::_=>⟨[],rfl⟩
def xi(hr:Ren H H' φ)(hm:vP p F F' w){s:OS}{vs:List nT}{S:Nat->Prop}{v:Value}(hp:s.lV p=af)(h:mJ H F w S v (dI s vs).1):
 mJ H' F' w S v (dI (s.vb φ) vs).1/\(dI (s.vb φ) vs).1.base=(dI (s.vb φ) vs).1/\(∀k,fp S v (dI (s.vb φ) vs).1 k->fp S v (dI s vs).1 k):=by
 have own:∀(T:TypeId)(q:Row)(l:List q.den),p q=af->mJ H F w S v (.own T q l)->mJ H' F' w S v (.own T q l):=λT q l hq ⟨xs,hx,h3⟩=>⟨xs,hx,λi hi=>hm q hq _ _ (h3 i hi)⟩
 cases s with
 |box T t=>
  obtain⟨b,es,e,h1,h2⟩:=h;exact⟨⟨b,es,e,h1,vQ hr hm hp h2⟩,rfl,λk hk=>hk⟩
 |own T r=>
  match vs,h with
  |[],h=>exact⟨own T r [] hp h,rfl,λ_ h=>h⟩
  |⟨.slice s,l⟩::vs,h=>
   have h':mJ H F w S v (bif s.beq r then Th.own T s l else .own T r []):=h
   show mJ H' F' w S v (bif s.beq r then Th.own T s l else .own T r [])/\Th.base (bif s.beq r then Th.own T s l else .own T r [])=(bif s.beq r then Th.own T s l else .own T r [])/\∀k,fp S v (bif s.beq r then Th.own T s l else .own T r []) k->fp S v (bif s.beq r then Th.own T s l else .own T r []) k
   cases hb:s.beq r with
   |true=>
    rw[hb,cond_true]at h';obtain rfl:=Row.eq_of_beq hb;exact⟨own T s l hp h',rfl,λ_ h=>h⟩
   |false=>
    rw[hb,cond_false]at h';exact⟨own T r [] hp h',rfl,λ_ h=>h⟩
  |⟨.int _,_⟩::vs,h=>exact⟨own T r [] hp h,rfl,λ_ h=>h⟩
  |⟨.bool,_⟩::vs,h=>exact⟨own T r [] hp h,rfl,λ_ h=>h⟩
  |⟨.str,_⟩::vs,h=>exact⟨own T r [] hp h,rfl,λ_ h=>h⟩
  |⟨.mX,_⟩::vs,h=>exact⟨own T r [] hp h,rfl,λ_ h=>h⟩
  |⟨.nul _,_⟩::vs,h=>exact⟨own T r [] hp h,rfl,λ_ h=>h⟩
  |⟨.map ..,_⟩::vs,h=>exact⟨own T r [] hp h,rfl,λ_ h=>h⟩
  |⟨.pair _ _,_⟩::vs,h=>exact⟨own T r [] hp h,rfl,λ_ h=>h⟩
 |map T K agg V=>
  have gen:∀l:List (K.den×V.den),mJ H F w S v (.map T K agg V l)->mJ H' F' w S v (.map T K agg V l):=by
   rintro l ⟨b,es,clock,e,h1,h2,h3⟩
   exact⟨b,es,clock,e,h1,h2,uz.si (λcs x hr=>hm V hp cs x hr) h3⟩
  obtain⟨l,hl⟩:=MQ T K agg V vs
  show mJ H' F' w S v (dI (OS.map T K agg V) vs).1/\(dI (OS.map T K agg V) vs).1.base=(dI (OS.map T K agg V) vs).1/\∀k,fp S v (dI (OS.map T K agg V) vs).1 k->fp S v (dI (OS.map T K agg V) vs).1 k
  rw[hl]at h⊢;exact⟨gen l h,rfl,λ_ h=>h⟩
 |deep T d=>
  obtain⟨l,hl⟩:=IT T d vs
  show mJ H' F' w S v (dI (OS.deep T d) vs).1/\(dI (OS.deep T d) vs).1.base=(dI (OS.deep T d) vs).1/\∀k,fp S v (dI (OS.deep T d) vs).1 k->fp S v (dI (OS.deep T d) vs).1 k
  rw[hl]at h⊢;refine⟨?_,rfl,λ_ h=>h⟩;have h':mZ F w (.sl T d) v l S:=h;exact(mZ.si (d:= .sl T d) hm hp h':mZ F' w (.sl T d) v l S)
 |dmap T K E r=>
  obtain⟨l,hl⟩:=IU T K E r vs
  show mJ H' F' w S v (dI (OS.dmap T K E r) vs).1/\(dI (OS.dmap T K E r) vs).1.base=(dI (OS.dmap T K E r) vs).1/\∀k,fp S v (dI (OS.dmap T K E r) vs).1 k->fp S v (dI (OS.dmap T K E r) vs).1 k
  rw[hl]at h⊢;refine⟨?_,rfl,λ_ h=>h⟩;obtain⟨b,es,clock,B,e,h1,h2,h3,h4,_⟩:=h;exact⟨b,es,clock,B,e,h1,h2,h3.si hm hp,h4,λ_ _ e=>by cases e⟩
theorem Ci:{l:List (Nat×SS)}->{vs:List nT}->{t:Nat}->{d:aN}->vc p l=af->find (eU (vO φ l) vs).1 t=aa d->∃s us,d=(gG (s.vb φ) us).1/\find (eU l vs).1 t=aa (gG s us).1/\s.lV p=af
 |[],_,_,_,_,h=>by cases h
 |(t0,s)::l,vs,t,d,hp,h=>by
  obtain⟨p1,p2⟩:=e8 hp;have h':find ((t0,(gG (s.vb φ) vs).1)::(eU (vO φ l) (gG (s.vb φ) vs).2).1) t=aa d:=h
  show∃s' us,d=_/\find ((t0,(gG s vs).1)::(eU l (gG s vs).2).1) t=_/\_
  rw[bA]at h';by_cases e:t0=t
  .grind [bA]
  .rw[aj e]at h';rw[Cf]at h';obtain⟨s',us,a1,a2,a3⟩:=Ci p2 h'
   grind [bA]
def PY(hr:Ren H H' φ)(hm:vP p F F' w){ρ:Nat->Value}{l:List (Nat×SS)}{vs:List nT}(hp:vc p l=af)(h:∀t d,find (eU l vs).1 t=aa d->aO H F w d (ρ t)):∀t d,find (eU (vO φ l) vs).1 t=aa d->aO H' F' w d (ρ t):=by
 grind [Ci,MP]
def FE{m m':Nat}:{l:List (Nat×OS)}->{vs:List nT}->{o s:Nat}->{t:Th}->find (lk m (FB φ l) vs) o=aa (s,t)->∃j s' us sh,φ j=o/\t=(dI (sh.vb φ) us).1/\find (lk m' l vs) j=aa (s',(dI sh us).1)/\(Cc p l=af->sh.lV p=af)/\vN (lk m (FB φ l) vs) s=aa t/\m<=s/\s<m+l.length/\s'=s-m+m'
 |[],_,_,_,_,h=>by cases h
 |(j,sh)::l,vs,o,s,t,h=>by
  have h':find ((φ j,(m,(dI (sh.vb φ) vs).1))::lk (m+1) (FB φ l) (dI (sh.vb φ) vs).2) o=aa (s,t):=h;rw[bA]at h';split at h'
  .rename_i e;simp only[aq1,Prod.mk.injEq]at h';obtain⟨rfl,rfl⟩:=h';refine⟨j,m',vs,sh,e,rfl,?_,λhp=>(e8 hp).1,?_,aqS _,by simp,by omega⟩
   .show find ((j,(m',(dI sh vs).1))::_) j=_
    rw[bA,al rfl]
   .show(bif aqU m m then _ else _)=_
    simp
  .rename_i e;rw[Cg]at h';obtain⟨j',s',us,sh',a1,a2,a3,a4,a5,a6,a7,a8⟩:=FE (m':=m'+1) h';refine⟨j',s',us,sh',a1,a2,?_,λhp=>a4 (e8 hp).2,?_,by omega,by grind,by omega⟩
   all_goals grind [lk,bA,vN,FB,beq_true,Cg]
def IV:List (Nat×aN)->Option (List (Bool×Tree))
 |[]=>aa []
 |(_, .val a t)::l=>match IV l with
  |some ds=>aa ((a,t)::ds)
  |none=>ae
 |_::_=>ae
def PZ:List (Nat×aN)->Option aN
 |[]=>aa .dead
 |[(_,d)]=>aa d
 |l=>match IV l with
  |some ds=>aa (.tup ds)
  |none=>ae
def vR:Nat->List (Nat×SS)->Bool
 |_,[]=>af
 |k,(t,_)::l=>aqU t k&&vR (k+1) l
def Ky:{l:List (Nat×SS)}->{vs:List nT}->{k t:Nat}->{d:aN}->vR k l=af->find (eU l vs).1 t=aa d->k<=t
 |[],_,_,_,_,_,h=>by cases h
 |(t0,s)::l,vs,k,t,d,hi,h=>by
  obtain⟨h1,h2⟩:=e8 hi;have h':find ((t0,(gG s vs).1)::(eU l (gG s vs).2).1) t=aa d:=h;rw[bA]at h';have:=beq_true h1;split at h'
  .omega
  .have:=Ky h2 h';omega
def P0{f:Nat->Value}:{l:List (Nat×SS)}->{vs:List nT}->{k:Nat}->{ds:List (Bool×Tree)}->vR k l=af->(∀t d,find (eU l vs).1 t=aa d->aO H F w d (f t))->IV (eU l vs).1=aa ds->vG H F w ds ((List.range' k l.length).map f)
 |[],_,_,_,_,_,h=>by cases h;rfl
 |(t0,s)::l,vs,k,ds,hi,sB,h=>by
  obtain⟨h1,h2⟩:=e8 hi;obtain rfl:=beq_true h1;have h':IV ((t0,(gG s vs).1)::(eU l (gG s vs).2).1)=aa ds:=h;have ZZ:∀t d,find ((t0,(gG s vs).1)::(eU l (gG s vs).2).1) t=aa d->aO H F w d (f t):=sB;have h0:=ZZ t0 _ (by rw[bA,al rfl]);generalize(gG s vs).1=d0 at*
  cases d0<;>unfold IV at h'<;>try cases h'
  rename_i a t
  split at h'<;>cases h'
  rename_i ds' Bk;refine⟨f t0,(List.range' (t0+1) l.length).map f,by simp[List.range'_succ],h0,P0 h2 (λt d hf=>ZZ t d ?_) Bk⟩;have:=Ky h2 hf
  grind [bA]
def FF:{l:List (Nat×SS)}->{k:Nat}->vR k (vO φ l)=vR k l
 |[],_=>rfl
 |(t,s)::l,k=>by
  show(aqU t k&&vR (k+1) (vO φ l))=_
  rw[FF];rfl
def xX:{l:List (Nat×SS)}->(vO φ l).length=l.length
 |[]=>rfl
 |(t,s)::l=>by
  show(vO φ l).length+1=l.length+1
  rw[xX]
def IW(us:List Value):(List.range' 0 us.length).map (λt=>us.getD t undef)=us:=by
 apply List.ext_getElem (by simp)
 grind
def WY{l:List (Nat×SS)}{vs:List nT}{us:List Value}{D:aN}(hi:vR 0 l=af)(hl:us.length=l.length)(sB:∀t d,find (eU l vs).1 t=aa d->aO H F w d (us.getD t undef))(h:PZ (eU l vs).1=aa D):aO H F w D (Bo us):=by
 have tup:∀ds,IV (eU l vs).1=aa ds->us.length≠1->aO H F w (.tup ds) (Bo us):=by
  intro ds Bk dG;have:=P0 hi sB Bk;rw[<-hl,IW]at this;refine⟨us,?_,this⟩
  match us,dG with
  |[],_=>rfl
  |[_],h=>exact absurd rfl h
  |_::_::_,_=>rfl
 match l,hl,h with
 |[],_,h=>obtain rfl:=aqL h;trivial
 |[(t,s)],hl,h=>
  have h':PZ [(t,(gG s vs).1)]=aa D:=h;obtain rfl:=aqL h';have ht:=beq_true (e8 hi).1
  match us,hl with
  |[u],_=>
   have:=sB t (gG s vs).1 (by
    show find [(t,(gG s vs).1)] t=_
    rw[bA,al rfl])
   rw[ht]at this;exact this
 |(t,s)::(t',s')::l,hl,h=>
  have h':(match IV (eU ((t,s)::(t',s')::l) vs).1 with|some ds=>aa (aN.tup ds)|none=>ae)=aa D:=h
  grind
end
end
section
def kR:Nat->List aN->List (Nat×aN)
 |_,[]=>[]
 |k,d::ds=>(k,d)::kR (k+1) ds
def VX(n:Nat)(bs:Bs)(bC:List (Nat×(Nat×Th)))(m:Nat)(j:Nat):Nat:=
 bif art j m then(match find bs j with
  |some (aa o)=>(match find bC o with
   |some _=>o
   |none=>n+j)
  |_=>n+j)else n+j
def sj(bC:List (Nat×(Nat×Th))):List Nat->List (Nat×(Nat×Th))
 |[]=>[]
 |o::os=>match find bC o with
  |some (s,t)=>bif iB t then(o,(s,t))::sj bC os else sj bC os
  |none=>sj bC os
def always(_:Row):Bool:=af
def Kz(sg:qc):Bool:=vc Row.FC sg.out.aK&&Cc Row.FC sg.out.objs
def xj{R:Type}(sg:qc)(n:Nat)(bs:Bs)(bC:List (Nat×(Nat×Th)))(nd:List Nat)(y:dj sg.out.rows)(k:gY->Option R):Option R:=
 match PZ (eU (vO (VX n bs bC sg.inn.nxt) sg.out.aK) (fD _ y)).1 with
 |some D=>bif Kz sg then k {dst:=D,eat:=ku bs,make:=lk n (FB (VX n bs bC sg.inn.nxt) sg.out.objs) (eU (vO (VX n bs bC sg.inn.nxt) sg.out.aK) (fD _ y)).2}
   else k {dst:=D,eat:=ku bs++nd,make:=lk n (FB (VX n bs bC sg.inn.nxt) sg.out.objs) (eU (vO (VX n bs bC sg.inn.nxt) sg.out.aK) (fD _ y)).2++sj bC nd}
 |none=>ae
def rI{R:Type}(objs:List (Nat×(Nat×Th)))(n:Nat)(f:FuncId)(ds:List aN)(k:gY->Option R):List (Nat×qc)->Option R
 |[]=>ae
 |(g,sg)::tab=>bif aqU g f then(match Ca 0 [] sg.inn (kR 0 ds) objs with
    |some (x,bs,bC)=>bif aqU ds.length sg.inn.aK.length&&vR 0 sg.out.aK&&Nat.ble sg.out.nxt 16&&Nat.ble sg.out.objs.length 16&&(vc always sg.out.aK)then
      (sg.fn x).bind λy=>xj sg n bs bC (B9 0 sg.inn (kR 0 ds) objs) y k else ae
    |none=>rI objs n f ds k tab)else rI objs n f ds k tab
def Z0(c:Nat×List Bool×Nat):aN:= .ptr c.1 c.2.1 c.2.2
def zR{H:aW}{F:Nat->Prop}{w:World}:{cs:List (Nat×List Bool×Nat)}->{vs:List Value}->nY H cs vs->iL H F w (cs.map Z0) vs
 |[],_,h=>h
 |_::_,_,h=>by obtain⟨v,us,e,h1,h3⟩:=h;exact⟨v,us,e,h1,zR h3⟩
def vS{H:aW}{F:Nat->Prop}{w:World}:{ds es:List aN}->{vs us:List Value}->iL H F w ds vs->iL H F w es us->iL H F w (ds++es) (vs++us)
 |[],_,vs,_,h,h'=>by rw[show vs=[]from h];exact h'
 |_::_,_,_,_,h,h'=>by obtain⟨v,us,rfl,h1,h2⟩:=h;exact⟨v,_,rfl,h1,vS h2 h'⟩
def KA(rd:Operand->Option aN)(x:Operand):Option (FuncId×List (Nat×List Bool×Nat)):=
 match rd x with
 |some (.fn f caps)=>aa (f,caps)
 |_=>ae
def Cj{R:Type}(tab:List (Nat×qc))(rd:Operand->Option aN)(objs:List (Nat×(Nat×Th)))(n:Nat)(x:Operand)(args:List Operand)(k:gY->Option R):Option R:=
 match KA rd x with
 |some (f,caps)=>match vJ rd args with
  |some ds=>rI objs n f (ds++caps.map Z0) k tab
  |none=>ae
 |none=>ae
section
variable {P:Program} {ρ:Nat->Value} {w w':World} {H H':aW} {F F':Nat->Prop} {U:Nat->Prop} {n:Nat} {R:Type}
variable {ty:TypeId} {pos:String} {aft:Array Edge} {dst:Option Nat}
def sP:{ds:List aN}->{vs:List Value}->{k:Nat}->iL H F w ds vs->∀t d,find (kR k ds) t=aa d->k<=t/\aO H F w d (vs.getD (t-k) undef)
 |[],_,_,_,_,_,h=>by cases h
 |d0::ds,vs,k,h,t,d,hf=>by
  obtain⟨v,us,rfl,h1,h2⟩:=h;have vB:find ((k,d0)::kR (k+1) ds) t=aa d:=hf;rw[bA]at vB;split at vB
  .grind
  .obtain⟨h3,h4⟩:=sP h2 t d vB
   grind
theorem pS{bC:List (Nat×(Nat×Th))}:{nd:List Nat}->{o s:Nat}->{t:Th}->find (sj bC nd) o=aa (s,t)->o∈nd/\find bC o=aa (s,t)/\iB t=af
 |[],_,_,_,h=>by cases h
 |o0::nd,o,s,t,h=>by
  unfold sj at h;split at h
  .rename_i s0 t0 h0
   cases hb:iB t0 with
   |true=>
    rw[hb,cond_true,bA]at h;split at h
    .grind
    .obtain⟨a,b⟩:=pS h;exact⟨by simp[a],b⟩
   |false=>
    rw[hb,cond_false]at h;obtain⟨a,b⟩:=pS h;exact⟨by simp[a],b⟩
  .obtain⟨a,b⟩:=pS h;exact⟨by simp[a],b⟩
def vT:{l:List (Nat×OS)}->Cc always l=af
 |[]=>rfl
 |(t,s)::l=>by
  have ht:∀sh:Sh,sh.lV always=af:=by
   intro sh
   induction sh with
   |leaf r=>rfl
   |own j=>rfl
   |nil=>rfl
   |junk n=>rfl
   |pair a b iha ihb=>show(a.lV always&&b.lV always)=af;rw[iha,ihb];rfl
  have:s.lV always=af:=by
   cases s with
   |box T t=>exact ht t
   |own T r=>rfl
   |map T K agg V=>rfl
   |deep T d=>
    have hd:∀d:DR,d.lV always=af:=by
     intro d
     induction d with
     |leaf r=>rfl
     |sl T d ih=>exact ih
     |pair a b iha ihb=>show(a.lV always&&b.lV always)=af;rw[iha,ihb];rfl
    exact hd d
   |dmap T K E r=>rfl
  show(s.lV always&&Cc always l)=af
  rw[this,vT];rfl
def pj(H H':aW)(n:Nat)(cons:List (Nat×(Nat×Th)))(m0:Nat):aW where
 val m:=if n<=m/\m<n+16 then H'.val (m-n)else H.val m
 con m:=if n<=m/\m<n+16 then vN cons m else H.con m
 sub m:=if n<=m/\m<n+16 then H'.sub (m-n+m0)else H.sub m
def MR{dd:Option Nat}{f:FuncId}{fn:Func}{g:Operand}{args:Array Operand}{vs us:List Value}{Ba:Array TypeId}(hf:P.funcs[f]? =aa fn)(hn:(fn.name== "runtime.NumGoroutine")=ah)(hb:fn.body.isNone=ah)(SX:args.toList.map (ev ρ)=vs)(hg:ev ρ g= .func (.func f) #[] us.toArray):
 (execOp (ev ρ) ⟨dd, .call {callee:= .value g,args:=args,argTypes:=Ba},ty,pos,aft,ae⟩).run P w= .ok (.enter f (vs++us).toArray) w:=by
 subst SX
 have Tp:¬fn.name= "runtime.NumGoroutine" :=by simpa using hn
 have sE:¬fn.body=ae:=by
  intro e;rw[e]at hb;cases hb
 have e:(Array.map (ev ρ) args++us.toArray)=(args.toList.map (ev ρ)++us).toArray:=by simp
 simp[execOp,resolve,hg,Deferred.ofValue,invoke,callFunc,hf,Tp,sE,go_sem,e]
def MS{sg:qc}{f:FuncId}(Bp:jF P f sg){objs:List (Nat×(Nat×Th))}{op:Op}{k:gY->Option R}{q:R}{ds:List aN}{vs:List Value}{x:dj sg.inn.rows}{bs:Bs}{bC:List (Nat×(Nat×Th))}
 (Ck:iL H F w ds vs)(cO:∀fn,P.funcs[f]? =aa fn->(fn.name== "runtime.NumGoroutine")=ah->fn.body.isNone=ah->(execOp (ev ρ) ⟨dst,op,ty,pos,aft,ae⟩).run P w= .ok (.enter f vs.toArray) w)(hs:aX U H F w (find objs) n)
 (xk:Ca 0 [] sg.inn (kR 0 ds) objs=aa (x,bs,bC))
 (h':(bif aqU ds.length sg.inn.aK.length&&vR 0 sg.out.aK&&Nat.ble sg.out.nxt 16&&Nat.ble sg.out.objs.length 16&&(vc always sg.out.aK)then
   (sg.fn x).bind λy=>xj sg n bs bC (B9 0 sg.inn (kR 0 ds) objs) y k else ae)=aa q):
 ∃e,k e=aa q/\eH P U H F w ρ (find objs) n ⟨dst,op,ty,pos,aft,ae⟩ e:=by
 obtain⟨hc,h'⟩:=bz h';obtain⟨hc,hc5⟩:=e8 hc;obtain⟨hc,hc4⟩:=e8 hc;obtain⟨hc,TW⟩:=e8 hc;obtain⟨Ow,C9⟩:=e8 hc;have Ow:=beq_true Ow
 have TW:sg.out.nxt<=16:=by simpa using TW
 have hc4:sg.out.objs.length<=16:=by simpa using hc4
 obtain⟨y,hy,h⟩:=bind_some h';clear h';obtain⟨⟨fn,hf1,hf2,hf3⟩,sB⟩:=Bp;have ajD:=m6 Ck
 let H0:aW:=⟨λ_=>ae,λ_=>ae,λ_ _=>False⟩
 have OB:aX U H0 F w (find (del [] [])) 0:=⟨λ_ _ _ h=>(by cases h),λ_ _ _ _ _ _ _ _ _ h=>(by cases h),λ_ _ _=>⟨rfl,rfl⟩,hs.lt,hs.new,hs.gl⟩
 have hk0:dB H0 F w H F w:=⟨⟨λ_ _ h=>(by cases h),λ_ _ h=>(by cases h),λ_ _ h=>(by cases h)⟩,Step.refl F w⟩
 have jq:∀t d,find (kR 0 ds) t=aa d->aO H F w d (vs.getD t undef):=λt d hd=>by simpa using(sP Ck t d hd).2
 obtain⟨F1,H1,yW,ET,SY,Bn,FA,xh,Kx,WZ,FG⟩:=zP (U':=λk=>w.heap.size<=k\/∃o∈ku bs,∃s t v,find bC o=aa (s,t)/\H.val o=aa v/\fp (H.sub s) v t k) (ns:=[]) (objs0:=[]) (ρ:=λt=>vs.getD t undef) xk OB (λ_ _=>⟨rfl,rfl⟩) hk0 hs jq;have FG:=FG (λb hb=> .inl hb) (by grind) (λ_ _ _ _ _ h=>by cases h);generalize hG:(λk=>∃o∈ku bs,∃s t v,find bC o=aa (s,t)/\H.val o=aa v/\fp (H.sub s) v t k)=G
 have Z1:∀k,G k->¬F1 k:=by
  rw[<-hG]
  rintro k ⟨o,_,s,t,v,h1,h2,h3⟩
  obtain⟨v',gZ,eJ⟩:=yW.obj _ _ _ h1;rw[h2]at gZ;obtain rfl:=aqL gZ;exact eJ.no k h3
 have hGe:∀k,G k->dH H (find objs) (ku bs) k:=by
  rw[<-hG]
  rintro k ⟨o,ho,s,t,v,h1,h2,h3⟩
  rcases kQ Bn o s t h1 with h4|h4
  .exact⟨o,ho,s,t,v,h4,h2,h3⟩
  .exact(ko h4 h3).elim
 have Z2:aX (λk=>w.heap.size<=k\/G k) H1 F1 w (find (lk 0 sg.inn.objs (eU sg.inn.aK (fD sg.inn.rows x)).2)) sg.inn.nxt:=by
  rw[show del [] ([]:List (Nat×(Nat×Th)))=[]from rfl,List.append_nil]at FG;rw[<-hG];exact FG
 have Z3:=sB x y hy vs w H1 F1 G (by omega) WZ Z2 Kx Z1;generalize TK:B9 0 sg.inn (kR 0 ds) objs=nd at h SY Bn;generalize hφ:VX n bs bC sg.inn.nxt=φ at h;unfold xj at h;rw[hφ]at h;split at h
 case h_2=>cases h
 rename_i D hD
 have hen:∀(e:gY),e.dst=D->(∀(w':World)(us:List Value)(H':aW)(F':Nat->Prop),us.length=sg.out.aK.length->Ext G w w'->H1.le H'->(∀b,F1 b->F' b)->(∀b,F' b->F1 b\/w.heap.size<=b\/G b)->
  (∀t d,find (eU sg.out.aK (fD sg.out.rows y)).1 t=aa d->aO H' F' w' d (us.getD t undef))->aX (λk=>w.heap.size<=k\/G k) H' F' w' (find (lk sg.inn.nxt sg.out.objs (eU sg.out.aK (fD sg.out.rows y)).2)) sg.out.nxt->lT H' sg.out.nxt->ph H F w (find objs) n e (Bo us) w')->
  eH P U H F w ρ (find objs) n ⟨dst,op,ty,pos,aft,ae⟩ e:=by
  intro e he xY;have cO:=cO fn hf1 hf2 hf3;unfold eH ef;rw[cO];refine Z3.mono (by grind)
 generalize Kw:lk n (FB φ sg.out.objs) (eU (vO φ sg.out.aK) (fD sg.out.rows y)).2=cons at h;have aea:=FD (φ:=φ) sg.out.aK (fD sg.out.rows y)
 have W0:∀{H':aW},H1.le H'->lT H' sg.out.nxt->Ren H' (pj H H' n cons sg.inn.nxt) φ/\H.le (pj H H' n cons sg.inn.nxt)/\∀m,(m<n\/n+16<=m)->(H.val m=ae->(pj H H' n cons sg.inn.nxt).val m=ae)/\(H.con m=ae->(pj H H' n cons sg.inn.nxt).con m=ae):=by
  intro H' hle EU
  have TY:∀j v,H'.val j=aa v->j<sg.out.nxt:=λj v hj=>by
   rcases Nat.lt_or_ge j sg.out.nxt with g|g
   .exact g
   .rw[(EU j g).1]at hj;cases hj
  have hold:∀o v,H.val o=aa v->¬(n<=o/\o<n+16):=λo v ho hc=>by
   rw[(hs.fresh o hc.1 hc.2).1]at ho;cases ho
  refine⟨λj v hj=>?_,⟨λo v ho=>?_,λs t mf=>?_,λs t mf=>?_⟩,λm hm=>?_⟩
  .rw[<-hφ];have hjn:=TY j v hj
   have gen:(pj H H' n cons sg.inn.nxt).val (n+j)=aa v:=by
    simp only[pj];rw[al (by omega),Nat.add_sub_cancel_left];exact hj
   unfold VX
   cases hb:art j sg.inn.nxt with
   |false=>simpa using gen
   |true=>
    rw[cond_true];split
    .rename_i o ho;split
     case h_2=>exact gen
     rename_i e he;obtain⟨u,hu,_⟩:=yW.obj o e.1 e.2 he;have h1:=hle.val _ _ (xh j (aa o) ho u hu)
     grind [pj]
    .exact gen
  .grind [pj]
  .simp only[pj];rw[aj (λhc=>by rw[(hs.fresh s hc.1 hc.2).2]at mf;cases mf)];exact mf
  .simp only[pj];rw[aj (λhc=>by rw[(hs.fresh s hc.1 hc.2).2]at mf;cases mf)]
  .grind [pj]
 have made:∀{p:Row->Bool}{us:List Value}{w':World}{H':aW}{F' F2:Nat->Prop}{eat:List Nat},us.length=sg.out.aK.length->vc p sg.out.aK=af->Cc p sg.out.objs=af->vP p F' F2 w'->Ext G w w'->H1.le H'->(∀b,F2 b->F' b)->(∀o,o∈ku bs->o∈eat)->
  (∀t d,find (eU sg.out.aK (fD sg.out.rows y)).1 t=aa d->aO H' F' w' d (us.getD t undef))->aX (λk=>w.heap.size<=k\/G k) H' F' w' (find (lk sg.inn.nxt sg.out.objs (eU sg.out.aK (fD sg.out.rows y)).2)) sg.out.nxt->lT H' sg.out.nxt->
  aO (pj H H' n cons sg.inn.nxt) F2 w' D (Bo us)/\Made (pj H H' n cons sg.inn.nxt) F2 w w' (dH H (find objs) eat) cons/\∀o,(find cons o).isSome->o∈eat\/n<=o:=by
  intro p us w' H' F' F2 eat W1 Kn Tz hmv cP hle SY pn Mv TZ Z4;obtain⟨hr,_,_⟩:=W0 hle Z4
  have KB:∀o s t,find cons o=aa (s,t)->∃j s' us sh,φ j=o/\t=(dI (sh.vb φ) us).1/\find (lk sg.inn.nxt sg.out.objs (eU sg.out.aK (fD sg.out.rows y)).2) j=aa (s',(dI sh us).1)/\sh.lV p=af/\vN cons s=aa t/\n<=s/\s<n+16/\(pj H H' n cons sg.inn.nxt).sub s=H'.sub s':=by
   intro o s t ho;rw[<-Kw]at ho⊢;rw[aea]at ho⊢;obtain⟨j,s',us',sh,a1,a2,a3,a4,a5,a6,a7,a8⟩:=FE (m':=sg.inn.nxt) ho
   have aI:s<n+16:=by omega
   refine⟨j,s',us',sh,a1,a2,a3,a4 Tz,a5,a6,aI,?_⟩;simp only[pj];rw[al ⟨a6,aI⟩,a8]
  refine⟨?_,⟨λo s t ho=>?_,λo o' s s' t t' v v' dG ho oY hv gZ k hk jh=>?_⟩,λo ho=>?_⟩
  .exact WY (by rw[FF];exact C9) (by rw[xX];exact W1) (PY hr hmv Kn Mv) hD
  .obtain⟨j,s',us',sh,rfl,rfl,a3,a4,a5,a6,a7,a8⟩:=KB o s t ho;rw[a8];obtain⟨v,hv,eJ⟩:=TZ.obj _ _ _ a3;obtain⟨b1,b2,b3⟩:=xi hr hmv a4 eJ.ok;refine⟨v,hr j v hv,eJ.one,?_,b1,λk hk=>⟨λe=>eJ.no k (b3 k hk) (SY k e),eJ.lt k (b3 k hk),?_⟩⟩
   .grind [pj]
   .rcases eJ.use k (b3 k hk)with h1|h1
    .exact .inl h1
    .obtain⟨o',oY,rest⟩:=hGe k h1;exact .inr ⟨o',pn o' oY,rest⟩
  .obtain⟨j,s1,us1,sh,rfl,rfl,a3,a4,a5,a6,_,a8⟩:=KB o s t ho;obtain⟨j',s1',alx,sh',rfl,rfl,a3',a4',a5',a6',_,a8'⟩:=KB o' s' t' oY;rw[a8]at hk;rw[a8']at jh;obtain⟨u,hu,eJ⟩:=TZ.obj _ _ _ a3;obtain⟨u',WS,Fs⟩:=TZ.obj _ _ _ a3';have e1:=hr j u hu;rw[hv]at e1;obtain rfl:=aqL e1;have e2:=hr j' u' WS;rw[gZ]at e2;obtain rfl:=aqL e2;exact TZ.apart j j' _ _ _ _ _ _ (λe=>dG (by rw[e])) a3 a3' hu WS k ((xi hr hmv a4 eJ.ok).2.2 k hk) ((xi hr hmv a4' Fs.ok).2.2 k jh)
  .obtain⟨e,he⟩:=arA.1 ho;obtain⟨j,s',us',sh,rfl,_⟩:=KB o e.1 e.2 he;rw[<-hφ];unfold VX
   cases art j sg.inn.nxt with
   |false=>exact .inr (by simp)
   |true=>
    grind [mK]
 have Z5:∀{w':World}{eat:List Nat},Ext G w w'->(∀o,o∈ku bs->o∈eat)->Ext (dH H (find objs) eat) w w':=λcP pn=>⟨cP.os,cP.tape,cP.output,cP.size,λk hk hn=>cP.block k hk λhG=>hn (by
  obtain⟨o,ho,rest⟩:=hGe k hG
  exact⟨o,pn o ho,rest⟩)⟩
 cases hfl:Kz sg with
 |true=>
  rw[hfl,cond_true]at h;obtain⟨p1,p2⟩:=e8 hfl;refine⟨_,h,hen _ rfl λw' us H' F' W1 a1 a2 a3 a4 a5 a6 a7=>?_⟩;obtain⟨_,g2,g3⟩:=W0 a2 a7;obtain⟨m1,m2,m3⟩:=made (F2:=F) (eat:=ku bs) W1 p1 p2 (λr hr cs x hx=>eF.IS hr hx) a1 a2 (λb hb=>a3 b (ET b hb)) (λ_ h=>h) a5 a6 a7;exact⟨_,F,⟨g2,Z5 a1 (λ_ h=>h),λ_ h=>h,λ_ h=> .inl h,λb hb=>ars (hs.lt b hb) a1.size⟩,g3,m1,m2,m3⟩
 |false=>
  rw[hfl,cond_false]at h;refine⟨_,h,hen _ rfl λw' us H' F' W1 a1 a2 a3 a4 a5 a6 a7=>?_⟩;obtain⟨_,g2,g3⟩:=W0 a2 a7;obtain⟨m1,m2,m3⟩:=made (F2:=F') (eat:=ku bs++nd) W1 hc5 vT (λr _ cs x hx=>hx) a1 a2 (λ_ h=>h) (λo h=>by simp[h]) a5 a6 a7
  have mf:Step F1 w F' w':=λb hb=>⟨a3 b hb,a1.block b (yW.lt b hb) λe=>Z1 b e hb⟩
  have yx:∀o s t,find (sj bC nd) o=aa (s,t)->o∈nd/\iB t=af/\∃v,H.val o=aa v/\v.oneCell'=af/\H.con s=aa t.base/\mJ H F1 w (H.sub s) v t:=by
   intro o s t ho;obtain⟨b1,b2,b3⟩:=pS ho;obtain⟨v,hv,eJ⟩:=yW.obj _ _ _ b2;exact⟨b1,b3,v,hv,eJ.one,eJ.con,eJ.ok⟩
  have part:∀o s t,find (cons++sj bC nd) o=aa (s,t)->find cons o=aa (s,t)\/find (sj bC nd) o=aa (s,t):=by
   intro o s t ho;rw[kH]at ho
   cases hm:find cons o with
   |some e=>grind
   |none=>grind
  refine⟨_,F',⟨g2,Z5 a1 (λo h=>by simp[h]),λb hb=>a3 b (ET b hb),λb hb=>?_,a6.lt⟩,g3,m1,⟨λo s t ho=>?_,λo o' s s' t t' v v' dG ho oY hv gZ k hk jh=>?_⟩,λo ho=>?_⟩
  .rcases a4 b hb with h1|h1|h1
   .rcases SY b h1 with h2|⟨o,ho,rest⟩
    .exact .inl h2
    .exact .inr (.inr ⟨o,by simp[ho],rest⟩)
   .exact .inr (.inl h1)
   .obtain⟨o,ho,rest⟩:=hGe b h1;exact .inr (.inr ⟨o,by simp[ho],rest⟩)
  .rcases part o s t ho with h1|h1
   .exact m2.obj o s t h1
   .obtain⟨b1,b2,v,b3,b4,b5,b6⟩:=yx o s t h1;refine⟨v,g2.val _ _ b3,b4,g2.con _ _ b5,by rw[g2.sub _ _ b5];exact b6.heap g2 mf (λk hk=>(ko b2 hk).elim),λk hk=>(ko b2 hk).elim⟩
  .rcases part o s t ho with h1|h1<;>rcases part o' s' t' oY with h2|h2
   .exact m2.apart o o' s s' t t' v v' dG h1 h2 hv gZ k hk jh
   .grind [ko]
   .exact ko (yx o s t h1).2.1 hk
   .exact ko (yx o s t h1).2.1 hk
  grind [arA]
def qZ{Z6:List (Nat×qc)}(Bp:∀p∈Z6,jF P p.1 p.2){objs:List (Nat×(Nat×Th))}{f:FuncId}{op:Op}{k:gY->Option R}{q:R}{ds:List aN}{vs:List Value}
 (Ck:iL H F w ds vs)(cO:∀fn,P.funcs[f]? =aa fn->(fn.name== "runtime.NumGoroutine")=ah->fn.body.isNone=ah->(execOp (ev ρ) ⟨dst,op,ty,pos,aft,ae⟩).run P w= .ok (.enter f vs.toArray) w)(hs:aX U H F w (find objs) n):{tab:List (Nat×qc)}->(∀p∈tab,p∈Z6)->rI objs n f ds k tab=aa q->
 ∃e,k e=aa q/\eH P U H F w ρ (find objs) n ⟨dst,op,ty,pos,aft,ae⟩ e
 |[],_,h=>by cases h
 |(f0,sg)::tab,eJ,h=>by
  unfold rI at h
  cases hb:aqU f0 f with
  |false=>rw[hb,cond_false]at h;exact qZ Bp Ck cO hs (λp hp=>eJ p (by simp[hp])) h
  |true=>
   rw[hb,cond_true]at h;obtain rfl:=beq_true hb;split at h
   case h_2=>exact qZ Bp Ck cO hs (λp hp=>eJ p (by simp[hp])) h
   rename_i x bs bC xk;exact MS (Bp (f0,sg) (eJ _ (by simp))) Ck cO hs xk h
def FH{tab:List (Nat×qc)}(Bp:∀p∈tab,jF P p.1 p.2){rd:Operand->Option aN}(kA:∀x d,rd x=aa d->aO H F w d (ev ρ x)){objs:List (Nat×(Nat×Th))}{g:Operand}{args:Array Operand}{Ba:Array TypeId}{k:gY->Option R}{q:R}
 (h:Cj tab rd objs n g args.toList k=aa q)(hs:aX U H F w (find objs) n):
 ∃e,k e=aa q/\eH P U H F w ρ (find objs) n ⟨dst, .call {callee:= .value g,args:=args,argTypes:=Ba},ty,pos,aft,ae⟩ e:=by
 unfold Cj at h;split at h
 case h_2=>cases h
 rename_i f caps hc;split at h
 case h_2=>cases h
 rename_i ds Bk;unfold KA at hc;split at hc
 case h_2=>cases hc
 rename_i f' ajH hg;cases hc;obtain⟨us,h1,h2⟩:=kA _ _ hg;exact qZ Bp (vS (qU (w:=w) (H:=H) (F:=F) (ρ:=ρ) kA Bk) (zR (F:=F) (w:=w) h2)) (λfn g1 g2 g3=>MR g1 g2 g3 rfl h1) hs (λ_ h=>h) h
end
end
section
section
variable {P:Program} {ρ:Nat->Value} {w w':World} {H H':aW} {F F':Nat->Prop} {U:Nat->Prop} {ob:Nat->Option (Nat×Th)} {n:Nat} {R:Type}
variable {op:Op} {ty:TypeId} {pos:String} {aft:Array Edge} {d:Nat} {dst:Option Nat}
def Oy.KC:Oy->Bool
 | .other=>ah
 |_=>af
def BT.KC{t:TypeId}{k:Oy}(h:BT P t k)(hk:k.KC=af):∃D,P.underlying t=aa D/\∀ms,D≠ .interface ms:=by
 cases k with
 |other=>cases hk
 |struct fs=>obtain⟨arr,h,_⟩:=h;grind
 |_=>exact⟨_,h,λ_ e=>by cases e⟩
def Ds(T:b7 P)(t:TypeId):Bool:=match find T.und t with
 |some k=>k.KC
 |none=>ah
def Cl(T:b7 P){t:TypeId}(h:Ds T t=af):∃D,P.underlying t=aa D/\∀ms,D≠ .interface ms:=by
 unfold Ds at h;split at h
 .rename_i k hk;exact(T.und_ok _ _ hk).KC h
 .cases h
def MT(T:b7 P)(t:TypeId)(D:aN)(k:gY->Option R):Option R:=bif Ds T t then k {dst:= .ifc t D}else ae
def T4(T:b7 P){t:TypeId}{D:aN}{x:Operand}{k:gY->Option R}{q:R}(h:MT T t D k=aa q)(hs:aX U H F w ob n)(hx:aO H F w D (ev ρ x)):
 ∃e,k e=aa q/\eH P U H F w ρ ob n ⟨aa d, .makeInterface t x,ty,pos,aft,ae⟩ e:=by
 unfold MT at h;obtain⟨h1,h2⟩:=bz h;obtain⟨D0,hD,hn⟩:=Cl T h1;refine⟨_,h2,cZ hs (v:= .iface t (ev ρ x)) ?_ ⟨_,rfl,hx⟩⟩
 cases D0 with
 |interface ms=>grind
 |_=>simp[execOp,Instr.makeInterface,run_underlying hD,asj]
def tY(T:b7 P)(t:TypeId)(ok:Bool)(D:aN)(k:gY->Option R):Option R:=
 match D with
 | .ifc t' d=>bif aqU t' t&&Ds T t then(match ok,d with
   |true, .val agg tr=>k {dst:= .tup [(agg,tr),(ah, .leaf .bool af)]}
   |true,_=>ae
   |false,d=>k {dst:=d})else ae
 |_=>ae
def IX(T:b7 P){xt t:TypeId}{ok:Bool}{D:aN}{x:Operand}{k:gY->Option R}{q:R}(h:tY T t ok D k=aa q)(hs:aX U H F w ob n)(hx:aO H F w D (ev ρ x)):
 ∃e,k e=aa q/\eH P U H F w ρ ob n ⟨aa d, .typeAssert x xt t ok,ty,pos,aft,ae⟩ e:=by
 unfold tY at h;split at h
 case h_2=>cases h
 rename_i t' dd;obtain⟨h1,h2⟩:=bz h;obtain⟨h1,h3⟩:=e8 h1;obtain rfl:=beq_true h1;obtain⟨D0,hD,hn⟩:=Cl T h3;obtain⟨u,hu,hd⟩:=hx
 have cO:(Instr.typeAssert (ev ρ x) xt t' ok).run P w= .ok (if ok then .tuple #[u, .bool af]else u) w:=by
  rw[hu]
  cases D0 with
  |interface ms=>grind
  |_=>simp[Instr.typeAssert,run_underlying hD,asj]
 split at h2
 .exact⟨_,h2,cZ hs (v:= .tuple #[u, .bool af]) (by simp[execOp,cO,asj]) ⟨[u, .bool af],rfl,_,_,rfl,hd,_,_,rfl,bB.kM ..,rfl⟩⟩
 .cases h2
 .exact⟨_,h2,cZ hs (v:=u) (by simp[execOp,cO,asj]) hd⟩
def KD:List (TypeId×(String×(FuncId×Bool)))->TypeId->String->Option (FuncId×Bool)
 |[],_,_=>ae
 |(t',(nm,p))::l,t,name=>bif aqU t' t&&(nm==name)then aa p else KD l t name
def FI{t:TypeId}{name:String}{f:FuncId}{pr:Bool}:{l:List (TypeId×(String×(FuncId×Bool)))}->KD l t name=aa (f,pr)->(t,(name,(f,pr)))∈l
 |[],h=>by cases h
 |(t',(nm,p))::l,h=>by
  unfold KD at h
  cases hb:aqU t' t&&(nm==name)with
  |true=>
   simp_all
  |false=>
   rw[hb,cond_false]at h;exact List.mem_cons_of_mem _ (FI h)
def IY{t:TypeId}{name:String}{f:FuncId}{pr:Bool}{v u:Value}{fuel:Nat}(h:uJ P t name f pr)(hr:∀nm,(receiverAt t (.val v) pr (aa nm)).run P w= .ok u w):(method (fuel+1) t v name).run P w= .ok (f,u) w:=by
 unfold uJ at h
 cases hi:P.info? t with
 |none=>grind
 |some ti=>
  rw[hi]at h;have h:(ti.methods.find? λm=>m.name==name).map (λm=>(m.path.toList.length,m.func))=aa (0,aa (f,pr)):=h
  cases hm:ti.methods.find? λm=>m.name==name with
  |none=>grind
  |some m=>
   rw[hm]at h;simp only[Option.map_some,aq1,Prod.mk.injEq]at h
   have hp:m.path= #[]:=by
    have:=h.1;simpa using this
   simp[method,typeInfo,hi,hm,hp,follow,h.2,hr,asj,arf]
def MU{t e:TypeId}{nm:String}{v:Value}(hu:P.underlying t=aa (.pointer e)):(receiverAt t (.val v) af (aa nm)).run P w= .ok v w:=by
 simp[receiverAt,run_underlying hu,Place.get,asj,arf]
def MV{t e:TypeId}{nm:String}{a:Addr}{u:Value}(hu:P.underlying t=aa (.pointer e))(hl:(loadVar e a).run P w= .ok u w):(receiverAt t (.val (.pointer (aa a))) ah (aa nm)).run P w= .ok u w:=by
 have hw:Builtin.ssaWrapNilChk_ #[t] t #[.pointer (aa a),strVal "",strVal nm]=pure (.pointer (aa a)):=rfl;simp[receiverAt,run_underlying hu,Place.get,hw,asAddr,hl,asj,arf]
def zS{t:TypeId}{name:String}{f:FuncId}{fn:Func}{pr:Bool}{v u:Value}{x:Operand}{args:Array Operand}{Ba:Array TypeId}(h:uJ P t name f pr)(hx:ev ρ x= .iface t v)(hr:∀nm,(receiverAt t (.val v) pr (aa nm)).run P w= .ok u w)
 (hf:P.funcs[f]? =aa fn)(hn:(fn.name== "runtime.NumGoroutine")=ah)(hb:fn.body.isNone=ah):
 (execOp (ev ρ) ⟨dst, .call {callee:= .invoke x name,args:=args,argTypes:=Ba},ty,pos,aft,ae⟩).run P w= .ok (.enter f (u::args.toList.map (ev ρ)).toArray) w:=by
 have Tp:¬fn.name= "runtime.NumGoroutine" :=by simpa using hn
 have sE:¬fn.body=ae:=by
  intro e;rw[e]at hb;cases hb
 have hm:=IY (fuel:=P.types.size+99) h hr;have hfu:P.types.size+100=P.types.size+99+1:=rfl
 have e1:(#[Value.iface t v]++Array.map (ev ρ) args).extract 1 (1+args.size)=Array.map (ev ρ) args:=by
  apply Array.ext';simp;exact List.take_of_length_le (by simp)
 have e0:(#[Value.iface t v]++Array.map (ev ρ) args)[0]? =aa (Value.iface t v):=by simp[Array.getElem?_append]
 have e2:(#[u]++Array.map (ev ρ) args)=(u::args.toList.map (ev ρ)).toArray:=by apply Array.ext';simp
 simp[execOp,resolve,hx,invoke,callMethod,hfu,hm,callFunc,hf,Tp,sE,go_sem,e0,e1,e2]
def yX(T:b7 P)(ob:Nat->Option (Nat×Th))(e:TypeId)(D:aN):Option aN:=
 match find T.und e with
 |none=>ae
 |some kk=>match D with
  | .ptr o p off=>match ob o with
    |some (_, .box _ tr)=>match tr.get p with
     |some (s,fZ)=>bif aqU fZ off&&pR T e kk s.size then aa (.val (pb kk) s)else ae
     |none=>ae
    |_=>ae
  |_=>ae
def IZ(T:b7 P){e:TypeId}{D D':aN}{v:Value}(h:yX T ob e D=aa D')(hs:aX U H F w ob n)(hx:aO H F w D v):∃a u,v= .pointer (aa a)/\(loadVar e a).run P w= .ok u w/\aO H F w D' u:=by
 unfold yX at h;split at h
 .cases h
 rename_i kk hu;split at h
 case h_2=>cases h
 rename_i o p off;split at h
 case h_2=>cases h
 rename_i st0 T0 tr gz;split at h
 case h_2=>cases h
 rename_i s fZ hg;obtain⟨h1,h2⟩:=bz h;cases h2;obtain⟨h1,h3⟩:=e8 h1;obtain rfl:=beq_true h1;obtain⟨b,hb,rfl⟩:=hx;obtain⟨es,hh,VO⟩:=hs.box gz hb;obtain⟨g1,g2⟩:=VO.get hg
 have hc:∀j u,((es.drop fZ).take s.size)[j]? =aa u->w.cell? ⟨b,fZ+j,ae⟩=aa u:=λj u hj=>by
  grind [zu]
 obtain⟨dd,xS,zk⟩:=(T.und_ok _ _ hu).agg;have hz:=mR T h3;have hl:=g1.length;generalize(es.drop fZ).take s.size=cs at g1 hc hl
 cases ha:pb kk with
 |true=>
  rw[al ha]at hz;obtain⟨r,hr,OA⟩:=hz;obtain⟨ti,z,h1,_,_,h4,_⟩:=T.row_ok _ _ hr;have Zc:(loadCells ⟨b,fZ,ae⟩ cs.length).run P w= .ok cs.toArray w:=run_loadCells_list (P:=P) w ⟨b,fZ,ae⟩ cs (λj v hv=>by rw[eG];exact hc j v hv)
  have p9:ti.size=cs.length:=by omega
  exact⟨_, .agg cs.toArray,rfl,by simp[loadVar,arf,iI xS,zk,ha,sizeOf,typeInfo,h1,p9,Zc],⟨cs,g1,rfl,by simp⟩⟩
 |false=>
  rw[aj (by simp[ha])]at hz
  obtain⟨v,rfl⟩:∃v,cs=[v]:=by
   match cs,hl.trans hz with
   |[v],_=>grind
  have hcv:w.cell? ⟨b,fZ,ae⟩=aa v:=hc 0 v rfl;exact⟨_,v,rfl,by simp[loadVar,arf,iI xS,zk,ha,hcv,go_sem],⟨[v],g1,rfl,λ_=>rfl⟩⟩
def tZ(T:b7 P)(tab:List (Nat×qc))(rd:Operand->Option aN)(objs:List (Nat×(Nat×Th)))(n:Nat)(x:Operand)(name:String)(args:List Operand)(k:gY->Option R):Option R:=
 match rd x with
 |some (.ifc t d)=>match KD T.mth t name with
  |some (f,pr)=>match find T.und t with
   |some (.ptr e)=>match(bif pr then aa d else yX T (find objs) e d)with
    |some d'=>match vJ rd args with
     |some ds=>rI objs n f (d'::ds) k tab
     |none=>ae
    |none=>ae
   |_=>ae
  |none=>ae
 |_=>ae
def zT(T:b7 P){tab:List (Nat×qc)}(Bp:∀p∈tab,jF P p.1 p.2){rd:Operand->Option aN}(kA:∀x d,rd x=aa d->aO H F w d (ev ρ x)){objs:List (Nat×(Nat×Th))}{x:Operand}{name:String}{args:Array Operand}{Ba:Array TypeId}{k:gY->Option R}{q:R}
 (h:tZ T tab rd objs n x name args.toList k=aa q)(hs:aX U H F w (find objs) n):
 ∃e,k e=aa q/\eH P U H F w ρ (find objs) n ⟨dst, .call {callee:= .invoke x name,args:=args,argTypes:=Ba},ty,pos,aft,ae⟩ e:=by
 unfold tZ at h;split at h
 case h_2=>cases h
 rename_i t d0 hx;split at h
 case h_2=>cases h
 rename_i f pr hm;split at h
 case h_2=>cases h
 rename_i e hu;split at h
 case h_2=>cases h
 rename_i d' HS;split at h
 case h_2=>cases h
 rename_i ds Bk;obtain⟨v,hv,hdv⟩:=kA _ _ hx;have hM:=T.mth_ok _ (FI hm);have hu:=T.und_ok _ _ hu;have hdo:=qU (w:=w) (H:=H) (F:=F) (ρ:=ρ) kA Bk
 cases pr with
 |true=>
  cases HS
  have TL:iL H F w (d0::ds) (v::args.toList.map (ev ρ)):=⟨v,_,rfl,hdv,hdo⟩
  exact qZ Bp TL (λfn g1 g2 g3=>zS hM hv (λnm=>MU hu) g1 g2 g3) hs (λ_ h=>h) h
 |false=>
  obtain⟨a,u,rfl,hl,hdu⟩:=IZ T (show yX T (find objs) e d0=aa d' from HS) hs hdv
  have TL:iL H F w (d'::ds) (u::args.toList.map (ev ρ)):=⟨u,_,rfl,hdu,hdo⟩
  exact qZ Bp TL (λfn g1 g2 g3=>zS hM hv (λnm=>MV hu hl) g1 g2 g3) hs (λ_ h=>h) h
end
end
section
structure Env(P:Program)where
 T:b7 P
 tab:List (Nat×qc)
 ok:∀p∈tab,jF P p.1 p.2
 mix:P.follows .mixedOrders=af
 deep:Bool
 drop:Bool
def Dt(rd:Operand->Option aN):List Operand->Option (List (Nat×List Bool×Nat))
 |[]=>aa []
 |x::xs=>match rd x with
  |some (.ptr o p off)=>match Dt rd xs with
   |some cs=>aa ((o,p,off)::cs)
   |none=>ae
  |_=>ae
def Cm{H:aW}{F:Nat->Prop}{w:World}{ρ:Nat->Value}{rd:Operand->Option aN}(kA:∀x d,rd x=aa d->aO H F w d (ev ρ x)):{xs:List Operand}->{cs:List (Nat×List Bool×Nat)}->Dt rd xs=aa cs->nY H cs (xs.map (ev ρ))
 |[],cs,h=>by obtain rfl:=aqL h;rfl
 |x::xs,cs,h=>by
  unfold Dt at h;split at h
  case h_2=>cases h
  rename_i o p off hx;split at h
  case h_2=>cases h
  rename_i yw vC;obtain rfl:=aqL h;exact⟨_,_,rfl,kA _ _ hx,Cm kA vC⟩
def pJ{R:Type}(rd:Operand->Option aN)(fn:Fn)(first caps:Array Operand)(k:gY->Option R):Option R:=
 match fn,first.toList with
 | .func f,[]=>match Dt rd caps.toList with
   |some cs=>k {dst:= .fn f cs}
   |none=>ae
 |_,_=>ae
def Du{R:Type}{P:Program}{U:Nat->Prop}{H:aW}{F:Nat->Prop}{w:World}{ρ:Nat->Value}{ob:Nat->Option (Nat×Th)}{n d:Nat}{ty:TypeId}{pos:String}{aft:Array Edge}{rd:Operand->Option aN}(kA:∀x d,rd x=aa d->aO H F w d (ev ρ x)){fn:Fn}{first caps:Array Operand}{k:gY->Option R}{q:R}
 (h:pJ rd fn first caps k=aa q)(hs:aX U H F w ob n):∃e,k e=aa q/\eH P U H F w ρ ob n ⟨aa d, .makeFunc fn first caps,ty,pos,aft,ae⟩ e:=by
 unfold pJ at h;split at h
 case h_2=>cases h
 rename_i f hf;split at h
 case h_2=>cases h
 rename_i cs vC
 have W2:first= #[]:=by rw[<-arG (xs:=first),hf]
 subst W2
 have e:caps.map (ev ρ)=(caps.toList.map (ev ρ)).toArray:=by rw[<-List.map_toArray,arG]
 exact⟨_,h,cZ hs (v:= .func (.func f) #[] (caps.toList.map (ev ρ)).toArray) (by simp[execOp,Instr.makeFunc,e]) ⟨_,rfl,Cm kA vC⟩⟩
noncomputable def uL{R:Type}{P:Program}(E:Env P)(rd:Operand->Option aN)(objs:List (Nat×(Nat×Th)))(n:Nat)(callee:Callee)(args:Array Operand)(Ba:Array TypeId)(k:gY->Option R):Option R:=
 match callee with
 | .builtin .len=>match args.toList,Ba.toList with
   |[x],[t]=>match rd x with
    |some D=>match MA E.T (find objs) t D with
     |some D'=>k {dst:=D'}
     |none=>ae
    |none=>ae
   |_,_=>ae
 | .builtin .append=>match args.toList,Ba.toList with
   |[x,y],[t,t']=>bif aqU t t' then(match rd x with
    |some X=>match rd y with
     |some Y=>qW E.T (find objs) n t X Y k
     |none=>ae
    |none=>ae)else ae
   |_,_=>ae
 | .builtin .max=>match args.toList,Ba.toList with
   |[x,y],[_,_]=>match rd x with
    |some X=>match rd y with
     |some Y=>match yS af X Y with
      |some D=>k {dst:=D}
      |none=>ae
     |none=>ae
    |none=>ae
   |_,_=>ae
 | .builtin .min=>match args.toList,Ba.toList with
   |[x,y],[_,_]=>match rd x with
    |some X=>match rd y with
     |some Y=>match yS ah X Y with
      |some D=>k {dst:=D}
      |none=>ae
     |none=>ae
    |none=>ae
   |_,_=>ae
 | .value g=>Cj E.tab rd objs n g args.toList k
 | .invoke x name=>tZ E.T E.tab rd objs n x name args.toList k
 |_=>ae
noncomputable def T5{R:Type}{P:Program}(E:Env P)(rd:Operand->Option aN)(objs:List (Nat×(Nat×Th)))(n:Nat)(dst:Option Nat)(op:Op)(k:gY->Option R):Option R:=
 match dst with
 |none=>match op with
  | .store t x y=>match rd x with
    |some X=>match rd y with
     |some Y=>tX E.T (find objs) n t X Y k
     |none=>ae
    |none=>ae
  | .call c=>uL E rd objs n c.callee c.args c.argTypes k
  | .mapUpdate t m x y=>match rd m with
    |some M=>match rd x with
     |some X=>match rd y with
      |some Y=>oH E.T (find objs) n t M X Y k
      |none=>ae
     |none=>ae
    |none=>ae
  |_=>ae
 |some _=>match op with
  | .move x=>match rd x with
    |some D=>k {dst:=D}
    |none=>ae
  | .assign x=>match rd x with
    |some D=>k {dst:=D}
    |none=>ae
  | .pick c x y=>match rd c with
    |some C=>match asBool C with
     |some b=>match(if b=af then rd x else rd y)with
      |some D=>k {dst:=D}
      |none=>ae
     |none=>ae
    |none=>ae
  | .alloc t=>w4 E.T n t k
  | .box t x=>match rd x with
    |some X=>Mz n t X k
    |none=>ae
  | .build t ps=>w6 E.T rd t ps k
  | .buildSlice t m ps=>yV E.deep E.T rd (find objs) n t m ps k
  | .load t x=>match rd x with
    |some X=>sM E.T (find objs) n t X k
    |none=>ae
  | .nilCheck x=>match rd x with
    |some (.ptr o p off)=>k {dst:= .ptr o p off}
    |some (.elem o s r i z p off)=>k {dst:= .elem o s r i z p off}
    |some (.dlm o d i p off)=>k {dst:= .dlm o d i p off}
    |some (.at r z)=>k {dst:= .at r z}
    |_=>ae
  | .binOp o t x y _=>match rd x with
    |some X=>match rd y with
     |some Y=>MF E.T (find objs) o t (ZD y) X Y k
     |none=>ae
    |none=>ae
  | .unOp o _ x=>match rd x with
    |some X=>match eUn o X with
     |some D=>k {dst:=D}
     |none=>ae
    |none=>ae
  | .convert s t x=>match rd x with
    |some X=>match PC E.T s t X with
     |some D=>k {dst:=D}
     |none=>ae
    |none=>ae
  | .makeSlice t a b=>match rd a with
    |some A=>match asInt A with
     |some (_,i)=>match rd b with
      |some B=>match asInt B with
       |some (_,j)=>zK E.deep E.T n t (sK a b) i j k
       |none=>ae
      |none=>ae
     |none=>ae
    |none=>ae
  | .slice t x lo hi ae=>match rd x with
    |some X=>w7 E.drop E.T rd (find objs) n t X lo hi k
    |none=>ae
  | .fieldAddr t x f=>match rd x with
    |some X=>match Is E.T t f X with
     |some D=>k {dst:=D}
     |none=>ae
    |none=>ae
  | .field t x f=>match rd x with
    |some X=>match Dd E.T t f X with
     |some D=>k {dst:=D}
     |none=>ae
    |none=>ae
  | .indexAddr t x y=>match rd x with
    |some X=>match rd y with
     |some Y=>match asInt Y with
      |some (_,i)=>wW E.T (find objs) t X i k
      |none=>ae
     |none=>ae
    |none=>ae
  | .index t x y=>match rd x with
    |some X=>match rd y with
     |some Y=>match asInt Y with
      |some (_,i)=>tT E.T (find objs) t X i k
      |none=>ae
     |none=>ae
    |none=>ae
  | .extract x i=>match rd x with
    |some X=>match zD X i with
     |some D=>k {dst:=D}
     |none=>ae
    |none=>ae
  | .call c=>uL E rd objs n c.callee c.args c.argTypes k
  | .makeFunc fn first caps=>pJ rd fn first caps k
  | .makeMap t ae=>qV E.deep E.T n t k
  | .lookup t m x ok=>match rd m with
    |some M=>match rd x with
     |some X=>sN E.T (find objs) n t ok M X k
     |none=>ae
    |none=>ae
  | .makeInterface t x=>match rd x with
    |some X=>MT E.T t X k
    |none=>ae
  | .typeAssert x _ t ok=>match rd x with
    |some X=>tY E.T t ok X k
    |none=>ae
  |_=>ae
section
variable {P:Program} {ρ:Nat->Value} {w w':World} {H H':aW} {F F':Nat->Prop} {U:Nat->Prop} {n:Nat} {R:Type}
variable {ty:TypeId} {pos:String} {aft:Array Edge} {dst:Option Nat} {d:Nat}
def ic{α:Type}{a:Array α}{l:List α}(h:a.toList=l):a=l.toArray:=by grind
def P1(E:Env P){rd:Operand->Option aN}(kA:∀x d,rd x=aa d->aO H F w d (ev ρ x)){objs:List (Nat×(Nat×Th))}{c:Call}{k:gY->Option R}{q:R}
 (h:uL E rd objs n c.callee c.args c.argTypes k=aa q)(hs:aX U H F w (find objs) n):∃e,k e=aa q/\eH P U H F w ρ (find objs) n ⟨aa d, .call c,ty,pos,aft,ae⟩ e:=by
 obtain⟨callee,args,Ba⟩:=c;simp only at h;unfold uL at h;split at h
 .split at h
  case h_2=>cases h
  rename_i x t ha ht;obtain rfl:=ic ha;obtain rfl:=ic ht;split at h
  case h_2=>cases h
  rename_i D hD;split at h
  case h_2=>cases h
  rename_i D' To;exact⟨_,h,Kk E.T To hs (kA _ _ hD)⟩
 .split at h
  case h_2=>cases h
  rename_i x y t t' ha ht;obtain rfl:=ic ha;obtain rfl:=ic ht;obtain⟨hb,h'⟩:=bz h;clear h;obtain rfl:=beq_true hb;split at h'
  case h_2=>cases h'
  rename_i X hX;split at h'
  case h_2=>cases h'
  rename_i Y hY;exact Fp E.T h' hs (kA _ _ hX) (kA _ _ hY)
 .split at h
  case h_2=>cases h
  rename_i x y t t' ha ht;obtain rfl:=ic ha;obtain rfl:=ic ht
  grind [zE]
 .split at h
  case h_2=>cases h
  rename_i x y t t' ha ht;obtain rfl:=ic ha;obtain rfl:=ic ht
  grind [zE]
 .exact FH E.ok kA h hs
 .exact zT E.T E.ok kA h hs
 .cases h
def T6:Callee->Bool
 | .value _=>af
 | .invoke .. =>af
 |_=>ah
def Bq(E:Env P){rd:Operand->Option aN}(kA:∀x d,rd x=aa d->aO H F w d (ev ρ x)){objs:List (Nat×(Nat×Th))}{c:Call}{k:gY->Option R}{q:R}(hc:T6 c.callee=af)
 (h:uL E rd objs n c.callee c.args c.argTypes k=aa q)(hs:aX U H F w (find objs) n):∃e,k e=aa q/\eH P U H F w ρ (find objs) n ⟨ae, .call c,ty,pos,aft,ae⟩ e:=by
 obtain⟨callee,args,Ba⟩:=c;simp only at h hc
 cases callee with
 |value g=>exact FH E.ok kA h hs
 |invoke x name=>exact zT E.T E.ok kA h hs
 |builtin b=>cases hc
end
section
variable {P:Program} {ρ:Nat->Value} {w w':World} {H H':aW} {F F':Nat->Prop} {U:Nat->Prop} {n:Nat} {R:Type}
variable {ty:TypeId} {pos:String} {aft:Array Edge} {dst:Option Nat} {d:Nat}
def MW{c x y:Operand}{b:Bool}{D:aN}{ob:Nat->Option (Nat×Th)}(hs:aX U H F w ob n)(hc:ev ρ c= .bool b)(hx:aO H F w D (ev ρ (if b=af then x else y))):eH P U H F w ρ ob n ⟨aa d, .pick c x y,ty,pos,aft,ae⟩ {dst:=D}:=by
 cases b with
 |true=>exact bx hs (zg hc rfl) hx
 |false=>exact bx hs (yv hc rfl) hx
def P2(E:Env P){rd:Operand->Option aN}(kA:∀x d,rd x=aa d->aO H F w d (ev ρ x)){objs:List (Nat×(Nat×Th))}{op:Op}{k:gY->Option R}{q:R}
 (Co:dst=ae->∀c,op= .call c->T6 c.callee=af)(h:T5 E rd objs n dst op k=aa q)(hs:aX U H F w (find objs) n):∃e,k e=aa q/\eH P U H F w ρ (find objs) n ⟨dst,op,ty,pos,aft,ae⟩ e:=by
 cases dst with
 |none=>
  unfold T5 at h;simp only at h;split at h
  .split at h
   case h_2=>cases h
   rename_i X hX;split at h
   case h_2=>cases h
   rename_i Y hY;exact IH E.T h hs (kA _ _ hX) (kA _ _ hY)
  .rename_i c;exact Bq E kA (Co rfl c rfl) h hs
  .split at h
   case h_2=>cases h
   rename_i M hM;split at h
   case h_2=>cases h
   rename_i X hX;split at h
   case h_2=>cases h
   rename_i Y hY;exact zL E.T h hs (kA _ _ hM) (kA _ _ hX) (kA _ _ hY)
  .cases h
 |some d=>
  unfold T5 at h;simp only at h;split at h
  .grind [MG]
  .grind [Fa]
  .split at h
   case h_2=>cases h
   rename_i C hC;split at h
   case h_2=>cases h
   rename_i b hb;split at h
   case h_2=>cases h
   rename_i D hD;refine⟨_,h,MW hs (qS hb (kA _ _ hC)) ?_⟩
   grind
  .exact My E.T h hs
  .split at h
   case h_2=>cases h
   rename_i X hX;exact Tx h hs (kA _ _ hX)
  .exact MC E.T kA h hs
  .exact II E.deep E.T kA h hs
  .split at h
   case h_2=>cases h
   rename_i X hX;exact MN E.T h hs (kA _ _ hX)
  .split at h
   .rename_i o p off hX;obtain⟨b,h1,h2⟩:=kA _ _ hX;exact⟨_,h,cZ hs (v:= .pointer (aa ⟨b,off,ae⟩)) (by simp[execOp,h2]) ⟨b,h1,rfl⟩⟩
   .rename_i o s r i z p off hX;have hd:=kA _ _ hX;obtain⟨g,o0,q,T,m,cap,l,_,_,_,_,h2⟩:=id hd;exact⟨_,h,cZ hs (v:= .pointer (aa ⟨g,o0+q*r.size+off,ae⟩)) (by simp[execOp,h2]) (by rw[<-h2];exact hd)⟩
   .rename_i o d i p off hX;have hd:=kA _ _ hX;obtain⟨g,o0,q,m,cap,_,_,h2⟩:=id hd;exact⟨_,h,cZ hs (v:= .pointer (aa ⟨g,o0+q*d.low.size+off,ae⟩)) (by simp[execOp,h2]) (by rw[<-h2];exact hd)⟩
   .rename_i r z hX;have hd:=kA _ _ hX;obtain⟨b,off,h2,_⟩:=id hd;exact⟨_,h,cZ hs (v:= .pointer (aa ⟨b,off,ae⟩)) (by simp[execOp,h2]) (by rw[<-h2];exact hd)⟩
   .cases h
  .split at h
   case h_2=>cases h
   rename_i X hX;split at h
   case h_2=>cases h
   rename_i Y hY;exact TD E.T h hs (kA _ _ hX) (kA _ _ hY)
  .grind [WR]
  .split at h
   case h_2=>cases h
   rename_i X hX;split at h
   case h_2=>cases h
   rename_i D hD;exact⟨_,h,PD E.T hD hs (kA _ _ hX)⟩
  .split at h
   case h_2=>cases h
   rename_i A hA;split at h
   case h_2=>cases h
   rename_i i hi;split at h
   case h_2=>cases h
   rename_i B hB;split at h
   case h_2=>cases h
   rename_i j hj;exact MM E.deep E.T h hs (kN hi (kA _ _ hA)) (kN hj (kA _ _ hB))
  .split at h
   case h_2=>cases h
   rename_i X hX;exact ME E.drop E.T kA h hs (kA _ _ hX)
  .split at h
   case h_2=>cases h
   rename_i X hX;split at h
   case h_2=>cases h
   rename_i D hD;exact⟨_,h,Mt E.T hD hs (kA _ _ hX)⟩
  .split at h
   case h_2=>cases h
   rename_i X hX;split at h
   case h_2=>cases h
   rename_i D hD;exact⟨_,h,IA E.T hD hs (kA _ _ hX)⟩
  .split at h
   case h_2=>cases h
   rename_i X hX;split at h
   case h_2=>cases h
   rename_i Y hY;split at h
   case h_2=>cases h
   rename_i i hi;exact Mu E.T h hs (kA _ _ hX) (kN hi (kA _ _ hY))
  .split at h
   case h_2=>cases h
   rename_i X hX;split at h
   case h_2=>cases h
   rename_i Y hY;split at h
   case h_2=>cases h
   rename_i k' i hi;exact IB E.T h hs (kA _ _ hX) (kN hi (kA _ _ hY))
  .grind [E9]
  .exact P1 E kA h hs
  .exact Du kA h hs
  .exact Dn E.deep E.T h hs
  .split at h
   case h_2=>cases h
   rename_i M hM;split at h
   case h_2=>cases h
   rename_i X hX;exact Fk E.T h hs (kA _ _ hM) (kA _ _ hX)
  .split at h
   case h_2=>cases h
   rename_i X hX;exact T4 E.T h hs (kA _ _ hX)
  .split at h
   case h_2=>cases h
   rename_i X hX;exact IX E.T h hs (kA _ _ hX)
  .cases h
end
def sQ(rd:Operand->Option aN)(x:Operand):List Nat:=
 match rd x with
 |some (.val _ t)=>t.owns
 |_=>[]
def Dv(rd:Operand->Option aN)(x:Operand):List Nat:=
 match rd x with
 |some (.val _ (.view o _ _ _))=>[o]
 |_=>[]
def KE(rd:Operand->Option aN):List Operand->List Nat
 |[]=>[]
 |x::xs=>sQ rd x++KE rd xs
def xl:Operand->Bool
 | .const (.slice ae 0 0)=>af
 |_=>ah
def KF(rd:Operand->Option aN):Op->List Nat
 | .store _ x y=>match rd x with
   |some (.elem ..)=>sQ rd y
   |_=>[]
 | .buildSlice _ _ ps=>KE rd (ps.toList.map (·.2))
 | .binOp .eql _ x y _=>bif xl y then[]else sQ rd x++sQ rd y
 | .binOp .neq _ x y _=>bif xl y then[]else sQ rd x++sQ rd y
 | .slice _ x _ _ _=>Dv rd x
 | .indexAddr _ x _=>Dv rd x
 | .call c=>match c.callee,c.args.toList with
   | .builtin .append,[_,y]=>Dv rd y
   |_,_=>[]
 | .mapUpdate _ _ _ y=>sQ rd y
 |_=>[]
def FJ(nt:Nat):Option Nat->Bool
 |some d=>art d nt
 |none=>af
def fnB(dst:Option Nat)(op:Op):Bool:=
 match dst with
 |some _=>af
 |none=>match op with
  | .call c=>T6 c.callee
  |_=>af
open Classical in
noncomputable def zU{α:Type}(a b:Option α):Option α:=if a=b then a else ae
def W4{α:Type}{a b:Option α}{q:α}(h:zU a b=aa q):a=aa q:=by
 grind [zU]
def Xa{α:Type}{a b:Option α}{q:α}(h:zU a b=aa q):b=aa q:=by
 grind [zU]
def P3{P:Program}(T:b7 P)(rd:Operand->Option aN)(ob:Nat->Option (Nat×Th)):Op->Option (Bool×Nat)
 | .binOp o t x y _=>match o with
   | .eql=>bif xl y then(match find T.und t with
     |some (.slice _)=>match rd x with
      |some X=>match yA ob X with
       |some (.read _ l)=>aa (ah,l.length)
       |some (.own _ _ _ _ l)=>aa (ah,l.length)
       |_=>ae
      |none=>ae
     |_=>ae)else ae
   | .neq=>bif xl y then(match find T.und t with
     |some (.slice _)=>match rd x with
      |some X=>match yA ob X with
       |some (.read _ l)=>aa (af,l.length)
       |some (.own _ _ _ _ l)=>aa (af,l.length)
       |_=>ae
      |none=>ae
     |_=>ae)else ae
   |_=>ae
 |_=>ae
def VY(objs:List (Nat×(Nat×Th))):Option aN->Bool
 |some (.val ah (.own o))=>match find objs o with
  |some (_, .dmap ..)=>af
  |_=>ah
 |_=>ah
def P4(rd:Operand->Option aN)(objs:List (Nat×(Nat×Th))):Op->List Nat
 | .mapUpdate t m x y=>bif VY objs (rd m)then[]else KF rd (.mapUpdate t m x y)
 | .lookup t m x ah=>bif VY objs (rd m)then sQ rd m else[]
 |op=>KF rd op
def vd{P:Program}(E:Env P)(rd:Operand->Option aN)(objs:List (Nat×(Nat×Th)))(op:Op):List Nat:=
 match E.deep,op with
 |true, .buildSlice .. =>[]
 |_,_=>P4 rd objs op
noncomputable def zV(st:State)(o:Nat):State:=
 match VU (find st.objs) st.nxt o with
 |some e=>st.apply ae e
 |none=>st
noncomputable def xZ(st:State):List Nat->State
 |[]=>st
 |o::os=>xZ (zV st o) os
def VZ:List (Nat×(Nat×Th))->Bool
 |[]=>ah
 |(_,(_, .deep _ _ _ (aa _)))::_=>af
 |(_,(_, .dmap _ _ _ _ _ (aa _)))::_=>af
 |_::l=>VZ l
noncomputable def sq(st:State):State:=
 match VZ st.objs with
 |true=>xZ (xZ st (st.objs.map (·.1))) (st.objs.map (·.1))
 |false=>st
def Z7:Op->Bool
 | .call c=>T6 c.callee
 |_=>ah
def Dw(o:Nat):List (Nat×(Nat×Th))->Bool
 |[]=>ah
 |(_,(_, .deep _ _ _ (aa h)))::l=>aqU h.o o||Dw o l
 |(_,(_, .dmap _ _ _ _ _ (aa h)))::l=>aqU h.2 o||Dw o l
 |_::l=>Dw o l
def T7(st:State)(x:Operand):Bool:=
 match Oz st.aK x with
 |some (.val _ (.own o))=>Dw o st.objs
 |_=>ah
def P5(st:State):Op->Bool
 | .call c=>c.args.toList.any (T7 st)
 |_=>ah
noncomputable def KG{R:Type}{P:Program}(E:Env P)(dst:Option Nat)(op:Op)(st:State)(k:State->Option R):Option R:=
 match hZ st.objs (vd E (Oz st.aK) st.objs op)with
 |some bC=>match P3 E.T (Oz st.aK) (find bC) op with
  |some (b,m)=>match dst with
   |some d=>if aqU m 0=af then zU (k (State.apply {st with objs:=bC} (aa d) {dst:=fR af})) (k (State.apply {st with objs:=bC} (aa d) {dst:=fR ah}))
     else k (State.apply {st with objs:=bC} (aa d) {dst:=fR b})
   |none=>ae
  |none=>bif fnB dst op then T5 E (Oz st.aK) bC st.nxt dst op (λe=>k (State.apply {st with objs:=bC} dst e))else ae
 |none=>ae
noncomputable def zW{R:Type}{P:Program}(E:Env P)(dst:Option Nat)(op:Op)(st:State)(k:State->Option R):Option R:=
 match E.deep&&Z7 op&& !P5 st op with
 |true=>KG E dst op (sq st) k
 |false=>KG E dst op st k
def KH(all:Array Oper)(j:Nat):Option Nat:=(all[j]?).bind (·.dst)
def State.put(st:State)(dst:Option Nat)(d:aN):State:=
 match dst with
 |some t=>{st with aK:=(t,d)::st.aK}
 |none=>st
def zX(dst:Option Nat)(kn:List (Nat×Bool)):List (Nat×Bool):=
 match dst with
 |some d=>del [d] kn
 |none=>kn
noncomputable def runs{R:Type}{P:Program}(E:Env P)(nt:Nat)(all:Array Oper):List Oper->List (Nat×Bool)->State->(State->Option R)->Option R
 |[],_,st,k=>k st
 |o::os,kn,st,k=>bif FJ nt o.dst then(match o.guard with
  |none=>zW E o.dst o.op st (λcV=>runs E nt all os (zX o.dst kn) cV k)
  |some (j,b)=>match KH all j with
   |none=>ae
   |some g=>bif art g nt then(match find kn g with
    |some v=>bif (bif v then b else !b)then zW E o.dst o.op st (λcV=>runs E nt all os (zX o.dst kn) cV k)else runs E nt all os (zX o.dst kn) (st.put o.dst .undef) k
    |none=>match find st.aK g with
     |some .undef=>runs E nt all os (zX o.dst kn) (st.put o.dst .undef) k
     |some d=>match asBool d with
      |some t=>if t=af then
        (bif b then zW E o.dst o.op (st.put (aa g) (fR af)) (λcV=>runs E nt all os (zX o.dst ((g,af)::kn)) cV k)
          else runs E nt all os (zX o.dst ((g,af)::kn)) ((st.put (aa g) (fR af)).put o.dst .undef) k)
       else
        (bif b then runs E nt all os (zX o.dst ((g,ah)::kn)) ((st.put (aa g) (fR ah)).put o.dst .undef) k
          else zW E o.dst o.op (st.put (aa g) (fR ah)) (λcV=>runs E nt all os (zX o.dst ((g,ah)::kn)) cV k))
      |none=>ae
     |none=>ae)else ae)else ae
section
variable {P:Program} {nt:Nat} {ops:Array Oper} {K:(Nat->Value)->World->Prop} {rest:List Oper} {R:Type}
variable {ρ:Nat->Value} {w w0:World} {H:aW} {F F0 G:Nat->Prop}
abbrev UU(G:Nat->Prop)(w0:World):Nat->Prop:=λk=>w0.heap.size<=k\/G k
def PM.o9{H':aW}{F':Nat->Prop}{w':World}{g:Nat->Prop}(hg:PM G w0 F0 w F)(he:SQ H F w H' F' w' g)(hu:∀k,g k->UU G w0 k):PM G w0 F0 w' F':=by
 have p9:=hg.ext.size;refine⟨⟨he.ext.os.trans hg.ext.os,he.ext.tape.trans hg.ext.tape,he.ext.output.trans hg.ext.output,Nat.le_trans p9 he.ext.size,λk hk hn=>?_⟩,λb hb=>he.le b (hg.le b hb),λb hb=>?_⟩
 .rw[he.ext.block k (by omega) λh=>?_]
  .exact hg.ext.block k hk hn
  grind
 .rcases he.grow b hb with h1|h1|h1
  .exact hg.new b h1
  all_goals grind
structure dJ(G:Nat->Prop)(w0:World)(F0:Nat->Prop)(H:aW)(F:Nat->Prop)(w:World)(ρ:Nat->Value)(st:State):Prop where
 sat:Sat (UU G w0) H F w ρ st
 glob:PM G w0 F0 w F
def dB.FK{H':aW}{F':Nat->Prop}{w':World}{g:Nat->Prop}(he:SQ H F w H' F' w' g)(hF:∀b,F b->b<w.heap.size)(hg:∀k,g k->¬F k):dB H F w H' F' w':=⟨he.mi,he.step hF hg⟩
def dJ.yx{st:State}{os:List Nat}{bC:List (Nat×(Nat×Th))}(h:dJ G w0 F0 H F w ρ st)(hf:hZ st.objs os=aa bC):
 ∃F',dJ G w0 F0 H F' w ρ {st with objs:=bC}/\dB H F w H F' w:=by
 obtain⟨F',a1,a2,a3⟩:=qX hf h.sat.ob
 have mf:Step F w F' w:=λb hb=>⟨a2 b hb,rfl⟩
 refine⟨F',⟨⟨λt d hd=>(h.sat.slot t d hd).keep (aW.le.refl H) mf,a1,h.sat.all⟩,⟨h.glob.ext,λb hb=>a2 b (h.glob.le b hb),λb hb=>?_⟩⟩,⟨aW.le.refl H,mf⟩⟩
 rcases a3 b hb with h1|h1
 .exact h.glob.new b h1
 .exact .inr (h.sat.ob.km b h1)
def I0{P:Program}{ρ:Nat->Value}{w:World}{o:BinOp}(fJ:o= .eql\/o= .neq){t u e:TypeId}{x y:Operand}{d:Nat}{ty:TypeId}{pos:String}{aft:Array Edge}(hu:P.underlying t=aa (.slice e)){A:Option Addr}{m c:Nat}(hx:ev ρ x= .slice A m c)(hy:ev ρ y= .slice ae 0 0):
 (execOp (ev ρ) ⟨aa d, .binOp o t x y u,ty,pos,aft,ae⟩).run P w= .ok (.value (.bool (bif decide (o= .eql)then A.isNone else !A.isNone))) w:=by
 have hm:Op.maxDepth=9999+1:=rfl
 have he:(Op.equal t (.slice A m c) (.slice ae 0 0)).run P w= .ok A.isNone w:=by
  unfold Op.equal;rw[hm];unfold Op.equalIn;rw[arf,run_underlying hu]
  cases A<;>rfl
 rcases fJ with rfl|rfl
 .simp[execOp,eqGuard,binOp,hx,hy,he]
 .simp[execOp,eqGuard,binOp,hx,hy,he]
def P6{P:Program}(T:b7 P){U:Nat->Prop}{H:aW}{F:Nat->Prop}{w:World}{ρ:Nat->Value}{n:Nat}{ob:Nat->Option (Nat×Th)}{rd:Operand->Option aN}(kA:∀x d,rd x=aa d->aO H F w d (ev ρ x))(hs:aX U H F w ob n){op:Op}{b:Bool}{m:Nat}(h:P3 T rd ob op=aa (b,m)){d:Nat}{ty:TypeId}{pos:String}{aft:Array Edge}:
 ∃r:Bool,(m≠0->r=b)/\(execOp (ev ρ) ⟨aa d,op,ty,pos,aft,ae⟩).run P w= .ok (.value (.bool r)) w:=by
 have isn:∀{y:Operand},xl y=af->ev ρ y= .slice ae 0 0:=by
  intro y hy;unfold xl at hy;split at hy
  .rfl
  .cases hy
 have key:∀{k:Pv}{v:Value},Tu U H F w ob v k->∀m,(match k with| .read _ l=>l.length=m| .own _ _ _ _ l=>l.length=m|_=>False)->∃A n c,v= .slice A n c/\(m≠0->A.isNone=ah):=by
  intro k v hk m hm
  cases k with
  |read r l=>
   obtain⟨A,cap,hv,_,_,h3⟩:=hk;simp only[arE,and_true]at hv;refine⟨A,_,cap,hv,λh0=>?_⟩;obtain⟨b,off,es,rfl,_⟩:=h3 0 (by dsimp only at hm;omega);rfl
  |own o s T r l=>
   obtain⟨xs,hx,_⟩:=hk.2.2.2
   rcases hx.2 with⟨rfl,h0⟩|⟨g,o0,cap,cur,rfl,_⟩
   all_goals grind
  |nil=>exact hm.elim
  |view o s r m=>exact hm.elim
  |deep=>exact hm.elim
 unfold P3 at h;split at h
 case h_2=>cases h
 rename_i o t x y u;split at h
 case h_3=>cases h
 all_goals
  obtain⟨hy,h⟩:=bz h;split at h
  case h_2=>cases h
  rename_i e hu;have hu:=T.und_ok _ _ hu;split at h
  case h_2=>cases h
  rename_i X hX;split at h
  case h_3=>cases h
  all_goals
   rename_i jq;obtain⟨rfl,rfl⟩:=Prod.mk.inj (aqL h);obtain⟨A,n',c,hv,hA⟩:=key (lj hs jq (kA _ _ hX)) _ rfl;refine⟨_,λh0=>?_,I0 (by grind) hu hv (isn hy)⟩;rw[hA h0];rfl
def dJ.zV{st:State}(h:dJ G w0 F0 H F w ρ st)(o:Nat):∃H' F',dJ G w0 F0 H' F' w ρ (zV st o)/\dB H F w H' F' w:=by
 unfold Go.Proofs.YtfjgcenlllgonaaGreatDoor.zV;split
 .rename_i e he;obtain⟨H',F',hp⟩:=IJ h.sat.ob he;have hs:=h.sat.apply (d:=ae) hp;exact⟨H',F',⟨hs,h.glob.o9 hp.o9 h.sat.ob.km⟩,dB.FK hp.o9 h.sat.ob.lt h.sat.ob.kJ⟩
 .exact⟨H,F,h,dB.refl H F w⟩
def dJ.xZ:{os:List Nat}->{st:State}->{H:aW}->{F:Nat->Prop}->dJ G w0 F0 H F w ρ st->∃H' F',dJ G w0 F0 H' F' w ρ (xZ st os)/\dB H F w H' F' w
 |[],_,H,F,h=>⟨H,F,h,dB.refl H F w⟩
 |o::os,st,H,F,h=>by
  obtain⟨H1,F1,h1,k1⟩:=h.zV o;obtain⟨H2,F2,h2,k2⟩:=dJ.xZ (os:=os) h1;exact⟨H2,F2,h2,k1.trans k2⟩
def dJ.sq{st:State}(h:dJ G w0 F0 H F w ρ st):∃H' F',dJ G w0 F0 H' F' w ρ (sq st)/\dB H F w H' F' w:=by
 unfold Go.Proofs.YtfjgcenlllgonaaGreatDoor.sq;split
 case h_2=>exact⟨H,F,h,dB.refl H F w⟩
 obtain⟨H1,F1,h1,k1⟩:=h.xZ (os:=st.objs.map (·.1));obtain⟨H2,F2,h2,k2⟩:=h1.xZ (os:=st.objs.map (·.1));exact⟨H2,F2,h2,k1.trans k2⟩
def FL{E:Env P}{dst:Option Nat}{op:Op}{ty:TypeId}{pos:String}{aft:Array Edge}{st:State}{k:State->Option R}{q:R}(h:KG E dst op st k=aa q)(hd:FJ nt dst=af)(hh:dJ G w0 F0 H F w ρ st)
 (hk:∀cV H' F' w' di,k cV=aa q->dJ G w0 F0 H' F' w' di cV->dB H F w H' F' w'->(∀t,dst≠aa t->di t=ρ t)->wpS P nt ops K rest di w'):wpS P nt ops K (⟨dst,op,ty,pos,aft,ae⟩::rest) ρ w:=by
 unfold KG at h;split at h
 case h_2=>cases h
 rename_i bC Bn;obtain⟨F1,uA,MX⟩:=hh.yx Bn;split at h
 .rename_i b m hn;split at h
  case h_2=>cases h
  rename_i d;obtain⟨r,hr,cO⟩:=P6 E.T (ρ:=ρ) (d:=d) (ty:=ty) (pos:=pos) (aft:=aft) (λx d hx=>zr uA.sat.ob.gl uA.sat.slot x d hx) uA.sat.ob hn
  have hkr:k (State.apply {st with objs:=bC} (aa d) {dst:=fR r})=aa q:=by
   split at h
   .cases r with
    |true=>exact W4 h
    |false=>exact Xa h
   .simp_all
  have P7:eH P (UU G w0) H F1 w ρ (find bC) st.nxt ⟨aa d,op,ty,pos,aft,ae⟩ {dst:=fR r}:=cZ uA.sat.ob cO (bB.kM ..)
  refine EV P7 (λd' HS=>by rw[HS]at hd;exact hd) λv w' ⟨H',F',hp⟩=>?_
  have hs:=uA.sat.apply (d:=aa d) hp
  refine hk _ H' F' w' _ hkr ⟨hs,uA.glob.o9 hp.o9 uA.sat.ob.km⟩ (MX.trans (dB.FK hp.o9 uA.sat.ob.lt uA.sat.ob.kJ)) λt ht=>?_
  show Ih ρ d v t=ρ t
  rw[sH,aj (λe=>ht (by rw[e]))]
 obtain⟨Co,h'⟩:=bz h;clear h;obtain⟨e,he,P7⟩:=P2 (ρ:=ρ) (ty:=ty) (pos:=pos) (aft:=aft) E (λx d hx=>zr uA.sat.ob.gl uA.sat.slot x d hx) (λhn c hc=>by subst hn;subst hc;exact Co) h' uA.sat.ob
 refine EV P7 (λd HS=>by rw[HS]at hd;exact hd) λv w' ⟨H',F',hp⟩=>?_
 have hs:=uA.sat.apply (d:=dst) hp
 refine hk _ H' F' w' _ he ⟨hs,uA.glob.o9 hp.o9 uA.sat.ob.km⟩ (MX.trans (dB.FK hp.o9 uA.sat.ob.lt uA.sat.ob.kJ)) λt ht=>?_
 cases dst with
 |none=>rfl
 |some d=>
  show Ih ρ d v t=ρ t
  rw[sH,aj (λe=>ht (by rw[e]))]
def P8{E:Env P}{dst:Option Nat}{op:Op}{ty:TypeId}{pos:String}{aft:Array Edge}{st:State}{k:State->Option R}{q:R}(h:zW E dst op st k=aa q)(hd:FJ nt dst=af)(hh:dJ G w0 F0 H F w ρ st)
 (hk:∀cV H' F' w' di,k cV=aa q->dJ G w0 F0 H' F' w' di cV->dB H F w H' F' w'->(∀t,dst≠aa t->di t=ρ t)->wpS P nt ops K rest di w'):wpS P nt ops K (⟨dst,op,ty,pos,aft,ae⟩::rest) ρ w:=by
 unfold zW at h;split at h
 .obtain⟨H1,F1,h1,k1⟩:=hh.sq
  exact FL h hd h1 λcV H' F' w' di a b c d=>hk cV H' F' w' di a b (k1.trans c) d
 .exact FL h hd hh hk
def dJ.put{st:State}{dst:Option Nat}{d:aN}{v:Value}(h:dJ G w0 F0 H F w ρ st)(hd:aO H F w d v):dJ G w0 F0 H F w (yy ρ dst v) (st.put dst d):=by
 refine⟨⟨λt q hq=>?_,?_,by cases dst<;>exact h.sat.all⟩,h.glob⟩
 .cases dst with
  |none=>exact h.sat.slot t q hq
  |some s=>
   have sC:find ((s,d)::st.aK) t=aa q:=hq;rw[bA]at sC
   show aO H F w q (Ih ρ s v t)
   rw[sH];by_cases e:s=t
   .grind
   .rw[aj e]at sC;rw[aj (Ne.symm e)];exact h.sat.slot t q sC
 .cases dst<;>exact h.sat.ob
def dJ.lit{st:State}{g:Nat}{d:aN}(h:dJ G w0 F0 H F w ρ st)(hd:aO H F w d (ρ g)):dJ G w0 F0 H F w ρ (st.put (aa g) d):=by
 refine⟨⟨λt q hq=>?_,h.sat.ob,h.sat.all⟩,h.glob⟩;have sC:find ((g,d)::st.aK) t=aa q:=hq;rw[bA]at sC;split at sC
 .grind
 .exact h.sat.slot t q sC
def vU(ρ:Nat->Value)(kn:List (Nat×Bool)):Prop:=∀g b,find kn g=aa b->ρ g= .bool b
theorem vU.del{di:Nat->Value}{dst:Option Nat}{kn:List (Nat×Bool)}(h:vU ρ kn)(T8:∀t,dst≠aa t->di t=ρ t):vU di (zX dst kn):=by
 intro g b hg
 cases dst with
 |none=>rw[T8 g (by simp)];exact h g b hg
 |some d=>
  obtain⟨h1,h2⟩:=kI.1 hg;rw[T8 g (λe=>h1 (by simp[aqL e]))];exact h g b h2
def vU.cons{kn:List (Nat×Bool)}{g:Nat}{b:Bool}(h:vU ρ kn)(hb:ρ g= .bool b):vU ρ ((g,b)::kn):=by
 intro g' b' hg;rw[bA]at hg;split at hg
 .grind
 .exact h g' b' hg
def ua{dst:Option Nat}{v:Value}{t:Nat}(h:dst≠aa t):yy ρ dst v t=ρ t:=by
 cases dst with
 |none=>rfl
 |some d=>
  show Ih ρ d v t=ρ t
  grind [sH]
def Dx{E:Env P}{q:R}:{l:List Oper}->{kn:List (Nat×Bool)}->{st:State}->{k:State->Option R}->{H:aW}->{F:Nat->Prop}->{w:World}->{ρ:Nat->Value}->runs E nt ops l kn st k=aa q->vU ρ kn->dJ G w0 F0 H F w ρ st->
 (∀cV H' F' w' di,k cV=aa q->dJ G w0 F0 H' F' w' di cV->dB H F w H' F' w'->(∀t,(∀o∈l,o.dst≠aa t)->di t=ρ t)->K di w')->wpS P nt ops K l ρ w
 |[],kn,st,k,H,F,w,ρ,h,_,hh,hk=>Tf (hk st H F w ρ h hh (dB.refl H F w) λ_ _=>rfl)
 |o::l,kn,st,k,H,F,w,ρ,h,Bb,hh,hk=>by
  unfold runs at h;obtain⟨hd,h'⟩:=bz h;clear h
  have hdb:∀d,o.dst=aa d->art d nt=af:=λd e=>by rw[e]at hd;exact hd
  have on:∀{q6:State}{Xb:List (Nat×Bool)},zW E o.dst o.op q6 (λcV=>runs E nt ops l (zX o.dst Xb) cV k)=aa q->vU ρ Xb->dJ G w0 F0 H F w ρ q6->wpS P nt ops K (⟨o.dst,o.op,o.type,o.pos,o.after,ae⟩::l) ρ w:=by
   intro q6 Xb hs P9 uA
   refine P8 hs hd uA λcV H' F' w' di e1 e2 e3 e4=>?_
   refine Dx e1 (P9.del e4) e2 λQa H2 F2 w2 ρ2 f1 f2 f3 f4=>?_
   exact hk Qa H2 F2 w2 ρ2 f1 f2 (e3.trans f3) (by grind)
  have off:∀{q6:State}{Xb:List (Nat×Bool)},runs E nt ops l (zX o.dst Xb) (q6.put o.dst .undef) k=aa q->vU ρ Xb->dJ G w0 F0 H F w ρ q6->wpS P nt ops K l (yy ρ o.dst undef) w:=by
   intro q6 Xb hs P9 uA
   refine Dx hs (P9.del λt ht=>ua ht) (uA.put rfl) λQa H2 F2 w2 ρ2 f1 f2 f3 f4=>?_
   exact hk Qa H2 F2 w2 ρ2 f1 f2 f3 λt ht=>(f4 t λo' oY=>ht o' (by simp[oY])).trans (ua (ht o (by simp)))
  obtain⟨dst,op,ty,pos,aft,guard⟩:=o;simp only at h' on off hdb;split at h'
  .exact on h' Bb hh
  .rename_i j b;split at h'
   case h_1=>cases h'
   rename_i g V0;obtain⟨V1,h⟩:=bz h';clear h'
   have wOn:ρ g= .bool b->wpS P nt ops K (⟨dst,op,ty,pos,aft,ae⟩::l) ρ w->wpS P nt ops K (⟨dst,op,ty,pos,aft,aa (j,b)⟩::l) ρ w:=λhb hw=>WD g V0 V1 hb hw
   have alF:∀b',ρ g= .bool b'->b'≠b->wpS P nt ops K l (yy ρ dst undef) w->wpS P nt ops K (⟨dst,op,ty,pos,aft,aa (j,b)⟩::l) ρ w:=λb' hb dG hw=>by
    cases dst with
    |none=>exact C5 g V0 V1 hb dG hw
    |some d=>exact Tg g V0 V1 hb dG (hdb d rfl) hw
   split at h
   .rename_i v hv;have hgv:=Bb g v hv
    grind
   .split at h
    .rename_i hu;have hgu:ρ g=undef:=hh.sat.slot _ _ hu
     cases dst with
     |none=>exact Bf g V0 V1 hgu (off h Bb hh)
     |some d=>exact ON g V0 V1 hgu (hdb d rfl) (off h Bb hh)
    .rename_i d HS;split at h
     case h_2=>cases h
     rename_i t ht;have hgt:=qS ht (hh.sat.slot _ _ HS);split at h
     .rename_i T9;subst T9;have uA:dJ G w0 F0 H F w ρ (st.put (aa g) (fR af)):=hh.lit (by rw[hgt];exact bB.kM ..);have P9:=Bb.cons hgt
      grind
     .rename_i T9
      have T9:t=ah:=by cases t<;>simp_all
      subst T9;have uA:dJ G w0 F0 H F w ρ (st.put (aa g) (fR ah)):=hh.lit (by rw[hgt];exact bB.kM ..);have P9:=Bb.cons hgt
      grind
    .cases h
end
end
end Go.Proofs.YtfjgcenlllgonaaGreatDoor
