/- Joined texts: Pack2 Call Call2 Ifc. -/
import Derived.Test.YtlfjlhcigpejdaaGreatDoorU3
section
open _root_.List renaming append_assoc->Yy
open _root_.Nat renaming beq->Yb,blt->YM,eq_of_beq_eq_true->YR,le_refl->Yd,lt_or_ge->YN
open _root_.Option renaming none_or->Zi
open _root_.Option.some renaming inj->X7,injEq->Ye
open _root_.Prod.mk renaming injEq->YW
open _root_.Go.Value renaming ownBlock->YE
namespace Go.Proofs.YtlfjlhcigpejdaaGreatDoor
open Go Go.RowKit
def dp(objs:List (Nat×(Nat×Th))):List Nat->Option (List (Nat×(Nat×Th)))
 |[]=>some objs
 |o::os=>match find objs o with
  |some (s, .own T r l)=>dp ((o,(s, .oe T r l))::del [o] objs) os
  |some (s, .map T K agg V l)=>dp ((o,(s, .fmap T K agg V l))::del [o] objs) os
  |some (s, .deep T d l none)=>dp ((o,(s, .fdeep T d l))::del [o] objs) os
  |some (s, .dmap T K E r l none)=>dp ((o,(s, .fdmap T K E r l))::del [o] objs) os
  |some (_, .oe ..)=>dp objs os
  |some (_, .fmap ..)=>dp objs os
  |some (_, .fdeep ..)=>dp objs os
  |some (_, .fdmap ..)=>dp objs os
  |_=>none
def cV:Th->Bool
 | .oe .. =>true
 | .fmap .. =>true
 | .fdeep .. =>true
 | .fdmap .. =>true
 |_=>false
structure J0(t t':Th):Prop where
 froz:cV t'=true
 base:t'.base=t.base
 fp:∀S v k,¬fp S v t' k
 ok:∀{H:ao}{F:Nat->Prop}{w:World}{S:Nat->Prop}{v:Value},(∀k,Go.Proofs.YtlfjlhcigpejdaaGreatDoor.fp S v t k->¬F k)->fy H F w S v t->fy H (fun b=>F b\/Go.Proofs.YtlfjlhcigpejdaaGreatDoor.fp S v t b) w S v t'
structure bD(H:ao)(F:Nat->Prop)(w:World)(H':ao)(F':Nat->Prop)(w':World):Prop where
 fP:H.le H'
 step:Step F w F' w'
theorem bD.refl(H:ao)(F:Nat->Prop)(w:World):bD H F w H F w:=⟨ao.le.refl H,Step.refl F w⟩
theorem bD.trans{H H' og:ao}{F F' vM:Nat->Prop}{w w' o6:World}(h:bD H F w H' F' w')(k:bD H' F' w' og vM o6):bD H F w og vM o6:=⟨h.fP.trans k.fP,h.step.trans k.step⟩
structure D7(G:Nat->Prop)(w0:World)(F0:Nat->Prop)(w:World)(F:Nat->Prop):Prop where
 ext:Ext G w0 w
 le:∀b,F0 b->F b
 new:∀b,F b->F0 b\/w0.heap.size<=b\/G b
section
variable {U:Nat->Prop} {H:ao} {F:Nat->Prop} {w:World} {n:Nat}
theorem Gs(T:TypeId)(r:Row)(l:List r.den):J0 (.own T r l) (.oe T r l) where
 froz:=rfl
 base:=rfl
 fp _ _ _ h:=h
 ok hn h:=gY.freeze (base:=0) (T:=T) (l:=l) ⟨hn,h⟩
theorem Gt(T:TypeId)(K:Row)(agg:Bool)(V:Row)(l:List (K.den×V.den)):J0 (.map T K agg V l) (.fmap T K agg V l) where
 froz:=rfl
 base:=rfl
 fp _ _ _ h:=h
 ok {H F w S v} _ h:=by
  obtain⟨b,es,clock,h1,h2,h3,h4⟩:=h;obtain⟨g1,g2⟩:=zC h4;refine⟨v,rfl, .inr ⟨b,es,clock,h1, .inr h1,h2,h3,by simpa using g1,fun i hi=>?_⟩⟩;obtain⟨e,cs,q1,q2,q3,q4,q5⟩:=g2 i hi;exact⟨e,cs,by simpa using q1,q2,q3.step (Step.freeze F w _),q4,q5⟩
theorem gP.gU{F:Nat->Prop}{w:World}{T:TypeId}{r:Row}{v:Value}{l:List r.den}(h:gP F w T r v l):bH F w .gU [v] v:=by
 obtain⟨xs,⟨_,h⟩,_⟩:=h
 rcases h with⟨rfl,_⟩|⟨gg,o0,cap,gi,rfl,_⟩<;>exact⟨rfl,_,_,_,rfl⟩
theorem D8(T:TypeId)(d:DR)(l:List d.row.den):J0 (.deep T d l none) (.fdeep T d l) where
 froz:=rfl
 base:=rfl
 fp _ _ _ h:=h
 ok {H F w S v} hn h:=by
  have h':gu F w (.sl T d) v l S:=h;obtain⟨lh,Ss,h1,_⟩:=h;exact gu.freeze h' hn h1.gU
theorem D9(T:TypeId)(K:Row)(E:TypeId)(r:Row)(l:List (K.den×List r.den)):J0 (.dmap T K E r l none) (.fdmap T K E r l) where
 froz:=rfl
 base:=rfl
 fp _ _ _ h:=h
 ok {H F w S v} hn h:=by
  obtain⟨b,es,clock,B,h1,h2,h3,h4,h5,_⟩:=h;obtain⟨g1,g2⟩:=vI h4;refine⟨v,rfl, .inr ⟨b,es,clock,h1, .inr (h5.left b rfl),h2,h3,by simpa using g1,fun i hi=>?_⟩⟩;obtain⟨e,A,q1,q2,q3,q4⟩:=g2 i hi
  have Gj:∀k,A k->S k:=fun k hk=>h5.right k (q4 k hk)
  have hf:=gY.freeze (base:=0) (T:=E) (l:=l[i].2) ⟨fun k hk=>hn k (Gj k ((q3.2 k).2 hk)),q3.1⟩;exact⟨e,[e.val],by simpa using q1,q2,hf.step (r:= .slice r) fun k hk=>⟨hk.imp id fun h=>Gj k ((q3.2 k).2 h),rfl⟩,rfl,fun _=>rfl⟩
theorem Gu{objs:List (Nat×(Nat×Th))}{o s:Nat}{t0 t1:Th}(hf:J0 t0 t1)(hs:aq U H F w (find objs) n)(ho:find objs o=some (s,t0)):
 ∃F',aq U H F' w (find ((o,(s,t1))::del [o] objs)) n/\(∀b,F b->F' b)/\(∀b,F' b->F b\/∃v,H.val o=some v/\fp (H.sub s) v t0 b):=by
 obtain⟨v,hv,bO⟩:=hs.obj _ _ _ ho;refine⟨fun b=>F b\/fp (H.sub s) v t0 b,?_,fun _ h=> .inl h,fun b hb=>hb.imp id fun hm=>⟨v,hv,hm⟩⟩
 have part:∀o' s' t',find ((o,(s,t1))::del [o] objs) o'=some (s',t')->(o'=o/\s'=s/\t'=t1)\/(o'≠o/\find objs o'=some (s',t')):=by
  intro o' s' t' h;rw[aw]at h;split at h
  .rename_i e;simp only[Ye,YW]at h;exact .inl ⟨e.symm,h.1.symm,h.2.symm⟩
  .rename_i e;exact .inr ⟨fun e'=>e e'.symm,(e8.1 h).2⟩
 have fz:Step F w (fun b=>F b\/fp (H.sub s) v t0 b) w:=Step.freeze F w _;refine⟨fun o' s' t' h=>?_,fun o1 o2 s1 s2 SH t2 v1 v2 bu h1 h2 e1 e2 k hk cx=>?_,hs.fresh,fun b hb=>hb.elim (hs.lt b) (bO.lt b),hs.new,hs.gl.step fz⟩
 .rcases part o' s' t' h with⟨rfl,rfl,rfl⟩|⟨bu,h'⟩
  .exact⟨v,hv,bO.one,by rw[hf.base];exact bO.con,hf.ok bO.no bO.ok,fun k hk=>(hf.fp _ _ _ hk).elim,fun k hk=>(hf.fp _ _ _ hk).elim,fun k hk=>(hf.fp _ _ _ hk).elim⟩
  .obtain⟨v',cy,vN⟩:=hs.obj _ _ _ h';refine⟨v',cy,vN.one,vN.con,vN.ok.heap (ao.le.refl H) fz fun _ _=>rfl,fun k hk hF=>?_,vN.lt,vN.use⟩
   rcases hF with hF|hF
   .exact vN.no k hk hF
   .exact hs.apart _ _ _ _ _ _ _ _ bu h' ho cy hv k hk hF
 .rcases part o1 s1 SH h1 with⟨rfl,rfl,rfl⟩|⟨SI,rN⟩
  .exact hf.fp _ _ _ hk
  .rcases part o2 s2 t2 h2 with⟨rfl,rfl,rfl⟩|⟨SJ,F9⟩
   .exact hf.fp _ _ _ cx
   .exact hs.apart _ _ _ _ _ _ _ _ bu rN F9 e1 e2 k hk cx
theorem jU:{os:List Nat}->{F:Nat->Prop}->{objs jv:List (Nat×(Nat×Th))}->dp objs os=some jv->aq U H F w (find objs) n->
 ∃F',aq U H F' w (find jv) n/\(∀b,F b->F' b)/\(∀b,F' b->F b\/bx H (find objs) os b)
 |[],F,objs,jv,h,hs=>by obtain rfl:=X7 h;exact⟨F,hs,fun _ h=>h,fun _ h=> .inl h⟩
 |o::os,F,objs,jv,h,hs=>by
  have main:∀s t t',J0 t t'->find objs o=some (s,t)->dp ((o,(s,t'))::del [o] objs) os=some jv->
   ∃F',aq U H F' w (find jv) n/\(∀b,F b->F' b)/\(∀b,F' b->F b\/bx H (find objs) (o::os) b):=by
   intro s t t' hf ho h;obtain⟨F1,a1,a2,a3⟩:=Gu hf hs ho;obtain⟨F2,b1,b2,b3⟩:=jU h a1;refine⟨F2,b1,fun b hb=>b2 b (a2 b hb),fun b hb=>?_⟩
   rcases b3 b hb with h1|⟨o',iJ,s',t',v,h1,h2,h3⟩
   .rcases a3 b h1 with h2|⟨v,hv,hm⟩
    .exact .inl h2
    .exact .inr ⟨o,by simp,s,_,v,ho,hv,hm⟩
   .rw[aw]at h1;split at h1
    .simp only[Ye,YW]at h1;rw[<-h1.2]at h3;exact(hf.fp _ _ _ h3).elim
    .exact .inr ⟨o',by simp[iJ],s',t',v,(e8.1 h1).2,h2,h3⟩
  have same:dp objs os=some jv->∃F',aq U H F' w (find jv) n/\(∀b,F b->F' b)/\(∀b,F' b->F b\/bx H (find objs) (o::os) b):=by
   intro h;obtain⟨F2,b1,b2,b3⟩:=jU h hs;exact⟨F2,b1,b2,fun b hb=>(b3 b hb).imp id fun⟨o',iJ,rest⟩=>⟨o',by simp[iJ],rest⟩⟩
  unfold dp at h;split at h
  .rename_i ho;exact main _ _ _ (Gs ..) ho h
  .rename_i ho;exact main _ _ _ (Gt ..) ho h
  .rename_i ho;exact main _ _ _ (D8 ..) ho h
  .rename_i ho;exact main _ _ _ (D9 ..) ho h
  .exact same h
  .exact same h
  .exact same h
  .exact same h
  .cases h
end
theorem eK{S:Nat->Prop}{v:Value}{t:Th}{k:Nat}(h:cV t=true)(hk:fp S v t k):False:=by
 cases t<;>first|(exact hk)|(cases h)
theorem fh:{os:List Nat}->{objs jv:List (Nat×(Nat×Th))}->dp objs os=some jv->∀o s t,find jv o=some (s,t)->
 find objs o=some (s,t)\/cV t=true
 |[],objs,jv,h,o,s,t,ho=>by obtain rfl:=X7 h;exact .inl ho
 |o0::os,objs,jv,h,o,s,t,ho=>by
  have main:∀s0 t1,cV t1=true->dp ((o0,(s0,t1))::del [o0] objs) os=some jv->find objs o=some (s,t)\/cV t=true:=by
   intro s0 t1 hf h
   rcases fh h o s t ho with h1|g
   .rw[aw]at h1;split at h1
    .simp only[Ye,YW]at h1;obtain⟨rfl,rfl⟩:=h1;exact .inr hf
    .exact .inl (e8.1 h1).2
   .exact .inr g
  unfold dp at h;split at h
  .exact main _ _ rfl h
  .exact main _ _ rfl h
  .exact main _ _ rfl h
  .exact main _ _ rfl h
  .exact fh h o s t ho
  .exact fh h o s t ho
  .exact fh h o s t ho
  .exact fh h o s t ho
  .cases h
inductive Sh where
 |leaf (r:Row)
 |own (j:Nat)
 |nil
 |pair (a b:Sh)
 |junk (n:Nat)
inductive SS where
 |val (agg:Bool) (t:Sh)
 |ptr (j:Nat) (p:List Bool) (off:Nat)
 |at (r:Row)
 |undef
 |fn (f:FuncId) (js:List (Nat×List Bool×Nat))
 |ifc (T:TypeId) (s:SS)
inductive OS where
 |box (T:TypeId) (t:Sh)
 |own (T:TypeId) (r:Row)
 |map (T:TypeId) (K:Row) (agg:Bool) (V:Row)
 |deep (T:TypeId) (d:DR)
 |dmap (T:TypeId) (K:Row) (E:TypeId) (r:Row)
structure JS where
 ah:List (Nat×SS)
 objs:List (Nat×OS):=[]
 drop:List Nat:=[]
 nxt:Nat
def Sh.rows:Sh->List Row
 | .leaf r=>[r]
 | .own _=>[]
 | .nil=>[]
 | .pair a b=>a.rows++b.rows
 | .junk _=>[]
def SS.rows:SS->List Row
 | .val _ t=>t.rows
 | .ptr .. =>[]
 | .at r=>[r]
 | .undef=>[]
 | .fn .. =>[]
 | .ifc _ s=>s.rows
def OS.rows:OS->List Row
 | .box _ t=>t.rows
 | .own _ r=>[.slice r]
 | .map _ K _ V=>[.slice (.pair K V)]
 | .deep _ d=>[.slice d.row]
 | .dmap _ K _ r=>[.slice (.pair K (.slice r))]
def vO:List (Nat×SS)->List Row
 |[]=>[]
 |p::l=>p.2.rows++vO l
def zE:List (Nat×OS)->List Row
 |[]=>[]
 |p::l=>p.2.rows++zE l
def JS.rows(J:JS):List Row:=vO J.ah++zE J.objs
abbrev gO:=(r:Row)×r.den
@[reducible] def bA:List Row->Type
  |[]=>Unit
  |[r]=>r.den
  |r::s::rs=>r.den×bA (s::rs)
def dh:(rs:List Row)->bA rs->List gO
 |[],_=>[]
 |[r],x=>[⟨r,x⟩]
 |r::s::rs,x=>⟨r,x.1⟩::dh (s::rs) x.2
def vP:(rs:List Row)->List gO->Option (bA rs)
 |[],[]=>some ()
 |[r],[⟨s,x⟩]=>if h:s.beq r=true then some (fK (Row.eq_of_beq h) x)else none
 |r::r'::rs,⟨s,x⟩::vs=>if h:s.beq r=true then(match vP (r'::rs) vs with
  |some y=>some (fK (Row.eq_of_beq h) x,y)
  |none=>none)else none
 |_,_=>none
theorem sG{r s:Row}(h:s=r)(x:s.den):(⟨r,fK h x⟩:gO)=⟨s,x⟩:=by subst h;rfl
theorem pb:{rs:List Row}->{vs:List gO}->{x:bA rs}->vP rs vs=some x->dh rs x=vs
 |[],[],x,_=>rfl
 |[],_::_,_,h=>by cases h
 |[r],[],_,h=>by cases h
 |[r],[⟨s,x⟩],y,h=>by
  unfold vP at h;split at h
  .rename_i hb;obtain rfl:=X7 h
   show[(⟨r,_⟩:gO)]=_
   rw[sG]
  .cases h
 |[r],_::_::_,_,h=>by cases h
 |r::r'::rs,[],_,h=>by cases h
 |r::r'::rs,⟨s,x⟩::vs,y,h=>by
  unfold vP at h;split at h
  .rename_i hb;split at h
   .rename_i z hz;obtain rfl:=X7 h;have:=pb hz
    show(⟨r,_⟩:gO)::dh (r'::rs) z=_
    rw[sG,this]
   .cases h
  .cases h
def k8:Sh->List gO->Tree×List gO
 | .leaf r,⟨s,x⟩::vs=>(bif s.beq r then .leaf s x else .nil,vs)
 | .leaf _,[]=>(.nil,[])
 | .own j,vs=>(.own j,vs)
 | .nil,vs=>(.nil,vs)
 | .pair a b,vs=>(.pair (k8 a vs).1 (k8 b (k8 a vs).2).1,(k8 b (k8 a vs).2).2)
 | .junk n,vs=>(.junk n,vs)
def c9:SS->List gO->aj×List gO
 | .val agg t,vs=>(.val agg (k8 t vs).1,(k8 t vs).2)
 | .ptr j p off,vs=>(.ptr j p off,vs)
 | .at r,⟨s,x⟩::vs=>(bif s.beq r then .at s x else .dead,vs)
 | .at _,[]=>(.dead,[])
 | .undef,vs=>(.undef,vs)
 | .fn f js,vs=>(.fn f js,vs)
 | .ifc T s,vs=>(.ifc T (c9 s vs).1,(c9 s vs).2)
def cD:List (Nat×SS)->List gO->List (Nat×aj)×List gO
 |[],vs=>([],vs)
 |(t,s)::l,vs=>((t,(c9 s vs).1)::(cD l (c9 s vs).2).1,(cD l (c9 s vs).2).2)
def bX:OS->List gO->Th×List gO
 | .box T t,vs=>(.box T (k8 t vs).1,(k8 t vs).2)
 | .own T r,⟨.slice s,l⟩::vs=>(bif s.beq r then .own T s l else .own T r [],vs)
 | .own T r,vs=>(.own T r [],vs)
 | .map T K agg V,⟨.slice (.pair K' V'),l⟩::vs=>(if h:K'.beq K=true/\V'.beq V=true then .map T K agg V (fK (r:= .slice (.pair K' V')) (s:= .slice (.pair K V)) (by rw[Row.eq_of_beq h.1,Row.eq_of_beq h.2]) l)else .map T K agg V [],vs)
 | .map T K agg V,vs=>(.map T K agg V [],vs)
 | .deep T d,⟨.slice s,l⟩::vs=>(if h:s.beq d.row=true then .deep T d (fK (r:= .slice s) (s:= .slice d.row) (congrArg Row.slice (Row.eq_of_beq h)) l) none else .deep T d [] none,vs)
 | .deep T d,vs=>(.deep T d [] none,vs)
 | .dmap T K E r,⟨.slice (.pair K' (.slice s)),l⟩::vs=>(if h:K'.beq K=true/\s.beq r=true then .dmap T K E r (fK (r:= .slice (.pair K' (.slice s))) (s:= .slice (.pair K (.slice r))) (by rw[Row.eq_of_beq h.1,Row.eq_of_beq h.2]) l) none else .dmap T K E r [] none,vs)
 | .dmap T K E r,vs=>(.dmap T K E r [] none,vs)
def gz(m:Nat):List (Nat×OS)->List gO->List (Nat×(Nat×Th))
 |[],_=>[]
 |(j,s)::l,vs=>(j,(m,(bX s vs).1))::gz (m+1) l (bX s vs).2
abbrev Bs:=List (Nat×Option Nat)
def yd:Option Nat->Option Nat->Bool
 |some a,some b=>Yb a b
 |none,none=>true
 |_,_=>false
theorem sH{a b:Option Nat}(h:yd a b=true):a=b:=by
 cases a<;>cases b<;>first|rfl|cases h|(rw[beq_true h])
def sI(bs:Bs)(j:Nat)(v:Option Nat):Option Bs:=
 match find bs j with
 |none=>some ((j,v)::bs)
 |some u=>bif yd u v then some bs else none
def xz(ob:Nat->Option (Nat×Th)):Sh->Tree->Bs->Option (List gO×Bs)
 | .leaf r,t,bs=>match flat ob r t with
   |some x=>some ([⟨r,x⟩],bs)
   |none=>none
 | .own j, .own o,bs=>match sI bs j (some o)with
   |some eg=>some ([],eg)
   |none=>none
 | .own j, .nil,bs=>match sI bs j none with
   |some eg=>some ([],eg)
   |none=>none
 | .nil, .nil,bs=>some ([],bs)
 | .junk n,t,bs=>bif Yb t.size n then some ([],bs)else none
 | .pair a b,t,bs=>match t.split with
   |some (x,y)=>match xz ob a x bs with
    |some (vs,ye)=>match xz ob b y ye with
     |some (us,zF)=>some (vs++us,zF)
     |none=>none
    |none=>none
   |none=>none
 |_,_,_=>none
def oz:List (Nat×List Bool×Nat)->List (Nat×List Bool×Nat)->Bs->Option Bs
 |[],[],bs=>some bs
 |(j,_,off)::js,(o,_,cF)::cs,bs=>bif Yb off cF then(match sI bs j (some o)with
  |some eg=>oz js cs eg
  |none=>none)else none
 |_,_,_=>none
def Ea(ob:Nat->Option (Nat×Th))(s:SS)(d:aj)(bs:Bs):Option (List gO×Bs):=
 match s,d with
 | .val agg sh, .val ix t=>bif (bif agg then ix else !ix)then xz ob sh t bs else none
 | .ptr j _ off, .ptr o _ cF=>bif Yb off cF then(match sI bs j (some o)with
   |some eg=>some ([],eg)
   |none=>none)else none
 | .at r, .at s x=>if h:s.beq r=true then some ([⟨r,fK (Row.eq_of_beq h) x⟩],bs)else none
 | .undef, .undef=>some ([],bs)
 | .fn f js, .fn f' cs=>bif Yb f f' then(match oz js cs bs with
   |some eg=>some ([],eg)
   |none=>none)else none
 |_,_=>none
def BA(ob:Nat->Option (Nat×Th)):SS->aj->Bs->Option (List gO×Bs)
 | .ifc T s,d,bs=>match d with
   | .ifc T' d'=>bif Yb T T' then BA ob s d' bs else none
   |_=>none
 |s,d,bs=>Ea ob s d bs
def J1(ob:Nat->Option (Nat×Th))(ah:List (Nat×aj)):List (Nat×SS)->Bs->Option (List gO×Bs)
 |[],bs=>some ([],bs)
 |(t,s)::l,bs=>match find ah t with
  |some d=>match BA ob s d bs with
   |some (vs,ye)=>match J1 ob ah l ye with
    |some (us,zF)=>some (vs++us,zF)
    |none=>none
   |none=>none
  |none=>none
def Eb(ob:Nat->Option (Nat×Th))(j:Nat)(s:OS)(bs:Bs):Option (List gO×Bs):=
 match find bs j with
 |some (some o)=>match ob o with
  |some (_,t)=>match s,t with
   | .own T r, .own T' r' l=>bif Yb T T' then(if h:r'.beq r=true then some ([⟨.slice r,fK (r:= .slice r') (s:= .slice r) (congrArg Row.slice (Row.eq_of_beq h)) l⟩],bs)else none)else none
   | .box T sh, .box T' t=>bif Yb T T' then xz ob sh t bs else none
   | .map T K agg V, .map T' K' ix V' l=>bif Yb T T'&&(bif agg then ix else !ix)then(if h:K'.beq K=true/\V'.beq V=true then some ([⟨.slice (.pair K V),fK (r:= .slice (.pair K' V')) (s:= .slice (.pair K V)) (by rw[Row.eq_of_beq h.1,Row.eq_of_beq h.2]) l⟩],bs)else none)else none
   | .deep T d, .deep T' d' l none=>bif Yb T T'&&d'.beq d then some ([⟨.slice d'.row,l⟩],bs)else none
   | .dmap T K E r, .dmap T' K' E' r' l none=>bif Yb T T'&&Yb E E'&&K'.beq K&&r'.beq r then some ([⟨.slice (.pair K' (.slice r')),l⟩],bs)else none
   |_,_=>none
  |none=>none
 |some none=>match s with
  | .own _ r=>some ([⟨.slice r,([]:List r.den)⟩],bs)
  | .deep _ d=>some ([⟨.slice d.row,([]:List d.row.den)⟩],bs)
  |_=>none
 |none=>none
def J2(ob:Nat->Option (Nat×Th)):List (Nat×OS)->Bs->Option (List gO×Bs)
 |[],bs=>some ([],bs)
 |(j,s)::l,bs=>match Eb ob j s bs with
  |some (vs,ye)=>match J2 ob l ye with
   |some (us,zF)=>some (vs++us,zF)
   |none=>none
  |none=>none
section
variable {U:Nat->Prop} {H H':ao} {F:Nat->Prop} {w:World} {n:Nat} {ob:Nat->Option (Nat×Th)}
def vQ(bs eg:Bs):Prop:=∀j v,find bs j=some v->find eg j=some v
theorem iy{bs eg:Bs}{j:Nat}{v:Option Nat}(h:sI bs j v=some eg):vQ bs eg/\find eg j=some v:=by
 unfold sI at h;split at h
 .rename_i hn;obtain rfl:=X7 h;refine⟨fun i u hu=>?_,by rw[aw,if_pos rfl]⟩;rw[aw];by_cases e:j=i
  .subst e;rw[hn]at hu;cases hu
  .rw[if_neg e];exact hu
 .rename_i u hu;obtain⟨h1,rfl⟩:=jb h;obtain rfl:=sH h1;exact⟨fun _ _ h=>h,hu⟩
def valOf(H:ao):Option Nat->Option Value
 |some o=>H.val o
 |none=>some (.slice none 0 0)
def jV(H H':ao)(bs:Bs):Prop:=∀j v,find bs j=some v->∀u,valOf H v=some u->H'.val j=some u
theorem qI:{sh:Sh}->{t:Tree}->{bs eg:Bs}->{vs:List gO}->xz ob sh t bs=some (vs,eg)->vQ bs eg
 | .leaf r,t,bs,eg,vs,h=>by
   unfold xz at h
   split at h<;>cases h
   exact fun _ _ h=>h
 | .own j, .own o,bs,eg,vs,h=>by
   unfold xz at h
   split at h<;>cases h
   rename_i hb;exact(iy hb).1
 | .own j, .nil,bs,eg,vs,h=>by
   unfold xz at h
   split at h<;>cases h
   rename_i hb;exact(iy hb).1
 | .nil, .nil,bs,eg,vs,h=>by cases h;exact fun _ _ h=>h
 | .pair a b,t,bs,eg,vs,h=>by
   unfold xz at h;split at h
   case h_2=>cases h
   split at h
   case h_2=>cases h
   rename_i h1;split at h
   case h_2=>cases h
   rename_i h2;cases h
   exact fun j v hj=>qI h2 j v (qI h1 j v hj)
 | .own _, .leaf _ _,_,_,_,h=>by cases h
 | .own _, .pair _ _,_,_,_,h=>by cases h
 | .nil, .leaf _ _,_,_,_,h=>by cases h
 | .nil, .own _,_,_,_,h=>by cases h
 | .nil, .pair _ _,_,_,_,h=>by cases h
 | .own _, .view ..,_,_,_,h=>by cases h
 | .nil, .view ..,_,_,_,h=>by cases h
 | .own _, .junk _,_,_,_,h=>by cases h
 | .nil, .junk _,_,_,_,h=>by cases h
 | .junk n,t,bs,eg,vs,h=>by
   unfold xz at h;obtain⟨_,h⟩:=ay h;cases h
   exact fun _ _ h=>h
theorem tX(hs:aq U H F w ob n):{sh:Sh}->{t:Tree}->{bs eg:Bs}->{vs:List gO}->{cs:List Value}->xz ob sh t bs=some (vs,eg)->bi H F w t cs->jV H H' eg->∀rest,
 bi H' F w (k8 sh (vs++rest)).1 cs/\(k8 sh (vs++rest)).2=rest
 | .leaf r,t,bs,eg,vs,cs,h,hh,hb,rest=>by
   unfold xz at h
   split at h<;>cases h
   rename_i x hf;refine⟨?_,rfl⟩
   show bi H' F w (bif r.beq r then Tree.leaf r x else .nil) cs
   rw[Row.beq_refl,cond_true];exact fA hs hf hh
 | .own j, .own o,bs,eg,vs,cs,h,hh,hb,rest=>by
   unfold xz at h
   split at h<;>cases h
   rename_i sj;obtain⟨v,hv,h1,rfl⟩:=hh;exact⟨⟨v,hb _ _ (iy sj).2 v hv,h1,rfl⟩,rfl⟩
 | .own j, .nil,bs,eg,vs,cs,h,hh,hb,rest=>by
   unfold xz at h
   split at h<;>cases h
   rename_i sj;rw[show cs=_ from hh];exact⟨⟨_,hb _ _ (iy sj).2 _ rfl,rfl,rfl⟩,rfl⟩
 | .nil, .nil,bs,eg,vs,cs,h,hh,hb,rest=>by cases h;exact⟨hh,rfl⟩
 | .pair a b,t,bs,eg,vs,cs,h,hh,hb,rest=>by
   unfold xz at h;split at h
   case h_2=>cases h
   rename_i x y rL;split at h
   case h_2=>cases h
   rename_i Q8 ye h1;split at h
   case h_2=>cases h
   rename_i us zF h2;cases h;obtain⟨c1,c2,rfl,g1,g2,_⟩:=hh.split rL
   have zx:jV H H' ye:=fun j v hj=>hb j v (qI h2 j v hj)
   obtain⟨k1,k2⟩:=tX hs h1 g1 zx (us++rest);obtain⟨m1,m2⟩:=tX hs h2 g2 hb rest;rw[Yy];unfold k8;rw[k2];exact⟨⟨c1,c2,rfl,k1,m1⟩,m2⟩
 | .own _, .leaf _ _,_,_,_,_,h,_,_,_=>by cases h
 | .own _, .pair _ _,_,_,_,_,h,_,_,_=>by cases h
 | .nil, .leaf _ _,_,_,_,_,h,_,_,_=>by cases h
 | .nil, .own _,_,_,_,_,h,_,_,_=>by cases h
 | .nil, .pair _ _,_,_,_,_,h,_,_,_=>by cases h
 | .own _, .view ..,_,_,_,_,h,_,_,_=>by cases h
 | .nil, .view ..,_,_,_,_,h,_,_,_=>by cases h
 | .own _, .junk _,_,_,_,_,h,_,_,_=>by cases h
 | .nil, .junk _,_,_,_,_,h,_,_,_=>by cases h
 | .junk n,t,bs,eg,vs,cs,h,hh,hb,rest=>by
   unfold xz at h;obtain⟨hn,h⟩:=ay h;cases h;exact⟨⟨hh.length.trans (YR hn),hh.fT⟩,rfl⟩
theorem oA:{js cs:List (Nat×List Bool×Nat)}->{bs eg:Bs}->oz js cs bs=some eg->vQ bs eg
 |[],[],bs,eg,h=>by obtain rfl:=X7 h;exact fun _ _ h=>h
 |(j,p,off)::js,(o,p',cF)::cs,bs,eg,h=>by
  unfold oz at h;obtain⟨_,h⟩:=ay h;split at h
  case h_2=>cases h
  rename_i hb
  exact fun i v hi=>oA h i v ((iy hb).1 i v hi)
 |[],_::_,_,_,h=>by cases h
 |_::_,[],_,_,h=>by cases h
theorem sJ:{js cs:List (Nat×List Bool×Nat)}->{bs eg:Bs}->{vs:List Value}->oz js cs bs=some eg->gZ H cs vs->jV H H' eg->gZ H' js vs
 |[],[],bs,eg,vs,h,hc,hb=>hc
 |(j,p,off)::js,(o,p',cF)::cs,bs,eg,vs,h,hc,hb=>by
  unfold oz at h;obtain⟨ho,h'⟩:=ay h;clear h;split at h'
  case h_2=>cases h'
  rename_i b1 sj;obtain⟨v,us,rfl,⟨b,h1,rfl⟩,h2⟩:=hc;have ho:=beq_true ho;subst ho;exact⟨_,us,rfl,⟨b,hb _ _ (oA h' _ _ (iy sj).2) _ h1,rfl⟩,sJ h' h2 hb⟩
 |[],_::_,_,_,_,h,_,_=>by cases h
 |_::_,[],_,_,_,h,_,_=>by cases h
theorem Gv{s:SS}{d:aj}{bs eg:Bs}{vs:List gO}(h:Ea ob s d bs=some (vs,eg)):vQ bs eg:=by
 unfold Ea at h;split at h
 .obtain⟨_,h⟩:=ay h;exact qI h
 .obtain⟨_,h⟩:=ay h
  split at h<;>cases h
  rename_i hb;exact(iy hb).1
 .split at h<;>cases h
  exact fun _ _ h=>h
 .cases h
  exact fun _ _ h=>h
 .obtain⟨_,h'⟩:=ay h
  split at h'<;>cases h'
  rename_i hb;exact oA hb
 .cases h
theorem Gw{s:SS}{d:aj}{bs eg:Bs}{vs:List gO}(h:BA ob s d bs=some (vs,eg)):vQ bs eg:=by
 induction s generalizing d with
 |ifc T s ih=>
  cases d with
  |ifc T' d'=>
   obtain⟨_,h'⟩:=ay (show(bif Yb T T' then BA ob s d' bs else none)=some (vs,eg)from h);exact ih h'
  |_=>cases h
 |_=>exact Gv h
theorem Gx(hs:aq U H F w ob n){s:SS}{d:aj}{bs eg:Bs}{vs:List gO}{v:Value}(h:Ea ob s d bs=some (vs,eg))(hd:ai H F w d v)(hb:jV H H' eg)(rest:List gO):
 ai H' F w (c9 s (vs++rest)).1 v/\(c9 s (vs++rest)).2=rest:=by
 unfold Ea at h;split at h
 .rename_i agg sh ix t;obtain⟨ha,h'⟩:=ay h;clear h
  have:agg=ix:=by cases agg<;>cases ix<;>simp_all
  subst this;obtain⟨cs,h1,h2⟩:=hd;obtain⟨k1,k2⟩:=tX hs h' h1 hb rest;exact⟨⟨cs,k1,h2⟩,k2⟩
 .rename_i j p off o p' cF;obtain⟨ho,h'⟩:=ay h;clear h
  split at h'<;>cases h'
  rename_i sj;obtain⟨b,h1,h2⟩:=hd;refine⟨⟨b,hb _ _ (iy sj).2 _ h1,?_⟩,rfl⟩;rw[beq_true ho];exact h2
 .rename_i r s x
  split at h<;>cases h
  rename_i vo;obtain rfl:=Row.eq_of_beq vo;refine⟨?_,rfl⟩
  show ai H' F w (bif s.beq s then aj.at s x else .dead) v
  rw[Row.beq_refl,cond_true];exact hd
 .cases h;exact⟨hd,rfl⟩
 .rename_i f js f' cs;obtain⟨hf,h'⟩:=ay h
  split at h'<;>cases h'
  rename_i sj;obtain⟨us,h1,h2⟩:=hd;refine⟨⟨us,?_,sJ sj h2 hb⟩,rfl⟩;rw[beq_true hf];exact h1
 .cases h
theorem Gy(hs:aq U H F w ob n){s:SS}{d:aj}{bs eg:Bs}{vs:List gO}{v:Value}(h:BA ob s d bs=some (vs,eg))(hd:ai H F w d v)(hb:jV H H' eg)(rest:List gO):
 ai H' F w (c9 s (vs++rest)).1 v/\(c9 s (vs++rest)).2=rest:=by
 induction s generalizing d v with
 |ifc T s ih=>
  cases d with
  |ifc T' d'=>
   obtain⟨hT,h'⟩:=ay (show(bif Yb T T' then BA ob s d' bs else none)=some (vs,eg)from h);obtain⟨u,e,h2⟩:=hd;obtain⟨k1,k2⟩:=ih h' h2;exact⟨⟨u,by rw[beq_true hT];exact e,k1⟩,k2⟩
  |_=>cases h
 |_=>exact Gx hs h hd hb rest
theorem Ec:{l:List (Nat×SS)}->{ah:List (Nat×aj)}->{bs eg:Bs}->{vs:List gO}->J1 ob ah l bs=some (vs,eg)->vQ bs eg
 |[],_,_,_,_,h=>by cases h;exact fun _ _ h=>h
 |(t,s)::l,ah,bs,eg,vs,h=>by
  unfold J1 at h;split at h
  case h_2=>cases h
  split at h
  case h_2=>cases h
  rename_i h1;split at h
  case h_2=>cases h
  rename_i h2;cases h
  exact fun j v hj=>Ec h2 j v (Gw h1 j v hj)
theorem Ed(hs:aq U H F w ob n){ah:List (Nat×aj)}{ρ:Nat->Value}(eR:∀t d,find ah t=some d->ai H F w d (ρ t)):{l:List (Nat×SS)}->{bs eg:Bs}->{vs:List gO}->J1 ob ah l bs=some (vs,eg)->jV H H' eg->∀rest,
 (∀t d,find (cD l (vs++rest)).1 t=some d->ai H' F w d (ρ t))/\(cD l (vs++rest)).2=rest
 |[],bs,eg,vs,h,_,rest=>by cases h;exact⟨fun _ _ h=>(by cases h),rfl⟩
 |(t,s)::l,bs,eg,vs,h,hb,rest=>by
  unfold J1 at h;split at h
  case h_2=>cases h
  rename_i d hd;split at h
  case h_2=>cases h
  rename_i Q8 ye h1;split at h
  case h_2=>cases h
  rename_i us zF h2;cases h
  have zx:jV H H' ye:=fun j v hj=>hb j v (Ec h2 j v hj)
  obtain⟨k1,k2⟩:=Gy hs h1 (eR t d hd) zx (us++rest);obtain⟨m1,m2⟩:=Ed hs eR h2 hb rest;rw[Yy];unfold cD;rw[k2];refine⟨fun t' d' h'=>?_,m2⟩;rw[aw]at h';split at h'
  .rename_i e;subst e;obtain rfl:=X7 h';exact k1
  .exact m1 t' d' h'
end
end Go.Proofs.YtlfjlhcigpejdaaGreatDoor
namespace Go.Proofs.YtlfjlhcigpejdaaGreatDoor
open Go Go.RowKit
def Tree.owns:Tree->List Nat
 | .own o=>[o]
 | .pair a b=>a.owns++b.owns
 | .view o _ _ _=>[o]
 |_=>[]
def vR:Sh->Tree->List Nat
 | .leaf _,t=>t.owns
 | .pair a b,t=>match t.split with
   |some (x,y)=>vR a x++vR b y
   |none=>[]
 |_,_=>[]
def zG(ah:List (Nat×aj)):List (Nat×SS)->List Nat
 |[]=>[]
 |(t, .val _ sh)::l=>(match find ah t with
  |some (.val _ tr)=>vR sh tr
  |_=>[])++zG ah l
 |(t, .ifc _ (.val _ sh))::l=>(match find ah t with
  |some (.ifc _ (.val _ tr))=>vR sh tr
  |_=>[])++zG ah l
 |_::l=>zG ah l
def HO(j:Nat):List (Nat×List Bool×Nat)->List (Nat×List Bool×Nat)->Option Nat
 |(j',_)::js,(o,_)::cs=>bif Yb j' j then some o else HO j js cs
 |_,_=>none
def vS(ah:List (Nat×aj))(j:Nat):List (Nat×SS)->Option Nat
 |[]=>none
 |(t, .ptr j' _ _)::l=>bif Yb j' j then(match find ah t with
  |some (.ptr o _ _)=>some o
  |_=>none)else vS ah j l
 |(t, .ifc _ (.ptr j' _ _))::l=>bif Yb j' j then(match find ah t with
  |some (.ifc _ (.ptr o _ _))=>some o
  |_=>none)else vS ah j l
 |(t, .fn _ js)::l=>match(match find ah t with
    |some (.fn _ cs)=>HO j js cs
    |_=>none)with
  |some o=>some o
  |none=>vS ah j l
 |_::l=>vS ah j l
def Ee(nb:Nat)(ah:List (Nat×aj))(ss:List (Nat×SS))(objs:List (Nat×(Nat×Th))):List (Nat×OS)->List Nat
 |[]=>[]
 |(j, .box _ sh)::l=>(match(bif YM j nb then some j else vS ah j ss)with
  |some o=>(match find objs o with
   |some (_, .box _ tr)=>vR sh tr
   |_=>[])
  |none=>[])++Ee nb ah ss objs l
 |_::l=>Ee nb ah ss objs l
def NF(nb:Nat):List (Nat×OS)->Bs
 |[]=>[]
 |(j,_)::l=>bif YM j nb then(j,some j)::NF nb l else NF nb l
def eN:Bs->List Nat
 |[]=>[]
 |(_,some o)::l=>o::eN l
 |(_,none)::l=>eN l
def jf(o:Nat)(l:List Nat):Bool:=l.any (Yb o)
def yf:List Nat->Bool
 |[]=>true
 |o::l=> !jf o l&&yf l
def Ef(nb nxt:Nat):Bs->Bool
 |[]=>true
 |(j,u)::l=>(bif YM j nb then yd u (some j)else YM j nxt)&&Ef nb nxt l
def yg(objs:List (Nat×(Nat×Th)))(vT:List Nat):List (Nat×(Nat×Th))->Bool
 |[]=>true
 |(o,(s,t))::l=>(match find objs o with
  |some (s',t')=>Yb s s'&&(bif cV t then cV t' else !cV t')
  |none=>false)&& !jf o vT&&yg objs vT l
def sK(nb:Nat)(J:JS)(ah:List (Nat×aj))(objs:List (Nat×(Nat×Th))):List Nat:=zG ah J.ah++Ee nb ah J.ah objs J.objs
def sL(nb:Nat)(frame:List (Nat×(Nat×Th)))(J:JS)(ah:List (Nat×aj))(objs:List (Nat×(Nat×Th))):Option (bA J.rows×Bs×List (Nat×(Nat×Th))):=
 match dp objs (sK nb J ah objs)with
 |none=>none
 |some aD=>match J1 (find aD) ah J.ah (NF nb J.objs)with
  |none=>none
  |some (vs,ye)=>match J2 (find aD) J.objs ye with
   |none=>none
   |some (us,zF)=>bif yf (eN zF)&&Ef nb J.nxt zF&&Nat.ble (nb+J.objs.length) J.nxt&&yg aD (eN zF) frame then
     (match vP J.rows (vs++us)with
     |some x=>some (x,zF,aD)
     |none=>none)else none
def nC:List (Nat×(Nat×Th))->Nat->Option Th
 |[],_=>none
 |(_,(s,t))::l,m=>bif Yb s m then some t else nC l m
def IS:List (Nat×(Nat×Th))->Nat->Option Nat
 |[],_=>none
 |(j,(s,_))::l,m=>bif Yb s m then some j else IS l m
def qJ(H:ao)(ob:Nat->Option (Nat×Th)):Option (Option Nat)->Nat->Prop
 |some (some o)=>match ob o with
  |some (s,_)=>H.sub s
  |none=>fun _=>False
 |_=>fun _=>False
def cP(H:ao)(nb:Nat)(bs:Bs)(cons:List (Nat×(Nat×Th)))(ob:Nat->Option (Nat×Th)):ao where
 val m:=if m<nb then H.val m else match find bs m with
  |some u=>valOf H u
  |none=>none
 con m:=if m<nb then H.con m else nC cons m
 sub m:=if m<nb then H.sub m else match IS cons m with
  |some j=>qJ H ob (find bs j)
  |none=>fun _=>False
section
variable {U:Nat->Prop} {H H':ao} {F:Nat->Prop} {w:World} {n:Nat} {ob:Nat->Option (Nat×Th)}
theorem zH{j:Nat}{s:OS}{bs eg:Bs}{vs:List gO}(h:Eb ob j s bs=some (vs,eg)):vQ bs eg:=by
 unfold Eb at h;split at h
 .split at h
  case h_2=>cases h
  split at h
  .obtain⟨_,h'⟩:=ay h
   split at h'<;>cases h'
   exact fun _ _ h=>h
  .obtain⟨_,h'⟩:=ay h;exact qI h'
  .obtain⟨_,h'⟩:=ay h
   split at h'<;>cases h'
   exact fun _ _ h=>h
  .obtain⟨_,h'⟩:=ay h;cases h'
   exact fun _ _ h=>h
  .obtain⟨_,h'⟩:=ay h;cases h'
   exact fun _ _ h=>h
  .cases h
 .split at h<;>cases h
  .exact fun _ _ h=>h
  .exact fun _ _ h=>h
 .cases h
theorem tY:{l:List (Nat×OS)}->{bs eg:Bs}->{vs:List gO}->J2 ob l bs=some (vs,eg)->vQ bs eg
 |[],_,_,_,h=>by cases h;exact fun _ _ h=>h
 |(j,s)::l,bs,eg,vs,h=>by
  unfold J2 at h;split at h
  case h_2=>cases h
  rename_i h1;split at h
  case h_2=>cases h
  rename_i h2;cases h
  exact fun j v hj=>tY h2 j v (zH h1 j v hj)
def iQ(H H':ao)(F:Nat->Prop)(w:World)(ob:Nat->Option (Nat×Th))(bs:Bs)(j:Nat)(t:Th):Prop:=
 ∃u v,find bs j=some u/\valOf H u=some v/\v.oneCell'=true/\t.base=t/\fy H' F w (qJ H ob (find bs j)) v t/\∀k,fp (qJ H ob (find bs j)) v t k->∃o s0 t0,u=some o/\ob o=some (s0,t0)/\H.val o=some v/\fp (H.sub s0) v t0 k
theorem Gz(hs:aq U H F w ob n){j:Nat}{s:OS}{bs eg:Bs}{vs:List gO}(h:Eb ob j s bs=some (vs,eg))(hb:jV H H' eg)(rest:List gO):
 iQ H H' F w ob bs j (bX s (vs++rest)).1/\(bX s (vs++rest)).2=rest:=by
 unfold Eb at h;split at h
 .rename_i o J3;split at h
  case h_2=>cases h
  rename_i s0 t0 cA;obtain⟨v,hv,bO⟩:=hs.obj _ _ _ cA
  have ee:qJ H ob (find bs j)=H.sub s0:=by rw[J3];simp[qJ,cA]
  have mk:∀t,t.base=t->fy H' F w (H.sub s0) v t->(∀k,fp (H.sub s0) v t k->fp (H.sub s0) v t0 k)->iQ H H' F w ob bs j t:=by
   intro t hb mP hf;refine⟨some o,v,J3,hv,bO.one,hb,by rw[ee];exact mP,fun k hk=>?_⟩;rw[ee]at hk;exact⟨o,_,_,rfl,cA,hv,hf k hk⟩
  split at h
  .rename_i T r T' r' l;obtain⟨hT,h'⟩:=ay h;clear h
   split at h'<;>cases h'
   rename_i vo;obtain rfl:=Row.eq_of_beq vo;obtain rfl:=beq_true hT;refine⟨?_,rfl⟩
   show iQ H H' F w ob bs j (bif r'.beq r' then Th.own T r' l else .own T r' [])
   rw[Row.beq_refl,cond_true]
   exact mk _ rfl bO.ok fun k hk=>hk
  .rename_i T sh T' t;obtain⟨hT,h'⟩:=ay h;clear h;obtain rfl:=beq_true hT;obtain⟨b,es,e,h1,h2⟩:=bO.ok;obtain⟨k1,k2⟩:=tX hs h' h2 hb rest;exact⟨mk _ rfl ⟨b,es,e,h1,k1⟩ fun k hk=>hk,k2⟩
  .rename_i T K agg V T' K' ix V' l;obtain⟨hT,h'⟩:=ay h;clear h
   split at h'<;>cases h'
   rename_i vo;obtain⟨KP,ha⟩:=bU hT;clear hT
   have ha:agg=ix:=by cases agg<;>cases ix<;>simp_all
   subst ha;obtain⟨hK,hV⟩:=vo;obtain rfl:=Row.eq_of_beq hK;obtain rfl:=Row.eq_of_beq hV;obtain rfl:=beq_true KP;refine⟨?_,rfl⟩
   show iQ H H' F w ob bs j (if h:K'.beq K'=true/\V'.beq V'=true then Th.map T K' agg V' l else .map T K' agg V' [])
   rw[dif_pos ⟨Row.beq_refl _,Row.beq_refl _⟩];obtain⟨b,es,clock,e,h1,h2,h3⟩:=bO.ok
   exact mk _ rfl ⟨b,es,clock,e,h1,h2,h3.fP⟩ fun k hk=>hk
  .rename_i T d T' d' l;obtain⟨hT,h'⟩:=ay h;clear h;obtain⟨KP,hd⟩:=bU hT;obtain rfl:=DR.eq_of_beq hd;obtain rfl:=beq_true KP;cases h';refine⟨?_,rfl⟩
   show iQ H H' F w ob bs j (if h:d'.row.beq d'.row=true then Th.deep T d' l none else .deep T d' [] none)
   rw[dif_pos (Row.beq_refl _)]
   exact mk _ rfl bO.ok fun k hk=>hk
  .rename_i T K E r T' K' E' r' l;obtain⟨hT,h'⟩:=ay h;clear h;obtain⟨hT,hd⟩:=bU hT;obtain⟨hT,qc⟩:=bU hT;obtain⟨KP,hE⟩:=bU hT;obtain rfl:=Row.eq_of_beq hd;obtain rfl:=Row.eq_of_beq qc;obtain rfl:=beq_true KP;obtain rfl:=beq_true hE;cases h';refine⟨?_,rfl⟩
   show iQ H H' F w ob bs j (if h:K'.beq K'=true/\r'.beq r'=true then Th.dmap T K' E r' l none else .dmap T K' E r' [] none)
   rw[dif_pos ⟨Row.beq_refl _,Row.beq_refl _⟩];obtain⟨b,es,clock,B,e,h1,h2,h3,h4,_⟩:=bO.ok
   exact mk _ rfl ⟨b,es,clock,B,e,h1,h2,h3.aO (Step.refl F w) (fun _ _ _ e=>by cases e) (fun _ _=>rfl),h4,fun _ _ e=>by cases e⟩ fun k hk=>hk
  .cases h
 .rename_i J3
  split at h<;>cases h
  .rename_i T r;refine⟨?_,rfl⟩
   show iQ H H' F w ob bs j (bif r.beq r then Th.own T r []else .own T r [])
   rw[Row.beq_refl,cond_true];refine⟨none,_,J3,rfl,rfl,rfl,(gY.nil 0 F w T r).2,fun k hk=>?_⟩;have cx:aM (.slice none 0 0) k:=hk;simp[aM,YE]at cx
  .rename_i T d;refine⟨?_,rfl⟩
   show iQ H H' F w ob bs j (if h:d.row.beq d.row=true then Th.deep T d [] none else .deep T d [] none)
   rw[dif_pos (Row.beq_refl _)]
   have ee:qJ H ob (find bs j)=fun _=>False:=by rw[J3];rfl
   refine⟨none,_,J3,rfl,rfl,rfl,?_,fun k hk=>?_⟩
   .rw[ee];exact⟨[],fun _ _=>False,gP.nil F w T d.low,rfl,fun i h=>absurd h (by simp),⟨fun k=>by simp[aM,YE],fun _ _ _ h=>absurd h (by simp),fun _ _ h=>absurd h (by simp)⟩⟩
   .rw[ee]at hk;exact hk.elim
 .cases h
theorem vU:{l:List (Nat×OS)}->{m k:Nat}->{vs:List gO}->m+l.length<=k->nC (gz m l vs) k=none
 |[],_,_,_,_=>rfl
 |(j,s)::l,m,k,vs,h=>by
  show(bif Yb m k then _ else nC (gz (m+1) l _) k)=none
  rw[List.length_cons]at h
  have:Yb m k=false:=by
   cases hb:Yb m k with
   |false=>rfl
   |true=>have:=beq_true hb;omega
  rw[this,cond_false];exact vU (by omega)
theorem Eg(hs:aq U H F w ob n):{l:List (Nat×OS)}->{bs eg:Bs}->{vs:List gO}->J2 ob l bs=some (vs,eg)->jV H H' eg->∀m,
 ∀j s t,find (gz m l vs) j=some (s,t)->m<=s/\s<m+l.length/\nC (gz m l vs) s=some t/\IS (gz m l vs) s=some j/\iQ H H' F w ob eg j t
 |[],_,_,_,h,_,m=>by cases h;intro j s t h;cases h
 |(j0,s0)::l,bs,eg,vs,h,hb,m=>by
  unfold J2 at h;split at h
  case h_2=>cases h
  rename_i Q8 ye h1;split at h
  case h_2=>cases h
  rename_i us zF h2;cases h
  have zx:jV H H' ye:=fun j v hj=>hb j v (tY h2 j v hj)
  obtain⟨⟨u,v,g1,g2⟩,k2⟩:=Gz hs h1 zx us;intro j s t hf;unfold gz at hf⊢;rw[aw]at hf;rw[k2]at hf⊢;split at hf
  .rename_i e;subst e;simp only[Ye,YW]at hf;obtain⟨rfl,rfl⟩:=hf;have e1:=tY h2 _ _ (zH h1 _ _ g1);rw[g1]at g2;refine⟨Yd _,by simp,?_,?_,u,v,e1,?_⟩
   .show(bif Yb m m then _ else _)=_
    simp
   .show(bif Yb m m then _ else _)=_
    simp
   .rw[e1];exact g2
  .obtain⟨a1,a2,a3,a4,a5⟩:=Eg hs h2 hb (m+1) j s t hf
   have:Yb m s=false:=by
    cases hb:Yb m s with
    |false=>rfl
    |true=>have:=beq_true hb;omega
   refine⟨by omega,by rw[List.length_cons];omega,?_,?_,a5⟩
   .show(bif Yb m s then _ else _)=_
    rw[this,cond_false];exact a3
   .show(bif Yb m s then _ else _)=_
    rw[this,cond_false];exact a4
theorem cQ{o:Nat}{l:List Nat}:jf o l=true↔o∈l:=any_beq
theorem fZ:{bs:Bs}->{j o:Nat}->find bs j=some (some o)->o∈eN bs
 |[],_,_,h=>by cases h
 |(i,u)::bs,j,o,h=>by
  rw[aw]at h;split at h
  .obtain rfl:=X7 h;exact List.mem_cons_self
  .have:=fZ h
   cases u with
   |none=>exact this
   |some q=>exact List.mem_cons_of_mem _ this
theorem oB:{bs:Bs}->yf (eN bs)=true->{j j' o:Nat}->find bs j=some (some o)->find bs j'=some (some o)->j=j'
 |[],_,_,_,_,h,_=>by cases h
 |(i,u)::bs,hn,j,j',o,h,h'=>by
  rw[aw]at h h'
  cases u with
  |none=>
   split at h
   .cases h
   .split at h'
    .cases h'
    .exact oB (bs:=bs) hn h h'
  |some q=>
   obtain⟨hq,F7⟩:=bU hn
   have hq:q∉eN bs:=fun e=>by rw[cQ.2 e]at hq;cases hq
   split at h
   .rename_i e1;obtain rfl:q=o:=X7 (X7 h);split at h'
    .rename_i e2;exact e1.symm.trans e2
    .exact absurd (fZ h') hq
   .split at h'
    .obtain rfl:q=o:=X7 (X7 h');exact absurd (fZ h) hq
    .exact oB F7 h h'
theorem qK{nb nxt:Nat}:{bs:Bs}->Ef nb nxt bs=true->{j:Nat}->{u:Option Nat}->find bs j=some u->(j<nb->u=some j)/\(nb<=j->j<nxt)
 |[],_,_,_,h=>by cases h
 |(i,v)::bs,hk,j,u,h=>by
  obtain⟨h1,h2⟩:=bU hk;rw[aw]at h;split at h
  .rename_i e;subst e;obtain rfl:=X7 h
   cases hb:YM i nb with
   |true=>
    rw[hb,cond_true]at h1
    have:i<nb:=by simpa using hb
    exact⟨fun _=>sH h1,fun _=>by omega⟩
   |false=>
    rw[hb,cond_false]at h1
    have hge:¬i<nb:=fun e=>by have:YM i nb=true:=by simpa using e
                              rw[hb]at this;cases this
    exact⟨fun e=>absurd e hge,fun _=>by simpa using h1⟩
  .exact qK h2 h
theorem sM{objs:List (Nat×(Nat×Th))}{vT:List Nat}:{fr:List (Nat×(Nat×Th))}->yg objs vT fr=true->{o s:Nat}->{t:Th}->find fr o=some (s,t)->
 o∉vT/\∃t',find objs o=some (s,t')/\cV t'=cV t
 |[],_,_,_,_,h=>by cases h
 |(i,(s0,t0))::fr,hf,o,s,t,h=>by
  obtain⟨h1,h2⟩:=bU hf;obtain⟨h1,h3⟩:=bU h1;rw[aw]at h;split at h
  .rename_i e;subst e;simp only[Ye,YW]at h;obtain⟨rfl,rfl⟩:=h;split at h1
   .rename_i s' t' ho;obtain⟨h4,h5⟩:=bU h1;obtain rfl:=beq_true h4;refine⟨fun e=>(by rw[cQ.2 e]at h3;cases h3),t',ho,?_⟩
    cases ha:cV t0<;>cases hb:cV t'<;>simp_all
   .cases h1
  .exact sM h2 h
theorem Eh{t t':Th}(h:t.base=t'.base)(hf:cV t=cV t'):t=t':=by
 cases t<;>cases t'<;>simp_all[Th.base,cV]
theorem qL{U':Nat->Prop}{H0:ao}{F0:Nat->Prop}{w0:World}{objs0:List (Nat×(Nat×Th))}{nb:Nat}{ns:List Nat}{J:JS}{ah:List (Nat×aj)}{objs aD:List (Nat×(Nat×Th))}{x:bA J.rows}{bs:Bs}{ρ:Nat->Value}
 (h:sL nb (del ns objs0) J ah objs=some (x,bs,aD))(IT:aq U H0 F0 w0 (find objs0) nb)(HP:gx H0 nb)(hk:bD H0 F0 w0 H F w)(hs:aq U H F w (find objs) n)(eR:∀t d,find ah t=some d->ai H F w d (ρ t)):
 ∃F1 H1,aq U H F1 w (find aD) n/\(∀b,F b->F1 b)/\(∀b,F1 b->F b\/bx H (find objs) (sK nb J ah objs) b)/\dp objs (sK nb J ah objs)=some aD/\H0.le H1/\jV H H1 bs/\gx H1 J.nxt/\
  (∀t d,find (cD J.ah (dh J.rows x)).1 t=some d->ai H1 F1 w d (ρ t))/\
  ((∀b,w.heap.size<=b->U' b)->(∀o s t v k,o∈eN bs->find aD o=some (s,t)->H.val o=some v->fp (H.sub s) v t k->U' k)->(∀o s t v k,find (del ns objs0) o=some (s,t)->H.val o=some v->fp (H.sub s) v t k->U' k)->
    aq U' H1 F1 w (find (gz nb J.objs (cD J.ah (dh J.rows x)).2++del ns objs0)) J.nxt):=by
 unfold sL at h;split at h
 case h_1=>cases h
 rename_i NG rT;split at h
 case h_1=>cases h
 rename_i vs ye hS;split at h
 case h_1=>cases h
 rename_i us zF hO;obtain⟨hc,h'⟩:=ay h;clear h;split at h'
 case h_2=>cases h'
 rename_i x' hx;cases h';obtain⟨hc,JU⟩:=bU hc;obtain⟨hc,DV⟩:=bU hc;obtain⟨va,pL⟩:=bU hc
 have DV:nb+J.objs.length<=J.nxt:=by simpa using DV
 obtain⟨F1,mG,vd,FG⟩:=jU rT hs
 have dH:Step F w F1 w:=fun b hb=>⟨vd b hb,rfl⟩
 have NH:∀t d,find ah t=some d->ai H F1 w d (ρ t):=fun t d hd=>(eR t d hd).aO (ao.le.refl H) dH
 rw[pb hx]
 have Ei:∃cons,cons=gz nb J.objs us:=⟨_,rfl⟩
 obtain⟨cons,vV⟩:=Ei
 have vW:H0.le (cP H nb bs cons (find aD)):=by
  have aW:∀s t,H0.con s=some t->s<nb:=fun s t dH=>by
   rcases YN s nb with h|h
   .exact h
   .rw[(HP s h).2]at dH;cases dH
  refine⟨fun o v ho=>?_,fun s t dH=>?_,fun s t dH=>?_⟩
  .have:o<nb:=by
    rcases YN o nb with h|h
    .exact h
    .rw[(HP o h).1]at ho;cases ho
   simp[cP,this,hk.fP.val _ _ ho]
  .simp[cP,aW s t dH,hk.fP.con _ _ dH]
  .simp[cP,aW s t dH,hk.fP.sub _ _ dH]
 have oC:jV H (cP H nb bs cons (find aD)) bs:=by
  intro j u hj v hv;obtain⟨a1,a2⟩:=qK pL hj;by_cases aW:j<nb
  .obtain rfl:=a1 aW;simpa[cP,aW,valOf]using hv
  .simpa[cP,aW,hj]using hv
 have GA:jV H (cP H nb bs cons (find aD)) ye:=fun j v hj=>oC j v (tY hO j v hj)
 obtain⟨p1,p2⟩:=Ed mG NH hS GA us
 have zI:gx (cP H nb bs cons (find aD)) J.nxt:=fun m hm=>by
  have HI:¬m<nb:=by omega
  refine⟨?_,?_⟩
  .simp only[cP,if_neg HI];split
   .rename_i u hu;have:=(qK pL hu).2 (by omega);omega
   .rfl
  .simp only[cP,if_neg HI,vV];exact vU (by omega)
 refine⟨F1,cP H nb bs cons (find aD),mG,vd,FG,rT,vW,oC,zI,p1,fun SK SL SM=>?_⟩;rw[p2,<-vV];have KQ:=Eg (H':=cP H nb bs cons (find aD)) mG hO oC nb;rw[<-vV]at KQ
 have part:∀o s t,find (cons++del ns objs0) o=some (s,t)->find cons o=some (s,t)\/find (del ns objs0) o=some (s,t):=by
  intro o s t ho;rw[eZ]at ho
  cases hm:find cons o with
  |some y=>rw[hm]at ho;exact .inl ho
  |none=>rw[hm,Zi]at ho;exact .inr ho
 have A3:∀o s t,find (del ns objs0) o=some (s,t)->o∉eN bs/\find aD o=some (s,t)/\∃v,H.val o=some v/\(cP H nb bs cons (find aD)).val o=some v/\v.oneCell'=true/\(cP H nb bs cons (find aD)).con s=some t.base/\(cP H nb bs cons (find aD)).sub s=H.sub s/\fy (cP H nb bs cons (find aD)) F1 w (H.sub s) v t:=by
  intro o s t ho;obtain⟨q1,t',q2,q3⟩:=sM JU ho;have SN:=(e8.1 ho).2;obtain⟨v0,DN,yh⟩:=IT.obj _ _ _ SN;obtain⟨v1,n7,je⟩:=mG.obj _ _ _ q2;have e1:=hk.fP.val _ _ DN;rw[n7]at e1;obtain rfl:=X7 e1;have e2:=hk.fP.con _ _ yh.con;rw[je.con]at e2;have ht:=Eh (X7 e2) q3;subst ht;refine⟨q1,q2,v1,n7,vW.val _ _ DN,je.one,vW.con _ _ yh.con,(vW.sub _ _ yh.con).trans (hk.fP.sub _ _ yh.con).symm,?_⟩
  cases t' with
  |fdeep T d l=>exact je.ok
  |deep T d l hh=>
   obtain⟨Xv,_,_,e0,r0,_⟩:=yh.ok
   refine AY.mono (show AY F1 w T d.low _ v1 l (H.sub s)from je.ok) (Step.refl F1 w) (fun _ _=>rfl) fun i x' hi A hA hr=>?_
   cases hh with
   |none=>exact hr
   |some h=>
    refine⟨hr.1,fun hh=>?_⟩;obtain⟨T',e,q,g1,g2,g3⟩:=hr.2 hh;obtain⟨_,_,q0,_,_,k3⟩:=(r0 i (by omega) hi).2 hh;have e3:=hk.fP.val _ _ k3;rw[g3]at e3;exact⟨T',e,q,g1,g2,by rw[X7 e3];exact vW.val _ _ k3⟩
  |box T tr=>
   obtain⟨b,es,e,g1,g2⟩:=je.ok;obtain⟨b',jq,e',Nm,SO⟩:=yh.ok;exact⟨b,es,e,g1,bi.back hk.fP vW SO g2⟩
  |own T r l=>exact je.ok
  |oe T r l=>exact je.ok
  |fmap T K agg V l=>exact je.ok
  |fdmap T K E r l=>exact je.ok
  |dmap T K E r l hh=>
   obtain⟨b,es,clock,B,e,g1,g2,g3,g4,g5⟩:=je.ok;obtain⟨_,_,_,_,_,_,_,_,_,r5⟩:=yh.ok
   have key:∀a o u,hh=some (a,o)->H.val o=some u->(cP H nb bs cons (find aD)).val o=some u:=by
    intro a o u e hu;obtain⟨u0,Mt⟩:=r5 a o e;have e3:=hk.fP.val _ _ Mt;rw[hu]at e3;rw[X7 e3];exact vW.val _ _ Mt
   exact⟨b,es,clock,B,e,g1,g2,g3.aO (Step.refl F1 w) key (fun _ _=>rfl),g4,fun a o e=>(g5 a o e).imp fun u hu=>key a o u e hu⟩
  |map T K agg V l=>
   obtain⟨b,es,clock,e,g1,g2,g3⟩:=je.ok;exact⟨b,es,clock,e,g1,g2,g3.fP⟩
 have KR:∀o s t,find cons o=some (s,t)->∃v,(cP H nb bs cons (find aD)).val o=some v/\v.oneCell'=true/\(cP H nb bs cons (find aD)).con s=some t.base/\fy (cP H nb bs cons (find aD)) F1 w ((cP H nb bs cons (find aD)).sub s) v t/\
  ∀k,fp ((cP H nb bs cons (find aD)).sub s) v t k->∃o' s0 t0,find bs o=some (some o')/\find aD o'=some (s0,t0)/\H.val o'=some v/\fp (H.sub s0) v t0 k:=by
  intro o s t ho;obtain⟨a1,a2,a3,a4,u,v,b1,b2,b3,b4,b5,b6⟩:=KQ o s t ho
  have ee:(cP H nb bs cons (find aD)).sub s=qJ H (find aD) (find bs o):=by
   simp only[cP];rw[if_neg (by omega),a4]
  rw[ee];refine⟨v,oC o u b1 v b2,b3,?_,b5,fun k hk=>?_⟩
  .rw[b4];simp only[cP];rw[if_neg (by omega)];exact a3
  .obtain⟨o',s0,t0,c1,c2,c3,c4⟩:=b6 k hk;exact⟨o',s0,t0,by rw[b1,c1],c2,c3,c4⟩
 refine⟨fun o s t ho=>?_,fun o o' s s' t t' v v' bu ho iJ hv cy k hk cx=>?_,fun m hm _=>zI m hm,mG.lt,SK,mG.gl⟩
 .rcases part o s t ho with h1|h1
  .obtain⟨v,a1,a2,a3,a4,a5⟩:=KR o s t h1
   refine⟨v,a1,a2,a3,a4,fun k hk hF=>?_,fun k hk=>?_,fun k hk=>?_⟩<;>obtain⟨o',s0,t0,b1,b2,b3,b4⟩:=a5 k hk<;>obtain⟨v',cy,bO⟩:=mG.obj _ _ _ b2
   all_goals
    rw[b3]at cy;obtain rfl:=X7 cy
   .exact bO.no k b4 hF
   .exact bO.lt k b4
   .exact SL _ _ _ _ _ (fZ b1) b2 b3 b4
  .obtain⟨q1,q2,v,a1,a2,a3,a4,a6,a5⟩:=A3 o s t h1;obtain⟨v',cy,bO⟩:=mG.obj _ _ _ q2;rw[a1]at cy;obtain rfl:=X7 cy;exact⟨v,a2,a3,a4,by rw[a6];exact a5,by rw[a6];exact bO.no,by rw[a6];exact bO.lt,fun k hk=>SM _ _ _ _ _ h1 a1 (by rwa [a6]at hk)⟩
 .rcases part o s t ho with h1|h1<;>rcases part o' s' t' iJ with h2|h2
  .obtain⟨u,a1,_,_,_,a5⟩:=KR o s t h1;obtain⟨u',c1,_,_,_,c5⟩:=KR o' s' t' h2;rw[hv]at a1;rw[cy]at c1;obtain rfl:=X7 a1;obtain rfl:=X7 c1;obtain⟨p,s0,t0,d1,d2,d3,d4⟩:=a5 k hk;obtain⟨p',Xw,Xx,e1,e2,e3,e4⟩:=c5 k cx;refine mG.apart p p' _ _ _ _ _ _ (fun e=>bu ?_) d2 e2 d3 e3 k d4 e4;subst e;exact oB va d1 e1
  .obtain⟨u,a1,_,_,_,a5⟩:=KR o s t h1;obtain⟨q1,q2,u',c1,c2,_,_,c6,_⟩:=A3 o' s' t' h2;rw[c6]at cx;rw[hv]at a1;rw[cy]at c2;obtain rfl:=X7 a1;obtain rfl:=X7 c2;obtain⟨p,s0,t0,d1,d2,d3,d4⟩:=a5 k hk;exact mG.apart p o' _ _ _ _ _ _ (fun e=>q1 (e▸fZ d1)) d2 q2 d3 c1 k d4 cx
  .obtain⟨u,a1,_,_,_,a5⟩:=KR o' s' t' h2;obtain⟨q1,q2,u',c1,c2,_,_,c6,_⟩:=A3 o s t h1;rw[c6]at hk;rw[cy]at a1;rw[hv]at c2;obtain rfl:=X7 a1;obtain rfl:=X7 c2;obtain⟨p,s0,t0,d1,d2,d3,d4⟩:=a5 k cx;exact mG.apart o p _ _ _ _ _ _ (fun e=>q1 (e▸fZ d1)) q2 d2 c1 d3 k hk d4
  .obtain⟨q1,q2,u,c1,c2,_,_,c6,_⟩:=A3 o s t h1;obtain⟨Xy,SP,u',SQ,Q9,_,_,SU,_⟩:=A3 o' s' t' h2;rw[c6]at hk;rw[SU]at cx;rw[hv]at c2;rw[cy]at Q9;obtain rfl:=X7 c2;obtain rfl:=X7 Q9;exact mG.apart o o' _ _ _ _ _ _ bu q2 SP c1 SQ k hk cx
end
end Go.Proofs.YtlfjlhcigpejdaaGreatDoor
end
section
open _root_.Go.Addr.mk renaming injEq->Zr
open _root_.List.cons renaming injEq->Zd
open _root_.List renaming getD->Y3
open _root_.Nat renaming add_zero->Y0,beq->Yb,le_refl->Yd
open _root_.Option.some renaming inj->X7,injEq->Ye
open _root_.Prod.mk renaming injEq->YW
open _root_.Go.Value.slice renaming injEq->Zh
namespace Go.Proofs.YtlfjlhcigpejdaaGreatDoor
open Go Go.RowKit
structure bf where
 inn:JS
 out:JS
 fn:bA inn.rows->Option (bA out.rows)
def rU:List Value->Value
 |[v]=>v
 |vs=> .tuple vs.toArray
structure aC(P:Program)(f:FuncId)(sg:bf):Prop where
 fn:∃fn,P.funcs[f]? =some fn/\(fn.name== "runtime.NumGoroutine")=false/\fn.body.isNone=false
 ok:∀x y,sg.fn x=some y->∀(args:List Value)(w:World)(H:ao)(F G:Nat->Prop),args.length=sg.inn.ah.length->
  (∀t d,find (cD sg.inn.ah (dh _ x)).1 t=some d->ai H F w d (args.getD t undef))->
  aq (fun k=>w.heap.size<=k\/G k) H F w (find (gz 0 sg.inn.objs (cD sg.inn.ah (dh _ x)).2)) sg.inn.nxt->gx H sg.inn.nxt->(∀k,G k->¬F k)->
  Calls P f args.toArray w fun e w'=>∃vs,e= .returned (rU vs)/\vs.length=sg.out.ah.length/\∃H' F',Ext G w w'/\H.le H'/\(∀b,F b->F' b)/\(∀b,F' b->F b\/w.heap.size<=b\/G b)/\
   (∀t d,find (cD sg.out.ah (dh _ y)).1 t=some d->ai H' F' w' d (vs.getD t undef))/\
   aq (fun k=>w.heap.size<=k\/G k) H' F' w' (find (gz sg.inn.nxt sg.out.objs (cD sg.out.ah (dh _ y)).2)) sg.out.nxt/\gx H' sg.out.nxt
def Sh.mH(φ:Nat->Nat):Sh->Sh
 | .leaf r=> .leaf r
 | .own j=> .own (φ j)
 | .nil=> .nil
 | .pair a b=> .pair (a.mH φ) (b.mH φ)
 | .junk n=> .junk n
def SS.mH(φ:Nat->Nat):SS->SS
 | .val agg t=> .val agg (t.mH φ)
 | .ptr j p off=> .ptr (φ j) p off
 | .at r=> .at r
 | .undef=> .undef
 | .fn f js=> .fn f (js.map fun c=>(φ c.1,c.2))
 | .ifc T s=> .ifc T (s.mH φ)
def OS.mH(φ:Nat->Nat):OS->OS
 | .box T t=> .box T (t.mH φ)
 | .own T r=> .own T r
 | .map T K agg V=> .map T K agg V
 | .deep T d=> .deep T d
 | .dmap T K E r=> .dmap T K E r
def nD(φ:Nat->Nat):List (Nat×SS)->List (Nat×SS)
 |[]=>[]
 |(t,s)::l=>(t,s.mH φ)::nD φ l
def vX(φ:Nat->Nat):List (Nat×OS)->List (Nat×OS)
 |[]=>[]
 |(j,s)::l=>(φ j,s.mH φ)::vX φ l
def Row.vY:Row->Bool
 | .slice _=>false
 | .map .. =>false
 | .pair a b=>a.vY&&b.vY
 |_=>true
def DR.fM(p:Row->Bool):DR->Bool
 | .leaf r=>p r
 | .sl _ d=>d.fM p
 | .pair a b=>a.fM p&&b.fM p
def Sh.fM(p:Row->Bool):Sh->Bool
 | .leaf r=>p r
 | .pair a b=>a.fM p&&b.fM p
 |_=>true
def SS.fM(p:Row->Bool):SS->Bool
 | .val _ t=>t.fM p
 | .at r=>p (.slice r)
 | .ifc _ s=>s.fM p
 |_=>true
def OS.fM(p:Row->Bool):OS->Bool
 | .box _ t=>t.fM p
 | .own _ r=>p r
 | .map _ _ _ V=>p V
 | .deep _ d=>d.fM p
 | .dmap _ _ _ r=>p r
def mW(p:Row->Bool):List (Nat×SS)->Bool
 |[]=>true
 |(_,s)::l=>s.fM p&&mW p l
def sN(p:Row->Bool):List (Nat×OS)->Bool
 |[]=>true
 |(_,s)::l=>s.fM p&&sN p l
section
variable {H H':ao} {F F':Nat->Prop} {w w':World} {φ:Nat->Nat} {p:Row->Bool}
theorem bH.yi:{r:Row}->{cs:List Value}->{x:r.den}->r.vY=true->bH F w r cs x->bH F' w' r cs x
 | .int _,_,_,_,h=>h
 | .bool,_,_,_,h=>h
 | .str,_,_,_,h=>h
 | .gU,_,_,_,h=>h
 | .nul _,_,_,_,h=>h
 | .map ..,_,_,hf,_=>by cases hf
 | .slice _,_,_,hf,_=>by cases hf
 | .pair a b,_,_,hf,h=>by
   obtain⟨c1,c2,e,h1,h2⟩:=h;obtain⟨f1,f2⟩:=bU hf;exact⟨c1,c2,e,bH.yi f1 h1,bH.yi f2 h2⟩
def J4(H H':ao)(φ:Nat->Nat):Prop:=∀j v,H.val j=some v->H'.val (φ j)=some v
def nE(p:Row->Bool)(F F':Nat->Prop)(w:World):Prop:=∀r,p r=true->∀cs x,bH F w r cs x->bH F' w r cs x
theorem lr:(sh:Sh)->(vs:List gO)->(k8 (sh.mH φ) vs).2=(k8 sh vs).2
 | .leaf r,[]=>rfl
 | .leaf r,_::_=>rfl
 | .own j,vs=>rfl
 | .nil,vs=>rfl
 | .pair a b,vs=>by
   show(k8 (b.mH φ) (k8 (a.mH φ) vs).2).2=_
   rw[lr a,lr b];rfl
 | .junk _,_=>rfl
theorem sO(s:SS)(vs:List gO):(c9 (s.mH φ) vs).2=(c9 s vs).2:=by
 induction s with
 |ifc T s ih=>exact ih
 |val agg t=>exact lr t vs
 |ptr j p off=>rfl
 |«at» r=>cases vs<;>rfl
 |undef=>rfl
 |fn f js=>rfl
theorem sP(s:OS)(vs:List gO):(bX (s.mH φ) vs).2=(bX s vs).2:=by
 cases s with
 |box T t=>exact lr t vs
 |own T r=>rfl
 |map T K agg V=>rfl
 |deep T d=>rfl
 |dmap T K E r=>rfl
theorem vZ:(l:List (Nat×SS))->(vs:List gO)->(cD (nD φ l) vs).2=(cD l vs).2
 |[],_=>rfl
 |(t,s)::l,vs=>by
  show(cD (nD φ l) (c9 (s.mH φ) vs).2).2=(cD l (c9 s vs).2).2
  rw[sO,vZ l]
theorem nF(hr:J4 H H' φ)(hm:nE p F F' w):{sh:Sh}->{vs:List gO}->{cs:List Value}->sh.fM p=true->bi H F w (k8 sh vs).1 cs->bi H' F' w (k8 (sh.mH φ) vs).1 cs
 | .leaf r,[],cs,_,h=>h
 | .leaf r,⟨s,x⟩::vs,cs,hp,h=>by
   have h':bi H F w (bif s.beq r then Tree.leaf s x else .nil) cs:=h
   show bi H' F' w (bif s.beq r then Tree.leaf s x else .nil) cs
   cases hb:s.beq r with
   |true=>
    rw[hb,cond_true]at h';obtain rfl:=Row.eq_of_beq hb;exact hm _ hp _ _ h'
   |false=>rw[hb]at h';exact h'
 | .own j,vs,cs,_,h=>by obtain⟨v,h1,h2⟩:=h;exact⟨v,hr j v h1,h2⟩
 | .nil,vs,cs,_,h=>h
 | .pair a b,vs,cs,hp,h=>by
   obtain⟨c1,c2,e,h1,h2⟩:=h;obtain⟨p1,p2⟩:=bU hp;refine⟨c1,c2,e,nF hr hm p1 h1,?_⟩;rw[lr a];exact nF hr hm p2 h2
 | .junk _,vs,cs,_,h=>h
theorem gZ.mH(hr:J4 H H' φ):{cs:List (Nat×List Bool×Nat)}->{vs:List Value}->gZ H cs vs->gZ H' (cs.map fun c=>(φ c.1,c.2)) vs
 |[],_,h=>h
 |_::_,_,h=>by obtain⟨v,us,e,⟨b,h1,h2⟩,h3⟩:=h;exact⟨v,us,e,⟨b,hr _ _ h1,h2⟩,gZ.mH hr h3⟩
theorem BB(hr:J4 H H' φ)(hm:nE p F F' w){s:SS}{vs:List gO}{v:Value}(hp:s.fM p=true)(h:ai H F w (c9 s vs).1 v):ai H' F' w (c9 (s.mH φ) vs).1 v:=by
 induction s generalizing v with
 |ifc T s ih=>
  obtain⟨u,e,h2⟩:=h;exact⟨u,e,ih hp h2⟩
 |val agg t=>
  obtain⟨cs,h1,h2⟩:=h;exact⟨cs,nF hr hm hp h1,h2⟩
 |ptr j p off=>
  obtain⟨b,h1,h2⟩:=h;exact⟨b,hr _ _ h1,h2⟩
 |«at» r=>
  match vs,h with
  |[],h=>exact h
  |⟨s,x⟩::vs,h=>
   have h':ai H F w (bif s.beq r then aj.at s x else .dead) v:=h
   show ai H' F' w (bif s.beq r then aj.at s x else .dead) v
   cases hb:s.beq r with
   |false=>trivial
   |true=>
    rw[hb,cond_true]at h';obtain rfl:=Row.eq_of_beq hb;obtain⟨b,off,rfl,hF,es,h1,h2,h3⟩:=h'
    have eR:bH F w (.slice s) [.slice (some ⟨b,off,none⟩) 1 1] [x]:=⟨some ⟨b,off,none⟩,1,rfl,Yd _,by unfold maxLen;omega,fun i hi=>by
     have e:i=0:=by simp at hi;omega
     subst e
     exact⟨b,off,es,rfl,hF,h1,fun j u hu=>by rw[Nat.zero_mul,Y0];exact h2 j u hu,h3⟩⟩
    obtain⟨A,cap,e1,_,_,n8⟩:=hm (.slice s) hp _ _ eR;obtain⟨b',cF,jq,hA,g1,g2,g3,g4⟩:=n8 0 (by simp);simp only[Zd,Zh,and_true]at e1;obtain⟨e1,_,_⟩:=e1;rw[<-e1]at hA;simp only[Ye,Zr,and_true]at hA;obtain⟨rfl,rfl⟩:=hA;exact⟨b,off,rfl,g1,jq,g2,fun j u hu=>by have:=g3 j u hu;rwa [Nat.zero_mul,Y0]at this,g4⟩
 |undef=>exact h
 |fn f js=>
  obtain⟨us,h1,h2⟩:=h;exact⟨us,h1,h2.mH hr⟩
theorem iP.kV{K:Row}{agg:Bool}{V:Row}(hm:∀cs x,bH F w V cs x->bH F' w' V cs x):{es:List MapEntry}->{l:List (K.den×V.den)}->iP H F w K agg V es l->iP H' F' w' K agg V es l
 |[],_,h=>h
 |_::_,_,h=>by
  obtain⟨k,x,l',e,h1,⟨cs,h2,F9⟩,h3⟩:=h;exact⟨k,x,l',e,h1,⟨cs,hm _ _ h2,F9⟩,iP.kV hm h3⟩
theorem bH.qM(hm:nE p F F' w):{d:DR}->{cs:List Value}->{x:d.low.den}->d.fM p=true->bH F w d.low cs x->bH F' w d.low cs x
 | .leaf r,_,_,hp,h=>hm r hp _ _ h
 | .sl _ _,_,_,_,h=>h
 | .pair a b,_,_,hp,h=>by
   obtain⟨p1,p2⟩:=bU hp;obtain⟨c1,c2,e,h1,h2⟩:=h;exact⟨c1,c2,e,bH.qM hm p1 h1,bH.qM hm p2 h2⟩
theorem gP.kV(hm:nE p F F' w){d:DR}(hp:d.fM p=true){T:TypeId}{v:Value}{l:List d.low.den}(h:gP F w T d.low v l):gP F' w T d.low v l:=by
 obtain⟨xs,h1,h2⟩:=h;exact⟨xs,h1,fun i hi=>bH.qM hm hp (h2 i hi)⟩
theorem gu.kV(hm:nE p F F' w):{d:DR}->{x':d.low.den}->{x:d.row.den}->{S:Nat->Prop}->d.fM p=true->gu F w d x' x S->gu F' w d x' x S
 | .leaf _,_,_,_,_,h=>h
 | .sl _ d,_,_,_,hp,h=>by
   obtain⟨lh,Ss,h1,h2,h3,h4⟩:=h;exact⟨lh,Ss,h1.kV hm (show d.fM p=true from hp),h2,fun i a b=>gu.kV hm (show d.fM p=true from hp) (h3 i a b),h4⟩
 | .pair a b,_,_,_,hp,h=>by
   obtain⟨p1,p2⟩:=bU hp;obtain⟨A,B,h1,h2,h3⟩:=h;exact⟨A,B,gu.kV hm p1 h1,gu.kV hm p2 h2,h3⟩
theorem yj(T:TypeId)(d:DR):(vs:List gO)->∃l,(bX (.deep T d) vs).1= .deep T d l none
 |[]=>⟨[],rfl⟩
 |⟨.slice s,l⟩::vs=>by
  unfold bX;simp only
  split<;>exact⟨_,rfl⟩
 |⟨.int _,_⟩::_|⟨.bool,_⟩::_|⟨.str,_⟩::_|⟨.gU,_⟩::_|⟨.nul _,_⟩::_|⟨.pair _ _,_⟩::_|⟨.map ..,_⟩::_=>⟨[],rfl⟩
theorem BC(T:TypeId)(K:Row)(agg:Bool)(V:Row):(vs:List gO)->∃l,(bX (.map T K agg V) vs).1= .map T K agg V l
 |[]=>⟨[],rfl⟩
 |⟨.slice (.pair K' V'),l⟩::vs=>by
  unfold bX;simp only
  split<;>exact⟨_,rfl⟩
 |⟨.slice (.int _),_⟩::_|⟨.slice .bool,_⟩::_|⟨.slice .str,_⟩::_|⟨.slice (.slice _),_⟩::_|⟨.slice .gU,_⟩::_|⟨.slice (.nul _),_⟩::_|⟨.slice (.map ..),_⟩::_=>⟨[],rfl⟩
 |⟨.int _,_⟩::_|⟨.bool,_⟩::_|⟨.str,_⟩::_|⟨.gU,_⟩::_|⟨.nul _,_⟩::_|⟨.pair _ _,_⟩::_|⟨.map ..,_⟩::_=>⟨[],rfl⟩
theorem dY.kV(hm:nE p F F' w){K:Row}{E:TypeId}{r:Row}(hp:p r=true):{es:List MapEntry}->{l:List (K.den×List r.den)}->{S:Nat->Prop}->dY H F w K E r none es l S->dY H' F' w K E r none es l S
 |[],_,_,h=>h
 |_::_,_,_,h=>by
  obtain⟨k,y,l',A,B,e,h1,⟨⟨xs,h2,h3⟩,h4⟩,h5,h6⟩:=h;exact⟨k,y,l',A,B,e,h1,⟨⟨xs,h2,fun i hi=>hm r hp _ _ (h3 i hi)⟩,h4⟩,dY.kV hm hp h5,h6⟩
theorem yk(T:TypeId)(K:Row)(E:TypeId)(r:Row):(vs:List gO)->∃l,(bX (.dmap T K E r) vs).1= .dmap T K E r l none
 |[]=>⟨[],rfl⟩
 |⟨.slice (.pair K' (.slice s)),l⟩::vs=>by
  unfold bX;simp only
  split<;>exact⟨_,rfl⟩
 |⟨.slice (.pair _ (.int _)),_⟩::_|⟨.slice (.pair _ .bool),_⟩::_|⟨.slice (.pair _ .str),_⟩::_|⟨.slice (.pair _ .gU),_⟩::_|⟨.slice (.pair _ (.nul _)),_⟩::_|⟨.slice (.pair _ (.pair _ _)),_⟩::_|⟨.slice (.pair _ (.map ..)),_⟩::_=>⟨[],rfl⟩
 |⟨.slice (.int _),_⟩::_|⟨.slice .bool,_⟩::_|⟨.slice .str,_⟩::_|⟨.slice (.slice _),_⟩::_|⟨.slice .gU,_⟩::_|⟨.slice (.nul _),_⟩::_|⟨.slice (.map ..),_⟩::_=>⟨[],rfl⟩
 |⟨.int _,_⟩::_|⟨.bool,_⟩::_|⟨.str,_⟩::_|⟨.gU,_⟩::_|⟨.nul _,_⟩::_|⟨.pair _ _,_⟩::_|⟨.map ..,_⟩::_=>⟨[],rfl⟩
theorem oD(hr:J4 H H' φ)(hm:nE p F F' w){s:OS}{vs:List gO}{S:Nat->Prop}{v:Value}(hp:s.fM p=true)(h:fy H F w S v (bX s vs).1):
 fy H' F' w S v (bX (s.mH φ) vs).1/\(bX (s.mH φ) vs).1.base=(bX (s.mH φ) vs).1/\(∀k,fp S v (bX (s.mH φ) vs).1 k->fp S v (bX s vs).1 k):=by
 have own:∀(T:TypeId)(q:Row)(l:List q.den),p q=true->fy H F w S v (.own T q l)->fy H' F' w S v (.own T q l):=fun T q l hq ⟨xs,hx,h3⟩=>⟨xs,hx,fun i hi=>hm q hq _ _ (h3 i hi)⟩
 cases s with
 |box T t=>
  obtain⟨b,es,e,h1,h2⟩:=h;exact⟨⟨b,es,e,h1,nF hr hm hp h2⟩,rfl,fun k hk=>hk⟩
 |own T r=>
  match vs,h with
  |[],h=>exact⟨own T r [] hp h,rfl,fun _ h=>h⟩
  |⟨.slice s,l⟩::vs,h=>
   have h':fy H F w S v (bif s.beq r then Th.own T s l else .own T r []):=h
   show fy H' F' w S v (bif s.beq r then Th.own T s l else .own T r [])/\Th.base (bif s.beq r then Th.own T s l else .own T r [])=(bif s.beq r then Th.own T s l else .own T r [])/\∀k,fp S v (bif s.beq r then Th.own T s l else .own T r []) k->fp S v (bif s.beq r then Th.own T s l else .own T r []) k
   cases hb:s.beq r with
   |true=>
    rw[hb,cond_true]at h';obtain rfl:=Row.eq_of_beq hb;exact⟨own T s l hp h',rfl,fun _ h=>h⟩
   |false=>
    rw[hb,cond_false]at h';exact⟨own T r [] hp h',rfl,fun _ h=>h⟩
  |⟨.int _,_⟩::vs,h=>exact⟨own T r [] hp h,rfl,fun _ h=>h⟩
  |⟨.bool,_⟩::vs,h=>exact⟨own T r [] hp h,rfl,fun _ h=>h⟩
  |⟨.str,_⟩::vs,h=>exact⟨own T r [] hp h,rfl,fun _ h=>h⟩
  |⟨.gU,_⟩::vs,h=>exact⟨own T r [] hp h,rfl,fun _ h=>h⟩
  |⟨.nul _,_⟩::vs,h=>exact⟨own T r [] hp h,rfl,fun _ h=>h⟩
  |⟨.map ..,_⟩::vs,h=>exact⟨own T r [] hp h,rfl,fun _ h=>h⟩
  |⟨.pair _ _,_⟩::vs,h=>exact⟨own T r [] hp h,rfl,fun _ h=>h⟩
 |map T K agg V=>
  have gen:∀l:List (K.den×V.den),fy H F w S v (.map T K agg V l)->fy H' F' w S v (.map T K agg V l):=by
   rintro l ⟨b,es,clock,e,h1,h2,h3⟩
   exact⟨b,es,clock,e,h1,h2,iP.kV (fun cs x hr=>hm V hp cs x hr) h3⟩
  obtain⟨l,hl⟩:=BC T K agg V vs
  show fy H' F' w S v (bX (OS.map T K agg V) vs).1/\(bX (OS.map T K agg V) vs).1.base=(bX (OS.map T K agg V) vs).1/\∀k,fp S v (bX (OS.map T K agg V) vs).1 k->fp S v (bX (OS.map T K agg V) vs).1 k
  rw[hl]at h⊢;exact⟨gen l h,rfl,fun _ h=>h⟩
 |deep T d=>
  obtain⟨l,hl⟩:=yj T d vs
  show fy H' F' w S v (bX (OS.deep T d) vs).1/\(bX (OS.deep T d) vs).1.base=(bX (OS.deep T d) vs).1/\∀k,fp S v (bX (OS.deep T d) vs).1 k->fp S v (bX (OS.deep T d) vs).1 k
  rw[hl]at h⊢;refine⟨?_,rfl,fun _ h=>h⟩;have h':gu F w (.sl T d) v l S:=h;exact(gu.kV (d:= .sl T d) hm hp h':gu F' w (.sl T d) v l S)
 |dmap T K E r=>
  obtain⟨l,hl⟩:=yk T K E r vs
  show fy H' F' w S v (bX (OS.dmap T K E r) vs).1/\(bX (OS.dmap T K E r) vs).1.base=(bX (OS.dmap T K E r) vs).1/\∀k,fp S v (bX (OS.dmap T K E r) vs).1 k->fp S v (bX (OS.dmap T K E r) vs).1 k
  rw[hl]at h⊢;refine⟨?_,rfl,fun _ h=>h⟩;obtain⟨b,es,clock,B,e,h1,h2,h3,h4,_⟩:=h;exact⟨b,es,clock,B,e,h1,h2,h3.kV hm hp,h4,fun _ _ e=>by cases e⟩
theorem sQ:{l:List (Nat×SS)}->{vs:List gO}->{t:Nat}->{d:aj}->mW p l=true->find (cD (nD φ l) vs).1 t=some d->∃s us,d=(c9 (s.mH φ) us).1/\find (cD l vs).1 t=some (c9 s us).1/\s.fM p=true
 |[],_,_,_,_,h=>by cases h
 |(t0,s)::l,vs,t,d,hp,h=>by
  obtain⟨p1,p2⟩:=bU hp;have h':find ((t0,(c9 (s.mH φ) vs).1)::(cD (nD φ l) (c9 (s.mH φ) vs).2).1) t=some d:=h
  show∃s' us,d=_/\find ((t0,(c9 s vs).1)::(cD l (c9 s vs).2).1) t=_/\_
  rw[aw]at h';by_cases e:t0=t
  .rw[if_pos e]at h';exact⟨s,vs,(X7 h').symm,by rw[aw,if_pos e],p1⟩
  .rw[if_neg e]at h';rw[sO]at h';obtain⟨s',us,a1,a2,a3⟩:=sQ p2 h';exact⟨s',us,a1,by rw[aw,if_neg e];exact a2,a3⟩
theorem Ej(hr:J4 H H' φ)(hm:nE p F F' w){ρ:Nat->Value}{l:List (Nat×SS)}{vs:List gO}(hp:mW p l=true)(h:∀t d,find (cD l vs).1 t=some d->ai H F w d (ρ t)):∀t d,find (cD (nD φ l) vs).1 t=some d->ai H' F' w d (ρ t):=by
 intro t d hf;obtain⟨s,us,rfl,h2,h3⟩:=sQ hp hf;exact BB hr hm h3 (h t _ h2)
theorem v3{m m':Nat}:{l:List (Nat×OS)}->{vs:List gO}->{o s:Nat}->{t:Th}->find (gz m (vX φ l) vs) o=some (s,t)->∃j s' us sh,φ j=o/\t=(bX (sh.mH φ) us).1/\find (gz m' l vs) j=some (s',(bX sh us).1)/\(sN p l=true->sh.fM p=true)/\nC (gz m (vX φ l) vs) s=some t/\m<=s/\s<m+l.length/\s'=s-m+m'
 |[],_,_,_,_,h=>by cases h
 |(j,sh)::l,vs,o,s,t,h=>by
  have h':find ((φ j,(m,(bX (sh.mH φ) vs).1))::gz (m+1) (vX φ l) (bX (sh.mH φ) vs).2) o=some (s,t):=h;rw[aw]at h';split at h'
  .rename_i e;simp only[Ye,YW]at h';obtain⟨rfl,rfl⟩:=h';refine⟨j,m',vs,sh,e,rfl,?_,fun hp=>(bU hp).1,?_,Yd _,by simp,by omega⟩
   .show find ((j,(m',(bX sh vs).1))::_) j=_
    rw[aw,if_pos rfl]
   .show(bif Yb m m then _ else _)=_
    simp
  .rename_i e;rw[sP]at h';obtain⟨j',s',us,Ra,a1,a2,a3,a4,a5,a6,a7,a8⟩:=v3 (m':=m'+1) h';refine⟨j',s',us,Ra,a1,a2,?_,fun hp=>a4 (bU hp).2,?_,by omega,by rw[List.length_cons];omega,by omega⟩
   .show find ((j,(m',(bX sh vs).1))::gz (m'+1) l (bX sh vs).2) j'=_
    rw[aw,if_neg (fun e'=>e (by rw[e',a1]))];exact a3
   .show(bif Yb m s then _ else nC (gz (m+1) (vX φ l) (bX (sh.mH φ) vs).2) s)=_
    have:Yb m s=false:=by
     cases hb:Yb m s with
     |false=>rfl
     |true=>have:=beq_true hb;omega
    rw[this,cond_false,sP];exact a5
def yl:List (Nat×aj)->Option (List (Bool×Tree))
 |[]=>some []
 |(_, .val a t)::l=>match yl l with
  |some ds=>some ((a,t)::ds)
  |none=>none
 |_::_=>none
def Ek:List (Nat×aj)->Option aj
 |[]=>some .dead
 |[(_,d)]=>some d
 |l=>match yl l with
  |some ds=>some (.tup ds)
  |none=>none
def nG:Nat->List (Nat×SS)->Bool
 |_,[]=>true
 |k,(t,_)::l=>Yb t k&&nG (k+1) l
theorem zJ:{l:List (Nat×SS)}->{vs:List gO}->{k t:Nat}->{d:aj}->nG k l=true->find (cD l vs).1 t=some d->k<=t
 |[],_,_,_,_,_,h=>by cases h
 |(t0,s)::l,vs,k,t,d,hi,h=>by
  obtain⟨h1,h2⟩:=bU hi;have h':find ((t0,(c9 s vs).1)::(cD l (c9 s vs).2).1) t=some d:=h;rw[aw]at h';have:=beq_true h1;split at h'
  .omega
  .have:=zJ h2 h';omega
theorem El{f:Nat->Value}:{l:List (Nat×SS)}->{vs:List gO}->{k:Nat}->{ds:List (Bool×Tree)}->nG k l=true->(∀t d,find (cD l vs).1 t=some d->ai H F w d (f t))->yl (cD l vs).1=some ds->nq H F w ds ((List.range' k l.length).map f)
 |[],_,_,_,_,_,h=>by cases h;rfl
 |(t0,s)::l,vs,k,ds,hi,mP,h=>by
  obtain⟨h1,h2⟩:=bU hi;obtain rfl:=beq_true h1;have h':yl ((t0,(c9 s vs).1)::(cD l (c9 s vs).2).1)=some ds:=h;have KS:∀t d,find ((t0,(c9 s vs).1)::(cD l (c9 s vs).2).1) t=some d->ai H F w d (f t):=mP;have h0:=KS t0 _ (by rw[aw,if_pos rfl]);generalize(c9 s vs).1=d0 at*
  cases d0<;>unfold yl at h'<;>try cases h'
  rename_i a t
  split at h'<;>cases h'
  rename_i MA pP;refine⟨f t0,(List.range' (t0+1) l.length).map f,by simp[List.range'_succ],h0,El h2 (fun t d hf=>KS t d ?_) pP⟩;have:=zJ h2 hf;rw[aw,if_neg (by omega)];exact hf
theorem v5:{l:List (Nat×SS)}->{k:Nat}->nG k (nD φ l)=nG k l
 |[],_=>rfl
 |(t,s)::l,k=>by
  show(Yb t k&&nG (k+1) (nD φ l))=_
  rw[v5];rfl
theorem pc:{l:List (Nat×SS)}->(nD φ l).length=l.length
 |[]=>rfl
 |(t,s)::l=>by
  show(nD φ l).length+1=l.length+1
  rw[pc]
theorem ym(us:List Value):(List.range' 0 us.length).map (fun t=>us.getD t undef)=us:=by
 apply List.ext_getElem (by simp);intro i h1 h2;simp[Y3,h2]
theorem IU{l:List (Nat×SS)}{vs:List gO}{us:List Value}{D:aj}(hi:nG 0 l=true)(hl:us.length=l.length)(mP:∀t d,find (cD l vs).1 t=some d->ai H F w d (us.getD t undef))(h:Ek (cD l vs).1=some D):ai H F w D (rU us):=by
 have tup:∀ds,yl (cD l vs).1=some ds->us.length≠1->ai H F w (.tup ds) (rU us):=by
  intro ds pP bu;have:=El hi mP pP;rw[<-hl,ym]at this;refine⟨us,?_,this⟩
  match us,bu with
  |[],_=>rfl
  |[_],h=>exact absurd rfl h
  |_::_::_,_=>rfl
 match l,hl,h with
 |[],_,h=>obtain rfl:=X7 h;trivial
 |[(t,s)],hl,h=>
  have h':Ek [(t,(c9 s vs).1)]=some D:=h;obtain rfl:=X7 h';have ht:=beq_true (bU hi).1
  match us,hl with
  |[u],_=>
   have:=mP t (c9 s vs).1 (by
    show find [(t,(c9 s vs).1)] t=_
    rw[aw,if_pos rfl])
   rw[ht]at this;exact this
 |(t,s)::(t',s')::l,hl,h=>
  have h':(match yl (cD ((t,s)::(t',s')::l) vs).1 with|some ds=>some (aj.tup ds)|none=>none)=some D:=h;split at h'
  .rename_i ds pP;obtain rfl:=X7 h';exact tup ds pP (by simp at hl;omega)
  .cases h'
end
end Go.Proofs.YtlfjlhcigpejdaaGreatDoor
end
section
open _root_.Nat renaming beq->Yb,blt->YM,le_refl->Yd,lt_of_lt_of_le->YK,lt_or_ge->YN
open _root_.Option renaming isSome_iff_exists->YA,none_or->Zi
open _root_.Option.some renaming inj->X7,injEq->Ye
open _root_.Prod.mk renaming injEq->YW
namespace Go.Proofs.YtlfjlhcigpejdaaGreatDoor
open Go Go.RowKit
def fi:Nat->List aj->List (Nat×aj)
 |_,[]=>[]
 |k,d::ds=>(k,d)::fi (k+1) ds
def HQ(n:Nat)(bs:Bs)(aD:List (Nat×(Nat×Th)))(m:Nat)(j:Nat):Nat:=
 bif YM j m then(match find bs j with
  |some (some o)=>(match find aD o with
   |some _=>o
   |none=>n+j)
  |_=>n+j)else n+j
def kW(aD:List (Nat×(Nat×Th))):List Nat->List (Nat×(Nat×Th))
 |[]=>[]
 |o::os=>match find aD o with
  |some (s,t)=>bif cV t then(o,(s,t))::kW aD os else kW aD os
  |none=>kW aD os
def always(_:Row):Bool:=true
def zK(sg:bf):Bool:=mW Row.vY sg.out.ah&&sN Row.vY sg.out.objs
def oE{R:Type}(sg:bf)(n:Nat)(bs:Bs)(aD:List (Nat×(Nat×Th)))(nd:List Nat)(y:bA sg.out.rows)(k:cU->Option R):Option R:=
 match Ek (cD (nD (HQ n bs aD sg.inn.nxt) sg.out.ah) (dh _ y)).1 with
 |some D=>bif zK sg then k {dst:=D,eat:=eN bs,make:=gz n (vX (HQ n bs aD sg.inn.nxt) sg.out.objs) (cD (nD (HQ n bs aD sg.inn.nxt) sg.out.ah) (dh _ y)).2}
   else k {dst:=D,eat:=eN bs++nd,make:=gz n (vX (HQ n bs aD sg.inn.nxt) sg.out.objs) (cD (nD (HQ n bs aD sg.inn.nxt) sg.out.ah) (dh _ y)).2++kW aD nd}
 |none=>none
def kC{R:Type}(objs:List (Nat×(Nat×Th)))(n:Nat)(f:FuncId)(ds:List aj)(k:cU->Option R):List (Nat×bf)->Option R
 |[]=>none
 |(g,sg)::tab=>bif Yb g f then(match sL 0 [] sg.inn (fi 0 ds) objs with
    |some (x,bs,aD)=>bif Yb ds.length sg.inn.ah.length&&nG 0 sg.out.ah&&Nat.ble sg.out.nxt 16&&Nat.ble sg.out.objs.length 16&&(mW always sg.out.ah)then
      (sg.fn x).bind fun y=>oE sg n bs aD (sK 0 sg.inn (fi 0 ds) objs) y k else none
    |none=>kC objs n f ds k tab)else kC objs n f ds k tab
def KT(c:Nat×List Bool×Nat):aj:= .ptr c.1 c.2.1 c.2.2
theorem qN{H:ao}{F:Nat->Prop}{w:World}:{cs:List (Nat×List Bool×Nat)}->{vs:List Value}->gZ H cs vs->dJ H F w (cs.map KT) vs
 |[],_,h=>h
 |_::_,_,h=>by obtain⟨v,us,e,h1,h3⟩:=h;exact⟨v,us,e,h1,qN h3⟩
theorem nH{H:ao}{F:Nat->Prop}{w:World}:{ds es:List aj}->{vs us:List Value}->dJ H F w ds vs->dJ H F w es us->dJ H F w (ds++es) (vs++us)
 |[],_,vs,_,h,h'=>by rw[show vs=[]from h];exact h'
 |_::_,_,_,_,h,h'=>by obtain⟨v,us,rfl,h1,h2⟩:=h;exact⟨v,_,rfl,h1,nH h2 h'⟩
def zL(rd:Operand->Option aj)(x:Operand):Option (FuncId×List (Nat×List Bool×Nat)):=
 match rd x with
 |some (.fn f caps)=>some (f,caps)
 |_=>none
def sR{R:Type}(tab:List (Nat×bf))(rd:Operand->Option aj)(objs:List (Nat×(Nat×Th)))(n:Nat)(x:Operand)(args:List Operand)(k:cU->Option R):Option R:=
 match zL rd x with
 |some (f,caps)=>match nw rd args with
  |some ds=>kC objs n f (ds++caps.map KT) k tab
  |none=>none
 |none=>none
section
variable {P:Program} {ρ:Nat->Value} {w w':World} {H H':ao} {F F':Nat->Prop} {U:Nat->Prop} {n:Nat} {R:Type}
variable {ty:TypeId} {pos:String} {aft:Array Edge} {dst:Option Nat}
theorem lu:{ds:List aj}->{vs:List Value}->{k:Nat}->dJ H F w ds vs->∀t d,find (fi k ds) t=some d->k<=t/\ai H F w d (vs.getD (t-k) undef)
 |[],_,_,_,_,_,h=>by cases h
 |d0::ds,vs,k,h,t,d,hf=>by
  obtain⟨v,us,rfl,h1,h2⟩:=h;have nf:find ((k,d0)::fi (k+1) ds) t=some d:=hf;rw[aw]at nf;split at nf
  .rename_i e;subst e;obtain rfl:=X7 nf;exact⟨Yd _,by simpa using h1⟩
  .obtain⟨h3,h4⟩:=lu h2 t d nf;refine⟨by omega,?_⟩;rw[show t-k=(t-(k+1))+1 from by omega];simpa using h4
theorem jg{aD:List (Nat×(Nat×Th))}:{nd:List Nat}->{o s:Nat}->{t:Th}->find (kW aD nd) o=some (s,t)->o∈nd/\find aD o=some (s,t)/\cV t=true
 |[],_,_,_,h=>by cases h
 |o0::nd,o,s,t,h=>by
  unfold kW at h;split at h
  .rename_i s0 t0 h0
   cases hb:cV t0 with
   |true=>
    rw[hb,cond_true,aw]at h;split at h
    .rename_i e;simp only[Ye,YW]at h;obtain⟨rfl,rfl⟩:=h;subst e;exact⟨by simp,h0,hb⟩
    .obtain⟨a,b⟩:=jg h;exact⟨by simp[a],b⟩
   |false=>
    rw[hb,cond_false]at h;obtain⟨a,b⟩:=jg h;exact⟨by simp[a],b⟩
  .obtain⟨a,b⟩:=jg h;exact⟨by simp[a],b⟩
theorem nI:{l:List (Nat×OS)}->sN always l=true
 |[]=>rfl
 |(t,s)::l=>by
  have ht:∀sh:Sh,sh.fM always=true:=by
   intro sh
   induction sh with
   |leaf r=>rfl
   |own j=>rfl
   |nil=>rfl
   |junk n=>rfl
   |pair a b NI NJ=>show(a.fM always&&b.fM always)=true;rw[NI,NJ];rfl
  have:s.fM always=true:=by
   cases s with
   |box T t=>exact ht t
   |own T r=>rfl
   |map T K agg V=>rfl
   |deep T d=>
    have hd:∀d:DR,d.fM always=true:=by
     intro d
     induction d with
     |leaf r=>rfl
     |sl T d ih=>exact ih
     |pair a b NI NJ=>show(a.fM always&&b.fM always)=true;rw[NI,NJ];rfl
    exact hd d
   |dmap T K E r=>rfl
  show(s.fM always&&sN always l)=true
  rw[this,nI];rfl
def iN(H H':ao)(n:Nat)(cons:List (Nat×(Nat×Th)))(m0:Nat):ao where
 val m:=if n<=m/\m<n+16 then H'.val (m-n)else H.val m
 con m:=if n<=m/\m<n+16 then nC cons m else H.con m
 sub m:=if n<=m/\m<n+16 then H'.sub (m-n+m0)else H.sub m
theorem BD{dd:Option Nat}{f:FuncId}{fn:Func}{g:Operand}{args:Array Operand}{vs us:List Value}{rH:Array TypeId}(hf:P.funcs[f]? =some fn)(hn:(fn.name== "runtime.NumGoroutine")=false)(hb:fn.body.isNone=false)(FF:args.toList.map (ev ρ)=vs)(hg:ev ρ g= .func (.func f) #[] us.toArray):
 (execOp (ev ρ) ⟨dd, .call {callee:= .value g,args:=args,argTypes:=rH},ty,pos,aft,none⟩).run P w= .ok (.enter f (vs++us).toArray) w:=by
 subst FF
 have F7:¬fn.name= "runtime.NumGoroutine" :=by simpa using hn
 have lQ:¬fn.body=none:=by
  intro e;rw[e]at hb;cases hb
 have e:(Array.map (ev ρ) args++us.toArray)=(args.toList.map (ev ρ)++us).toArray:=by simp
 simp[execOp,resolve,hg,Deferred.ofValue,invoke,callFunc,hf,F7,lQ,go_sem,e]
theorem BE{sg:bf}{f:FuncId}(rV:aC P f sg){objs:List (Nat×(Nat×Th))}{op:Op}{k:cU->Option R}{q:R}{ds:List aj}{vs:List Value}{x:bA sg.inn.rows}{bs:Bs}{aD:List (Nat×(Nat×Th))}
 (sS:dJ H F w ds vs)(bR:∀fn,P.funcs[f]? =some fn->(fn.name== "runtime.NumGoroutine")=false->fn.body.isNone=false->(execOp (ev ρ) ⟨dst,op,ty,pos,aft,none⟩).run P w= .ok (.enter f vs.toArray) w)(hs:aq U H F w (find objs) n)
 (J5:sL 0 [] sg.inn (fi 0 ds) objs=some (x,bs,aD))
 (h':(bif Yb ds.length sg.inn.ah.length&&nG 0 sg.out.ah&&Nat.ble sg.out.nxt 16&&Nat.ble sg.out.objs.length 16&&(mW always sg.out.ah)then
   (sg.fn x).bind fun y=>oE sg n bs aD (sK 0 sg.inn (fi 0 ds) objs) y k else none)=some q):
 ∃e,k e=some q/\bJ P U H F w ρ (find objs) n ⟨dst,op,ty,pos,aft,none⟩ e:=by
 obtain⟨hc,h'⟩:=ay h';obtain⟨hc,SV⟩:=bU hc;obtain⟨hc,JU⟩:=bU hc;obtain⟨hc,DV⟩:=bU hc;obtain⟨va,pL⟩:=bU hc;have va:=beq_true va
 have DV:sg.out.nxt<=16:=by simpa using DV
 have JU:sg.out.objs.length<=16:=by simpa using JU
 obtain⟨y,hy,h⟩:=bind_some h';clear h';obtain⟨⟨fn,Rb,SW,SX⟩,mP⟩:=rV;have Rc:=gy sS
 let H0:ao:=⟨fun _=>none,fun _=>none,fun _ _=>False⟩
 have IT:aq U H0 F w (find (del [] [])) 0:=⟨fun _ _ _ h=>(by cases h),fun _ _ _ _ _ _ _ _ _ h=>(by cases h),fun _ _ _=>⟨rfl,rfl⟩,hs.lt,hs.new,hs.gl⟩
 have IV:bD H0 F w H F w:=⟨⟨fun _ _ h=>(by cases h),fun _ _ h=>(by cases h),fun _ _ h=>(by cases h)⟩,Step.refl F w⟩
 have eR:∀t d,find (fi 0 ds) t=some d->ai H F w d (vs.getD t undef):=fun t d hd=>by simpa using(lu sS t d hd).2
 obtain⟨F1,H1,mG,vd,FG,rT,vW,oC,zI,IW,v7⟩:=qL (U':=fun k=>w.heap.size<=k\/∃o∈eN bs,∃s t v,find aD o=some (s,t)/\H.val o=some v/\fp (H.sub s) v t k) (ns:=[]) (objs0:=[]) (ρ:=fun t=>vs.getD t undef) J5 IT (fun _ _=>⟨rfl,rfl⟩) IV hs eR;have v7:=v7 (fun b hb=> .inl hb) (fun o s t v k h1 h2 h3 h4=> .inr ⟨o,h1,s,t,v,h2,h3,h4⟩) (fun _ _ _ _ _ h=>by cases h);generalize hG:(fun k=>∃o∈eN bs,∃s t v,find aD o=some (s,t)/\H.val o=some v/\fp (H.sub s) v t k)=G
 have KU:∀k,G k->¬F1 k:=by
  rw[<-hG]
  rintro k ⟨o,_,s,t,v,h1,h2,h3⟩
  obtain⟨v',cy,bO⟩:=mG.obj _ _ _ h1;rw[h2]at cy;obtain rfl:=X7 cy;exact bO.no k h3
 have NK:∀k,G k->bx H (find objs) (eN bs) k:=by
  rw[<-hG]
  rintro k ⟨o,ho,s,t,v,h1,h2,h3⟩
  rcases fh rT o s t h1 with h4|h4
  .exact⟨o,ho,s,t,v,h4,h2,h3⟩
  .exact(eK h4 h3).elim
 have KV:aq (fun k=>w.heap.size<=k\/G k) H1 F1 w (find (gz 0 sg.inn.objs (cD sg.inn.ah (dh sg.inn.rows x)).2)) sg.inn.nxt:=by
  rw[show del [] ([]:List (Nat×(Nat×Th)))=[]from rfl,List.append_nil]at v7;rw[<-hG];exact v7
 have KW:=mP x y hy vs w H1 F1 G (by omega) IW KV zI KU;generalize IM:sK 0 sg.inn (fi 0 ds) objs=nd at h FG rT;generalize NL:HQ n bs aD sg.inn.nxt=φ at h;unfold oE at h;rw[NL]at h;split at h
 case h_2=>cases h
 rename_i D hD
 have Bn:∀(e:cU),e.dst=D->(∀(w':World)(us:List Value)(H':ao)(F':Nat->Prop),us.length=sg.out.ah.length->Ext G w w'->H1.le H'->(∀b,F1 b->F' b)->(∀b,F' b->F1 b\/w.heap.size<=b\/G b)->
  (∀t d,find (cD sg.out.ah (dh sg.out.rows y)).1 t=some d->ai H' F' w' d (us.getD t undef))->aq (fun k=>w.heap.size<=k\/G k) H' F' w' (find (gz sg.inn.nxt sg.out.objs (cD sg.out.ah (dh sg.out.rows y)).2)) sg.out.nxt->gx H' sg.out.nxt->gV H F w (find objs) n e (rU us) w')->
  bJ P U H F w ρ (find objs) n ⟨dst,op,ty,pos,aft,none⟩ e:=by
  intro e he mI;have bR:=bR fn Rb SW SX;unfold bJ bp;rw[bR]
  refine KW.mono fun e' w' ⟨us,he',GB,H',F',a1,a2,a3,a4,a5,a6,a7⟩=>⟨_,he',mI w' us H' F' GB a1 a2 a3 a4 a5 a6 a7⟩
 generalize vV:gz n (vX φ sg.out.objs) (cD (nD φ sg.out.ah) (dh sg.out.rows y)).2=cons at h;have NM:=vZ (φ:=φ) sg.out.ah (dh sg.out.rows y)
 have IX:∀{H':ao},H1.le H'->gx H' sg.out.nxt->J4 H' (iN H H' n cons sg.inn.nxt) φ/\H.le (iN H H' n cons sg.inn.nxt)/\∀m,(m<n\/n+16<=m)->(H.val m=none->(iN H H' n cons sg.inn.nxt).val m=none)/\(H.con m=none->(iN H H' n cons sg.inn.nxt).con m=none):=by
  intro H' hle A3
  have GC:∀j v,H'.val j=some v->j<sg.out.nxt:=fun j v hj=>by
   rcases YN j sg.out.nxt with g|g
   .exact g
   .rw[(A3 j g).1]at hj;cases hj
  have hold:∀o v,H.val o=some v->¬(n<=o/\o<n+16):=fun o v ho hc=>by
   rw[(hs.fresh o hc.1 hc.2).1]at ho;cases ho
  refine⟨fun j v hj=>?_,⟨fun o v ho=>?_,fun s t dH=>?_,fun s t dH=>?_⟩,fun m hm=>?_⟩
  .rw[<-NL];have MH:=GC j v hj
   have gen:(iN H H' n cons sg.inn.nxt).val (n+j)=some v:=by
    simp only[iN];rw[if_pos (by omega),Nat.add_sub_cancel_left];exact hj
   unfold HQ
   cases hb:YM j sg.inn.nxt with
   |false=>simpa using gen
   |true=>
    rw[cond_true];split
    .rename_i o ho;split
     case h_2=>exact gen
     rename_i e he;obtain⟨u,hu,_⟩:=mG.obj o e.1 e.2 he;have h1:=hle.val _ _ (oC j (some o) ho u hu);rw[hj]at h1;obtain rfl:=X7 h1;simp only[iN];rw[if_neg (hold o _ hu)];exact hu
    .exact gen
  .simp only[iN];rw[if_neg (hold o v ho)];exact ho
  .simp only[iN];rw[if_neg (fun hc=>by rw[(hs.fresh s hc.1 hc.2).2]at dH;cases dH)];exact dH
  .simp only[iN];rw[if_neg (fun hc=>by rw[(hs.fresh s hc.1 hc.2).2]at dH;cases dH)]
  .simp only[iN];rw[if_neg (by omega),if_neg (by omega)];exact⟨id,id⟩
 have made:∀{p:Row->Bool}{us:List Value}{w':World}{H':ao}{F' F2:Nat->Prop}{eat:List Nat},us.length=sg.out.ah.length->mW p sg.out.ah=true->sN p sg.out.objs=true->nE p F' F2 w'->Ext G w w'->H1.le H'->(∀b,F2 b->F' b)->(∀o,o∈eN bs->o∈eat)->
  (∀t d,find (cD sg.out.ah (dh sg.out.rows y)).1 t=some d->ai H' F' w' d (us.getD t undef))->aq (fun k=>w.heap.size<=k\/G k) H' F' w' (find (gz sg.inn.nxt sg.out.objs (cD sg.out.ah (dh sg.out.rows y)).2)) sg.out.nxt->gx H' sg.out.nxt->
  ai (iN H H' n cons sg.inn.nxt) F2 w' D (rU us)/\Made (iN H H' n cons sg.inn.nxt) F2 w w' (bx H (find objs) eat) cons/\∀o,(find cons o).isSome->o∈eat\/n<=o:=by
  intro p us w' H' F' F2 eat GB JT Iz MI bI hle FG gS tI GD KX;obtain⟨hr,_,_⟩:=IX hle KX
  have zM:∀o s t,find cons o=some (s,t)->∃j s' us sh,φ j=o/\t=(bX (sh.mH φ) us).1/\find (gz sg.inn.nxt sg.out.objs (cD sg.out.ah (dh sg.out.rows y)).2) j=some (s',(bX sh us).1)/\sh.fM p=true/\nC cons s=some t/\n<=s/\s<n+16/\(iN H H' n cons sg.inn.nxt).sub s=H'.sub s':=by
   intro o s t ho;rw[<-vV]at ho⊢;rw[NM]at ho⊢;obtain⟨j,s',NN,sh,a1,a2,a3,a4,a5,a6,a7,a8⟩:=v3 (m':=sg.inn.nxt) ho
   have aW:s<n+16:=by omega
   refine⟨j,s',NN,sh,a1,a2,a3,a4 Iz,a5,a6,aW,?_⟩;simp only[iN];rw[if_pos ⟨a6,aW⟩,a8]
  refine⟨?_,⟨fun o s t ho=>?_,fun o o' s s' t t' v v' bu ho iJ hv cy k hk cx=>?_⟩,fun o ho=>?_⟩
  .exact IU (by rw[v5];exact pL) (by rw[pc];exact GB) (Ej hr MI JT tI) hD
  .obtain⟨j,s',NN,sh,rfl,rfl,a3,a4,a5,a6,a7,a8⟩:=zM o s t ho;rw[a8];obtain⟨v,hv,bO⟩:=GD.obj _ _ _ a3;obtain⟨b1,b2,b3⟩:=oD hr MI a4 bO.ok;refine⟨v,hr j v hv,bO.one,?_,b1,fun k hk=>⟨fun e=>bO.no k (b3 k hk) (FG k e),bO.lt k (b3 k hk),?_⟩⟩
   .rw[b2];simp only[iN];rw[if_pos ⟨a6,a7⟩];exact a5
   .rcases bO.use k (b3 k hk)with h1|h1
    .exact .inl h1
    .obtain⟨o',iJ,rest⟩:=NK k h1;exact .inr ⟨o',gS o' iJ,rest⟩
  .obtain⟨j,s1,Xz,sh,rfl,rfl,a3,a4,a5,a6,_,a8⟩:=zM o s t ho;obtain⟨j',XA,SY,Ra,rfl,rfl,Rd,SZ,XB,XC,_,S0⟩:=zM o' s' t' iJ;rw[a8]at hk;rw[S0]at cx;obtain⟨u,hu,bO⟩:=GD.obj _ _ _ a3;obtain⟨u',vz,vN⟩:=GD.obj _ _ _ Rd;have e1:=hr j u hu;rw[hv]at e1;obtain rfl:=X7 e1;have e2:=hr j' u' vz;rw[cy]at e2;obtain rfl:=X7 e2;exact GD.apart j j' _ _ _ _ _ _ (fun e=>bu (by rw[e])) a3 Rd hu vz k ((oD hr MI a4 bO.ok).2.2 k hk) ((oD hr MI SZ vN.ok).2.2 k cx)
  .obtain⟨e,he⟩:=YA.1 ho;obtain⟨j,s',NN,sh,rfl,_⟩:=zM o e.1 e.2 he;rw[<-NL];unfold HQ
   cases YM j sg.inn.nxt with
   |false=>exact .inr (by simp)
   |true=>
    rw[cond_true];split
    .rename_i o ho;split
     .exact .inl (gS o (fZ ho))
     .exact .inr (by omega)
    .exact .inr (by omega)
 have KY:∀{w':World}{eat:List Nat},Ext G w w'->(∀o,o∈eN bs->o∈eat)->Ext (bx H (find objs) eat) w w':=fun bI gS=>⟨bI.os,bI.tape,bI.output,bI.size,fun k hk hn=>bI.block k hk fun hG=>hn (by
  obtain⟨o,ho,rest⟩:=NK k hG
  exact⟨o,gS o ho,rest⟩)⟩
 cases NO:zK sg with
 |true=>
  rw[NO,cond_true]at h;obtain⟨p1,p2⟩:=bU NO;refine⟨_,h,Bn _ rfl fun w' us H' F' GB a1 a2 a3 a4 a5 a6 a7=>?_⟩;obtain⟨_,g2,g3⟩:=IX a2 a7;obtain⟨m1,m2,m3⟩:=made (F2:=F) (eat:=eN bs) GB p1 p2 (fun r hr cs x hx=>bH.yi hr hx) a1 a2 (fun b hb=>a3 b (vd b hb)) (fun _ h=>h) a5 a6 a7;exact⟨_,F,⟨g2,KY a1 (fun _ h=>h),fun _ h=>h,fun _ h=> .inl h,fun b hb=>YK (hs.lt b hb) a1.size⟩,g3,m1,m2,m3⟩
 |false=>
  rw[NO,cond_false]at h;refine⟨_,h,Bn _ rfl fun w' us H' F' GB a1 a2 a3 a4 a5 a6 a7=>?_⟩;obtain⟨_,g2,g3⟩:=IX a2 a7;obtain⟨m1,m2,m3⟩:=made (F2:=F') (eat:=eN bs++nd) GB SV nI (fun r _ cs x hx=>hx) a1 a2 (fun _ h=>h) (fun o h=>by simp[h]) a5 a6 a7
  have dH:Step F1 w F' w':=fun b hb=>⟨a3 b hb,a1.block b (mG.lt b hb) fun e=>KU b e hb⟩
  have oe:∀o s t,find (kW aD nd) o=some (s,t)->o∈nd/\cV t=true/\∃v,H.val o=some v/\v.oneCell'=true/\H.con s=some t.base/\fy H F1 w (H.sub s) v t:=by
   intro o s t ho;obtain⟨b1,b2,b3⟩:=jg ho;obtain⟨v,hv,bO⟩:=mG.obj _ _ _ b2;exact⟨b1,b3,v,hv,bO.one,bO.con,bO.ok⟩
  have part:∀o s t,find (cons++kW aD nd) o=some (s,t)->find cons o=some (s,t)\/find (kW aD nd) o=some (s,t):=by
   intro o s t ho;rw[eZ]at ho
   cases hm:find cons o with
   |some e=>rw[hm]at ho;exact .inl ho
   |none=>rw[hm,Zi]at ho;exact .inr ho
  refine⟨_,F',⟨g2,KY a1 (fun o h=>by simp[h]),fun b hb=>a3 b (vd b hb),fun b hb=>?_,a6.lt⟩,g3,m1,⟨fun o s t ho=>?_,fun o o' s s' t t' v v' bu ho iJ hv cy k hk cx=>?_⟩,fun o ho=>?_⟩
  .rcases a4 b hb with h1|h1|h1
   .rcases FG b h1 with h2|⟨o,ho,rest⟩
    .exact .inl h2
    .exact .inr (.inr ⟨o,by simp[ho],rest⟩)
   .exact .inr (.inl h1)
   .obtain⟨o,ho,rest⟩:=NK b h1;exact .inr (.inr ⟨o,by simp[ho],rest⟩)
  .rcases part o s t ho with h1|h1
   .exact m2.obj o s t h1
   .obtain⟨b1,b2,v,b3,b4,b5,b6⟩:=oe o s t h1;refine⟨v,g2.val _ _ b3,b4,g2.con _ _ b5,by rw[g2.sub _ _ b5];exact b6.heap g2 dH (fun k hk=>(eK b2 hk).elim),fun k hk=>(eK b2 hk).elim⟩
  .rcases part o s t ho with h1|h1<;>rcases part o' s' t' iJ with h2|h2
   .exact m2.apart o o' s s' t t' v v' bu h1 h2 hv cy k hk cx
   .exact eK (oe o' s' t' h2).2.1 cx
   .exact eK (oe o s t h1).2.1 hk
   .exact eK (oe o s t h1).2.1 hk
  .obtain⟨e,he⟩:=YA.1 ho
   rcases part o e.1 e.2 he with h1|h1
   .exact m3 o (by rw[h1];rfl)
   .exact .inl (by simp[(oe o _ _ h1).1])
theorem jW{KZ:List (Nat×bf)}(rV:∀p∈KZ,aC P p.1 p.2){objs:List (Nat×(Nat×Th))}{f:FuncId}{op:Op}{k:cU->Option R}{q:R}{ds:List aj}{vs:List Value}
 (sS:dJ H F w ds vs)(bR:∀fn,P.funcs[f]? =some fn->(fn.name== "runtime.NumGoroutine")=false->fn.body.isNone=false->(execOp (ev ρ) ⟨dst,op,ty,pos,aft,none⟩).run P w= .ok (.enter f vs.toArray) w)(hs:aq U H F w (find objs) n):{tab:List (Nat×bf)}->(∀p∈tab,p∈KZ)->kC objs n f ds k tab=some q->
 ∃e,k e=some q/\bJ P U H F w ρ (find objs) n ⟨dst,op,ty,pos,aft,none⟩ e
 |[],_,h=>by cases h
 |(f0,sg)::tab,bO,h=>by
  unfold kC at h
  cases hb:Yb f0 f with
  |false=>rw[hb,cond_false]at h;exact jW rV sS bR hs (fun p hp=>bO p (by simp[hp])) h
  |true=>
   rw[hb,cond_true]at h;obtain rfl:=beq_true hb;split at h
   case h_2=>exact jW rV sS bR hs (fun p hp=>bO p (by simp[hp])) h
   rename_i x bs aD J5;exact BE (rV (f0,sg) (bO _ (by simp))) sS bR hs J5 h
theorem v8{tab:List (Nat×bf)}(rV:∀p∈tab,aC P p.1 p.2){rd:Operand->Option aj}(dV:∀x d,rd x=some d->ai H F w d (ev ρ x)){objs:List (Nat×(Nat×Th))}{g:Operand}{args:Array Operand}{rH:Array TypeId}{k:cU->Option R}{q:R}
 (h:sR tab rd objs n g args.toList k=some q)(hs:aq U H F w (find objs) n):
 ∃e,k e=some q/\bJ P U H F w ρ (find objs) n ⟨dst, .call {callee:= .value g,args:=args,argTypes:=rH},ty,pos,aft,none⟩ e:=by
 unfold sR at h;split at h
 case h_2=>cases h
 rename_i f caps hc;split at h
 case h_2=>cases h
 rename_i ds pP;unfold zL at hc;split at hc
 case h_2=>cases hc
 rename_i f' Re hg;cases hc;obtain⟨us,h1,h2⟩:=dV _ _ hg;exact jW rV (nH (jO (w:=w) (H:=H) (F:=F) (ρ:=ρ) dV pP) (qN (F:=F) (w:=w) h2)) (fun fn g1 g2 g3=>BD g1 g2 g3 rfl h1) hs (fun _ h=>h) h
end
end Go.Proofs.YtlfjlhcigpejdaaGreatDoor
end
section
open _root_.List renaming getElem?_drop->Yo,getElem?_take->Yz
open _root_.Nat renaming beq->Yb
open _root_.Option.some renaming injEq->Ye
open _root_.Prod.mk renaming injEq->YW
open _root_.Go.Result renaming andThen->YB
open _root_.Go.Sem renaming run_bind->Ys
namespace Go.Proofs.YtlfjlhcigpejdaaGreatDoor
open Go Go.RowKit
section
variable {P:Program} {ρ:Nat->Value} {w w':World} {H H':ao} {F F':Nat->Prop} {U:Nat->Prop} {ob:Nat->Option (Nat×Th)} {n:Nat} {R:Type}
variable {op:Op} {ty:TypeId} {pos:String} {aft:Array Edge} {d:Nat} {dst:Option Nat}
def CM.zN:CM->Bool
 | .other=>false
 |_=>true
theorem sr.zN{t:TypeId}{k:CM}(h:sr P t k)(hk:k.zN=true):∃D,P.underlying t=some D/\∀ms,D≠ .interface ms:=by
 cases k with
 |other=>cases hk
 |struct fs=>obtain⟨arr,h,_⟩:=h;exact⟨_,h,fun _ e=>by cases e⟩
 |_=>exact⟨_,h,fun _ e=>by cases e⟩
def tZ(T:aG P)(t:TypeId):Bool:=match find T.und t with
 |some k=>k.zN
 |none=>false
theorem sT(T:aG P){t:TypeId}(h:tZ T t=true):∃D,P.underlying t=some D/\∀ms,D≠ .interface ms:=by
 unfold tZ at h;split at h
 .rename_i k hk;exact(T.und_ok _ _ hk).zN h
 .cases h
def BF(T:aG P)(t:TypeId)(D:aj)(k:cU->Option R):Option R:=bif tZ T t then k {dst:= .ifc t D}else none
theorem GF(T:aG P){t:TypeId}{D:aj}{x:Operand}{k:cU->Option R}{q:R}(h:BF T t D k=some q)(hs:aq U H F w ob n)(hx:ai H F w D (ev ρ x)):
 ∃e,k e=some q/\bJ P U H F w ρ ob n ⟨some d, .makeInterface t x,ty,pos,aft,none⟩ e:=by
 unfold BF at h;obtain⟨h1,h2⟩:=ay h;obtain⟨D0,hD,hn⟩:=sT T h1;refine⟨_,h2,aU hs (v:= .iface t (ev ρ x)) ?_ ⟨_,rfl,hx⟩⟩
 cases D0 with
 |interface ms=>exact absurd rfl (hn ms)
 |_=>simp[execOp,Instr.makeInterface,run_underlying hD,YB]
def ma(T:aG P)(t:TypeId)(ok:Bool)(D:aj)(k:cU->Option R):Option R:=
 match D with
 | .ifc t' d=>bif Yb t' t&&tZ T t then(match ok,d with
   |true, .val agg tr=>k {dst:= .tup [(agg,tr),(false, .leaf .bool true)]}
   |true,_=>none
   |false,d=>k {dst:=d})else none
 |_=>none
theorem yo(T:aG P){xt t:TypeId}{ok:Bool}{D:aj}{x:Operand}{k:cU->Option R}{q:R}(h:ma T t ok D k=some q)(hs:aq U H F w ob n)(hx:ai H F w D (ev ρ x)):
 ∃e,k e=some q/\bJ P U H F w ρ ob n ⟨some d, .typeAssert x xt t ok,ty,pos,aft,none⟩ e:=by
 unfold ma at h;split at h
 case h_2=>cases h
 rename_i t' dd;obtain⟨h1,h2⟩:=ay h;obtain⟨h1,h3⟩:=bU h1;obtain rfl:=beq_true h1;obtain⟨D0,hD,hn⟩:=sT T h3;obtain⟨u,hu,hd⟩:=hx
 have bR:(Instr.typeAssert (ev ρ x) xt t' ok).run P w= .ok (if ok then .tuple #[u, .bool true]else u) w:=by
  rw[hu]
  cases D0 with
  |interface ms=>exact absurd rfl (hn ms)
  |_=>simp[Instr.typeAssert,run_underlying hD,YB]
 split at h2
 .exact⟨_,h2,aU hs (v:= .tuple #[u, .bool true]) (by simp[execOp,bR,YB]) ⟨[u, .bool true],rfl,_,_,rfl,hd,_,_,rfl,aB.eu ..,rfl⟩⟩
 .cases h2
 .exact⟨_,h2,aU hs (v:=u) (by simp[execOp,bR,YB]) hd⟩
def zO:List (TypeId×(String×(FuncId×Bool)))->TypeId->String->Option (FuncId×Bool)
 |[],_,_=>none
 |(t',(nm,p))::l,t,name=>bif Yb t' t&&(nm==name)then some p else zO l t name
theorem v9{t:TypeId}{name:String}{f:FuncId}{pr:Bool}:{l:List (TypeId×(String×(FuncId×Bool)))}->zO l t name=some (f,pr)->(t,(name,(f,pr)))∈l
 |[],h=>by cases h
 |(t',(nm,p))::l,h=>by
  unfold zO at h
  cases hb:Yb t' t&&(nm==name)with
  |true=>
   rw[hb,cond_true]at h;obtain⟨h1,h2⟩:=bU hb;obtain rfl:=beq_true h1
   obtain rfl:nm=name:=by simpa using h2
   cases h;simp
  |false=>
   rw[hb,cond_false]at h;exact List.mem_cons_of_mem _ (v9 h)
theorem yp{t:TypeId}{name:String}{f:FuncId}{pr:Bool}{v u:Value}{fuel:Nat}(h:zo P t name f pr)(hr:∀nm,(receiverAt t (.val v) pr (some nm)).run P w= .ok u w):(method (fuel+1) t v name).run P w= .ok (f,u) w:=by
 unfold zo at h
 cases hi:P.info? t with
 |none=>rw[hi]at h;cases h
 |some ti=>
  rw[hi]at h;have h:(ti.methods.find? fun m=>m.name==name).map (fun m=>(m.path.toList.length,m.func))=some (0,some (f,pr)):=h
  cases hm:ti.methods.find? fun m=>m.name==name with
  |none=>rw[hm]at h;cases h
  |some m=>
   rw[hm]at h;simp only[Option.map_some,Ye,YW]at h
   have hp:m.path= #[]:=by
    have:=h.1;simpa using this
   simp[method,typeInfo,hi,hm,hp,follow,h.2,hr,YB,Ys]
theorem BG{t e:TypeId}{nm:String}{v:Value}(hu:P.underlying t=some (.pointer e)):(receiverAt t (.val v) true (some nm)).run P w= .ok v w:=by
 simp[receiverAt,run_underlying hu,Place.get,YB,Ys]
theorem BH{t e:TypeId}{nm:String}{a:Addr}{u:Value}(hu:P.underlying t=some (.pointer e))(hl:(loadVar e a).run P w= .ok u w):(receiverAt t (.val (.pointer (some a))) false (some nm)).run P w= .ok u w:=by
 have hw:Builtin.ssaWrapNilChk_ #[t] t #[.pointer (some a),strVal "",strVal nm]=pure (.pointer (some a)):=rfl;simp[receiverAt,run_underlying hu,Place.get,hw,asAddr,hl,YB,Ys]
theorem qO{t:TypeId}{name:String}{f:FuncId}{fn:Func}{pr:Bool}{v u:Value}{x:Operand}{args:Array Operand}{rH:Array TypeId}(h:zo P t name f pr)(hx:ev ρ x= .iface t v)(hr:∀nm,(receiverAt t (.val v) pr (some nm)).run P w= .ok u w)
 (hf:P.funcs[f]? =some fn)(hn:(fn.name== "runtime.NumGoroutine")=false)(hb:fn.body.isNone=false):
 (execOp (ev ρ) ⟨dst, .call {callee:= .invoke x name,args:=args,argTypes:=rH},ty,pos,aft,none⟩).run P w= .ok (.enter f (u::args.toList.map (ev ρ)).toArray) w:=by
 have F7:¬fn.name= "runtime.NumGoroutine" :=by simpa using hn
 have lQ:¬fn.body=none:=by
  intro e;rw[e]at hb;cases hb
 have hm:=yp (fuel:=P.types.size+99) h hr;have Ta:P.types.size+100=P.types.size+99+1:=rfl
 have e1:(#[Value.iface t v]++Array.map (ev ρ) args).extract 1 (1+args.size)=Array.map (ev ρ) args:=by
  apply Array.ext';simp;exact List.take_of_length_le (by simp)
 have e0:(#[Value.iface t v]++Array.map (ev ρ) args)[0]? =some (Value.iface t v):=by simp[Array.getElem?_append]
 have e2:(#[u]++Array.map (ev ρ) args)=(u::args.toList.map (ev ρ)).toArray:=by apply Array.ext';simp
 simp[execOp,resolve,hx,invoke,callMethod,Ta,hm,callFunc,hf,F7,lQ,go_sem,e0,e1,e2]
def pV(T:aG P)(ob:Nat->Option (Nat×Th))(e:TypeId)(D:aj):Option aj:=
 match find T.und e with
 |none=>none
 |some kk=>match D with
  | .ptr o p off=>match ob o with
    |some (_, .box _ tr)=>match tr.get p with
     |some (s,cF)=>bif Yb cF off&&jc T e kk s.size then some (.val (gQ kk) s)else none
     |none=>none
    |_=>none
  |_=>none
theorem yq(T:aG P){e:TypeId}{D D':aj}{v:Value}(h:pV T ob e D=some D')(hs:aq U H F w ob n)(hx:ai H F w D v):∃a u,v= .pointer (some a)/\(loadVar e a).run P w= .ok u w/\ai H F w D' u:=by
 unfold pV at h;split at h
 .cases h
 rename_i kk hu;split at h
 case h_2=>cases h
 rename_i o p off;split at h
 case h_2=>cases h
 rename_i R8 T0 tr cA;split at h
 case h_2=>cases h
 rename_i s cF hg;obtain⟨h1,h2⟩:=ay h;cases h2;obtain⟨h1,h3⟩:=bU h1;obtain rfl:=beq_true h1;obtain⟨b,hb,rfl⟩:=hx;obtain⟨es,hh,HH⟩:=hs.box cA hb;obtain⟨g1,g2⟩:=HH.get hg
 have hc:∀j u,((es.drop cF).take s.size)[j]? =some u->w.cell? ⟨b,cF+j,none⟩=some u:=fun j u hj=>by
  rw[qj hh];rw[Yz]at hj;split at hj
  .rwa [Yo]at hj
  .cases hj
 obtain⟨dd,pN,qc⟩:=(T.und_ok _ _ hu).agg;have hz:=gk T h3;have hl:=g1.length;generalize(es.drop cF).take s.size=cs at g1 hc hl
 cases ha:gQ kk with
 |true=>
  rw[if_pos ha]at hz;obtain⟨r,hr,CP⟩:=hz;obtain⟨ti,z,h1,_,_,h4,_⟩:=T.row_ok _ _ hr;have NP:(loadCells ⟨b,cF,none⟩ cs.length).run P w= .ok cs.toArray w:=run_loadCells_list (P:=P) w ⟨b,cF,none⟩ cs (fun j v hv=>by rw[bN];exact hc j v hv)
  have mv:ti.size=cs.length:=by omega
  exact⟨_, .agg cs.toArray,rfl,by simp[loadVar,Ys,dE pN,qc,ha,sizeOf,typeInfo,h1,mv,NP],⟨cs,g1,rfl,by simp⟩⟩
 |false=>
  rw[if_neg (by simp[ha])]at hz
  obtain⟨v,rfl⟩:∃v,cs=[v]:=by
   match cs,hl.trans hz with
   |[v],_=>exact⟨v,rfl⟩
  have Tb:w.cell? ⟨b,cF,none⟩=some v:=hc 0 v rfl;exact⟨_,v,rfl,by simp[loadVar,Ys,dE pN,qc,ha,Tb,go_sem],⟨[v],g1,rfl,fun _=>rfl⟩⟩
def mb(T:aG P)(tab:List (Nat×bf))(rd:Operand->Option aj)(objs:List (Nat×(Nat×Th)))(n:Nat)(x:Operand)(name:String)(args:List Operand)(k:cU->Option R):Option R:=
 match rd x with
 |some (.ifc t d)=>match zO T.mth t name with
  |some (f,pr)=>match find T.und t with
   |some (.ptr e)=>match(bif pr then some d else pV T (find objs) e d)with
    |some d'=>match nw rd args with
     |some ds=>kC objs n f (d'::ds) k tab
     |none=>none
    |none=>none
   |_=>none
  |none=>none
 |_=>none
theorem qP(T:aG P){tab:List (Nat×bf)}(rV:∀p∈tab,aC P p.1 p.2){rd:Operand->Option aj}(dV:∀x d,rd x=some d->ai H F w d (ev ρ x)){objs:List (Nat×(Nat×Th))}{x:Operand}{name:String}{args:Array Operand}{rH:Array TypeId}{k:cU->Option R}{q:R}
 (h:mb T tab rd objs n x name args.toList k=some q)(hs:aq U H F w (find objs) n):
 ∃e,k e=some q/\bJ P U H F w ρ (find objs) n ⟨dst, .call {callee:= .invoke x name,args:=args,argTypes:=rH},ty,pos,aft,none⟩ e:=by
 unfold mb at h;split at h
 case h_2=>cases h
 rename_i t d0 hx;split at h
 case h_2=>cases h
 rename_i f pr hm;split at h
 case h_2=>cases h
 rename_i e hu;split at h
 case h_2=>cases h
 rename_i d' sk;split at h
 case h_2=>cases h
 rename_i ds pP;obtain⟨v,hv,Rf⟩:=dV _ _ hx;have hM:=T.mth_ok _ (v9 hm);have hu:=T.und_ok _ _ hu;have Rg:=jO (w:=w) (H:=H) (F:=F) (ρ:=ρ) dV pP
 cases pr with
 |true=>
  cases sk
  have JX:dJ H F w (d0::ds) (v::args.toList.map (ev ρ)):=⟨v,_,rfl,Rf,Rg⟩
  exact jW rV JX (fun fn g1 g2 g3=>qO hM hv (fun nm=>BG hu) g1 g2 g3) hs (fun _ h=>h) h
 |false=>
  obtain⟨a,u,rfl,hl,Tc⟩:=yq T (show pV T (find objs) e d0=some d' from sk) hs Rf
  have JX:dJ H F w (d'::ds) (u::args.toList.map (ev ρ)):=⟨u,_,rfl,Tc,Rg⟩
  exact jW rV JX (fun fn g1 g2 g3=>qO hM hv (fun nm=>BH hu hl) g1 g2 g3) hs (fun _ h=>h) h
end
end Go.Proofs.YtlfjlhcigpejdaaGreatDoor
end
