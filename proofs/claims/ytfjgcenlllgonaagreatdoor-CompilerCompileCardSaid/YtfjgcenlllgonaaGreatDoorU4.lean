/- Joined texts: Draw2 Draw4 Fn Law Laid Jump Shelf. -/
import Derived.Test.YtfjgcenlllgonaaGreatDoorU3
import Derived.Scope
import Derived.Test.YtfjgcenlllgonaaGreatDoorU1
import Derived.ProofKit
import Derived.LaidMore
import Derived.OpenShut
import Derived.Stop.Joined
import Derived.Sort.Grow
import Derived.Lib.SlicesCompact
import Derived.Lib.Bytealg
open _root_.Bool renaming false->ag,true->af
open _root_.Option renaming none->ae,some->aa
open _root_.Nat renaming le_refl->aoJ,beq->aoL,lt_of_lt_of_le->api,min_eq_left->apC,zero_le->aoR
open _root_.Option.some renaming inj->aoB,injEq->aoW
open _root_.List renaming getElem?_eq_getElem->aoA,getElem?_map->apD,length_map->ao5,drop_eq_getElem_cons->ao2,getElem?_drop->apx,getElem?_take->apV,getElem_map->apB,length_append->aoH,replicate->aoE,take_length->ao3
open _root_.Sum renaming inr->aoV
open _root_.Go.Lib renaming compact->apK,indexByte->ap8
open _root_.Go.Sort renaming ahead->ap9,grow->aqk,mapBlock->aqB,putCells->aqu,putRow->ap4
open _root_.List.cons renaming injEq->ap5
open _root_.Go.Value renaming int->apJ,ownBlock->apg
section
open _root_.Bool renaming false->ag,true->af,cond_eq_ite->apu
open _root_.Option renaming none->ae,some->aa,bind_assoc->apv,isSome_iff_exists->apA
open _root_.Array renaming getElem?_eq_getElem->apm
open _root_.List renaming length_append->aoH,length_singleton->aoT,mem_cons->apH,mem_singleton->aoY
open _root_.Nat renaming add_zero->apO,beq->aoL,blt->aps,zero_add->apn
open _root_.Option.some renaming inj->aoB
open _root_.Go.Region renaming binds->aqq
namespace Go.Proofs.YtfjgcenlllgonaaGreatDoor
open Go Go.RowKit
section
variable {P:Program} {R:Type} {ob:Nat->Option (Nat×Th)} {n:Nat} (k:gw->Option R)
theorem zG{rd:Operand->Option aM}{fn:Fn}{first caps:Array Operand}:pz rd fn first caps k=(pz rd fn first caps aa).bind k:=by
 unfold pz
 repeat' first|rfl|split
theorem Da(T:bU P){m:Nat}{e:TypeId}{D:aM}{i:Int}:tN T m e D i k=(tN T m e D i aa).bind k:=by
 unfold tN;simp only[apu]
 repeat' first|rfl|(rw[apv];rfl)|split
theorem Db(T:bU P){t:TypeId}{D:aM}{i:Int}:tR T ob t D i k=(tR T ob t D i aa).bind k:=by
 unfold tR;simp only[apu]
 repeat' first|rfl|(rw[apv];rfl)|split
theorem Fg(T:bU P){t:TypeId}{D:aM}{i:Int}:wP T ob t D i k=(wP T ob t D i aa).bind k:=by
 unfold wP;simp only[apu]
 repeat' first|rfl|exact Da k T|(rw[apv];rfl)|split
theorem Ie(T:bU P){t:TypeId}{D:aM}:BD T ob t D k=(BD T ob t D aa).bind k:=by
 unfold BD;simp only[apu]
 repeat' first|rfl|split|(rw[apv];congr 1;funext x;repeat' first|rfl|split)
theorem Fh(T:bU P){t:TypeId}{D V:aM}:wR T ob n t D V k=(wR T ob n t D V aa).bind k:=by
 unfold wR;simp only[apu]
 repeat' first|rfl|split|(rw[apv];rfl)|(rw[apv];congr 1;funext x;repeat' first|rfl|split)
theorem Fi(T:bU P){t:TypeId}{D:aM}:u7 T ob n t D k=(u7 T ob n t D aa).bind k:=by
 unfold u7;simp only[apu]
 repeat' first|rfl|split|(rw[apv];rfl)
theorem Fj(T:bU P){t:TypeId}{D:aM}:sT T ob n t D k=(sT T ob n t D aa).bind k:=by
 unfold sT
 grind [Fi,Ie]
theorem Dc(T:bU P){t:TypeId}{D V:aM}:tS T ob n t D V k=(tS T ob n t D V aa).bind k:=by
 unfold tS;simp only[apu]
 repeat' first|rfl|split|(rw[apv];rfl)
theorem Dd(T:bU P){t:TypeId}{D V:aM}:tV T ob n t D V k=(tV T ob n t D V aa).bind k:=by
 unfold tV
 grind [Dc,Fh]
theorem A9{e:TypeId}{dr:DR}{ds:List aM}:sS e dr ob n ds k=(sS e dr ob n ds aa).bind k:=by
 grind [sS]
theorem Fk(T:bU P){t:TypeId}:wS T n t k=(wS T n t aa).bind k:=by
 grind [wS]
theorem Me{t:TypeId}{V:aM}:LL n t V k=(LL n t V aa).bind k:=by
 unfold LL
 repeat' first|rfl|split
theorem zH(T:bU P){t:TypeId}{s:Bool}{a b:Int}:zc T n t s a b k=(zc T n t s a b aa).bind k:=by
 grind [zc]
theorem Fl(T:bU P){b:Bool}{t:TypeId}{s:Bool}{x y:Int}:zp b T n t s x y k=(zp b T n t s x y aa).bind k:=by
 unfold zp;split
 .unfold C0
  grind [zH]
 .exact zH k T
theorem De(T:bU P){t:TypeId}{X Y:aM}:tQ T ob n t X Y k=(tQ T ob n t X Y aa).bind k:=by
 unfold tQ;simp only[apu]
 repeat' first|rfl|split|(rw[apv];rfl)
theorem xe(T:bU P){rd:Operand->Option aM}{t:TypeId}{m:Nat}{ps:Array (Nat×Operand)}:my T rd ob n t m ps k=(my T rd ob n t m ps aa).bind k:=by
 unfold my;simp only[apu]
 repeat' first|rfl|split
theorem Df{b:Bool}(T:bU P){rd:Operand->Option aM}{t:TypeId}{m:Nat}{ps:Array (Nat×Operand)}:yE b T rd ob n t m ps k=(yE b T rd ob n t m ps aa).bind k:=by
 cases b with
 |false=>exact xe k T
 |true=>
  show tU T rd ob n t m ps k=(tU T rd ob n t m ps aa).bind k
  grind [tU,A9]
theorem Fp(T:bU P){rd:Operand->Option aM}{t:TypeId}{ps:Array (Nat×Operand)}:wU T rd t ps k=(wU T rd t ps aa).bind k:=by
 unfold wU;simp only[apu]
 repeat' first|rfl|split
theorem Fq(dr:Bool)(T:bU P){rd:Operand->Option aM}{t:TypeId}{D:aM}{lo hi:Option Operand}:wV dr T rd ob n t D lo hi k=(wV dr T rd ob n t D lo hi aa).bind k:=by
 unfold wV;simp only[apu]
 repeat' first|rfl|split|(rw[apv];rfl)
theorem Mf(T:bU P){o:BinOp}{t:TypeId}{lit:Bool}{X Y:aM}:LU T ob o t lit X Y k=(LU T ob o t lit X Y aa).bind k:=by
 unfold LU;simp only[apu]
 repeat' first|rfl|split|(rw[apv];rfl)
theorem Ba(T:bU P){t:TypeId}{X Y:aM}:qQ T ob n t X Y k=(qQ T ob n t X Y aa).bind k:=by
 unfold qQ
 cases OL ob Y with
 |false=>exact De k T
 |true=>
  simp only[cond_true];unfold vL;simp only[apu]
  repeat' first|rfl|split|(rw[apv];rfl)
theorem xf(T:bU P){t:TypeId}{M X Y:aM}:oD T ob n t M X Y k=(oD T ob n t M X Y aa).bind k:=rfl
theorem zI(b:Bool)(T:bU P){t:TypeId}:qP b T n t k=(qP b T n t aa).bind k:=rfl
theorem Bb(T:bU P){t:TypeId}{ok:Bool}{M X:aM}:sU T ob n t ok M X k=(sU T ob n t ok M X aa).bind k:=rfl
theorem Fs{sg:rH}{bs:Bs}{br:List (Nat×(Nat×Th))}{nd:List Nat}{y:cY sg.out.rows}:w9 sg n bs br nd y k=(w9 sg n bs br nd y aa).bind k:=by
 grind [w9]
theorem sY{objs:List (Nat×(Nat×Th))}{f:FuncId}{ds:List aM}:{tab:List (Nat×rH)}->rI objs n f ds k tab=(rI objs n f ds aa tab).bind k
 |[]=>rfl
 |(g,sg)::tab=>by
  unfold rI;have ih:=sY (objs:=objs) (f:=f) (ds:=ds) (tab:=tab)
  grind [Fs]
theorem If{tab:List (Nat×rH)}{rd:Operand->Option aM}{objs:List (Nat×(Nat×Th))}{g:Operand}{args:List Operand}:BV tab rd objs n g args k=(BV tab rd objs n g args aa).bind k:=by
 grind [BV,sY]
theorem Dg(T:bU P){tab:List (Nat×rH)}{rd:Operand->Option aM}{objs:List (Nat×(Nat×Th))}{g:Operand}{name:String}{args:List Operand}:tX T tab rd objs n g name args k=(tX T tab rd objs n g name args aa).bind k:=by
 unfold tX
 repeat' first|rfl|exact sY k|split
theorem Mg(T:bU P){t:TypeId}{D:aM}:L9 T t D k=(L9 T t D aa).bind k:=by
 grind [L9]
theorem Dh(T:bU P){t:TypeId}{ok:Bool}{D:aM}:tW T t ok D k=(tW T t ok D aa).bind k:=by
 unfold tW;simp only[apu]
 repeat' first|rfl|split
theorem Ig(E:Env P){rd:Operand->Option aM}{objs:List (Nat×(Nat×Th))}{c:Callee}{args:Array Operand}{AL:Array TypeId}:uK E rd objs n c args AL k=(uK E rd objs n c args AL aa).bind k:=by
 unfold uK;simp only[apu]
 repeat' first|rfl|exact Ba k _|exact If k|exact Dg k _|split
theorem Pf(E:Env P){rd:Operand->Option aM}{objs:List (Nat×(Nat×Th))}{dst:Option Nat}{op:Op}:Sk E rd objs n dst op k=(Sk E rd objs n dst op aa).bind k:=by
 unfold Sk
 repeat' first|rfl|exact Dd k _|exact xf k _|exact zI k _ _|exact Bb k _|exact Mg k _|exact Dh k _|exact Ig k _|exact Fk k _|exact Me k|exact Fp k _|exact Df k _|exact Fj k _|exact Mf k _|exact Fl k _|exact Fq k _ _|exact Fg k _|exact Db k _|exact zG k|split
end
def lk{α:Type}(ns:List Nat):List (Nat×α)->List (Nat×α)
 |[]=>[]
 |(m,a)::l=>bif rG m ns then(m,a)::lk ns l else lk ns l
theorem B3{α:Type}{ns:List Nat}{l:List (Nat×α)}{n:Nat}{a:α}:find (lk ns l) n=aa a↔n∈ns/\find l n=aa a:=by
 induction l with
 |nil=>simp[lk,find]
 |cons p l ih=>
  grind [lk,ie,bp]
def tmpsOf:List Operand->List Nat
 |[]=>[]
 | .tmp t::l=>t::tmpsOf l
 |_::l=>tmpsOf l
def Uu:List (Bool×Tree)->List Nat
 |[]=>[]
 |p::l=>p.2.owns++Uu l
def YK:aM->List Nat
 | .val _ t=>t.owns
 | .ptr o _ _=>[o]
 | .elem o .. =>[o]
 | .dlm o .. =>[o]
 | .tup ds=>Uu ds
 | .fn _ caps=>caps.map (·.1)
 | .ifc _ d=>YK d
 |_=>[]
def Uv(aH:List (Nat×aM)):List Nat->List Nat
 |[]=>[]
 |t::l=>(match find aH t with
  |some d=>YK d
  |none=>[])++Uv aH l
def within(objs:List (Nat×(Nat×Th))):List Nat->List Nat
 |[]=>[]
 |o::l=>(match find objs o with
  |some (_, .box _ t)=>t.owns
  |_=>[])++within objs l
def Sr(aH:List (Nat×aM))(objs:List (Nat×(Nat×Th)))(ts:List Nat):List Nat:=
 (λl=>l++within objs l) (Uv aH ts)
def B4(br:List (Nat×(Nat×Th)))(nd:List Nat)(e:gw):gw:=
 {dst:=e.dst,eat:=nd++e.eat,make:=e.make++del e.eat (su br nd)}
section
variable {U:Nat->Prop} {H:aR} {F:Nat->Prop} {w:World} {n:Nat}
theorem Mh{obj br:List (Nat×(Nat×Th))}{nd:List Nat}{e:gw}{v:Value}{w':World}{F1:Nat->Prop}(A4:gz obj nd=aa br)(yF:aS U H F1 w (find br) n)(Ep:∀b,F b->F1 b)(Rj:∀b,F1 b->F b\/dt H (find obj) nd b)
 (h:o8 H F1 w (find br) n e v w'):o8 H F w (find obj) n (B4 br nd e) v w':=by
 obtain⟨H',F',hp⟩:=h
 have pf:∀k,dt H (find br) e.eat k->dt H (find obj) (nd++e.eat) k:=by
  rintro k ⟨o,ho,s,t,u,h1,h2,h3⟩
  rcases kh A4 o s t h1 with h4|h4
  .exact⟨o,by simp[ho],s,t,u,h4,h2,h3⟩
  .exact(jF h4 h3).elim
 have part:∀o s t,find (e.make++del e.eat (su br nd)) o=aa (s,t)->find e.make o=aa (s,t)\/(o∉e.eat/\o∈nd/\find br o=aa (s,t)/\gN t=af):=by
  intro o s t ho;rw[jV]at ho
  cases hm:find e.make o with
  |some x=>grind
  |none=>
   grind [jW,pH]
 refine⟨H',F',⟨hp.oU.lJ,⟨hp.oU.ext.os,hp.oU.ext.tape,hp.oU.ext.output,hp.oU.ext.size,λk hk hn=>hp.oU.ext.block k hk λhh=>hn (pf k hh)⟩,λb hb=>hp.oU.le b (Ep b hb),λb hb=>?_,hp.oU.lt⟩,hp.fresh,hp.dst,⟨λo s t ho=>?_,λo o' s s' t t' v v' dS ho py hv gQ k hk dT=>?_⟩,λo ho=>?_⟩
 .rcases hp.oU.grow b hb with h1|h1|h1
  .rcases Rj b h1 with h2|⟨o,ho,rest⟩
   .exact .inl h2
   .exact .inr (.inr ⟨o,by simp[B4,ho],rest⟩)
  .exact .inr (.inl h1)
  .exact .inr (.inr (pf b h1))
 .rcases part o s t ho with h1|⟨h1,h2,h3,h4⟩
  .obtain⟨u,a1,a2,a3,a4,a5⟩:=hp.made.obj o s t h1;exact⟨u,a1,a2,a3,a4,λk hk=>⟨(a5 k hk).1,(a5 k hk).2.1,(a5 k hk).2.2.imp id (pf k)⟩⟩
  .obtain⟨u,hu,eK⟩:=yF.obj _ _ _ h3;have:=eK.oU yF hp.oU h3 h1 hu;exact⟨u,hp.oU.lJ.val _ _ hu,this.one,this.con,this.ok,λk hk=>(jF h4 hk).elim⟩
 .rcases part o s t ho with h1|⟨_,_,_,h4⟩
  .rcases part o' s' t' py with h2|⟨_,_,_,h4'⟩
   .exact hp.made.apart o o' s s' t t' v v' dS h1 h2 hv gQ k hk dT
   .exact jF h4' dT
  .exact jF h4 hk
 .obtain⟨x,hx⟩:=apA.1 ho
  rcases part o x.1 x.2 hx with h1|⟨_,h2,_⟩
  .exact(hp.ids o (by rw[h1];rfl)).imp (λh=>by simp[B4,h]) id
  .exact .inl (by simp[B4,h2])
end
def jL(x y:Nat×Th):Prop:=x=y\/∃T d l h h',x.2= .deep T d l h/\y.2= .deep T d l h'
theorem jL.symm{x y:Nat×Th}(h:jL x y):jL y x:=by
 rcases h with rfl|⟨T,d,l,h,h',h1,h2⟩
 .exact .inl rfl
 .exact .inr ⟨T,d,l,h',h,h2,h1⟩
theorem jL.trans{x y z:Nat×Th}(h:jL x y)(h':jL y z):jL x z:=by
 rcases h with rfl|⟨T,d,l,a,b,h1,h2⟩
 .exact h'
 .rcases h' with rfl|⟨T',d',l',a',b',h3,h4⟩
  .exact .inr ⟨T,d,l,a,b,h1,h2⟩
  .rw[h2]at h3;cases h3;exact .inr ⟨T,d,l,a,b',h1,h4⟩
structure og where
 dst:Option Nat
 ts:List Nat
 os:List Nat
 e:gw
 ls:List Nat:=[]
 soft:List Nat:=[]
def xL:List (Nat×(Nat×Th))->List Nat
 |[]=>[]
 |(o,_)::l=>o::xL l
def og.mut(x:og):List Nat:=x.e.eat++xL x.e.make
def Ih:Op->Bool
 | .call c=>match c.callee with
   | .builtin .len=>af
   |_=>ag
 |_=>ag
def Uw(rd:Operand->Option aM):Op->List Nat
 | .load _ x=>match rd x with
   |some (.dlm o _ _ _ _)=>[o]
   |_=>[]
 |_=>[]
def jw(st:State)(op:Op):List Nat:=
 match op with
 | .move _=>[]
 | .assign _=>[]
 |_=>Sr st.aH st.objs (tmpsOf op.operands.toList)
noncomputable def B5{R:Type}{P:Program}(E:Env P)(dst:Option Nat)(op:Op)(gs:List Nat)(st:State)(k:gw->og->Option R):Option R:=
 match gz (lk (jw st op) st.objs) (vc E (Ny (lk (tmpsOf op.operands.toList) st.aH)) (lk (jw st op) st.objs) op)with
 |some br=>bif fnB dst op then Sk E (Ny (lk (tmpsOf op.operands.toList) st.aH)) br st.nxt dst op (λe=>
   (λe'=>k e' {dst:=dst,ts:=tmpsOf op.operands.toList++gs,os:=bif Ih op then[]else jw st op,e:=e',ls:=bif Ih op then jw st op else[],soft:=Uw (Ny (lk (tmpsOf op.operands.toList) st.aH)) op}) (B4 br (vc E (Ny (lk (tmpsOf op.operands.toList) st.aH)) (lk (jw st op) st.objs) op) e))else ae
 |none=>ae
structure Ux(P:Program)(U:Nat->Prop)(o:Oper)(sl:Nat->Option aM)(ob:Nat->Option (Nat×Th))(n:Nat)(J0:og):Prop where
 dst:J0.dst=o.dst
 run:∃(slR:Nat->Option aM)(Rc:Nat->Option (Nat×Th)),(∀t d,slR t=aa d->t∈J0.ts/\sl t=aa d)/\(∀q x,Rc q=aa x->(q∈J0.os\/q∈J0.ls)/\ob q=aa x)/\
  ∀(H:aR)(F:Nat->Prop)(w:World)(ρ:Nat->Value)(Mi:Nat->Option (Nat×Th)),(∀q x,Rc q=aa x->∃x',Mi q=aa x'/\jL x x'/\(q∈J0.os->x'=x))->(∀t d,slR t=aa d->aN H F w d (ρ t))->aS U H F w Mi n->
   ∃ob2:Nat->Option (Nat×Th),(∀q x,ob2 q=aa x->Mi q=aa x)/\dL P ρ ⟨o.dst,o.op,o.type,o.pos,o.after,ae⟩ w (o8 H F w ob2 n J0.e)
 soft:∀q∈J0.soft,q∈J0.mut->∃x y,ob q=aa x/\find J0.e.make q=aa y/\jL x y
theorem Mj{ob Ol:Nat->Option (Nat×Th)}{D:aM}{k:Ot}(Uy:∀q x,ob q=aa x->∃x',Ol q=aa x'/\jL x x')(h:yi ob D=aa k):∃k',yi Ol D=aa k'/\xE k'=xE k:=by
 unfold yi at h;split at h
 .cases h;exact⟨_,rfl,rfl⟩
 .cases h;exact⟨_,rfl,rfl⟩
 .rename_i o
  cases ho:ob o with
  |none=>rw[ho]at h;cases h
  |some x=>
   obtain⟨s,t⟩:=x;obtain⟨⟨s',t'⟩,h1,h2⟩:=Uy o _ ho;rw[ho]at h
   rcases h2 with e|⟨T,d,l,a,b,e1,e2⟩
   .cases e;exact⟨k,by show(match Ol o with|some (s, .own T r l)=>_|some (_, .yf _ r l)=>_|some (_, .fdeep _ d l)=>_|some (s, .deep T d l h)=>_|_=>_)=_;rw[h1];exact h,rfl⟩
   .simp only at e1 e2;subst e1 e2;cases h;exact⟨.deep o s' T d l b,by show(match Ol o with|some (s, .own T r l)=>_|some (_, .yf _ r l)=>_|some (_, .fdeep _ d l)=>_|some (s, .deep T d l h)=>_|_=>_)=_;rw[h1],rfl⟩
 .rename_i o s r m
  have hk:xE k=(m.length:Int):=by
   split at h
   .rename_i s' _ _ _ _
    cases hb:aoL s' s<;>rw[hb]at h<;>cases h<;>rfl
   .cases h;rfl
  rw[hk]
  show∃k',(match Ol o with|some (s', .yf ..)=>bif aoL s' s then aa (Ot.read r m)else aa (.view o s r m)|_=>aa (.view o s r m))=aa k'/\xE k'=_
  split
  .rename_i s' _ _ _ _
   cases hb:aoL s' s with
   |true=>exact⟨Ot.read r m,rfl,rfl⟩
   |false=>exact⟨Ot.view o s r m,rfl,rfl⟩
  .exact⟨Ot.view o s r m,rfl,rfl⟩
 .cases h
theorem Mk{P:Program}(T:bU P){ob Ol:Nat->Option (Nat×Th)}{t:TypeId}{D D':aM}(Uy:∀q x,ob q=aa x->∃x',Ol q=aa x'/\jL x x')(h:LM T ob t D=aa D'):LM T Ol t D=aa D':=by
 unfold LM at h⊢;split at h
 .split at h
  case h_2=>cases h
  rename_i k hk;obtain⟨k',h1,h2⟩:=Mj Uy hk
  grind
 .exact h
 .cases h
theorem Ml{P:Program}(T:bU P){ob:Nat->Option (Nat×Th)}{n:Nat}{t:TypeId}{o:Nat}{d:DR}{i:Int}{p:List Bool}{off:Nat}{e:gw}(h:sT T ob n t (.dlm o d i p off) aa=aa e)(hm:o∈e.eat++xL e.make):
 ∃x y,ob o=aa x/\find e.make o=aa y/\jL x y:=by
 unfold sT u7 at h;simp only at h;split at h
 .cases h
 split at h
 case h_2=>cases h
 rename_i s T0 dr l hh ho;obtain⟨_,h⟩:=bo h;split at h
 .obtain⟨_,h⟩:=bo h;obtain⟨_,_,h⟩:=bind_some h;cases h;simp[xL]at hm
 .obtain⟨_,h⟩:=bo h;split at h
  .obtain⟨_,_,h⟩:=bind_some h;cases h;exact⟨_,(n, .deep T0 dr l _),ho,by rw[bp,aj rfl], .inr ⟨T0,dr,l,ae,_,rfl,rfl⟩⟩
  .obtain⟨_,h⟩:=bo h;split at h
   .obtain⟨_,_,h⟩:=bind_some h;cases h;simp[xL]at hm
   .cases h
 .cases h
theorem Pg{P:Program}{E:Env P}{U:Nat->Prop}{R:Type}{o:Oper}{gs:List Nat}{st:State}{k:gw->og->Option R}{q:R}(h:B5 E o.dst o.op gs st k=aa q):
 ∃e J0,k e J0=aa q/\J0.e=e/\(∀g∈gs,g∈J0.ts)/\Ux P U o (find st.aH) (find st.objs) st.nxt J0:=by
 unfold B5 at h;split at h
 case h_2=>cases h
 rename_i br A4;obtain⟨BZ,h'⟩:=bo h;clear h;rw[Pf]at h';obtain⟨e,he,hk⟩:=bind_some h'
 have YL:∀t d,find (lk (tmpsOf o.op.operands.toList) st.aH) t=aa d->t∈tmpsOf o.op.operands.toList/\find st.aH t=aa d:=λt d ht=>B3.1 ht
 have Su:∀q x,find (lk (jw st o.op) st.objs) q=aa x->q∈jw st o.op/\find st.objs q=aa x:=λq x hx=>B3.1 hx
 refine⟨_,_,hk,rfl,λg hg=>by simp[hg],rfl,⟨find (lk (tmpsOf o.op.operands.toList) st.aH),find (lk (jw st o.op) st.objs),(by grind),λq x hx=>⟨?_,(Su q x hx).2⟩,λH F w ρ Mi Uy iP fR=>?_⟩,λq hq hm=>?_⟩
 .grind
 .cases hl:Ih o.op with
  |false=>
   simp only[hl,cond_false]at Uy
   have jY:∀q x,find (lk (jw st o.op) st.objs) q=aa x->Mi q=aa x:=(by grind)
   have yl:aS U H F w (find (lk (jw st o.op) st.objs)) st.nxt:=⟨λo s t ho=>fR.obj o s t (jY _ _ ho),λo o' s s' t t' v v' dS ho py=>fR.apart o o' s s' t t' v v' dS (jY _ _ ho) (jY _ _ py),fR.fresh,fR.lt,fR.new,fR.gl⟩
   refine⟨_,jY,?_⟩;obtain⟨F1,yF,Ep,Rj⟩:=qR A4 yl
   have lm:Step F w F1 w:=λb hb=>⟨Ep b hb,rfl⟩
   obtain⟨e',Ph,hs⟩:=O4 (ρ:=ρ) (ty:=o.type) (pos:=o.pos) (aft:=o.after) E (λx d hx=>yX yF.gl (λt d ht=>(iP t d ht).keep (aR.le.refl H) lm) x d hx) (λhn c hc=>by rw[hn,hc]at BZ;exact BZ) he yF;obtain rfl:=aoB Ph
   exact hs.mono λv w' hp=>Mh A4 yF Ep Rj hp
  |true=>
   refine⟨Mi,λ_ _ h=>h,?_⟩;obtain⟨Vx,oop,oty,acz,acA,ogd⟩:=o;simp only at*
   cases oop<;>try(cases hl;done)
   rename_i c;obtain⟨callee,args,AL⟩:=c
   cases callee<;>try(cases hl;done)
   rename_i b
   cases b<;>try(cases hl;done)
   cases Vx with
   |none=>cases BZ
   |some d=>
    have R2:vc E (Ny (lk (tmpsOf (Op.operands (.call {callee:= .builtin .len,args:=args,argTypes:=AL})).toList) st.aH)) (lk (jw st (.call {callee:= .builtin .len,args:=args,argTypes:=AL})) st.objs) (.call {callee:= .builtin .len,args:=args,argTypes:=AL})=[]:=by unfold vc;cases E.deep<;>rfl
    rw[R2]at A4⊢;obtain rfl:=aoB A4;have Sv:uK E _ _ st.nxt (.builtin .len) args AL aa=aa e:=he;unfold uK at Sv;simp only at Sv;split at Sv
    case h_2=>cases Sv
    rename_i x t ha ht;obtain rfl:=gA ha;obtain rfl:=gA ht;split at Sv
    case h_2=>cases Sv
    rename_i D hD;split at Sv
    case h_2=>cases Sv
    rename_i D' RG;cases Sv;have hlen:=Mk E.T (λq x hx=>by obtain⟨x',h1,h2,_⟩:=Uy q x hx;exact⟨x',h1,h2⟩) RG;exact JC E.T hlen fR (yX fR.gl iP _ _ hD)
 .obtain⟨Vx,oop,oty,acz,acA,ogd⟩:=o;simp only at*
  cases oop<;>try(cases hq;done)
  rename_i t x;unfold Uw at hq;simp only at hq;split at hq
  case h_2=>cases hq
  rename_i o' d0 i p off jN;obtain rfl:=aoY.1 hq
  have R2:vc E (Ny (lk (tmpsOf (Op.operands (.load t x)).toList) st.aH)) (lk (jw st (.load t x)) st.objs) (.load t x)=[]:=by unfold vc;cases E.deep<;>rfl
  rw[R2]at A4 hm⊢;obtain rfl:=aoB A4
  cases Vx with
  |none=>cases he
  |some d=>
   unfold Sk at he;simp only[jN]at he
   have NA:q∈e.eat++xL e.make:=by
    simpa[og.mut,B4,su,del]using hm
   obtain⟨x1,y1,h1,h2,h3⟩:=Ml E.T he NA;refine⟨x1,y1,(Su _ _ h1).2,?_,h3⟩
   show find (e.make++_) q=_
   rw[jV,h2];rfl
end Go.Proofs.YtfjgcenlllgonaaGreatDoor
namespace Go.Proofs.YtfjgcenlllgonaaGreatDoor
open Go Go.RowKit
def Bc(acc:List Nat)(i:Nat):List Edge->Option Nat
 |[]=>aa 0
 |e::l=>match Bc acc i l with
  |some m=>bif aqq .any e then(bif aps e.on i then aa (m|||2 ^ e.on|||acc.getD e.on 0)else ae)else aa m
  |none=>ae
def Mm(acc:List Nat):List Oper->Option (List Nat)
 |[]=>aa acc
 |o::l=>match Bc acc acc.length o.after.toList with
  |some m=>Mm (acc++[m]) l
  |none=>ae
def qD(d:Option Nat)(l:List Nat):Bool:=
 match d with
 |some t=>rG t l
 |none=>ag
def Ft(l l':List Nat):Bool:=l.any λo=>rG o l'
def og.YM(x:og):List Nat:=x.mut.filter λo=> !rG o x.soft
def conflict(a b:og):Bool:=
 qD a.dst b.ts||qD b.dst a.ts||qD a.dst (b.dst.toList)||Ft a.mut (b.os++b.mut)||Ft a.YM b.ls||Ft (a.os++a.ls++a.mut) b.mut
def Di(ms:List Nat)(i:Nat)(x:og):Nat->List og->Bool
 |_,[]=>af
 |j,y::l=>(bif conflict x y then Nat.testBit (ms.getD j 0) i else af)&&Di ms i x (j+1) l
def yH(ms:List Nat):Nat->List og->Bool
 |_,[]=>af
 |i,x::l=>Di ms i x (i+1) l&&yH ms (i+1) l
def xg(ops:List Oper)(es:List og):Bool:=
 match Mm [] ops with
 |some ms=>yH ms 0 es
 |none=>ag
section
variable {ops:Array Oper}
def Ii(ops:Array Oper)(S:Nat->Prop):Prop:=∀i,S i->∀o,ops[i]? =aa o->∀e∈o.after,aqq .any e=af->S e.on
theorem Dj{acc:List Nat}{i:Nat}:{l:List Edge}->{m:Nat}->Bc acc i l=aa m->∀j,m.testBit j=af->∃e∈l,aqq .any e=af/\e.on<i/\(e.on=j\/(acc.getD e.on 0).testBit j=af)
 |[],m,h,j,hj=>by
  obtain rfl:=aoB h;simp at hj
 |e::l,m,h,j,hj=>by
  unfold Bc at h;split at h
  case h_2=>cases h
  rename_i m0 h0
  cases hb:aqq .any e with
  |false=>
   rw[hb,cond_false]at h;obtain rfl:=aoB h;obtain⟨e',a1,a2⟩:=Dj h0 j hj;exact⟨e',by simp[a1],a2⟩
  |true=>
   rw[hb,cond_true]at h
   cases aJ:aps e.on i with
   |false=>rw[aJ]at h;cases h
   |true=>
    rw[aJ,cond_true]at h;obtain rfl:=aoB h;rw[Nat.testBit_or,Nat.testBit_or,Bool.or_eq_true,Bool.or_eq_true]at hj
    have aj5:e.on<i:=by simpa using aJ
    rcases hj with(hj|hj)|hj
    .obtain⟨e',a1,a2⟩:=Dj h0 j hj;exact⟨e',by simp[a1],a2⟩
    all_goals grind
theorem J1{acc:List Nat}{i:Nat}:{l:List Edge}->{m:Nat}->Bc acc i l=aa m->∀e∈l,aqq .any e=af->e.on<i
 |[],m,h,e,he,_=>by cases he
 |e0::l,m,h,e,he,hb=>by
  unfold Bc at h;split at h
  case h_2=>cases h
  rename_i m0 h0
  rcases apH.1 he with rfl|he
  .rw[hb,cond_true]at h
   cases aJ:aps e.on i<;>simp_all
  .exact J1 h0 e he hb
theorem Dk:{l:List Oper}->{acc ms:List Nat}->Mm acc l=aa ms->ms.length=acc.length+l.length/\(∀i,i<acc.length->ms.getD i 0=acc.getD i 0)/\
 ∀k o,l[k]? =aa o->∃m,Bc ms (acc.length+k) o.after.toList=aa m/\ms.getD (acc.length+k) 0=m
 |[],acc,ms,h=>by
  obtain rfl:=aoB h
  grind
 |o0::l,acc,ms,h=>by
  unfold Mm at h;split at h
  case h_2=>cases h
  rename_i m hm;obtain⟨a1,a2,a3⟩:=Dk h;rw[aoH,aoT]at a1 a2 a3
  have acB:∀i,i<acc.length->ms.getD i 0=acc.getD i 0:=(by grind)
  have aj6:∀(l:List Edge)(m:Nat),Bc acc acc.length l=aa m->Bc ms acc.length l=aa m:=by
   intro l
   induction l with
   |nil=>intro m h;exact h
   |cons e l ih=>
    intro m h;unfold Bc at h⊢;split at h
    case h_2=>cases h
    rename_i m0 h0;rw[ih m0 h0];simp only
    cases hb:aqq .any e with
    |false=>rw[hb]at h;exact h
    |true=>
     rw[hb,cond_true]at h
     cases aJ:aps e.on acc.length<;>simp_all
  grind
theorem Pj{ms:List Nat}(h:Mm [] ops.toList=aa ms){S:Nat->Prop}(hS:Ii ops S):∀i o,ops[i]? =aa o->(∀e∈o.after,aqq .any e=af->S e.on)->∀j,(ms.getD i 0).testBit j=af->S j:=by
 obtain⟨_,_,a3⟩:=Dk h;intro i
 induction i using Nat.strongRecOn with
 |_ i ih=>
  intro o ho hd j hj;obtain⟨m,h1,h2⟩:=a3 i o (by rw[Array.getElem?_toList];exact ho);simp only[List.length_nil,apn]at h1 h2;rw[h2]at hj;obtain⟨e,he,hb,aJ,h3⟩:=Dj h1 j hj;have hSe:=hd e (by simpa using he) hb
  rcases h3 with rfl|h3
  .exact hSe
  .have YN:e.on<ops.size:=by
    have:=(Array.getElem?_eq_some_iff.1 ho).1;omega
   exact ih e.on aJ _ (apm YN) (λe' Ph rB=>hS e.on hSe _ (apm YN) e' Ph rB) j h3
end
def jd(S:Nat->Bool):Nat->List og->(Nat->Option aM)->Nat->Option aM
 |_,[],f=>f
 |i,x::l,f=>jd S (i+1) l (λt=>bif S i&&qD (aa t) x.dst.toList then aa x.e.dst else f t)
def iB(S:Nat->Bool):Nat->List og->(Nat->Option (Nat×Th))->Nat->Option (Nat×Th)
 |_,[],f=>f
 |i,x::l,f=>iB S (i+1) l (λo=>bif S i then(find x.e.make o).or (bif rG o x.e.eat then ae else f o)else f o)
theorem tZ{l:List (Nat×(Nat×Th))}{o:Nat}{x:Nat×Th}(h:find l o=aa x):o∈xL l:=by
 induction l with
 |nil=>cases h
 |cons p l ih=>
  obtain⟨o',y⟩:=p;rw[bp]at h;split at h
  .rename_i e;subst e;exact List.mem_cons_self
  .exact List.mem_cons_of_mem _ (ih h)
theorem yI{d:Option Nat}{t:Nat}:qD (aa t) d.toList=af↔d=aa t:=by
 grind [qD,ie]
theorem oF{S S':Nat->Bool}{t:Nat}:{l:List og}->{i:Nat}->{f f':Nat->Option aM}->f t=f' t->(∀k x,l[k]? =aa x->x.dst=aa t->S (i+k)=S' (i+k))->jd S i l f t=jd S' i l f' t
 |[],_,_,_,hf,_=>hf
 |x::l,i,f,f',hf,h=>by
  show jd S (i+1) l _ t=jd S' (i+1) l _ t
  refine oF ?_ λk y hy hd=>by
   have:=h (k+1) y (by simpa using hy) hd
   rwa [show i+(k+1)=i+1+k from by omega]at this
  by_cases hd:x.dst=aa t
  .have:=h 0 x rfl hd;simp only[apO]at this;rw[this,hf]
  grind [yI]
theorem nS{S S':Nat->Bool}{o:Nat}:{l:List og}->{i:Nat}->{f f':Nat->Option (Nat×Th)}->f o=f' o->(∀k x,l[k]? =aa x->o∈x.mut->S (i+k)=S' (i+k))->iB S i l f o=iB S' i l f' o
 |[],_,_,_,hf,_=>hf
 |x::l,i,f,f',hf,h=>by
  show iB S (i+1) l _ o=iB S' (i+1) l _ o
  refine nS ?_ λk y hy hd=>by
   have:=h (k+1) y (by simpa using hy) hd
   rwa [show i+(k+1)=i+1+k from by omega]at this
  by_cases hd:o∈x.mut
  .have:=h 0 x rfl hd;simp only[apO]at this;rw[this,hf]
  .have h1:find x.e.make o=ae:=by
    cases hm:find x.e.make o with
    |none=>rfl
    |some y=>exact absurd (by simp[og.mut,tZ hm]) hd
   have h2:rG o x.e.eat=ag:=by
    cases hb:rG o x.e.eat with
    |false=>rfl
    |true=>exact absurd (by simp[og.mut,ie.1 hb]) hd
   grind
theorem rJ{S:Nat->Bool}{t:Nat}:{l:List og}->{i:Nat}->{f:Nat->Option aM}->(∀k x,l[k]? =aa x->x.dst=aa t->S (i+k)=ag)->jd S i l f t=f t
 |[],_,_,_=>rfl
 |x::l,i,f,h=>by
  show jd S (i+1) l _ t=_
  rw[rJ λk y hy hd=>by
   have:=h (k+1) y (by simpa using hy) hd
   rwa [show i+(k+1)=i+1+k from by omega]at this]
  by_cases hd:x.dst=aa t
  .have:=h 0 x rfl hd;simp only[apO]at this;simp[this]
  grind [yI]
theorem qV{S:Nat->Bool}{o:Nat}:{l:List og}->{i:Nat}->{f:Nat->Option (Nat×Th)}->(∀k x,l[k]? =aa x->o∈x.mut->S (i+k)=ag)->iB S i l f o=f o
 |[],_,_,_=>rfl
 |x::l,i,f,h=>by
  show iB S (i+1) l _ o=_
  rw[qV λk y hy hd=>by
   have:=h (k+1) y (by simpa using hy) hd
   rwa [show i+(k+1)=i+1+k from by omega]at this]
  by_cases hd:o∈x.mut
  .have:=h 0 x rfl hd;simp only[apO]at this;simp[this]
  .have h1:find x.e.make o=ae:=by
    cases hm:find x.e.make o with
    |none=>rfl
    |some y=>exact absurd (by simp[og.mut,tZ hm]) hd
   have h2:rG o x.e.eat=ag:=by
    cases hb:rG o x.e.eat with
    |false=>rfl
    |true=>exact absurd (by simp[og.mut,ie.1 hb]) hd
   grind
theorem rK{S:Nat->Bool}{l l':List og}{i:Nat}{f:Nat->Option aM}:jd S i (l++l') f=jd S (i+l.length) l' (jd S i l f):=by
 induction l generalizing i f with
 |nil=>rfl
 |cons x l ih=>
  grind [jd]
theorem mz{S:Nat->Bool}{l l':List og}{i:Nat}{f:Nat->Option (Nat×Th)}:iB S i (l++l') f=iB S (i+l.length) l' (iB S i l f):=by
 induction l generalizing i f with
 |nil=>rfl
 |cons x l ih=>
  grind [iB]
end Go.Proofs.YtfjgcenlllgonaaGreatDoor
end
section
open _root_.Bool renaming false->ag,true->af,false_eq_true->aoC
open _root_.Option renaming none->ae,some->aa
open _root_.Array renaming getD_eq_getD_getElem?->apz,getElem?_eq_getElem->apm
open _root_.List renaming drop_eq_getElem_cons->ao2,getElem?_append_left->apc,getElem?_drop->apx,getElem?_eq_getElem->aoA,getElem?_eq_some_iff->aoI,getElem_of_mem->aoS,length_append->aoH,length_cons->apa,length_singleton->aoT,mem_of_getElem?->apW,range->ap1,take_add_one->apS,take_append_drop->aqd
open _root_.Nat renaming beq->aoL,blt->aps,le_refl->aoJ,lt_or_ge->aph,zero_add->apn
open _root_.Option.some renaming inj->aoB
open _root_.Go.Region renaming binds->aqq,wanted->aqh
namespace Go.Proofs.YtfjgcenlllgonaaGreatDoor
open Go Go.RowKit
theorem zJ{ms:List Nat}{i:Nat}{x:og}:{l:List og}->{j:Nat}->Di ms i x j l=af->∀k y,l[k]? =aa y->conflict x y=af->(ms.getD (j+k) 0).testBit i=af
 |[],_,_,k,y,h,_=>by simp at h
 |z::l,j,hl,k,y,h,hc=>by
  obtain⟨h1,h2⟩:=eG hl
  cases k with
  |zero=>
   grind
  |succ k=>
   have:=zJ h2 k y (by simpa using h) hc
   grind
theorem vd{ms:List Nat}:{l:List og}->{i:Nat}->yH ms i l=af->∀a b x y,a<b->l[a]? =aa x->l[b]? =aa y->conflict x y=af->(ms.getD (i+b) 0).testBit (i+a)=af
 |[],_,_,a,b,x,y,_,h,_,_=>by simp at h
 |z::l,i,hl,a,b,x,y,LQ,hx,hy,hc=>by
  obtain⟨h1,h2⟩:=eG hl
  cases a with
  |zero=>
   obtain rfl:z=x:=by simpa using hx
   cases b with
   |zero=>omega
   |succ b=>
    have:=zJ h1 b y (by simpa using hy) hc
    grind
  |succ a=>
   cases b with
   |zero=>omega
   |succ b=>
    have:=vd h2 a b x y (by omega) (by simpa using hx) (by simpa using hy) hc
    grind
inductive Vy(ops:Array Oper)(nt:Nat)(ts:List Nat)(sl:Nat->Option aM):Option (Nat×Bool)->Bool->Prop
 |none:Vy ops nt ts sl ae af
 |lit {j g:Nat} {b t:Bool} {d:aM} (h1:JZ ops j=aa g) (h2:aps g nt=af) (h3:g∈ts) (h4:sl g=aa d) (h5:asBool d=aa t):Vy ops nt ts sl (aa (j,b)) (decide (t=b))
 |undef {j g:Nat} {b:Bool} (h1:JZ ops j=aa g) (h2:aps g nt=af) (h3:g∈ts) (h4:sl g=aa .undef):Vy ops nt ts sl (aa (j,b)) ag
structure Vz(P:Program)(ops:Array Oper)(nt:Nat)(U:Nat->Prop)(o:Oper)(sl:Nat->Option aM)(ob:Nat->Option (Nat×Th))(n:Nat)(x:og):Prop where
 dst:x.dst=o.dst
 Uz:Fc nt o.dst=af
 on:∃b,Vy ops nt x.ts sl o.guard b/\(b=af->Ux P U o sl ob n x)/\(b=ag->x.e={dst:= .undef})
section
variable {P:Program} {nt:Nat} {ops:Array Oper}
theorem Sw{ρ:Nat->Value}{o:Oper}{w:World}{QQ:Value->World->Prop}{a:Act}{K:Act->World->Prop}{Q:Exit->Act->World->Prop}(h:dL P ρ ⟨o.dst,o.op,o.type,o.pos,o.after,ae⟩ w QQ)(hf:Fr nt a ρ)
 (hk:∀v w',QQ v w'->K (a.put o.dst v) w'):o.wp P a w K Q:=by
 unfold Oper.wp;rw[hf.eval];unfold dL at h;have e:execOp (ev ρ) o=execOp (ev ρ) ⟨o.dst,o.op,o.type,o.pos,o.after,ae⟩:=rfl;rw[e];generalize(execOp (ev ρ) ⟨o.dst,o.op,o.type,o.pos,o.after,ae⟩).run P w=r at*
 cases r with
 |halt x w'=>exact h.elim
 |ok x w'=>
  cases x<;>first
   |exact h.elim
   |skip
  case value v=>exact hk v w' h.2
  case skip=>exact hk undef w' h.2
  case enter f args=>
   refine h.mono λe yz ⟨v,he,hv⟩=>?_
   grind
theorem aS.sub{U:Nat->Prop}{H:aR}{F:Nat->Prop}{w:World}{ob Rc:Nat->Option (Nat×Th)}{n m:Nat}(h:aS U H F w ob n)(hR:∀o x,Rc o=aa x->ob o=aa x)(Er:∀k,m<=k->k<m+16->H.val k=ae/\H.con k=ae):aS U H F w Rc m:=
 ⟨λo s t ho=>h.obj o s t (hR _ _ ho),λo o' s s' t t' v v' dS ho py=>h.apart o o' s s' t t' v v' dS (hR _ _ ho) (hR _ _ py),Er,h.lt,h.new,h.gl⟩
structure Inv(G:Nat->Prop)(w0:World)(F0:Nat->Prop)(es:List og)(sl0:Nat->Option aM)(ob0:Nat->Option (Nat×Th))(n0:Nat)(H:aR)(F:Nat->Prop)(w:World)(ρ:Nat->Value)(S:Nat->Bool)(H':aR)(F':Nat->Prop)(w':World)(cX:Nat->Value):Prop where
 slot:∀t d,jd S 0 es sl0 t=aa d->aN H' F' w' d (cX t)
 ob:aS (UU G w0) H' F' w' (iB S 0 es ob0) (n0+16*es.length)
 all:ln H' (n0+16*es.length)
 fresh:∀i,i<es.length->S i=ag->∀m,n0+16*i<=m->m<n0+16*i+16->H'.val m=ae/\H'.con m=ae
 glob:OM G w0 F0 w' F'
 keeps:dk H F w H' F' w'
 same:∀t,(∀x∈es,x.dst≠aa t)->cX t=ρ t
def ins(S:Nat->Bool)(i:Nat):Nat->Bool:=λj=>bif aoL j i then af else S j
theorem sZ{S:Nat->Bool}{i:Nat}:ins S i i=af:=by simp[ins]
theorem ta{S:Nat->Bool}{i j:Nat}(h:j≠i):ins S i j=S j:=by
 grind [ins,beq_true]
section
variable {G:Nat->Prop} {w0:World} {F0:Nat->Prop} {es:List og} {sl0:Nat->Option aM} {ob0:Nat->Option (Nat×Th)} {n0:Nat} {H:aR} {F:Nat->Prop} {w:World} {ρ:Nat->Value} {ms:List Nat}
theorem Fu{i:Nat}{x:og}(h:es[i]? =aa x):es=es.take i++x::es.drop (i+1)/\(es.take i).length=i:=by
 grind [ao2,aqd]
theorem B6{S:Nat->Bool}{i:Nat}{x:og}(hx:es[i]? =aa x)(YO:∀t,x.dst=aa t->∀j y,es[j]? =aa y->y.dst=aa t->S j=af->j<i)(t:Nat):
 jd (ins S i) 0 es sl0 t=if x.dst=aa t then aa x.e.dst else jd S 0 es sl0 t:=by
 by_cases hd:x.dst=aa t
 .rw[aj hd];obtain⟨e1,e2⟩:=Fu hx;rw[e1,rK,e2,apn]
  show jd (ins S i) (i+1) (es.drop (i+1)) _ t=_
  grind [rJ,ta,sZ,yI]
 grind [oF,ta]
theorem Fv{S:Nat->Bool}{i:Nat}{x:og}(hx:es[i]? =aa x)(hS:S i=ag)(YO:∀o,o∈x.mut->∀j y,es[j]? =aa y->o∈y.mut->S j=af->j<i)(o s:Nat)(t:Th)(h:iB (ins S i) 0 es ob0 o=aa (s,t)):
 find x.e.make o=aa (s,t)\/(o∉x.e.eat/\iB S 0 es ob0 o=aa (s,t)/\find x.e.make o=ae):=by
 by_cases hd:o∈x.mut
 .obtain⟨e1,e2⟩:=Fu hx
  have late:∀S':Nat->Bool,(∀j,j≠i->S' j=S j)->∀f,iB S' (i+1) (es.drop (i+1)) f o=f o:=λS' hS' f=>qV (by grind)
  have pre:iB (ins S i) 0 (es.take i) ob0 o=iB S 0 (es.take i) ob0 o:=nS rfl λk y hy _=>by
   grind [ta]
  have all:iB S 0 es ob0 o=iB S 0 (es.take i) ob0 o:=by
   conv=>lhs;rw[e1]
   rw[mz,e2,apn]
   show iB S (i+1) (es.drop (i+1)) _ o=_
   rw[late S (λ_ _=>rfl),hS];rfl
  conv at h=>lhs;rw[e1]
  rw[mz,e2,apn]at h;change iB (ins S i) (i+1) (es.drop (i+1)) _ o=_ at h;rw[late (ins S i) (λj hj=>ta hj),sZ,cond_true,pre,<-all]at h
  cases hm:find x.e.make o with
  |some y=>grind
  |none=>
   rw[hm,Option.none_or]at h
   cases he:rG o x.e.eat with
   |true=>rw[he]at h;cases h
   |false=>
    grind [ie]
 .right
  have h1:find x.e.make o=ae:=by
   cases hm:find x.e.make o with
   |none=>rfl
   |some y=>grind [og.mut,tZ]
  grind [og.mut,nS,ta]
theorem qW{l l':List Nat}{o:Nat}(h:o∈l)(h':o∈l'):Ft l l'=af:=by
 grind [Ft,ie]
theorem zK{i j:Nat}(h:i<=j):aps j i=ag:=by
 cases hb:aps j i with
 |false=>rfl
 |true=>have:j<i:=by simpa using hb
        omega
def Mo(_:Nat):Bool:=af
theorem Ij{es:List og}{i:Nat}(hi:i<=es.length):jd (λj=>aps j i) 0 es sl0=jd Mo 0 (es.take i) sl0:=by
 funext t
 conv=>lhs;rw[<-aqd i es]
 rw[rK,rJ (S:=λj=>aps j i) λk x _ _=>zK (by simp;omega)]
 refine oF rfl λk x hx _=>?_
 have:=(aoI.1 hx).1;simp at this;simp[Mo];omega
theorem B7{es:List og}{i:Nat}(hi:i<=es.length):iB (λj=>aps j i) 0 es ob0=iB Mo 0 (es.take i) ob0:=by
 funext t
 conv=>lhs;rw[<-aqd i es]
 rw[mz,qV (S:=λj=>aps j i) λk x _ _=>zK (by simp;omega)]
 refine nS rfl λk x hx _=>?_
 have:=(aoI.1 hx).1;simp at this;simp[Mo];omega
theorem Mp{S:Nat->Bool}{i q:Nat}(hA:∀k y,k<i->es[k]? =aa y->q∈y.mut->S k=af\/q∈y.soft)
 (hs:∀k y,es[k]? =aa y->q∈y.soft->q∈y.mut->∃z z',iB Mo 0 (es.take k) ob0 q=aa z/\find y.e.make q=aa z'/\jL z z'):
 ∀m,m<=i->m<=es.length->∀z,iB Mo 0 (es.take m) ob0 q=aa z->∃z',iB S 0 (es.take m) ob0 q=aa z'/\jL z z':=by
 intro m
 induction m with
 |zero=>intro _ _ z hz;exact⟨z,hz, .inl rfl⟩
 |succ m ih=>
  intro hm hl z hz
  have aJ:m<es.length:=by omega
  have hy:es[m]? =aa es[m]:=aoA aJ
  have e1:es.take (m+1)=es.take m++[es[m]]:=by rw[apS,hy];rfl
  have el:(es.take m).length=m:=by simp;omega
  rw[e1,mz,el,apn]at hz⊢;generalize hgy:es[m]=y at*;have ez:(find y.e.make q).or (bif rG q y.e.eat then ae else iB Mo 0 (es.take m) ob0 q)=aa z:=hz
  show∃z',(bif S m then(find y.e.make q).or (bif rG q y.e.eat then ae else iB S 0 (es.take m) ob0 q)else iB S 0 (es.take m) ob0 q)=aa z'/\jL z z'
  by_cases YP:q∈y.mut
  .cases hSm:S m with
   |true=>
    rw[cond_true]
    cases Be:find y.e.make q with
    |some x=>rw[Be]at ez;exact⟨z,ez, .inl rfl⟩
    |none=>
     grind
   |false=>
    rw[cond_false]
    rcases hA m y (by omega) hy YP with h|h
    .rw[hSm]at h;cases h
    .obtain⟨x,x',h1,h2,h3⟩:=hs m y hy h YP;rw[h2]at ez;obtain rfl:=aoB ez;obtain⟨z',h4,h5⟩:=ih (by omega) (by omega) x h1;exact⟨z',h4,h3.symm.trans h5⟩
  .have h1:find y.e.make q=ae:=by
    cases hm:find y.e.make q with
    |none=>rfl
    |some y=>grind [og.mut,tZ]
   grind
theorem Pk(UA:Mm [] ops.toList=aa ms)(hp:yH ms 0 es=af)(hlen:es.length=ops.size){S:Nat->Bool}(hS:Ii ops (λj=>S j=af)){i:Nat}{o:Oper}{x:og}(ho:ops[i]? =aa o)(hx:es[i]? =aa x)(VA:S i=ag)
 (UB:∀e∈o.after,aqq .any e=af->S e.on=af)(UC:∀k y,es[k]? =aa y->∀q,q∈y.soft->q∈y.mut->∃z z',iB Mo 0 (es.take k) ob0 q=aa z/\find y.e.make q=aa z'/\jL z z')(gx:Vz P ops nt (UU G w0) o (jd (λj=>aps j i) 0 es sl0) (iB (λj=>aps j i) 0 es ob0) (n0+16*i) x)
 {H':aR}{F':Nat->Prop}{w':World}{cX:Nat->Value}{a:Act}(hf:Fr nt a cX)(hinv:Inv G w0 F0 es sl0 ob0 n0 H F w ρ S H' F' w' cX){K:Act->World->Prop}{Q:Exit->Act->World->Prop}
 (hk:∀a'' vU wO EU yz,Fr nt a'' vU->Inv G w0 F0 es sl0 ob0 n0 H F w ρ (ins S i) wO EU yz vU->K a'' yz):wpOp P ops Q i K a w':=by
 have YQ:i<es.length:=(aoI.1 hx).1
 have up:∀j y,es[j]? =aa y->j<i->conflict y x=af->S j=af:=λj y hy hji hc=>by
  have:=vd hp j i y x hji hy hx hc
  grind [Pj]
 have down:∀j y,es[j]? =aa y->i<j->conflict x y=af->S j=af->False:=λj y hy Yp hc hj=>by
  have:=vd hp i j x y Yp hx hy hc;rw[apn,apn]at this
  have Sg:j<ops.size:=by have:=(aoI.1 hy).1;omega
  have h2:=Pj UA hS j _ (apm Sg) (λe he hb=>hS j hj _ (apm Sg) e he hb) i this
  grind
 have UD:∀t,x.dst=aa t->∀j y,es[j]? =aa y->y.dst=aa t->S j=af->j<i:=λt ht j y hy hyt hj=>by
  grind [conflict,qD,ie]
 have UE:∀q,q∈x.mut->∀j y,es[j]? =aa y->q∈y.mut->S j=af->j<i:=λq hq j y hy XN hj=>by
  grind [conflict,qW]
 have VB:∀t,t∈x.ts->jd (λj=>aps j i) 0 es sl0 t=jd S 0 es sl0 t:=λt ht=>oF rfl λj y hy hyt=>by
  rw[apn]
  rcases Nat.lt_trichotomy j i with h|h|h
  .rw[up j y hy h (by unfold conflict;simp[qD,hyt,ie,ht])];simpa using h
  all_goals grind [zK,conflict,qD,ie]
 have aj8:∀q,q∈x.os->iB (λj=>aps j i) 0 es ob0 q=iB S 0 es ob0 q:=λq hq=>nS rfl λj y hy XN=>by
  rw[apn]
  rcases Nat.lt_trichotomy j i with h|h|h
  .rw[up j y hy h (by grind [conflict,qW])];simpa using h
  .grind [zK]
  .have:S j=ag:=by
    cases hj:S j with
    |false=>rfl
    |true=>exact(down j y hy h (by unfold conflict;rw[qW (l:=x.os++x.ls++x.mut) (l':=y.mut) (by simp[hq]) XN];simp) hj).elim
   rw[this];exact zK (by omega)
 have aj9:∀q z,q∈x.ls->iB (λj=>aps j i) 0 es ob0 q=aa z->∃z',iB S 0 es ob0 q=aa z'/\jL z z':=λq z hq hz=>by
  rw[B7 (by omega)]at hz
  obtain⟨z',h1,h2⟩:=Mp (S:=S) (i:=i) (q:=q) (λk y hk hy XN=>by
   by_cases hsf:q∈y.soft
   .exact .inr hsf
   .refine .inl (up k y hy hk ?_)
    have:q∈y.YM:=List.mem_filter.2 ⟨XN,by
     cases hb:rG q y.soft with
     |false=>rfl
     |true=>exact absurd (ie.1 hb) hsf⟩
    grind [conflict,qW]) (by grind) i (aoJ _) (by omega) z hz
  refine⟨z',?_,h2⟩;rw[<-h1]
  conv=>lhs;rw[<-aqd i es]
  rw[mz]
  refine qV λk y hy XN=>?_
  have Pm:es[i+k]? =aa y:=by rw[<-hy,apx]
  have el:(es.take i).length=i:=by simp;omega
  rw[el,apn]
  cases hSk:S (i+k)with
  |false=>rfl
  |true=>
   rcases Nat.eq_zero_or_pos k with rfl|hk
   .grind
   .exact(down (i+k) y Pm (by omega) (by unfold conflict;rw[qW (l:=x.os++x.ls++x.mut) (l':=y.mut) (by simp[hq]) XN];simp) hSk).elim
 obtain⟨b,hg,hon,RP⟩:=gx.on
 have YR:aqh o (yielded ops a.tmps)=b:=by
  generalize hog:o.guard=gd at hg
  cases hg with
  |none=>unfold aqh;rw[hog]
  |lit h1 h2 h3 h4 h5=>
   rename_i j g b' t d;rw[VB g h3]at h4;have hy:=rz hf h1 h2 (qM h5 (hinv.slot g _ h4));unfold aqh
   grind
  |undef h1 h2 h3 h4=>
   rename_i j g b';rw[VB g h3]at h4;have hy:=qz hf h1 h2 (show cX g=undef from hinv.slot g _ h4);unfold aqh
   grind
 have yW:∀v,Fr nt (a.put o.dst v) (yg cX o.dst v):=λv=>by
  have hb:=gx.Uz
  cases hd:o.dst with
  |none=>exact hf
  |some d=>rw[hd]at hb;exact hf.put hb v
 have Ik:∀t,x.dst=aa t↔o.dst=aa t:=λt=>by rw[gx.dst]
 unfold wpOp;simp only[ho,YR]
 cases b with
 |false=>
  simp only[aoC,if_false];have he:=RP rfl;refine hk _ (yg cX o.dst undef) H' F' w' (yW undef) ⟨λt d ht=>?_,?_,hinv.all,λk hk Bf=>?_,hinv.glob,hinv.keeps,λt ht=>?_⟩
  .rw[B6 hx UD]at ht;split at ht
   .rename_i VC;obtain rfl:=aoB ht;rw[he]
    show yg cX o.dst undef t=undef
    rw[(Ik t).1 VC]
    show Ho cX t undef t=undef
    rw[sO,aj rfl]
   .rename_i VC;rw[tY (λe=>VC ((Ik t).2 e))];exact hinv.slot t d ht
  .refine hinv.ob.sub (λq y hq=>?_) (λm hm _=>hinv.all m hm)
   rcases Fv hx VA UE q y.1 y.2 hq with h1|⟨_,h2,_⟩
   .rw[he]at h1;cases h1
   .exact h2
  .by_cases e:k=i
   .subst e;rw[sZ]at Bf;cases Bf
   .rw[ta e]at Bf;exact hinv.fresh k hk Bf
  .rw[tY (λe=>ht x (apW hx) ((Ik t).2 e))];exact hinv.same t ht
 |true=>
  simp only[if_true]
  left
  obtain⟨_,⟨slR,Rc,YL,Su,cD⟩,_⟩:=hon rfl
  obtain⟨ob2,jY,cD⟩:=cD H' F' w' cX (iB S 0 es ob0) (λq y hq=>by
   obtain⟨h1,h2⟩:=Su q y hq;by_cases XO:q∈x.os
   .exact⟨y,by grind, .inl rfl,λ_=>rfl⟩
   grind) (λt d ht=>by
   obtain⟨h1,h2⟩:=YL t d ht;rw[VB t h1]at h2
   exact hinv.slot t d h2) (hinv.ob.sub (λ_ _ h=>h) (hinv.fresh i YQ VA))
  have E9:=hinv.ob.sub jY (hinv.fresh i YQ VA)
  refine Sw cD hf λv yz ⟨wO,EU,xJ⟩=>?_
  .have sL:=xJ.oU.step E9.lt E9.jX
   have jJ:ln wO (n0+16*es.length):=λm hm=>by
    have h1:=hinv.all m hm;have h2:=xJ.fresh m (.inr (by omega));exact⟨h2.1 h1.1,h2.2 h1.2⟩
   refine hk _ (yg cX o.dst v) wO EU yz (yW v) ⟨λt d ht=>?_,?_,jJ,λk hk Bf m hm1 hm2=>?_,hinv.glob.oU xJ.oU E9.jE,hinv.keeps.trans ⟨xJ.oU.lJ,sL⟩,λt ht=>?_⟩
   .rw[B6 hx UD]at ht;split at ht
    .rename_i VC;obtain rfl:=aoB ht;rw[(Ik t).1 VC]
     show aN wO EU yz _ (Ho cX t v t)
     grind [sO,qB.dst]
    .rename_i VC;rw[tY (λe=>VC ((Ik t).2 e))];exact(hinv.slot t d ht).keep xJ.oU.lJ sL
   .exact hinv.ob.Oj jY xJ (λq s t hq=>Fv hx VA UE q s t hq) λm hm _=>jJ m hm
   .by_cases e:k=i
    .subst e;rw[sZ]at Bf;cases Bf
    .rw[ta e]at Bf;have h1:=hinv.fresh k hk Bf m hm1 hm2;have h2:=xJ.fresh m (by omega);exact⟨h2.1 h1.1,h2.2 h1.2⟩
   .rw[tY (λe=>ht x (apW hx) ((Ik t).2 e))];exact hinv.same t ht
end
end
end Go.Proofs.YtfjgcenlllgonaaGreatDoor
namespace Go.Proofs.YtfjgcenlllgonaaGreatDoor
open Go Go.RowKit
def xh(dst:Option Nat)(g:Nat):og:={dst:=dst,ts:=[g],os:=[],e:={dst:= .undef}}
noncomputable def p7{R:Type}{P:Program}(E:Env P)(nt:Nat)(ops:Array Oper):List Oper->State->List og->(State->Option R)->Option R
 |[],st,acc,k=>bif xg ops.toList acc then k st else ae
 |o::os,st,acc,k=>bif Fc nt o.dst then(match o.guard with
  |none=>B5 E o.dst o.op [] st (λe x=>p7 E nt ops os (st.apply o.dst e) (acc++[x]) k)
  |some (j,b)=>match JZ ops j with
   |none=>ae
   |some g=>bif aps g nt then(match find st.aH g with
    |some .undef=>p7 E nt ops os (st.apply o.dst {dst:= .undef}) (acc++[xh o.dst g]) k
    |some d=>match asBool d with
     |some t=>if t=af then
       (bif b then B5 E o.dst o.op [g] (st.put (aa g) (fB af)) (λe x=>p7 E nt ops os ((st.put (aa g) (fB af)).apply o.dst e) (acc++[x]) k)
         else p7 E nt ops os ((st.put (aa g) (fB af)).apply o.dst {dst:= .undef}) (acc++[xh o.dst g]) k)
      else
       (bif b then p7 E nt ops os ((st.put (aa g) (fB ag)).apply o.dst {dst:= .undef}) (acc++[xh o.dst g]) k
         else B5 E o.dst o.op [g] (st.put (aa g) (fB ag)) (λe x=>p7 E nt ops os ((st.put (aa g) (fB ag)).apply o.dst e) (acc++[x]) k))
     |none=>ae
    |none=>ae)else ae)else ae
section
variable {P:Program} {nt:Nat} {ops:Array Oper} {R:Type}
variable {G:Nat->Prop} {w0:World} {F0:Nat->Prop} {sl0:Nat->Option aM} {ob0:Nat->Option (Nat×Th)} {n0:Nat}
structure Lex(P:Program)(nt:Nat)(ops:Array Oper)(U:Nat->Prop)(sl0:Nat->Option aM)(ob0:Nat->Option (Nat×Th))(n0:Nat)(es:List og)(st:State):Prop where
 slot:∀t,find st.aH t=jd Mo 0 es sl0 t
 ob:∀o,find st.objs o=iB Mo 0 es ob0 o
 nxt:st.nxt=n0+16*es.length
 ok:∀i o x,ops[i]? =aa o->es[i]? =aa x->Vz P ops nt U o (jd Mo 0 (es.take i) sl0) (iB Mo 0 (es.take i) ob0) (n0+16*i) x
theorem Il{S:Nat->Bool}{es:List og}{x:og}{f:Nat->Option aM}{t:Nat}(h:S es.length=af):jd S 0 (es++[x]) f t=if x.dst=aa t then aa x.e.dst else jd S 0 es f t:=by
 rw[rK,apn]
 show(bif S es.length&&qD (aa t) x.dst.toList then aa x.e.dst else jd S 0 es f t)=_
 rw[h,Bool.true_and];by_cases hd:x.dst=aa t
 all_goals grind [yI]
theorem Mq{S:Nat->Bool}{es:List og}{x:og}{f:Nat->Option (Nat×Th)}{o:Nat}(h:S es.length=af):iB S 0 (es++[x]) f o=(find x.e.make o).or (bif rG o x.e.eat then ae else iB S 0 es f o):=by
 rw[mz,apn]
 show(bif S es.length then _ else _)=_
 rw[h];rfl
theorem xi{st:State}{dst:Option Nat}{e:gw}{t:Nat}:find (st.apply dst e).aH t=if dst=aa t then aa e.dst else find st.aH t:=by
 cases dst with
 |none=>simp[State.apply]
 |some d=>
  show find ((d,e.dst)::st.aH) t=_
  grind [bp]
theorem ym{st:State}{dst:Option Nat}{e:gw}{o:Nat}:find (st.apply dst e).objs o=(find e.make o).or (bif rG o e.eat then ae else find st.objs o):=by
 show find (e.make++del e.eat st.objs) o=_
 rw[jV]
 congr 1
 cases hb:rG o e.eat with
 |true=>
  rw[cond_true]
  cases h:find (del e.eat st.objs) o with
  |none=>rfl
  |some x=>grind [ie,jW]
 |false=>
  rw[cond_false]
  have hn:o∉e.eat:=λh=>by rw[ie.2 h]at hb;cases hb
  cases h:find st.objs o with
  |some x=>exact jW.2 ⟨hn,h⟩
  |none=>
   cases h2:find (del e.eat st.objs) o with
   |none=>rfl
   |some x=>rw[(jW.1 h2).2]at h;cases h
theorem Lex.snoc{U:Nat->Prop}{es:List og}{st:State}{x:og}{o:Oper}(h:Lex P nt ops U sl0 ob0 n0 es st)(ho:ops[es.length]? =aa o)(hd:x.dst=o.dst)
 (sJ:Vz P ops nt U o (find st.aH) (find st.objs) st.nxt x):Lex P nt ops U sl0 ob0 n0 (es++[x]) (st.apply o.dst x.e):=by
 refine⟨λt=>?_,λq=>?_,?_,λi o' y py hy=>?_⟩
 .rw[xi,Il rfl,hd,h.slot t]
 .rw[ym,Mq rfl,h.ob q]
 .show st.nxt+16=_
  grind [Lex.nxt]
 .rcases aph i es.length with aJ|hge
  .rw[apc aJ]at hy;rw[List.take_append_of_le_length (by omega)];exact h.ok i o' y py hy
  .have hi:i=es.length:=by
    have:=(aoI.1 hy).1;simp at this;omega
   subst hi;simp at hy;subst hy;rw[ho]at py;obtain rfl:=aoB py;rw[List.take_left']
   .rw[<-funext h.slot,<-funext h.ob,<-h.nxt];exact sJ
   .rfl
theorem Lex.put{U:Nat->Prop}{es:List og}{st:State}{g:Nat}{d:aM}(h:Lex P nt ops U sl0 ob0 n0 es st)(hg:find st.aH g=aa d):Lex P nt ops U sl0 ob0 n0 es (st.put (aa g) d):=by
 refine⟨λt=>?_,h.ob,h.nxt,h.ok⟩
 show find ((g,d)::st.aH) t=_
 rw[bp,<-h.slot t]
 grind
theorem Mr{d:aM}{t:Bool}(h:asBool d=aa t):d=fB t:=by
 unfold asBool at h
 grind
theorem Fw{E:Env P}{q:R}{k:State->Option R}:{l:List Oper}->{st:State}->{es:List og}->p7 E nt ops l st es k=aa q->(∀j,l[j]? =ops[es.length+j]?)->Lex P nt ops (UU G w0) sl0 ob0 n0 es st->
 ∃uW cM,k cM=aa q/\xg ops.toList uW=af/\Lex P nt ops (UU G w0) sl0 ob0 n0 uW cM/\uW.length=es.length+l.length
 |[],st,es,h,_,hl=>by
  unfold p7 at h
  grind
 |o::l,st,es,h,rC,hl=>by
  have ho:ops[es.length]? =aa o:=by simpa using(rC 0).symm
  have YS:∀x:og,∀j,l[j]? =ops[(es++[x]).length+j]? :=λx j=>by
   have:=rC (j+1)
   grind
  have go:∀{qU:State}{x:og},p7 E nt ops l qU (es++[x]) k=aa q->Lex P nt ops (UU G w0) sl0 ob0 n0 (es++[x]) qU->∃uW cM,k cM=aa q/\xg ops.toList uW=af/\Lex P nt ops (UU G w0) sl0 ob0 n0 uW cM/\uW.length=es.length+(o::l).length:=by
   intro qU x h1 h2;obtain⟨uW,cM,a1,a2,a3,a4⟩:=Fw h1 (YS x) h2;refine⟨uW,cM,a1,a2,a3,?_⟩;rw[a4,aoH,aoT,apa];omega
  unfold p7 at h;obtain⟨hd,h'⟩:=bo h;clear h
  have on:∀{qU:State}{gs:List Nat},B5 E o.dst o.op gs qU (λe x=>p7 E nt ops l (qU.apply o.dst e) (es++[x]) k)=aa q->Lex P nt ops (UU G w0) sl0 ob0 n0 es qU->(∀ts:List Nat,(∀g∈gs,g∈ts)->Vy ops nt ts (find qU.aH) o.guard af)->∃uW cM,k cM=aa q/\xg ops.toList uW=af/\Lex P nt ops (UU G w0) sl0 ob0 n0 uW cM/\uW.length=es.length+(o::l).length:=by
   intro qU gs h1 h2 h3;obtain⟨e,x,a1,a2,a3,a4⟩:=Pg (U:=UU G w0) h1;subst a2;exact go a1 (h2.snoc ho a4.dst ⟨a4.dst,hd,af,h3 _ a3,λ_=>a4,λh=>by cases h⟩)
  have off:∀{qU:State}{g:Nat},p7 E nt ops l (qU.apply o.dst {dst:= .undef}) (es++[xh o.dst g]) k=aa q->Lex P nt ops (UU G w0) sl0 ob0 n0 es qU->Vy ops nt [g] (find qU.aH) o.guard ag->∃uW cM,k cM=aa q/\xg ops.toList uW=af/\Lex P nt ops (UU G w0) sl0 ob0 n0 uW cM/\uW.length=es.length+(o::l).length:=by
   intro qU g h1 h2 h3;exact go (x:=xh o.dst g) h1 (h2.snoc (x:=xh o.dst g) ho rfl ⟨rfl,hd,ag,h3,λh=>(by cases h),λ_=>rfl⟩)
  split at h'
  .rename_i Hk
   exact on h' hl λts _=>by rw[Hk];exact .none
  .rename_i j b Hk;split at h'
   case h_1=>cases h'
   rename_i g Us;obtain⟨Ut,h⟩:=bo h';clear h';split at h
   .rename_i hu;exact off h hl (by rw[Hk];exact .undef Us Ut (by simp) hu)
   .rename_i d iP;split at h
    case h_2=>cases h
    rename_i t ht;obtain rfl:=Mr ht
    have YT:∀v:Bool,find (st.put (aa g) (fB v)).aH g=aa (fB v):=λv=>by
     show find ((g,fB v)::st.aH) g=_
     rw[bp,aj rfl]
    have akc:∀(v:Bool)(ts:List Nat)(r:Bool),g∈ts->r=decide (v=b)->Vy ops nt ts (find (st.put (aa g) (fB v)).aH) (aa (j,b)) r:=λv ts r hg hr=>by
     rw[hr];exact .lit Us Ut hg (YT v) rfl
    split at h
    .rename_i Sq;subst Sq;have XA:=hl.put iP
     grind
    .rename_i Sq
     have Sq:t=ag:=by cases t<;>simp_all
     subst Sq;have XA:=hl.put iP
     grind
   .cases h
def YU(m:Nat)(listed:Array Bool):Nat:=((ap1 m).filter λj=> !listed.getD j ag).length
theorem J2{m i:Nat}{listed:Array Bool}(hi:i<m)(hs:listed.size=m)(h:listed.getD i ag=ag):YU m (listed.setIfInBounds i af)+1<=YU m listed:=by
 unfold YU
 have jY:∀l:List Nat,(l.filter λj=> !(listed.setIfInBounds i af).getD j ag).length<=(l.filter λj=> !listed.getD j ag).length/\(i∈l->(l.filter λj=> !(listed.setIfInBounds i af).getD j ag).length+1<=(l.filter λj=> !listed.getD j ag).length):=by
  intro l
  induction l with
  |nil=>grind
  |cons j l ih=>
   by_cases hj:i=j
   .subst hj
    have e1:(listed.setIfInBounds i af).getD i ag=af:=by simp[apz,hs,hi]
    grind
   .have e1:(listed.setIfInBounds i af).getD j ag=listed.getD j ag:=getD_set_ne ag hj
    grind
 grind
theorem Sz{E:Env P}{id:Nat}{q:R}{k:State->Option R}{st:State}{H:aR}{F:Nat->Prop}{w:World}{ρ:Nat->Value}{Q:Exit->(Nat->Value)->World->Prop}(hm:P.follows .mixedOrders=af)
 (h:p7 E nt ops ops.toList st [] k=aa q)(hh:dw G w0 F0 H F w ρ st)
 (hk:∀cM H' F' w' cX,k cM=aa q->dw G w0 F0 H' F' w' cX cM->dk H F w H' F' w'->(∀t,(∀o∈ops.toList,o.dst≠aa t)->cX t=ρ t)->Q .normal cX w'):uU P nt (.region id ops af) Q ρ w:=by
 obtain⟨es,cM,acE,mI,Im,hlen⟩:=Fw (G:=G) (w0:=w0) (sl0:=find st.aH) (ob0:=find st.objs) (n0:=st.nxt) h (λj=>by simp) ⟨λ_=>rfl,λ_=>rfl,by simp,λi o x _ hx=>by simp at hx⟩;simp only[List.length_nil,apn,Array.length_toList]at hlen;unfold xg at mI;split at mI
 case h_2=>cases mI
 rename_i ms UA
 have Ik:∀x∈es,∃o∈ops.toList,x.dst=o.dst:=λx hx=>by
  obtain⟨i,hi,rfl⟩:=aoS hx
  have aJ:i<ops.size:=by omega
  exact⟨ops[i],by simp,(Im.ok i ops[i] es[i] (apm aJ) (aoA hi)).dst⟩
 have UC:∀k y,es[k]? =aa y->∀q,q∈y.soft->q∈y.mut->∃z z',iB Mo 0 (es.take k) (find st.objs) q=aa z/\find y.e.make q=aa z'/\jL z z':=λk y hy q h1 h2=>by
  have aJ:k<es.length:=(aoI.1 hy).1;obtain⟨_,_,b,_,hon,RP⟩:=Im.ok k _ y (apm (by omega)) hy
  cases b with
  |true=>exact(hon rfl).soft q h1 h2
  |false=>
   grind [og.mut,xL]
 have abn:∀i o,ops[i]? =aa o->∀e∈o.after,aqq .any e=af->e.on<i:=λi o ho e he hb=>by
  obtain⟨m,h1,_⟩:=(Dk UA).2.2 i o (by grind);simp only[List.length_nil,apn]at h1;exact J1 h1 e (by simpa using he) hb
 intro a hf;refine wp_region_any hm ?_
 have main:∀fuel(listed:Array Bool)(a:Act)(w':World)H' F' cX,listed.size=ops.size->YU ops.size listed<=fuel->Ii ops (λj=>listed.getD j ag=af)->Fr nt a cX->
  Inv G w0 F0 es (find st.aH) (find st.objs) st.nxt H F w ρ (λj=>listed.getD j ag) H' F' w' cX->wpAny P .any ops (λe a' w'=>∃cX,Fr nt a' cX/\Q e cX w') fuel listed a w':=by
  have done:∀(listed:Array Bool)(a:Act)(w':World)H' F' cX,(∀i,i<ops.size->listed.getD i ag=af)->Fr nt a cX->Inv G w0 F0 es (find st.aH) (find st.objs) st.nxt H F w ρ (λj=>listed.getD j ag) H' F' w' cX->∃cX,Fr nt a cX/\Q .normal cX w':=by
   intro listed a w' H' F' cX jJ hf hinv
   have eS:∀t,jd (λj=>listed.getD j ag) 0 es (find st.aH) t=find cM.aH t:=λt=>by
    rw[Im.slot t]
    refine oF rfl λk x hx _=>?_
    have:=(aoI.1 hx).1;rw[apn];exact jJ k (by omega)
   have eO:∀o,iB (λj=>listed.getD j ag) 0 es (find st.objs) o=find cM.objs o:=λo=>by
    rw[Im.ob o]
    refine nS rfl λk x hx _=>?_
    have:=(aoI.1 hx).1;rw[apn];exact jJ k (by omega)
   refine⟨cX,hf,hk cM H' F' w' cX acE ⟨⟨λt d hd=>hinv.slot t d (by rw[eS];exact hd),?_,?_⟩,hinv.glob⟩ hinv.keeps λt ht=>hinv.same t λx hx=>?_⟩
   .have:=hinv.ob;rw[funext eO]at this;rw[Im.nxt];exact this
   .rw[Im.nxt];exact hinv.all
   .grind
  have Ms:∀(listed:Array Bool),listed.size=ops.size->Region.ready .any ops listed=[]->∀i,i<ops.size->listed.getD i ag=af:=by
   intro listed hs hr i
   induction i using Nat.strongRecOn with
   |_ i ih=>
    intro hi
    cases hl:listed.getD i ag with
    |true=>rfl
    |false=>
     have:i∈Region.ready .any ops listed:=mem_ready.2 ⟨by
      grind,ops[i],apm hi,(by grind)⟩
     grind
  intro fuel
  induction fuel with
  |zero=>
   intro listed a w' H' F' cX hs hu hc hf hinv
   have jJ:∀i,i<ops.size->listed.getD i ag=af:=λi hi=>by
    cases hl:listed.getD i ag with
    |true=>rfl
    |false=>
     have:=J2 hi hs hl;omega
   refine⟨?_,done listed a w' H' F' cX jJ hf hinv⟩
   cases hr:Region.ready .any ops listed with
   |nil=>rfl
   |cons i l=>
    have hi:i∈Region.ready .any ops listed:=by rw[hr];simp
    grind [Go.mem_ready]
  |succ fuel ih=>
   intro listed a w' H' F' cX hs hu hc hf hinv;refine⟨λhr=>done listed a w' H' F' cX (Ms listed hs hr) hf hinv,λi hi=>?_⟩;obtain⟨h1,o,ho,UB⟩:=mem_ready.1 hi;have aJ:=(Array.getElem?_eq_some_iff.1 ho).1
   have VA:listed.getD i ag=ag:=by
    simp only[apz]at h1⊢;rw[apm (by omega)]at h1⊢;simpa using h1
   have hx:es[i]? =aa (es[i]'(by omega)):=aoA (by omega);have gx:=Im.ok i o _ ho hx;rw[<-Ij (by omega),<-B7 (by omega)]at gx
   have Bf:(λj=>(listed.setIfInBounds i af).getD j ag)=ins (λj=>listed.getD j ag) i:=by
    funext j;by_cases e:j=i
    .subst e;rw[sZ];simp[apz,hs,aJ]
    .rw[ta e];exact getD_set_ne ag (Ne.symm e)
   refine Pk UA mI hlen hc ho hx VA UB UC gx hf hinv λa'' vU wO EU yz acF acG=>?_
   refine ih _ a'' yz wO EU vU (by simp[hs]) ?_ ?_ acF ?_
   .have:=J2 aJ hs VA;omega
   .intro j hj o' py e he hb;by_cases ej:j=i
    .grind [Go.getD_set_true]
    .have yk:listed.getD j ag=af:=by
      have:(listed.setIfInBounds i af).getD j ag=listed.getD j ag:=getD_set_ne ag (Ne.symm ej);rw[<-this];exact hj
     exact getD_set_true (hc j yk o' py e he hb)
   grind
 have hS0:∀j,(Array.replicate ops.size ag).getD j ag=ag:=λj=>by
  simp only[apz]
  grind
 have hw:Step F w F w.drew:=Step.drew F w
 refine main ops.size _ a _ H F ρ (by simp) ?_ (λi hi=>by
  grind) hf ⟨λt d hd=>?_,?_,λm hm=>hh.sat.all m (by omega),λi hi _ m hm _=>hh.sat.all m (by omega),⟨⟨hh.glob.ext.os,hh.glob.ext.tape,hh.glob.ext.output,hh.glob.ext.size,hh.glob.ext.block⟩,hh.glob.le,hh.glob.new⟩,⟨aR.le.refl H,hw⟩,λ_ _=>rfl⟩
 .grind [YU]
 .rw[rJ λk x _ _=>hS0 _]at hd;exact(hh.sat.slot t d hd).keep (aR.le.refl H) hw
 .have e:iB (λj=>(Array.replicate ops.size ag).getD j ag) 0 es (find st.objs)=find st.objs:=by
   funext o
   exact qV λk x _ _=>hS0 _
  rw[e];have hb:=hh.sat.ob;refine⟨λo s t ho=>?_,hb.apart,λm hm _=>hh.sat.all m (by omega),hb.lt,hb.new,hb.gl.step (λ_ h=>⟨h,rfl⟩)⟩;obtain⟨v,hv,eK⟩:=hb.obj o s t ho;exact⟨v,hv,eK.one,eK.con,eK.ok.heap (aR.le.refl H) hw λ_ _=>rfl,eK.no,eK.lt,eK.use⟩
end
end Go.Proofs.YtfjgcenlllgonaaGreatDoor
end
section
open _root_.Bool renaming false->ag,true->af,and_eq_true->apQ
open _root_.Option renaming none->ae,some->aa,isSome_iff_exists->apA
open _root_.List renaming append_nil->apq,length_cons->apa,mem_cons->apH
open _root_.List.cons renaming injEq->ap5
open _root_.Nat renaming add_zero->apO,beq->aoL,le_refl->aoJ
open _root_.Option.some renaming inj->aoB,injEq->aoW
open _root_.Go.Sem renaming run_bind->ao9
open _root_.Sum renaming inl->ao4,inr->aoV
open _root_.Go.Value.slice renaming injEq->aqj
namespace Go.Proofs.YtfjgcenlllgonaaGreatDoor
open Go Go.RowKit
inductive Ex where
 |normal
 |exit (id:Nat)
 |ret
 |goto (l:Nat)
def Ex.qX:Ex->Exit
 | .normal=> .normal
 | .exit id=> .exit id
 | .ret=> .ret
 | .goto l=> .goto l
def noGoto{R:Type}(k:Ex->State->Option R):Ex->State->Option R
 | .goto _,_=>ae
 |e,st=>k e st
inductive uL where
 |nil
 |two (a b:uL)
 |join (J:JS) (a b:uL)
 |meet (J:JS) (a b:uL)
 |loop (L:JS) (a:uL)
abbrev uL.o(a:uL):uL:= .two .nil a
def uL.l:uL->uL
 | .two a _=>a
 |_=> .nil
def uL.r:uL->uL
 | .two _ b=>b
 |_=> .nil
def vV:List Oper->List Nat
 |[]=>[]
 |o::l=>match o.dst with
  |some d=>d::vV l
  |none=>vV l
def writes:Code->List Nat
 | .region _ ops _=>vV ops.toList
 | .seq a b=>writes a++writes b
 | .cond _ a b=>writes a++writes b
 | .block _ a=>writes a
 | .loop a=>writes a
 | .scope a=>writes a
 |_=>[]
def Fx:List Nat->List (Nat×aM)->List (Nat×aM)
 |[],l=>l
 |t::ts,l=>(t, .dead)::Fx ts l
def UF:List (Nat×OS)->List Nat
 |[]=>[]
 |(j,_)::l=>j::UF l
def J3(st:State)(J:JS):List (Nat×(Nat×Th)):=del (UF J.objs++J.drop) st.objs
def behind(st:State)(W:List Nat)(J:JS)(x:cY J.rows):State:=
 {aH:=(eD J.aH (fe _ x)).1++Fx W st.aH,objs:=kN st.nxt J.objs (eD J.aH (fe _ x)).2++J3 st J,nxt:=J.nxt}
def Io(st:State)(J:JS)(qU:State):Option (cY J.rows):=
 match BP st.nxt (J3 st J) J qU.aH qU.objs with
 |some (x,_)=>aa x
 |none=>ae
def Pn(ob:Nat->Option (Nat×Th))(n o:Nat):Option gw:=
 match ob o with
 |some (_, .deep T d l ae)=>aa {dst:= .dead,eat:=[o],make:=[(o,(n, .own T d.row l))]}
 |_=>ae
def p8(st:State):List (Nat×OS)->State
 |[]=>st
 |(j, .own _ _)::os=>match Pn (find st.objs) st.nxt j with
  |some e=>p8 (st.apply ae e) os
  |none=>p8 st os
 |_::os=>p8 st os
def Po(st:State)(t o:Nat)(r:Row):Option State:=
 match find st.objs o with
 |some (_, .box _ t0)=>match gz st.objs t0.owns with
  |some br=>match find br o with
   |some (_, .box _ t1)=>match flat (find br) r t1 with
    |some x=>aa (State.apply {st with objs:=br} (aa t) {dst:= .at r x,eat:=[o]})
    |none=>ae
   |_=>ae
  |none=>ae
 |_=>ae
noncomputable def Dl{R:Type}(st:State)(k:State->Option R):List (Nat×SS)->Option R
 |[]=>k st
 |(t, .at r)::ss=>match find st.aH t with
  |some (.ptr o [] 0)=>match Po st t o r with
   |some cM=>Dl cM k ss
   |none=>ae
  |some (.dlm o d i [] 0)=>match gz st.objs [o]with
   |some br=>match find br o with
    |some (_, .fdeep _ d' l)=>bif aoL d.low.size d'.row.size then(idx l i).bind λx=>Dl {aH:=(t, .at d'.row x)::st.aH,objs:=br,nxt:=st.nxt} k ss else ae
    |_=>ae
   |none=>ae
  |_=>Dl st k ss
 |_::ss=>Dl st k ss
noncomputable def carry(st:State)(J:JS)(qU:State):Option (cY J.rows):=Dl (p8 (sv qU) J.objs) (Io st J) J.aH
def bx{J R:Type}(m:Option (J⊕R))(k:J->Option R):Option R:=m.bind λs=>match s with
 | .inl j=>k j
 | .inr r=>aa r
noncomputable def exec{P:Program}(E:Env P)(nt N:Nat):Code->{R:Type}->uL->State->(Ex->State->Option R)->Option R
 | .skip,_,_,st,k=>k .normal st
 | .label _,_,_,st,k=>k .normal st
 | .scope x,_,a,st,k=>exec E nt N x a.l st (noGoto k)
 | .goto l,_,_,st,k=>k (.goto l) st
 | .ret,_,_,st,k=>k .ret st
 | .exit id,_,_,st,k=>k (.exit id) st
 | .cond c x y,_,a,st,k=>match Ny st.aH c with
   |some D=>match asBool D with
    |some b=>if b=af then exec E nt N x a.l st k else exec E nt N y a.r st k
    |none=>ae
   |none=>ae
 | .region _ ops draw,_,_,st,k=>bif draw then p7 E nt ops ops.toList st [] (k .normal)else runs E nt ops ops.toList [] st (k .normal)
 | .seq x y,R,a,st,k=>match a with
   | .join J a1 a2=>bx (exec E nt N x (R:=cY J.rows⊕R) a1 st (λe cM=>match e with
       | .normal=>(carry st J cM).map .inl
       |e=>(k e cM).map .inr)) λj=>exec E nt N y a2 (behind st (writes x) J j) k
   | .meet J a1 a2=>(exec E nt N x (R:=cY J.rows) a1 st (λe cM=>match e with
       | .normal=>carry st J cM
       |_=>ae)).bind λj=>exec E nt N y a2 (behind st (writes x) J j) k
   |a=>exec E nt N x a.l st (λe cM=>match e with
     | .normal=>exec E nt N y a.r cM k
     |e=>k e cM)
 | .block id x,R,a,st,k=>match a with
   | .join J a1 _=>bx (exec E nt N x (R:=cY J.rows⊕R) a1 st (λe cM=>match e with
       | .normal=>(carry st J cM).map .inl
       | .exit i=>bif aoL i id then(carry st J cM).map .inl else(k (.exit i) cM).map .inr
       |e=>(k e cM).map .inr)) λj=>k .normal (behind st (writes x) J j)
   | .meet J a1 _=>(exec E nt N x (R:=cY J.rows) a1 st (λe cM=>match e with
       | .normal=>carry st J cM
       | .exit i=>bif aoL i id then carry st J cM else ae
       |_=>ae)).bind λj=>k .normal (behind st (writes x) J j)
   |a=>exec E nt N x a.l st (λe cM=>match e with
     | .exit i=>bif aoL i id then k .normal cM else k (.exit i) cM
     |e=>k e cM)
 | .loop x,R,a,st,k=>match a with
   | .loop L a1=>match carry st L st with
     |some s0=>Loop (S:=cY L.rows) (X:=R) (λs=>exec E nt N x (R:=cY L.rows⊕R) a1 (behind st (writes x) L s) (λe cM=>match e with
       | .normal=>(carry st L cM).map .inl
       |e=>(k e cM).map .inr)) N s0
     |none=>ae
   |_=>ae
 |_,_,_,_,_=>ae
section
variable {P:Program} {nt N:Nat} {R:Type}
variable {ρ:Nat->Value} {w w0:World} {H:aR} {F F0 G:Nat->Prop}
theorem Ip{W:List Nat}{l:List (Nat×aM)}{t:Nat}{d:aM}(h:find (Fx W l) t=aa d):d= .dead\/(t∉W/\find l t=aa d):=by
 induction W with
 |nil=>exact .inr ⟨by simp,h⟩
 |cons s W ih=>
  have h':find ((s,aM.dead)::Fx W l) t=aa d:=h
  grind [bp]
theorem Mt{st qU:State}{W:List Nat}{J:JS}{x:cY J.rows}{H1:aR}{F1:Nat->Prop}{w1:World}{Hl:Nat->Value}(h:Io st J qU=aa x)(hh:dw G w0 F0 H F w ρ st)(uz:dw G w0 F0 H1 F1 w1 Hl qU)(hk:dk H F w H1 F1 w1)
 (Sp:∀t,t∉W->Hl t=ρ t):∃H2 F2,dw G w0 F0 H2 F2 w1 Hl (behind st W J x)/\dk H F w H2 F2 w1:=by
 unfold Io at h;split at h
 case h_2=>cases h
 rename_i _ y rest hp;obtain⟨bs,br⟩:=rest;obtain rfl:=aoB h;obtain⟨F2,H2,a1,a2,a3,_,a5,_,a6,a7,a8⟩:=zw (U':=UU G w0) hp hh.sat.ob hh.sat.all hk uz.sat.ob uz.sat.slot
 have lm:Step F1 w1 F2 w1:=λb hb=>⟨a2 b hb,rfl⟩
 have fR:=a8 uz.sat.ob.new (λo s t v k _ h2 h3 h4=>by
  obtain⟨v',gQ,eK⟩:=a1.obj _ _ _ h2;rw[h3]at gQ;obtain rfl:=aoB gQ
  exact eK.use k h4) (λo s t v k h2 h3 h4=>by
  have h5:=(jW.1 h2).2;obtain⟨v',gQ,eK⟩:=hh.sat.ob.obj _ _ _ h5;rw[hk.lJ.val _ _ gQ]at h3;obtain rfl:=aoB h3
  exact eK.use k (by rwa [hk.lJ.sub _ _ eK.con]at h4))
 refine⟨H2,F2,⟨⟨λt d hd=>?_,fR,a6⟩,⟨uz.glob.ext,λb hb=>a2 b (uz.glob.le b hb),λb hb=>?_⟩⟩,⟨a5,λb hb=>⟨a2 b (hk.step b hb).1,(hk.step b hb).2⟩⟩⟩
 .have Hd:find ((eD J.aH (fe J.rows y)).1++Fx W st.aH) t=aa d:=hd;rw[jV]at Hd
  cases hm:find (eD J.aH (fe J.rows y)).1 t with
  |some d'=>
   grind
  |none=>
   rw[hm,Option.none_or]at Hd
   rcases Ip Hd with rfl|⟨h1,h2⟩
   .trivial
   .rw[Sp t h1]
    exact(hh.sat.slot t d h2).keep a5 λb hb=>⟨a2 b (hk.step b hb).1,(hk.step b hb).2⟩
 .rcases a3 b hb with h1|h1
  .exact uz.glob.new b h1
  .exact .inr (uz.sat.ob.jE b h1)
theorem Mu{U:Nat->Prop}{ob:Nat->Option (Nat×Th)}{n:Nat}(hs:aS U H F w ob n){o:Nat}{e:gw}(h:Pn ob n o=aa e):o8 H F w ob n e undef w:=by
 unfold Pn at h;split at h
 case h_2=>cases h
 rename_i s T d l fR;obtain rfl:=aoB h;obtain⟨v,hv,eK⟩:=hs.obj _ _ _ fR
 obtain⟨lh,Ss,⟨xs,hx,Ud⟩,h2,h3,h4⟩:=(show LA F w T d.low (rD H F w d ae) v l (H.sub s)from eK.ok)
 have hn:∀k,H.sub s k->¬F k:=eK.no
 have Ep:lV 0 (λb=>F b\/∃i,i<l.length/\Ss i b) w T d.row v l:=by
  refine⟨λk hk hF=>?_,xs,?_,λi hi=>?_⟩
  .rcases hF with hF|⟨i,hi,hm⟩
   .exact hn k (h4.cc k hk) hF
   .exact h4.out i k hi hm hk
  .rw[<-d.size,<-h2];exact hx
  .have gh:i<lh.length:=by omega
   have:=mL.freeze (h3 i gh hi) (λk hk=>hn k (h4.part hi k hk)) (Ud i gh);rw[<-d.size]
   exact this.step λb hb=>(by grind)
 have hf:=hs.fresh n (aoJ _) (by omega)
 have pf:∀k,H.sub s k->dt H ob [o] k:=λk hk=>⟨o,by simp,s,_,v,fR,hv,hk⟩
 refine⟨H.cL n (.own T d.row l),λb=>F b\/∃i,i<l.length/\Ss i b,⟨⟨λ_ _ h=>h,λs' t h=>?_,λs' t h=>?_⟩,⟨rfl,rfl,rfl,aoJ _,λ_ _ _=>rfl⟩,λ_ h=> .inl h,λb hb=>?_,λb hb=>?_⟩,λm hm=>⟨id,λh=>?_⟩,trivial,⟨λo' s' q hq=>?_,λo1 o2 s1 s2 q1 q2 u1 u2 dS g1 g2=>?_⟩,λo' h=>?_⟩
 .grind [aR.cL]
 .rfl
 .rcases hb with hb|⟨i,hi,hb⟩
  .exact .inl hb
  .exact .inr (.inr (pf b (h4.part hi b hb)))
 .rcases hb with hb|⟨i,hi,hb⟩
  .exact hs.lt b hb
  .exact eK.lt b (h4.part hi b hb)
 .grind [aR.cL]
 .obtain⟨rfl,e⟩:=iQ hq;obtain⟨rfl,rfl⟩:=Prod.mk.inj e;refine⟨v,hv,eK.one,by simp[aR.cL,Th.base],Ep.2,λk hk=>⟨Ep.1 k hk,eK.lt k (h4.cc k hk), .inr (pf k (h4.cc k hk))⟩⟩
 all_goals grind [iQ,apA]
theorem dw.p8:(os:List (Nat×OS))->{st:State}->{H:aR}->{F:Nat->Prop}->dw G w0 F0 H F w ρ st->∃H' F',dw G w0 F0 H' F' w ρ (p8 st os)/\dk H F w H' F' w
 |[],_,H,F,h=>⟨H,F,h,dk.refl H F w⟩
 |(j, .own _ _)::os,st,H,F,h=>by
  unfold Go.Proofs.YtfjgcenlllgonaaGreatDoor.p8;split
  .rename_i e he;obtain⟨H',F',hp⟩:=Mu h.sat.ob he;have hs:=h.sat.apply (d:=ae) hp;obtain⟨H2,F2,h2,k2⟩:=dw.p8 os (st:=st.apply ae e) ⟨hs,h.glob.oU hp.oU h.sat.ob.jE⟩;exact⟨H2,F2,h2,(dk.Fe hp.oU h.sat.ob.lt h.sat.ob.jX).trans k2⟩
  .exact dw.p8 os h
 |(_, .box ..)::os,_,_,_,h=>dw.p8 os h
 |(_, .map ..)::os,_,_,_,h=>dw.p8 os h
 |(_, .deep ..)::os,_,_,_,h=>dw.p8 os h
 |(_, .dmap ..)::os,_,_,_,h=>dw.p8 os h
theorem dw.Po{st cM:State}{t o:Nat}{r:Row}(h:dw G w0 F0 H F w ρ st)(iP:find st.aH t=aa (.ptr o [] 0))(hb:Po st t o r=aa cM):∃F',dw G w0 F0 H F' w ρ cM/\dk H F w H F' w:=by
 unfold Go.Proofs.YtfjgcenlllgonaaGreatDoor.Po at hb;split at hb
 case h_2=>cases hb
 split at hb
 case h_2=>cases hb
 rename_i br A4;obtain⟨F1,h1,k1⟩:=h.yf A4;split at hb
 case h_2=>cases hb
 rename_i s1 T1 t1 fR;split at hb
 case h_2=>cases hb
 rename_i x hx;obtain rfl:=aoB hb;obtain⟨v,hv,eK⟩:=h1.sat.ob.obj _ _ _ fR
 obtain⟨b,es,rfl,hhp,hold⟩:=(show∃b es,v= .pointer (aa ⟨b,0,ae⟩)/\w.heap[b]? =aa (.cells es.toArray T1 (0,0))/\Holds H F1 w t1 es from eK.ok)
 obtain⟨b',gQ,qC⟩:=h.sat.slot t _ iP;rw[hv]at gQ;simp only[aoW,Value.pointer.injEq,Addr.mk.injEq,and_true]at gQ;subst gQ;have A0:=mM h1.sat.ob hx hold
 have hg:dt H (find br) [o] b:=⟨o,by simp,s1,_,_,fR,hv,rfl⟩
 have lm:Step F1 w (λk=>F1 k\/k=b) w:=λk hk=>⟨.inl hk,rfl⟩
 have hp:qB H F1 w (find br) st.nxt {dst:= .at r x,eat:=[o]} (ρ t) w H (λk=>F1 k\/k=b):=
  ⟨⟨aR.le.refl H,⟨rfl,rfl,rfl,aoJ _,λ_ _ _=>rfl⟩,λ_ hk=> .inl hk,(by grind),λk hk=>hk.elim (h1.sat.ob.lt k) λe=>by grind⟩,λm _=>⟨id,id⟩,
    ⟨b,0,qC, .inr rfl,es,A0.length,λj u hu=>by
      show w.cell? ⟨b,0+j,ae⟩=aa u
      simp[World.cell?,hhp,hu],A0.step lm⟩,⟨λ_ _ _ h=>(by cases h),λ_ _ _ _ _ _ _ _ _ h=>(by cases h)⟩,λ_ h=>(by cases h)⟩
 have hs:=h1.sat.apply (d:=aa t) hp
 have hup:yg ρ (aa t) (ρ t)=ρ:=by
  funext u
  show Ho ρ t (ρ t) u=ρ u
  rw[sO];split
  .rename_i e;rw[e]
  .rfl
 rw[hup]at hs;exact⟨_,⟨hs,h1.glob.oU hp.oU h1.sat.ob.jE⟩,k1.trans (dk.Fe hp.oU h1.sat.ob.lt h1.sat.ob.jX)⟩
theorem dw.Dl{R:Type}{k:State->Option R}{q:R}:(ss:List (Nat×SS))->{st:State}->{H:aR}->{F:Nat->Prop}->dw G w0 F0 H F w ρ st->Dl st k ss=aa q->∃Pe H' F',k Pe=aa q/\dw G w0 F0 H' F' w ρ Pe/\dk H F w H' F' w
 |[],st,H,F,h,hk=>⟨st,H,F,hk,h,dk.refl H F w⟩
 |(t, .at r)::ss,st,H,F,h,hk=>by
  unfold Go.Proofs.YtfjgcenlllgonaaGreatDoor.Dl at hk;split at hk
  .rename_i o iP;split at hk
   case h_2=>cases hk
   rename_i cM hbx;obtain⟨F1,h1,k1⟩:=h.Po iP hbx;obtain⟨Pe,H2,F2,g1,g2,g3⟩:=dw.Dl ss h1 hk;exact⟨Pe,H2,F2,g1,g2,k1.trans g3⟩
  .rename_i o d i iP;split at hk
   case h_2=>cases hk
   rename_i br A4;obtain⟨F1,h1,k1⟩:=h.yf A4;split at hk
   case h_2=>cases hk
   rename_i s1 T1 d' l fR;obtain⟨pS,hk⟩:=bo hk;have pS:=Nat.eq_of_beq_eq_true pS;obtain⟨x,hx,hkx⟩:=bind_some hk;obtain⟨j,rfl,hj,AM⟩:=jv hx;obtain⟨g,o0,q0,m,cap,hv,hq,qC⟩:=h1.sat.slot t _ iP;obtain⟨v,gQ,eK⟩:=h1.sat.ob.obj _ _ _ fR;rw[hv]at gQ;obtain rfl:=aoB gQ
   obtain⟨A,Ob,e1,_,_,wJ⟩:=(show dF F1 w (.slice d'.row) [_] l from eK.ok)
   obtain⟨b,off,es,hA,hFb,hlen,Ek,A0⟩:=wJ j hj;simp only[ap5,aqj,and_true]at e1;obtain⟨e1,_,_⟩:=e1;rw[<-e1]at hA;simp only[aoW,Addr.mk.injEq,and_true]at hA;obtain⟨rfl,rfl⟩:=hA
   have vD:aN H F1 w (.at d'.row x) (ρ t):=by
    have e:j=q0:=by omega
    subst e;refine⟨g,o0+j*d.low.size+0,qC,hFb,es,hlen,λjj u hu=>?_,by rw[<-AM];exact A0⟩;rw[pS];exact Ek jj u hu
   obtain⟨Pe,H2,F2,g1,g2,g3⟩:=dw.Dl ss (st:={aH:=(t, .at d'.row x)::st.aH,objs:=br,nxt:=st.nxt}) ⟨⟨λt' q' uH=>by
    have uH:find ((t,aM.at d'.row x)::st.aH) t'=aa q':=uH;rw[bp]at uH;by_cases e:t=t'
    .grind
    .rw[ai e]at uH
     exact h1.sat.slot t' q' uH,h1.sat.ob,h1.sat.all⟩,h1.glob⟩ hkx
   exact⟨Pe,H2,F2,g1,g2,k1.trans g3⟩
  .exact dw.Dl ss h hk
 |(_, .val ..)::ss,_,_,_,h,hk=>dw.Dl ss h hk
 |(_, .ptr ..)::ss,_,_,_,h,hk=>dw.Dl ss h hk
 |(_, .undef)::ss,_,_,_,h,hk=>dw.Dl ss h hk
 |(_, .fn ..)::ss,_,_,_,h,hk=>dw.Dl ss h hk
 |(_, .ifc ..)::ss,_,_,_,h,hk=>dw.Dl ss h hk
theorem oG{st qU:State}{W:List Nat}{J:JS}{x:cY J.rows}{H1:aR}{F1:Nat->Prop}{w1:World}{Hl:Nat->Value}(h:carry st J qU=aa x)(hh:dw G w0 F0 H F w ρ st)(uz:dw G w0 F0 H1 F1 w1 Hl qU)(hk:dk H F w H1 F1 w1)
 (Sp:∀t,t∉W->Hl t=ρ t):∃H2 F2,dw G w0 F0 H2 F2 w1 Hl (behind st W J x)/\dk H F w H2 F2 w1:=by
 obtain⟨H1',F1',acI,dT⟩:=uz.sv;obtain⟨H2',F2',acJ,Js⟩:=acI.p8 J.objs;unfold carry at h;obtain⟨Pe,H3',F3',h3,hh3,hk3⟩:=acJ.Dl J.aH h;exact Mt h3 hh hh3 (((hk.trans dT).trans Js).trans hk3) Sp
theorem xM{l:List Oper}{o:Oper}{t:Nat}(ho:o∈l)(hd:o.dst=aa t):t∈vV l:=by
 induction l with
 |nil=>cases ho
 |cons p l ih=>
  grind [vV]
structure Mv(G:Nat->Prop)(w0:World)(F0:Nat->Prop)(W:List Nat)(H:aR)(F:Nat->Prop)(w:World)(ρ:Nat->Value)(H':aR)(F':Nat->Prop)(w':World)(cX:Nat->Value)(cM:State):Prop where
 here:dw G w0 F0 H' F' w' cX cM
 keeps:dk H F w H' F' w'
 same:∀t,t∉W->cX t=ρ t
theorem map_inl{α β:Type}{o:Option α}{f:α->β}{r:β}(h:o.map f=aa r):∃x,o=aa x/\f x=r:=Option.map_eq_some_iff.1 h
theorem jn{E:Env P}:(c:Code)->{R:Type}->{q:R}->{a:uL}->{st:State}->{k:Ex->State->Option R}->{H:aR}->{F:Nat->Prop}->{w:World}->{ρ:Nat->Value}->{Q:Exit->(Nat->Value)->World->Prop}->
 exec E nt N c a st k=aa q->dw G w0 F0 H F w ρ st->
 (∀e cM H' F' w' cX,k e cM=aa q->Mv G w0 F0 (writes c) H F w ρ H' F' w' cX cM->Q e.qX cX w')->uU P nt c Q ρ w
 | .skip,R,q,a,st,k,H,F,w,ρ,Q,h,hh,hk=>NQ (hk .normal st H F w ρ h ⟨hh,dk.refl H F w,λ_ _=>rfl⟩)
 | .ret,R,q,a,st,k,H,F,w,ρ,Q,h,hh,hk=>RD (hk .ret st H F w ρ h ⟨hh,dk.refl H F w,λ_ _=>rfl⟩)
 | .exit id,R,q,a,st,k,H,F,w,ρ,Q,h,hh,hk=>NR (hk (.exit id) st H F w ρ h ⟨hh,dk.refl H F w,λ_ _=>rfl⟩)
 | .cond c x y,R,q,a,st,k,H,F,w,ρ,Q,h,hh,hk=>by
   unfold exec at h;split at h
   case h_2=>cases h
   rename_i D hD;split at h
   case h_2=>cases h
   rename_i b hb;have hv:=qM hb (yX hh.sat.ob.gl hh.sat.slot _ _ hD);split at h
   .rename_i e;subst e;exact NS hv (jn x h hh λe cM H' F' w' cX h1 h2=>hk e cM H' F' w' cX h1 ⟨h2.here,h2.keeps,λt ht=>h2.same t λhm=>ht (by simp[writes,hm])⟩)
   .rename_i e
    have e:b=ag:=by cases b<;>simp_all
    subst e;exact Ld hv (jn y h hh λe cM H' F' w' cX h1 h2=>hk e cM H' F' w' cX h1 ⟨h2.here,h2.keeps,λt ht=>h2.same t λhm=>ht (by simp[writes,hm])⟩)
 | .region id ops draw,R,q,a,st,k,H,F,w,ρ,Q,h,hh,hk=>by
   unfold exec at h
   cases draw with
   |true=>
    rw[cond_true]at h
    exact Sz E.mix h hh λcM H' F' w' cX h1 h2 h3 h4=>hk .normal cM H' F' w' cX h1 ⟨h2,h3,λt ht=>h4 t λo ho e=>ht (xM ho e)⟩
   |false=>
    rw[cond_false]at h
    have:=C9 (K:=λρ w=>Q .normal ρ w) (ops:=ops) (nt:=nt) h (λ_ _ h=>by cases h) hh λcM H' F' w' cX h1 h2 h3 h4=>hk .normal cM H' F' w' cX h1 ⟨h2,h3,λt ht=>h4 t λo ho e=>ht (xM ho e)⟩
    have h2:=Hp (id:=id) (l:=ops.toList) (P:=P) (n:=nt) (Q:=Q) (ρ:=ρ) (w:=w) (by omega);omega
 | .seq x y,R,q,a,st,k,H,F,w,ρ,Q,h,hh,hk=>by
   have fin:∀{H1:aR}{F1:Nat->Prop}{w1:World}{Hl:Nat->Value}{qU:State}{a2:uL},exec E nt N y a2 qU k=aa q->dw G w0 F0 H1 F1 w1 Hl qU->dk H F w H1 F1 w1->(∀t,t∉writes x->Hl t=ρ t)->uU P nt y Q Hl w1:=by
    intro H1 F1 w1 Hl qU a2 g1 g2 g3 g4
    exact jn y g1 g2 λe cM H' F' w' cX h1 h2=>hk e cM H' F' w' cX h1 ⟨h2.here,g3.trans h2.keeps,λt ht=>(h2.same t λhm=>ht (by simp[writes,hm])).trans (g4 t λhm=>ht (by simp[writes,hm]))⟩
   have out:∀{e:Ex}{cM:State}{H':aR}{F':Nat->Prop}{w':World}{cX:Nat->Value},k e cM=aa q->Mv G w0 F0 (writes x) H F w ρ H' F' w' cX cM->Q e.qX cX w':=by
    intro e cM H' F' w' cX g1 g2;exact hk e cM H' F' w' cX g1 ⟨g2.here,g2.keeps,λt ht=>g2.same t λhm=>ht (by simp[writes,hm])⟩
   unfold exec at h;split at h
   .rename_i J a1 a2;unfold bx at h;obtain⟨s,hs,h⟩:=bind_some h;refine tL (jn x hs hh λe cM H' F' w' cX h1 h2=>?_)
    cases e with
    |normal=>
     obtain⟨j,hj,rfl⟩:=map_inl h1;obtain⟨H2,F2,g1,g2⟩:=oG (W:=writes x) hj hh h2.here h2.keeps h2.same;exact fin h g1 g2 h2.same
    |exit id=>
     obtain⟨r,hr,rfl⟩:=map_inl h1;obtain rfl:=aoB h;exact out hr h2
    |ret=>
     obtain⟨r,hr,rfl⟩:=map_inl h1;obtain rfl:=aoB h;exact out hr h2
    |goto l=>
     obtain⟨r,hr,rfl⟩:=map_inl h1;obtain rfl:=aoB h;exact out hr h2
   .rename_i J a1 a2;obtain⟨s,hs,h⟩:=bind_some h;refine tL (jn x hs hh λe cM H' F' w' cX h1 h2=>?_)
    cases e with
    |normal=>
     obtain⟨H2,F2,g1,g2⟩:=oG (W:=writes x) h1 hh h2.here h2.keeps h2.same;exact fin h g1 g2 h2.same
    |exit id=>cases h1
    |ret=>cases h1
    |goto l=>cases h1
   .refine tL (jn x h hh λe cM H' F' w' cX h1 h2=>?_)
    cases e with
    |normal=>exact fin h1 h2.here h2.keeps h2.same
    |exit id=>exact out h1 h2
    |ret=>exact out h1 h2
    |goto l=>exact out h1 h2
 | .block id x,R,q,a,st,k,H,F,w,ρ,Q,h,hh,hk=>by
   have hw:writes (.block id x)=writes x:=rfl;rw[hw]at hk
   have toB:∀{e:Ex}{cX:Nat->Value}{w':World},(match e with| .exit i=>if i=id then Q .normal cX w' else Q (.exit i) cX w'|e=>Q e.qX cX w')->Xz id Q e.qX cX w':=by
    intro e cX w' g
    cases e with
    |normal=>exact g
    |ret=>exact g
    |goto l=>exact g
    |exit i=>
     by_cases e:i=id
     .subst e;simp only[aj]at g;exact Og g
     .simp only[ai e]at g;refine Lt ?_ g
      cases hb:aoL i id<;>simp_all
   have Pp:∀{i:Nat},i≠id->aoL i id=ag:=λ{i}e=>by
    cases hb:aoL i id<;>simp_all
   unfold exec at h;split at h
   .rename_i J a1 a2;unfold bx at h;obtain⟨s,hs,h⟩:=bind_some h;refine wL (jn x hs hh λe cM H' F' w' cX h1 h2=>toB ?_)
    have inn:(carry st J cM).map ao4=aa s->Q .normal cX w':=λh1=>by
     obtain⟨j,hj,rfl⟩:=map_inl h1;obtain⟨H2,F2,g1,g2⟩:=oG (W:=writes x) hj hh h2.here h2.keeps h2.same;exact hk .normal _ H2 F2 w' cX h ⟨g1,g2,h2.same⟩
    have out:∀{e:Ex},(k e cM).map aoV=aa s->Q e.qX cX w':=λ{e}h1=>by
     obtain⟨r,hr,rfl⟩:=map_inl h1
     grind
    cases e with
    |normal=>exact inn h1
    |exit i=>
     show if i=id then _ else _
     by_cases e:i=id
     .subst e;rw[aj rfl];refine inn ?_;simpa using h1
     .rw[ai e];simp only[Pp e,cond_false]at h1;exact out (e:= .exit i) h1
    |ret=>exact out (e:= .ret) h1
    |goto l=>grind
   .rename_i J a1 a2;obtain⟨s,hs,h⟩:=bind_some h;refine wL (jn x hs hh λe cM H' F' w' cX h1 h2=>toB ?_)
    have inn:carry st J cM=aa s->Q .normal cX w':=λh1=>by
     obtain⟨H2,F2,g1,g2⟩:=oG (W:=writes x) h1 hh h2.here h2.keeps h2.same;exact hk .normal _ H2 F2 w' cX h ⟨g1,g2,h2.same⟩
    cases e with
    |normal=>exact inn h1
    |exit i=>
     grind
    |ret=>cases h1
    |goto l=>cases h1
   .refine wL (jn x h hh λe cM H' F' w' cX h1 h2=>toB ?_)
    cases e with
    |normal=>grind
    |exit i=>
     show if i=id then _ else _
     by_cases e:i=id
     .subst e;rw[aj rfl];refine hk .normal cM H' F' w' cX ?_ h2;simpa using h1
     .rw[ai e];simp only[Pp e,cond_false]at h1;exact hk (.exit i) cM H' F' w' cX h1 h2
    |ret=>grind
    |goto l=>grind
 | .loop x,R,q,a,st,k,H,F,w,ρ,Q,h,hh,hk=>by
   have hw:writes (.loop x)=writes x:=rfl;rw[hw]at hk;unfold exec at h;split at h
   case h_2=>cases h
   rename_i L a1;split at h
   case h_2=>cases h
   rename_i s0 Sd;refine NT (λs cX w'=>∃H' F',dw G w0 F0 H' F' w' cX (behind st (writes x) L s)/\dk H F w H' F' w'/\∀t,t∉writes x->cX t=ρ t) h ?_ ?_
   .obtain⟨H2,F2,g1,g2⟩:=oG (W:=writes x) Sd hh hh (dk.refl H F w) λ_ _=>rfl
    grind
   .rintro s cX w' y ⟨H',F',g1,g2,g3⟩ hy
    refine jn x hy g1 λe cM wO EU yz vU h1 h2=>?_
    have sm:∀t,t∉writes x->vU t=ρ t:=λt ht=>(h2.same t ht).trans (g3 t ht)
    have out:∀{e:Ex},e≠ .normal->(k e cM).map aoV=aa y->T8 (λs cX w'=>∃H' F',dw G w0 F0 H' F' w' cX (behind st (writes x) L s)/\dk H F w H' F' w'/\∀t,t∉writes x->cX t=ρ t) Q q y e.qX vU yz:=λ{e}he h1=>by
     obtain⟨r,hr,rfl⟩:=map_inl h1;refine⟨by cases e<;>simp_all[Ex.qX],λhq=>?_⟩;subst hq;exact hk e cM wO EU yz vU hr ⟨h2.here,g2.trans h2.keeps,sm⟩
    cases e with
    |normal=>
     obtain⟨j,hj,rfl⟩:=map_inl h1;obtain⟨H2,F2,m1,m2⟩:=oG (W:=writes x) hj hh h2.here (g2.trans h2.keeps) sm;exact⟨rfl,H2,F2,m1,m2,sm⟩
    |exit i=>grind
    |ret=>grind
    |goto l=>grind
 | .label l,R,q,a,st,k,H,F,w,ρ,Q,h,hh,hk=>λact hf=>wp_label ⟨ρ,hf,hk .normal st H F w ρ h ⟨hh,dk.refl H F w,λ_ _=>rfl⟩⟩
 | .scope x,R,q,a,st,k,H,F,w,ρ,Q,h,hh,hk=>by
   have h1:=jn (Q:=λe ρ w=>match e with| .goto _=>False|e=>Q e ρ w) x (show exec E nt N x a.l st (noGoto k)=aa q from h) hh λe cM H' F' w' cX h1 h2=>by
    cases e with
    |goto l=>cases h1
    |_=>exact hk _ cM H' F' w' cX h1 h2
   intro act hf;refine wp_scope_straight (wp_mono (h1 act hf) λe a' w' ⟨cX,xD,hh'⟩=>?_)
   cases e<;>first
    |exact hh'.elim
    |exact⟨cX,xD,hh'⟩
 | .goto l,R,q,a,st,k,H,F,w,ρ,Q,h,hh,hk=>λact hf=>wp_goto ⟨ρ,hf,hk (.goto l) st H F w ρ h ⟨hh,dk.refl H F w,λ_ _=>rfl⟩⟩
 | .rangeFunc ..,_,_,_,_,_,_,_,_,_,_,h,_,_=>by cases h
 | .refuse _,_,_,_,_,_,_,_,_,_,_,h,_,_=>by cases h
end
end Go.Proofs.YtfjgcenlllgonaaGreatDoor
namespace Go.Proofs.YtfjgcenlllgonaaGreatDoor
open Go Go.RowKit
def Dm{P:Program}(T:bU P)(aH:List (Nat×aM))(objs:List (Nat×(Nat×Th)))(t:Nat)(T0:TypeId):Option aM:=
 match find T.und T0 with
 |none=>ae
 |some kk=>match find aH t with
  |some (.ptr o p off)=>match find objs o with
   |some (_, .box _ tr)=>match tr.get p with
    |some (s,fI)=>bif aoL fI off&&pG T T0 kk s.size then aa (.val (oV kk) s)else ae
    |none=>ae
   |_=>ae
  |_=>ae
def Dn{P:Program}(T:bU P)(aH:List (Nat×aM))(objs:List (Nat×(Nat×Th))):List ResultVar->Option (List aM)
 |[]=>aa []
 | .tmp t::l=>match find aH t with
   |some d=>match Dn T aH objs l with
    |some ds=>aa (d::ds)
    |none=>ae
   |none=>ae
 | .cell t T0::l=>match Dm T aH objs t T0 with
   |some d=>match Dn T aH objs l with
    |some ds=>aa (d::ds)
    |none=>ae
   |none=>ae
noncomputable def VD{P:Program}(T:bU P)(rs:List ResultVar)(nb:Nat)(out:JS)(st:State):Option (cY out.rows):=
 match Dn T st.aH st.objs rs with
 |some ds=>Dl {aH:=kj 0 ds,objs:=(sv st).objs,nxt:=(sv st).nxt} (λqU=>match BP nb [] out qU.aH qU.objs with
  |some (x,_)=>aa x
  |none=>ae) out.aH
 |none=>ae
def init(inn:JS)(x:cY inn.rows):State:=
 {aH:=(eD inn.aH (fe _ x)).1,objs:=kN 0 inn.objs (eD inn.aH (fe _ x)).2,nxt:=inn.nxt}
noncomputable def VE{P:Program}(T:bU P)(rs:List ResultVar)(nb:Nat)(out:JS):Ex->State->Option (cY out.rows)
 | .exit _,_=>ae
 | .goto _,_=>ae
 |_,st=>VD T rs nb out st
noncomputable def VF{P:Program}(E:Env P)(nt N:Nat)(c:Code)(rs:List ResultVar)(a:uL)(inn out:JS)(x:cY inn.rows):Option (cY out.rows):=
 exec E nt N c a (init inn x) (VE E.T rs inn.nxt out)
section
variable {P:Program} {ρ:Nat->Value} {w:World} {H:aR} {F:Nat->Prop} {U:Nat->Prop} {n:Nat}
theorem Fy(T:bU P){t:TypeId}{kk:Nx}(hu:find T.und t=aa kk){b off:Nat}{s:Tree}{cs:List Value}(hh:Holds H F w s cs)(hc:∀j u,cs[j]? =aa u->w.cell? ⟨b,off+j,ae⟩=aa u)
 (hz:if oV kk=af then∃r,find T.row t=aa r/\r.size=s.size else s.size=1):∃v,(loadVar t ⟨b,off,ae⟩).run P w= .ok v w/\bq H F w (oV kk) s v:=by
 obtain⟨dd,ye,yT⟩:=(T.und_ok _ _ hu).agg;have hl:=hh.length
 cases ha:oV kk with
 |true=>
  rw[aj ha]at hz;obtain⟨r,hr,Nz⟩:=hz;obtain⟨ti,z,h1,_,_,h4,_⟩:=T.row_ok _ _ hr
  have hlc:(loadCells ⟨b,off,ae⟩ cs.length).run P w= .ok cs.toArray w:=
   run_loadCells_list (P:=P) w ⟨b,off,ae⟩ cs (λj v hv=>by rw[dY];exact hc j v hv)
  refine⟨.agg cs.toArray,?_,cs,hh,rfl,by simp⟩
  have pS:ti.size=cs.length:=by omega
  simp[loadVar,ao9,gW ye,yT.trans ha,sizeOf,typeInfo,h1,pS,hlc]
 |false=>
  rw[ai (by simp[ha])]at hz
  obtain⟨v,rfl⟩:∃v,cs=[v]:=by
   match cs,hl.trans hz with
   |[v],_=>exact⟨v,rfl⟩
  refine⟨v,?_,[v],hh,rfl,λ_=>rfl⟩;have:=hc 0 v rfl;simp only[apO]at this;simp[loadVar,ao9,gW ye,yT.trans ha,this,go_sem]
theorem Iq(T:bU P){aH:List (Nat×aM)}{objs:List (Nat×(Nat×Th))}{t:Nat}{T0:TypeId}{D:aM}(h:Dm T aH objs t T0=aa D)(iP:∀t d,find aH t=aa d->aN H F w d (ρ t))(hs:aS U H F w (find objs) n):
 ∃a v,ρ t= .pointer (aa a)/\(loadVar T0 a).run P w= .ok v w/\aN H F w D v:=by
 unfold Dm at h;split at h
 .cases h
 rename_i kk hu;split at h
 case h_2=>cases h
 rename_i o p off hD;split at h
 case h_2=>cases h
 rename_i s0 T1 tr fR;split at h
 case h_2=>cases h
 rename_i s fI hg;obtain⟨h1,rfl⟩:=pF h;obtain⟨h1,h3⟩:=eG h1;obtain rfl:=beq_true h1;obtain⟨b,hb,e⟩:=iP _ _ hD;obtain⟨es,hh,Uf⟩:=hs.box fR hb;obtain⟨g1,g2⟩:=Uf.get hg
 obtain⟨v,hv,sJ⟩:=Fy (b:=b) (off:=fI) T hu g1 (λj u hj=>by
  grind [za]) (mv T h3)
 exact⟨_,v,e,hv,sJ⟩
def SA(tmps:Array Value):ResultVar->Sem Value
 | .tmp t=>pure (tmps.getD t undef)
 | .cell a t=>do loadVar t (<-asAddr (tmps.getD a undef))
theorem Dq(T:bU P){aH:List (Nat×aM)}{objs:List (Nat×(Nat×Th))}(iP:∀t d,find aH t=aa d->aN H F w d (ρ t))(hs:aS U H F w (find objs) n){tmps:Array Value}(hf:∀t,tmps.getD t undef=ρ t):
 {rs:List ResultVar}->{ds:List aM}->Dn T aH objs rs=aa ds->∃vs:List Value,(rs.mapM (SA tmps)).run P w= .ok vs w/\ic H F w ds vs
 |[],ds,h=>by obtain rfl:=aoB h;exact⟨[],by simp,rfl⟩
 | .tmp t::l,ds,h=>by
   unfold Dn at h;split at h
   case h_2=>cases h
   rename_i d hd;split at h
   case h_2=>cases h
   rename_i ds' AY;obtain rfl:=aoB h;obtain⟨vs,h1,h2⟩:=Dq T iP hs hf AY;refine⟨ρ t::vs,?_,ρ t,vs,rfl,iP t d hd,h2⟩
   grind [SA,Go.Sem.run_bind,Go.Sem.run_pure,Go.Result.andThen_ok]
 | .cell t T0::l,ds,h=>by
   unfold Dn at h;split at h
   case h_2=>cases h
   rename_i d hd;split at h
   case h_2=>cases h
   rename_i ds' AY;obtain rfl:=aoB h;obtain⟨vs,h1,h2⟩:=Dq T iP hs hf AY;obtain⟨a,v,e1,e2,e3⟩:=Iq T hd iP hs;refine⟨v::vs,?_,v,vs,rfl,e3,h2⟩;have ha:(asAddr (.pointer (aa a))).run P w= .ok a w:=rfl
   grind [SA,Go.Sem.run_bind,Go.Result.andThen_ok,Go.Sem.run_pure]
theorem Ir(T:bU P){fn:Func}{rs:List ResultVar}(Nz:fn.results.toList=rs){aH:List (Nat×aM)}{objs:List (Nat×(Nat×Th))}(iP:∀t d,find aH t=aa d->aN H F w d (ρ t))(hs:aS U H F w (find objs) n){tmps:Array Value}(hf:∀t,tmps.getD t undef=ρ t)
 {ds:List aM}(h:Dn T aH objs rs=aa ds):∃vs:List Value,(results fn tmps).run P w= .ok (A5 vs) w/\ic H F w ds vs:=by
 obtain⟨vs,h1,h2⟩:=Dq T iP hs hf h;refine⟨vs,?_,h2⟩;have e:fn.results=rs.toArray:=gA Nz;have er:results fn tmps=(fn.results.mapM (SA tmps)>>= λvs=>pure (if h:vs.size=1 then vs[0]else Value.tuple vs)):=rfl;rw[er,e,List.mapM_toArray]
 have:∀vs:List Value,(if h:vs.toArray.size=1 then vs.toArray[0]else Value.tuple vs.toArray)=A5 vs:=by
  intro vs
  match vs with
  |[]=>rfl
  |[v]=>rfl
  |a::b::l=>simp[A5]
 simp_all
theorem J4:{l:List (Nat×SS)}->{vs:List nF}->{k t:Nat}->{d:aM}->vQ k l=af->find (eD l vs).1 t=aa d->t<k+l.length
 |[],_,_,_,_,_,h=>by cases h
 |(t0,s)::l,vs,k,t,d,hi,h=>by
  obtain⟨h1,h2⟩:=eG hi;have h':find ((t0,(fV s vs).1)::(eD l (fV s vs).2).1) t=aa d:=h;rw[bp]at h';have:=beq_true h1;rw[apa];split at h'
  .omega
  .have:=J4 h2 h';omega
def UG(P:Program)(nt:Nat)(c:Code)(run:{R:Type}->State->(Ex->State->Option R)->Option R):Prop:=
 ∀{R:Type}{q:R}{st:State}{k:Ex->State->Option R}{H:aR}{F:Nat->Prop}{w:World}{ρ:Nat->Value}{G:Nat->Prop}{w0:World}{F0:Nat->Prop}{Q:Exit->(Nat->Value)->World->Prop},
  run st k=aa q->dw G w0 F0 H F w ρ st->(∀e cM H' F' w' cX,k e cM=aa q->Mv G w0 F0 (writes c) H F w ρ H' F' w' cX cM->Q e.qX cX w')->uU P nt c Q ρ w
theorem Pq{E:Env P}{f:FuncId}{fn:Func}{c:Code}{rs:List ResultVar}{sg:rH}{run:{R:Type}->State->(Ex->State->Option R)->Option R}(hW:UG P fn.ntmps c run)(hf:P.funcs[f]? =aa fn)(hn:(fn.name== "runtime.NumGoroutine")=ag)(hb:fn.body=aa c)(Nz:fn.results.toList=rs)
 (rC:vQ 0 sg.inn.aH=af)(hlen:Nat.ble sg.inn.aH.length fn.ntmps=af)(AV:aoL rs.length sg.out.aH.length=af)
 (BZ:∀x,sg.fn x=run (init sg.inn x) (VE E.T rs sg.inn.nxt sg.out)):kO P f sg:=by
 refine⟨⟨fn,hf,hn,by rw[hb];rfl⟩,λx y AS args w H F G Jv iP fR jJ hG=>?_⟩
 have hlen:sg.inn.aH.length<=fn.ntmps:=by simpa using hlen
 have AV:=beq_true AV
 refine(CL (R:=λv w'=>∃vs,v=A5 vs/\vs.length=sg.out.aH.length/\∃H' F',Ext G w w'/\H.le H'/\(∀b,F b->F' b)/\(∀b,F' b->F b\/w.heap.size<=b\/G b)/\
  (∀t d,find (eD sg.out.aH (fe _ y)).1 t=aa d->aN H' F' w' d (vs.getD t undef))/\
  aS (λk=>w.heap.size<=k\/G k) H' F' w' (find (kN sg.inn.nxt sg.out.objs (eD sg.out.aH (fe _ y)).2)) sg.out.nxt/\ln H' sg.out.nxt) hf hb (by omega) λρ Sp=>?_).mono (by grind)
 have acL:∀t,t<args.length->ρ t=args.getD t undef:=(by grind)
 have keys:∀t d,find (eD sg.inn.aH (fe sg.inn.rows x)).1 t=aa d->aN H F w d (ρ t):=λt d hd=>by
  rw[acL t (by have:=J4 rC hd;omega)];exact iP t d hd
 have hh:dw G w F H F w ρ (init sg.inn x):=⟨⟨keys,fR,jJ⟩,⟨⟨rfl,rfl,rfl,aoJ _,λ_ _ _=>rfl⟩,λ_ h=>h,λ_ h=> .inl h⟩⟩
 refine hW ((BZ x).symm.trans AS) hh λe cM H' F' w' cX h1 h2=>?_
 have main:VD E.T rs sg.inn.nxt sg.out cM=aa y->∀act,Fr fn.ntmps act cX->∃v,(results fn act.tmps).run P w'= .ok v w'/\∃vs,v=A5 vs/\vs.length=sg.out.aH.length/\∃H' F',Ext G w w'/\H.le H'/\(∀b,F b->F' b)/\(∀b,F' b->F b\/w.heap.size<=b\/G b)/\
  (∀t d,find (eD sg.out.aH (fe _ y)).1 t=aa d->aN H' F' w' d (vs.getD t undef))/\
  aS (λk=>w.heap.size<=k\/G k) H' F' w' (find (kN sg.inn.nxt sg.out.objs (eD sg.out.aH (fe _ y)).2)) sg.out.nxt/\ln H' sg.out.nxt:=by
  intro hr act Er;unfold VD at hr;split at hr
  case h_2=>cases hr
  rename_i ds AY;obtain⟨vs,g1,g2⟩:=Ir E.T Nz h2.here.sat.slot h2.here.sat.ob Er.get AY;have hdl:=mN g2;refine⟨_,g1,vs,rfl,?_,?_⟩
  .have:∀{rs:List ResultVar}{ds:List aM},Dn E.T cM.aH cM.objs rs=aa ds->ds.length=rs.length:=by
    intro rs
    induction rs with
    |nil=>intro ds h;obtain rfl:=aoB h;rfl
    |cons r l ih=>
     intro ds h
     cases r<;>unfold Dn at h<;>split at h<;>try cases h
     all_goals grind
   grind
  .have Sd:aS (UU G w) H F w (find (del [] [])) sg.inn.nxt:=⟨λ_ _ _ h=>(by cases h),λ_ _ _ _ _ _ _ _ _ h=>(by cases h),fR.fresh,fR.lt,fR.new,fR.gl⟩
   obtain⟨H4,F4,h4,k4⟩:=h2.here.sv;obtain⟨qU,H3,F3,hr,h3,k3⟩:=dw.Dl (ρ:=λt=>vs.getD t undef) (st:={aH:=kj 0 ds,objs:=(sv cM).objs,nxt:=(sv cM).nxt}) sg.out.aH ⟨⟨λt d hd=>aN.keep k4.lJ k4.step (by simpa using(sW g2 t d hd).2),h4.sat.ob,h4.sat.all⟩,h4.glob⟩ hr;split at hr
   case h_2=>cases hr
   rename_i _ z rest hp;obtain⟨bs,br⟩:=rest;obtain rfl:=aoB hr;obtain⟨F2,H2,a1,a2,a3,_,a5,_,a6,a7,a8⟩:=zw (U':=UU G w) (ns:=[]) (objs0:=[]) (ρ:=λt=>vs.getD t undef) hp Sd jJ ((h2.keeps.trans k4).trans k3) h3.sat.ob (λt d hd=>h3.sat.slot t d hd)
   have yl:=a8 h3.sat.ob.new (λo s t v k _ m2 m3 m4=>by
    obtain⟨v',gQ,eK⟩:=a1.obj _ _ _ m2;rw[m3]at gQ;obtain rfl:=aoB gQ
    exact eK.use k m4) (λ_ _ _ _ _ h=>by cases h)
   rw[show del [] ([]:List (Nat×(Nat×Th)))=[]from rfl,apq]at yl;refine⟨H2,F2,h3.glob.ext,a5,λb hb=>a2 b (h3.glob.le b hb),λb hb=>?_,a7,yl,a6⟩
   rcases a3 b hb with m1|m1
   .exact h3.glob.new b m1
   .exact .inr (h3.sat.ob.jE b m1)
 cases e with
 |normal=>exact main h1
 |ret=>exact main h1
 |exit id=>cases h1
 |goto l=>cases h1
theorem YV{E:Env P}{f:FuncId}{fn:Func}{c:Code}{rs:List ResultVar}{N:Nat}{a:uL}{sg:rH}(hf:P.funcs[f]? =aa fn)(hn:(fn.name== "runtime.NumGoroutine")=ag)(hb:fn.body=aa c)(Nz:fn.results.toList=rs)
 (rC:vQ 0 sg.inn.aH=af)(hlen:Nat.ble sg.inn.aH.length fn.ntmps=af)(AV:aoL rs.length sg.out.aH.length=af)
 (BZ:∀x,sg.fn x=VF E fn.ntmps N c rs a sg.inn sg.out x):kO P f sg:=
 Pq (E:=E) (run:=λst k=>exec E fn.ntmps N c a st k) (λh hh hk=>jn c h hh hk) hf hn hb Nz rC hlen AV BZ
structure CT(P:Program)where
 f:Nat
 sg:rH
 ok:kO P f sg
def ck{P:Program}{f:Nat}{sg:rH}(h:kO P f sg):CT P:=⟨f,sg,h⟩
def CT.tab{P:Program}:List (CT P)->List (Nat×rH)
 |[]=>[]
 |c::l=>(c.f,c.sg)::CT.tab l
theorem CT.Dr{P:Program}:{l:List (CT P)}->∀p∈CT.tab l,kO P p.1 p.2
 |[],_,h=>by cases h
 |c::l,p,h=>by
  rcases apH.1 h with rfl|h
  .exact c.ok
  .exact CT.Dr p h
def fwB(fn:Func)(sg:rH):Bool:= !(fn.name== "runtime.NumGoroutine")&&fn.body.isSome&&vQ 0 sg.inn.aH&&Nat.ble sg.inn.aH.length fn.ntmps&&aoL fn.results.toList.length sg.out.aH.length
theorem fw(E:Env P){f:FuncId}{fn:Func}{N:Nat}{sg:rH}(a:uL)(hf:P.funcs[f]? =aa fn)(hc:fwB fn sg=af)
 (BZ:∀x,sg.fn x=VF E fn.ntmps N (fn.body.getD .skip) fn.results.toList a sg.inn sg.out x):kO P f sg:=by
 unfold fwB at hc;simp only[apQ,Bool.not_eq_true']at hc;obtain⟨⟨⟨⟨h1,h2⟩,h3⟩,h4⟩,h5⟩:=hc;obtain⟨c,hc⟩:=apA.1 h2;exact YV (E:=E) (N:=N) (a:=a) hf h1 (by rw[hc];rfl) rfl h3 h4 h5 BZ
@[reducible] def SS.l(r:Row):SS:= .val ag (.leaf r)
@[reducible] def SS.g(r:Row):SS:= .val af (.leaf r)
theorem J5{f:FuncId}{fn:Func}{sg:rH}(hf:P.funcs[f]? =aa fn)(hn:(fn.name== "runtime.NumGoroutine")=ag)(hb:fn.body.isNone=ag)(BZ:∀x,sg.fn x=ae):kO P f sg:=
 ⟨⟨fn,hf,hn,hb⟩,(by grind)⟩
abbrev aB:Row:= .int .i64
def nn{α:Type}:Nat->List α->List (Nat×α)
 |_,[]=>[]
 |n,a::l=>(n,a)::nn (n+1) l
abbrev JS.j1(l:List SS)(o:List OS)(k:Nat):JS:=⟨nn 0 l,nn 0 o,[],k⟩
abbrev JS.i1(l:List SS):JS:= .j1 l [] 0
abbrev JS.w1(t:Nat)(r:Row):JS:= .j1 [.val ag (.own 0)] [.own t r] 1
abbrev uL.mb(i n:Nat):uL:= .meet ⟨[(i, .l .bool)],[],[],n⟩ .nil .nil
abbrev uL.lp(i n:Nat)(a:uL):uL:= .loop ⟨[(i, .l aB)],[],[],n⟩ a
abbrev u2{A B R:Type}(f:A->B->R)(x:A×B):R:=f x.1 x.2
abbrev u3{A B C R:Type}(f:A->B->C->R)(x:A×B×C):R:=f x.1 x.2.1 x.2.2
abbrev u4{A B C D R:Type}(f:A->B->C->D->R)(x:A×B×C×D):R:=f x.1 x.2.1 x.2.2.1 x.2.2.2
abbrev u5{A B C D E R:Type}(f:A->B->C->D->E->R)(x:A×B×C×D×E):R:=f x.1 x.2.1 x.2.2.1 x.2.2.2.1 x.2.2.2.2
abbrev u6{A B C D E F R:Type}(f:A->B->C->D->E->F->R)(x:A×B×C×D×E×F):R:=f x.1 x.2.1 x.2.2.1 x.2.2.2.1 x.2.2.2.2.1 x.2.2.2.2.2
end
end Go.Proofs.YtfjgcenlllgonaaGreatDoor
end
namespace Go.Proofs.YtfjgcenlllgonaaGreatDoor
open Go Go.RowKit
set_option maxRecDepth 100000
set_option linter.unusedSimpArgs false
set_option linter.unusedVariables false
set_option linter.defProp false
inductive Mw(F:Nat->Prop)(w:World):Nat->List (Nat×SS)->List nF->List Value->Prop where
 |nil {k:Nat}:Mw F w k [] [] []
 |cons {k:Nat} {agg:Bool} {r:Row} {x:r.den} {v:Value} {ss:List (Nat×SS)} {ds:List nF} {vs:List Value} (h:bq ⟨λ_=>ae,λ_=>ae,λ_ _=>False⟩ F w agg (.leaf r x) v) (hs:Mw F w (k+1) ss ds vs):Mw F w k ((k, .val agg (.leaf r))::ss) (⟨r,x⟩::ds) (v::vs)
theorem Mw.aH{F:Nat->Prop}{w:World}{k:Nat}{ss:List (Nat×SS)}{ds:List nF}{vs:List Value}(h:Mw F w k ss ds vs):(∀t d,find (eD ss ds).1 t=aa d->k<=t/\aN ⟨λ_=>ae,λ_=>ae,λ_ _=>False⟩ F w d (vs.getD (t-k) undef))/\(eD ss ds).2=[]/\vs.length=ss.length:=by
 induction h with
 |nil=>exact⟨λ_ _ h=>(by cases h),rfl,rfl⟩
 | @cons k agg r x v ss ds vs h hs ih=>
   refine⟨λt d hf=>?_,ih.2.1,by simp[ih.2.2]⟩;have xD:find ((k,aM.val agg (bif r.beq r then Tree.leaf r x else .nil))::(eD ss ds).1) t=aa d:=hf;rw[bp]at xD;split at xD
   .rename_i e;subst e;obtain rfl:=aoB xD;rw[Row.beq_refl,Nat.sub_self];exact⟨aoJ _,h⟩
   grind
theorem Fz(F:Nat->Prop)(w:World)(k:IntKind)(x:Int):bq ⟨λ_=>ae,λ_=>ae,λ_ _=>False⟩ F w ag (.leaf (.int k) x) (.int k x):=bq.p4 rfl
theorem FA{F:Nat->Prop}{w:World}{r:Row}{x:r.den}{es:List Value}(h:dF F w r es x):bq ⟨λ_=>ae,λ_=>ae,λ_ _=>False⟩ F w af (.leaf r x) (.agg es.toArray):=⟨es,h,rfl,by simp⟩
theorem Mx{P:Program}{f:FuncId}{inn:JS}{fn:cY inn.rows->Option Bool}(h:kO P f ⟨inn,⟨[(0, .val ag (.leaf .bool))],[],[],0⟩,fn⟩){x:cY inn.rows}{y:Bool}(hy:fn x=aa y){ds:List nF}(AY:fe inn.rows x=ds){W:World}{vs:List Value}
 (ha:Mw (λb=>b<W.heap.size) W 0 inn.aH ds vs)(ho:inn.objs=[])(VG:uX (λb=>b<W.heap.size) W):Calls P f vs.toArray W λe W'=>e= .returned (.bool y)/\Below W.heap.size W W':=by
 obtain⟨h1,h2,h3⟩:=ha.aH;subst AY
 refine(h.ok x y hy vs W ⟨λ_=>ae,λ_=>ae,λ_ _=>False⟩ (λb=>b<W.heap.size) (λ_=>False) h3 (by grind) ?_ (λ_ _=>⟨rfl,rfl⟩) (λ_ h=>h.elim)).mono λe W' ⟨us,he,Vs,H',F',a1,_,_,_,a5,_⟩=>?_
 .show aS _ _ _ W (find (kN 0 inn.objs _)) inn.nxt
  rw[ho];exact⟨λ_ _ _ h=>(by cases h),λ_ _ _ _ _ _ _ _ _ h=>(by cases h),λ_ _ _=>⟨rfl,rfl⟩,λ_ h=>h,λ_ h=> .inl h,VG⟩
 .refine⟨?_,⟨a1.os,a1.tape,a1.output,a1.size,λk hk=>a1.block k hk (λh=>h)⟩⟩
  match us,Vs with
  |[u],_=>
   have:=a5 0 (fB y) rfl;have hu:u= .bool y:=bq.bool (x:=y) this;rw[he,hu];rfl
theorem My{H:Type}{enc:TypeId×Value->H}{P:Program}{W:World}{base:Nat}{spare:Nat->Bool}{held:Bool}{fuel:Nat}{t e:TypeId}{n:Nat}{k:IntKind}(ht:P.underlying t=aa (.array n e))(he:P.underlying e=aa (.int k))(hc:P.cellsOf e=1)(VH:P.cellsOf t=n)
 {cs:List Value}{ns:List Int}{q:List MemPlace}(hd:DataW.trod enc P W base spare held fuel t cs=aa (.agg (ns.map λx=> .lit (.int k x)),q)):cs=ns.map λx=> .int k x:=by
 obtain⟨xs,m,_,hx,hl,hn,wJ⟩:=DataW.trod_array ht hd;simp only[Prod.mk.injEq,DataW.agg.injEq]at hx
 have hln:ns.length=n:=by rw[<-hn,<-ao5 (f:=λx:Int=>(DataW.lit (.int k x):DataW H)),hx.1,ao5]
 apply List.ext_getElem?
 intro i;by_cases hi:i<n
 .have h:=wJ i hi;rw[hc,Nat.mul_one,aoA (by omega:i<xs.length)]at h;obtain⟨z,h1,h2,_⟩:=DataW.trod_int he h
  have h3:(xs.map (·.1))[i]? =aa (.lit (.int k z)):=by
   rw[apD,aoA (by omega:i<xs.length),h2];rfl
  rw[<-hx.1,apD,aoA (by omega:i<ns.length)]at h3;simp only[Option.map_some,aoW,DataW.lit.injEq,Lit.int.injEq,true_and]at h3;rw[apD,aoA (by omega:i<ns.length),h3]
  have h4:((cs.drop i).take 1)[0]? =aa (.int k z):=by rw[h1];rfl
  grind
 grind
theorem SB{W:World}{b off:Nat}{v:Value}(h:W.cell? ⟨b,off,ae⟩=aa v):b<W.heap.size:=by
 unfold World.cell? at h
 grind
section
def VI(l:Nat)(J:(Nat->Value)->World->Prop)(Q:Exit->(Nat->Value)->World->Prop):Exit->(Nat->Value)->World->Prop
 | .goto l',ρ,w=>l'=l/\J ρ w
 |e,ρ,w=>Q e ρ w
def YW(l:Nat)(J:Act->World->Prop)(Q:Exit->Act->World->Prop):Exit->Act->World->Prop
 | .goto l',a,w=>l'=l/\J a w
 |e,a,w=>Q e a w
theorem Bg{P:Program}{a:Act}{w:World}{Q:Exit->Act->World->Prop}{c rest:Code}(l:Nat)(J:Nat->Act->World->Prop)(hf:findLabel c l=aa rest)
 (first:c.wp P (YW l (λa w=>∃n,J n a w) Q) a w)
 (pass:∀n a w,J n a w->rest.wp P (YW l (λa' w'=>∃m,m<n/\J m a' w') Q) a w):(Code.scope c).wp P Q a w:=by
 intro b k cs
 have hg:gotoIn l (.inScope c::k)=aa (.code rest:: .inScope c::k):=by simp[gotoIn,hf]
 have key:∀n a w,J n a w->∃e a' w',Q e a' w'/\Arrives P (lone (b.at a (.code rest:: .inScope c::k)) cs w) b k cs e a' w':=by
  intro n
  induction n using Nat.strongRecOn with
  |_ n ih=>
   intro a w hJ;obtain⟨e,xj,xk,hq,xl⟩:=pass n a w hJ b (.inScope c::k) cs
   cases e with
   |normal=>exact⟨.normal,xj,xk,hq,Steps.trans xl (.one step_inScope)⟩
   |exit id=>exact⟨.exit id,xj,xk,hq,λk' hk=>xl k' (by simp[exitTo,hk])⟩
   |goto l'=>
    obtain⟨rfl,m,aJ,hJ'⟩:=hq;obtain⟨VJ,VK,VL,Pr,Ds⟩:=ih m aJ xj xk hJ';exact⟨VJ,VK,VL,Pr, .of_steps (xl _ hg) Ds⟩
   |ret=>exact⟨_,xj,xk,hq,xl⟩
   |panic ch=>exact⟨_,xj,xk,hq,xl⟩
   |outgrown=>exact⟨_,xj,xk,hq,xl⟩
 obtain⟨e,xj,xk,hq,xl⟩:=first b (.inScope c::k) cs
 cases e with
 |normal=>exact⟨.normal,xj,xk,hq, .head step_scope (Steps.trans xl (.one step_inScope))⟩
 |exit id=>exact⟨.exit id,xj,xk,hq,λk' hk=> .head step_scope (xl k' (by simp[exitTo,hk]))⟩
 |goto l'=>
  obtain⟨rfl,m,hJ'⟩:=hq;obtain⟨VJ,VK,VL,Pr,Ds⟩:=key m xj xk hJ';exact⟨VJ,VK,VL,Pr, .of_steps (.head step_scope (xl _ hg)) Ds⟩
 |ret=>exact⟨_,xj,xk,hq, .of_steps (.one step_scope) xl⟩
 |panic ch=>exact⟨_,xj,xk,hq, .of_steps (.one step_scope) xl⟩
 |outgrown=>exact⟨_,xj,xk,hq, .of_steps (.one step_scope) xl⟩
theorem Mz{P:Program}{n:Nat}{Q:Exit->(Nat->Value)->World->Prop}{ρ:Nat->Value}{w:World}{x b:Code}{l:Nat}(J:Nat->(Nat->Value)->World->Prop)(hf:findLabel x l=aa (.seq .skip b))
 (first:uU P n x (VI l (λρ w=>∃m,J m ρ w) Q) ρ w)(pass:∀m ρ w,J m ρ w->uU P n b (VI l (λρ w=>∃k,k<m/\J k ρ w) Q) ρ w):uU P n (.scope x) Q ρ w:=by
 intro act acO
 refine Bg l (λm a w=>∃ρ,Fr n a ρ/\J m ρ w) hf (wp_mono (first act acO) λe a' w' ⟨cX,h1,h2⟩=>?_) λm a w ⟨ρ,hr,hJ⟩=>wp_seq (wp_skip (wp_mono (pass m ρ w hJ a hr) λe a' w' ⟨cX,h1,h2⟩=>?_))
 .cases e with
  |goto l'=>exact⟨h2.1,h2.2.imp λm hm=>⟨cX,h1,hm⟩⟩
  |_=>exact⟨cX,h1,h2⟩
 .cases e with
  |goto l'=>exact⟨h2.1,h2.2.imp λm hm=>⟨hm.1,cX,h1,hm.2⟩⟩
  |_=>exact⟨cX,h1,h2⟩
def xN(l:Nat):Code->Option Code
 | .seq a b=>match a with
   | .label l'=>bif aoL l' l then aa b else ae
   |a=>bif (findLabel a l).isNone then xN l b else ae
 |_=>ae
theorem FB{l:Nat}:{x b:Code}->xN l x=aa b->findLabel x l=aa (.seq .skip b)
 | .seq a y,b,h=>by
   unfold xN at h;split at h
   .rename_i l';obtain⟨h1,rfl⟩:=pF h;obtain rfl:=beq_true h1;simp[findLabel]
   .obtain⟨h1,h2⟩:=bo h;have h3:=FB h2
    have h4:findLabel a l=ae:=by simpa using h1
    simp[findLabel,h4,h3]
 | .skip,_,h=>by cases h
 | .ret,_,h=>by cases h
 | .exit _,_,h=>by cases h
 | .cond _ _ _,_,h=>by cases h
 | .region _ _ _,_,h=>by cases h
 | .block _ _,_,h=>by cases h
 | .loop _,_,h=>by cases h
 | .label _,_,h=>by cases h
 | .scope _,_,h=>by cases h
 | .goto _,_,h=>by cases h
 | .rangeFunc ..,_,h=>by cases h
 | .refuse _,_,h=>by cases h
noncomputable def J6{P:Program}(E:Env P)(nt N l:Nat){R:Type}:Code->uL->State->(Ex->State->Option R)->(State->Option R)->Option R
 | .seq a b,an,st,k,kL=>match a with
   | .label _=>kL st
   |a=>exec E nt N a an.l st (λe cM=>match e with
    | .normal=>J6 E nt N l b an.r cM k kL
    |e=>k e cM)
 |_,_,_,_,_=>ae
noncomputable def Ps{P:Program}(E:Env P)(nt N l:Nat)(x:Code){R:Type}(L:JS)(a1 a2:uL)(st:State)(k:Ex->State->Option R):Option R:=
 match xN l x with
 |some b=>bx (J:=cY L.rows) (R:=R) (J6 E nt N l (R:=cY L.rows⊕R) x a1 st (noGoto λe cM=>(k e cM).map .inr) (λcM=>(carry st L cM).map .inl)) λs0=>
   Loop (S:=cY L.rows) (X:=R) (λs=>exec E nt N b (R:=cY L.rows⊕R) a2 (behind st (writes x) L s) (λe cM=>match e with
    | .goto i=>bif aoL i l then(carry st L cM).map .inl else ae
    |e=>(k e cM).map .inr)) N s0
 |none=>ae
noncomputable def J7{P:Program}(E:Env P)(nt N l:Nat)(c:Code){R:Type}(L:JS)(a0 a1 a2:uL)(st:State)(k:Ex->State->Option R):Option R:=
 match c with
 | .seq r (.scope x)=>exec E nt N r a0 st (λe cM=>match e with
   | .normal=>Ps E nt N l x L a1 a2 cM k
   |e=>k e cM)
 |_=>ae
section
variable {P:Program} {nt N:Nat} {R:Type}
variable {ρ:Nat->Value} {w w0:World} {H:aR} {F F0 G:Nat->Prop}
theorem vW{l:Nat}:{x b:Code}->xN l x=aa b->∀t∈writes b,t∈writes x
 | .seq a y,b,h,t,ht=>by
   unfold xN at h;split at h
   .obtain⟨h1,rfl⟩:=pF h;simp[writes,ht]
   .obtain⟨h1,h2⟩:=bo h;simp[writes,vW h2 t ht]
 | .skip,_,h,_,_=>by cases h
 | .ret,_,h,_,_=>by cases h
 | .exit _,_,h,_,_=>by cases h
 | .cond _ _ _,_,h,_,_=>by cases h
 | .region _ _ _,_,h,_,_=>by cases h
 | .block _ _,_,h,_,_=>by cases h
 | .loop _,_,h,_,_=>by cases h
 | .label _,_,h,_,_=>by cases h
 | .scope _,_,h,_,_=>by cases h
 | .goto _,_,h,_,_=>by cases h
 | .rangeFunc ..,_,h,_,_=>by cases h
 | .refuse _,_,h,_,_=>by cases h
theorem FC{E:Env P}{l:Nat}{q:R}:(c:Code)->{b:Code}->{a:uL}->{st:State}->{k:Ex->State->Option R}->{kL:State->Option R}->{H:aR}->{F:Nat->Prop}->{w:World}->{ρ:Nat->Value}->{Q:Exit->(Nat->Value)->World->Prop}->
 xN l c=aa b->J6 E nt N l c a st k kL=aa q->dw G w0 F0 H F w ρ st->
 (∀e cM H' F' w' cX,k e cM=aa q->Mv G w0 F0 (writes c) H F w ρ H' F' w' cX cM->Q e.qX cX w')->
 (∀cM H' F' w' cX,kL cM=aa q->Mv G w0 F0 (writes c) H F w ρ H' F' w' cX cM->uU P nt b Q cX w')->uU P nt c Q ρ w
 | .seq a y,b,an,st,k,kL,H,F,w,ρ,Q,ht,h,hh,hk,hL=>by
   unfold xN at ht;unfold J6 at h;split at ht
   .obtain⟨h1,rfl⟩:=pF ht;exact tL (λact hf=>wp_label ⟨ρ,hf,hL st H F w ρ h ⟨hh,dk.refl H F w,λ_ _=>rfl⟩⟩)
   .rename_i dS;obtain⟨h1,h2⟩:=bo ht;split at h
    .grind
    refine tL (jn a h hh λe cM H' F' w' cX g1 g2=>?_)
    have out:∀{e:Ex},k e cM=aa q->Q e.qX cX w':=λ{e}g1=>hk e cM H' F' w' cX g1 ⟨g2.here,g2.keeps,λt ht=>g2.same t λhm=>ht (by simp[writes,hm])⟩
    cases e with
    |normal=>
     refine FC y h2 g1 g2.here (λe Pt wO EU yz vU m1 m2=>?_) λPt wO EU yz vU m1 m2=>?_
     .exact hk e Pt wO EU yz vU m1 ⟨m2.here,g2.keeps.trans m2.keeps,λt ht=>(m2.same t λhm=>ht (by simp[writes,hm])).trans (g2.same t λhm=>ht (by simp[writes,hm]))⟩
     .exact hL Pt wO EU yz vU m1 ⟨m2.here,g2.keeps.trans m2.keeps,λt ht=>(m2.same t λhm=>ht (by simp[writes,hm])).trans (g2.same t λhm=>ht (by simp[writes,hm]))⟩
    |exit i=>exact out g1
    |ret=>exact out g1
    |goto i=>exact out g1
 | .skip,_,_,_,_,_,_,_,_,_,_,h,_,_,_,_=>by cases h
 | .ret,_,_,_,_,_,_,_,_,_,_,h,_,_,_,_=>by cases h
 | .exit _,_,_,_,_,_,_,_,_,_,_,h,_,_,_,_=>by cases h
 | .cond _ _ _,_,_,_,_,_,_,_,_,_,_,h,_,_,_,_=>by cases h
 | .region _ _ _,_,_,_,_,_,_,_,_,_,_,h,_,_,_,_=>by cases h
 | .block _ _,_,_,_,_,_,_,_,_,_,_,h,_,_,_,_=>by cases h
 | .loop _,_,_,_,_,_,_,_,_,_,_,h,_,_,_,_=>by cases h
 | .label _,_,_,_,_,_,_,_,_,_,_,h,_,_,_,_=>by cases h
 | .scope _,_,_,_,_,_,_,_,_,_,_,h,_,_,_,_=>by cases h
 | .goto _,_,_,_,_,_,_,_,_,_,_,h,_,_,_,_=>by cases h
 | .rangeFunc ..,_,_,_,_,_,_,_,_,_,_,h,_,_,_,_=>by cases h
 | .refuse _,_,_,_,_,_,_,_,_,_,_,h,_,_,_,_=>by cases h
theorem Pu{E:Env P}{l:Nat}{x:Code}{L:JS}{a1 a2:uL}{q:R}{st:State}{k:Ex->State->Option R}{Q:Exit->(Nat->Value)->World->Prop}(h:Ps E nt N l x L a1 a2 st k=aa q)(hh:dw G w0 F0 H F w ρ st)
 (hk:∀e cM H' F' w' cX,k e cM=aa q->Mv G w0 F0 (writes x) H F w ρ H' F' w' cX cM->Q e.qX cX w'):uU P nt (.scope x) Q ρ w:=by
 unfold Ps at h;split at h
 case h_2=>cases h
 rename_i b hb;unfold bx at h;obtain⟨s,hs,h⟩:=bind_some h;have hbw:=vW hb
 let I:cY L.rows->(Nat->Value)->World->Prop:=λs cX w'=>∃H' F',dw G w0 F0 H' F' w' cX (behind st (writes x) L s)/\dk H F w H' F' w'/\∀t,t∉writes x->cX t=ρ t
 let body:cY L.rows->Option (cY L.rows⊕R):=λs=>exec E nt N b (R:=cY L.rows⊕R) a2 (behind st (writes x) L s) (λe cM=>match e with
  | .goto i=>bif aoL i l then(carry st L cM).map .inl else ae
  |e=>(k e cM).map .inr)
 have pass:∀m Hl w1,(∃s,I s Hl w1/\Loop body m s=aa q)->uU P nt b (VI l (λρ w=>∃k,k<m/\∃s,I s ρ w/\Loop body k s=aa q) Q) Hl w1:=by
  rintro m Hl w1 ⟨s,⟨H1,F1,g1,g2,g3⟩,hl⟩
  cases m with
  |zero=>cases hl
  |succ m=>
   unfold Loop at hl
   cases hy:body s with
   |none=>grind
   |some y=>
    rw[hy]at hl
    refine jn b hy g1 λe cM H' F' w' cX m1 m2=>?_
    have sm:∀t,t∉writes x->cX t=ρ t:=λt ht=>(m2.same t λhm=>ht (hbw t hm)).trans (g3 t ht)
    have out:∀{e:Ex},(k e cM).map aoV=aa y->Q e.qX cX w':=λ{e}h1=>by
     obtain⟨r,hr,rfl⟩:=map_inl h1;obtain rfl:=aoB hl;exact hk e cM H' F' w' cX hr ⟨m2.here,g2.trans m2.keeps,sm⟩
    cases e with
    |normal=>exact out (e:= .normal) m1
    |exit i=>exact out (e:= .exit i) m1
    |ret=>exact out (e:= .ret) m1
    |goto i=>
     obtain⟨h1,h2⟩:=bo m1;obtain rfl:=beq_true h1;obtain⟨j,hj,rfl⟩:=map_inl h2;obtain⟨H2,F2,n1,n2⟩:=oG (W:=writes x) hj hh m2.here (g2.trans m2.keeps) sm;exact⟨rfl,m,Nat.lt_succ_self m,j,⟨H2,F2,n1,n2,sm⟩,hl⟩
 refine Mz (λm ρ w=>∃s,I s ρ w/\Loop body m s=aa q) (FB hb) ?_ pass
 refine FC x hb hs hh (λe cM H' F' w' cX m1 m2=>?_) λcM H' F' w' cX m1 m2=>?_
 .cases e with
  |goto i=>cases m1
  |normal=>
   obtain⟨r,hr,rfl⟩:=map_inl (show(k .normal cM).map aoV=aa s from m1);obtain rfl:=aoB h;exact hk .normal cM H' F' w' cX hr m2
  |exit i=>
   obtain⟨r,hr,rfl⟩:=map_inl (show(k (.exit i) cM).map aoV=aa s from m1);obtain rfl:=aoB h;exact hk (.exit i) cM H' F' w' cX hr m2
  |ret=>
   obtain⟨r,hr,rfl⟩:=map_inl (show(k .ret cM).map aoV=aa s from m1);obtain rfl:=aoB h;exact hk .ret cM H' F' w' cX hr m2
 .obtain⟨j,hj,rfl⟩:=map_inl m1;obtain⟨H2,F2,n1,n2⟩:=oG (W:=writes x) hj hh m2.here m2.keeps m2.same
  refine NP (pass N cX w' ⟨j,⟨H2,F2,n1,n2,m2.same⟩,h⟩) λe ρ2 w2 hq=>?_
  cases e with
  |goto i=>exact⟨hq.1,hq.2.imp λm hm=>hm.2⟩
  |_=>exact hq
theorem FD{E:Env P}{l:Nat}{c:Code}{L:JS}{a0 a1 a2:uL}:UG P nt c λst k=>J7 E nt N l c L a0 a1 a2 st k:=by
 intro R q st k H F w ρ G w0 F0 Q h hh hk;unfold J7 at h;split at h
 case h_2=>cases h
 rename_i r x;refine tL (jn r h hh λe cM H' F' w' cX g1 g2=>?_)
 have out:∀{e:Ex},k e cM=aa q->Q e.qX cX w':=λ{e}g1=>hk e cM H' F' w' cX g1 ⟨g2.here,g2.keeps,λt ht=>g2.same t λhm=>ht (by simp[writes,hm])⟩
 cases e with
 |normal=>
  refine Pu g1 g2.here λe Pt wO EU yz vU m1 m2=>?_
  exact hk e Pt wO EU yz vU m1 ⟨m2.here,g2.keeps.trans m2.keeps,λt ht=>(m2.same t λhm=>ht (by simp[writes,hm])).trans (g2.same t λhm=>ht (by simp[writes,hm]))⟩
 |exit i=>exact out g1
 |ret=>exact out g1
 |goto i=>exact out g1
theorem Pv{E:Env P}{f:FuncId}{fn:Func}{c:Code}{rs:List ResultVar}{N l:Nat}{L:JS}{a0 a1 a2:uL}{sg:rH}(hf:P.funcs[f]? =aa fn)(hn:(fn.name== "runtime.NumGoroutine")=ag)(hb:fn.body=aa c)(Nz:fn.results.toList=rs)
 (rC:vQ 0 sg.inn.aH=af)(hlen:Nat.ble sg.inn.aH.length fn.ntmps=af)(AV:aoL rs.length sg.out.aH.length=af)
 (BZ:∀x,sg.fn x=J7 E fn.ntmps N l c L a0 a1 a2 (init sg.inn x) (VE E.T rs sg.inn.nxt sg.out)):kO P f sg:=
 Pq (E:=E) (run:=λst k=>J7 E fn.ntmps N l c L a0 a1 a2 st k) FD hf hn hb Nz rC hlen AV BZ
end
end
section
def uM(l:List Int):List Int:=l.mergeSort λx y=>decide (x<=y)
section
variable {P:Program} {w w':World} {F:Nat->Prop} {T:TypeId}
theorem Pw(w:World):aqk w #[]=w:=by
 unfold aqk;rw[Array.append_empty]
theorem J8{g off:Nat}{d:Array Int}{n:Nat}{os:Array Obj}(h:w'=aqk (ap4 (apJ .i64) (ap9 w n) g off d) os):Ext (λk=>k=g) w w':=by
 subst h;refine⟨rfl,rfl,rfl,?_,λk hk hn=>?_⟩
 .simp[aqk,ap4,aqB,ap9]
 .simp only[aqk];rw[Array.getElem?_append_left (by simpa[ap4,aqB,ap9]using hk)];simp only[ap4,aqB,ap9,Array.getElem?_modify];rw[ai (λe=>hn e.symm)]
theorem SC{g off:Nat}{d:Array Int}{n:Nat}{os:Array Obj}(h:w'=aqk (ap4 (apJ .i64) (ap9 w n) g off d) os){cur:Array Value}(hg:w.heap[g]? =aa (.cells cur T (0,0))):
 w'.heap[g]? =aa (.cells (aqu (apJ .i64) off d cur) T (0,0)):=by
 subst h;have aJ:g<w.heap.size:=(Array.getElem?_eq_some_iff.1 hg).1;simp only[aqk];rw[Array.getElem?_append_left (by simpa[ap4,aqB,ap9]using aJ)];simp only[ap4,aqB,ap9,Array.getElem?_modify];rw[aj trivial,hg];rfl
theorem Is{l:List Int}{xs:List Value}(hx:xs.length=l.length*1)(h:∀i(hi:i<l.length),dF F w aB ((xs.drop (i*1)).take 1) l[i]):xs=l.map (apJ .i64):=by
 apply List.ext_getElem (by simpa using hx);intro i h1 h2
 have hi:i<l.length:=by simpa using h2
 have:(xs.drop (i*1)).take 1=[apJ .i64 l[i]]:=h i hi;rw[Nat.mul_one,ao2 h1,List.take_succ_cons,List.take_zero]at this;simpa only[apB,ap5,and_true]using this
theorem MA{off:Nat}{d:Array Int}{cur:Array Value}(h:off+d.size<=cur.size):((aqu (apJ .i64) off d cur).toList.drop off).take d.size=d.toList.map (apJ .i64):=by
 apply List.ext_getElem (by simp[aqu];omega);intro i h1 h2
 have hi:i<d.size:=by simpa using h2
 rw[List.getElem_take,List.getElem_drop,apB,Array.getElem_toList,Array.getElem_toList];simp only[aqu,Array.getElem_mapIdx];rw[aj ⟨by omega,by omega⟩,show off+i-off=i by omega,getElem!_pos d i hi]
theorem B8{v:Value}{l:List Int}(h:lV 0 F w T aB v l):(v= .slice ae 0 0/\l=[])\/∃g o0 cap cur,v= .slice (aa ⟨g,o0,ae⟩) l.length cap/\w.heap[g]? =aa (.cells cur T (0,0))/\l.length<=cap/\cap<=maxLen/\o0+cap<=cur.size/\Go.Sort.Holds (apJ .i64) w g o0 l.toArray:=by
 obtain⟨_,xs,⟨hx,h2⟩,h3⟩:=h;have e:=Is hx h3
 rcases h2 with⟨rfl,h0⟩|⟨g,o0,cap,cur,rfl,_,hg,h4,h5,h6,h7⟩
 .exact .inl ⟨rfl,List.eq_nil_of_length_eq_zero h0⟩
 .refine .inr ⟨g,o0,cap,cur,rfl,hg,h4,h5,by simpa[Row.size]using h6,λj hj=>⟨?_,frozen_of_row w g _ cur T hg⟩⟩
  have hj:j<l.length:=by simpa using hj
  rw[cell_of_row w g _ cur T (0,0) hg]
  have:xs[j]? =aa (apJ .i64 l[j]):=by rw[e];simp[hj]
  rw[<-h7,apV]at this;split at this
  .rw[apx]at this;rw[getElem!_pos l.toArray j (by simpa using hj)];simpa using this
  .cases this
theorem FE{g o0 cap:Nat}{l d:List Int}{cur:Array Value}{n:Nat}{os:Array Obj}(h:lV 0 F w T aB (.slice (aa ⟨g,o0,ae⟩) l.length cap) l)(hg:w.heap[g]? =aa (.cells cur T (0,0)))(hs:o0+cap<=cur.size)(hc:cap<=maxLen)
 (hl:d.length<=cap)(m:Nat)(hm:m<=d.length)(hw:w'=aqk (ap4 (apJ .i64) (ap9 w n) g o0 d.toArray) os):lV 0 F w' T aB (.slice (aa ⟨g,o0,ae⟩) m cap) (d.take m):=by
 have Px:=SC hw hg;have hp:=MA (off:=o0) (d:=d.toArray) (cur:=cur) (by simp;omega);refine⟨λk hk=>h.no k (by simpa[cc,apg]using hk),(d.take m).map (apJ .i64),⟨by simp[Row.size], .inr ⟨g,o0,cap,_,by simp[apC hm],aoR _,Px,by simp;omega,hc,by simp[aqu,Row.size];omega,?_⟩⟩,λi hi=>?_⟩
 .have:((aqu (apJ .i64) o0 d.toArray cur).toList.drop o0).take m=(d.take m).map (apJ .i64):=by
   rw[show m=min m d.toArray.size by simp[apC hm],<-List.take_take,hp,List.map_take];simp[apC hm]
  simpa[Row.size,apC hm]using this
 .have gh:i<d.length:=by simp at hi;omega
  show((List.map (apJ .i64) (d.take m)).drop (i*1)).take 1=[apJ .i64 (d.take m)[i]]
  rw[Nat.mul_one,ao2 (by simpa using hi)];simp
theorem tc(d:Array Int):∀m,(Go.Lib.compactUpTo d m).length<=m
 |0=>by simp[Go.Lib.compactUpTo]
 |m+1=>by
  have:=tc d m;rw[Go.Lib.compactUpTo_succ,aoH]
  split<;>simp<;>omega
theorem zL(l:List Int):(apK l).length<=l.length:=tc _ _
theorem td{α:Type}{k o:Nat}{x:α}(h:o≠k):find [(k,x)] o=ae:=by
 have:aoL k o=ag:=by
  cases hb:aoL k o with
  |false=>rfl
  |true=>exact absurd (Nat.eq_of_beq_eq_true hb).symm h
 simp[find,this]
theorem It{f:FuncId}{r:Row}{fn:List r.den->Option (List r.den)}(hb:∃fn,P.funcs[f]? =aa fn/\(fn.name== "runtime.NumGoroutine")=ag/\fn.body.isNone=ag)
 (hr:r.beq r=af)
 (hc:∀{F:Nat->Prop}{w:World}{v:Value}{l m:List r.den},fn l=aa m->lV 0 F w T r v l->(∀b,F b->b<w.heap.size)->Calls P f #[v] w λe w'=>e= .returned (.tuple #[])/\Ext (cc v) w w'/\lV 0 F w' T r v m):
 kO P f ⟨⟨[(0, .val ag (.own 0))],[(0, .own T r)],[],1⟩,⟨[],[(0, .own T r)],[],2⟩,fn⟩:=by
 refine⟨hb,λx y AS args w H F G hlen iP fR jJ hG=>?_⟩;have jJ:ln H 1:=jJ
 match args,hlen with
 |[v],_=>
 have hx:(kN 0 [(0,OS.own T r)] (eD [(0,SS.val ag (.own 0))] (fe [.slice r] x)).2)=[(0,(0, .own T r x))]:=by
  show[(0,(0,(du (.own T r) [⟨.slice r,x⟩]).1))]=_
  simp only[du,hr,cond_true]
 have hy:(kN 1 [(0,OS.own T r)] (eD [] (fe [.slice r] y)).2)=[(0,(1, .own T r y))]:=by
  show[(0,(1,(du (.own T r) [⟨.slice r,y⟩]).1))]=_
  simp only[du,hr,cond_true]
 have fR:aS (λk=>w.heap.size<=k\/G k) H F w (find [(0,(0,Th.own T r x))]) 1:=by rw[<-hx];exact fR
 have hd:aN H F w (.val ag (.own 0)) v:=iP 0 _ rfl;obtain⟨cs,⟨v',hv,h1,rfl⟩,_,vA⟩:=hd
 obtain rfl:v'=v:=by have:=vA rfl;simpa using this
 have gS:=fR.own rfl hv;obtain⟨v2,Lu,eK⟩:=fR.obj 0 0 _ rfl;rw[hv]at Lu;obtain rfl:=aoB Lu
 refine(hc AS gS fR.lt).mono λe w' ⟨he,cG,lI⟩=>⟨[],he,rfl,H.cL 1 (.own T r y),F,⟨cG.os,cG.tape,cG.output,cG.size,λk hk hn=>cG.block k hk λhm=>?_⟩,aR.mw (jJ 1 (aoJ _)).2,λb h=>h,λb h=> .inl h,λt d h=>?_,?_,?_⟩
 .rcases eK.use k hm with h|h
  .omega
  .exact hn h
 .cases h
 .show aS _ _ F w' (find (kN 1 [(0,OS.own T r)] (eD [] (fe [.slice r] y)).2)) 2
  rw[hy];refine⟨λo s t ho=>?_,λo o' s s' t t' u u' dS ho py=>?_,λm h1 h2=>⟨(jJ m (by have:2<=m:=h1;omega)).1,?_⟩,λb hb=>api (fR.lt b hb) cG.size,λb hb=> .inl (Nat.le_trans cG.size hb),fR.gl.step (Step.ext cG fR.lt gS.no)⟩
  .obtain⟨rfl,h⟩:o=0/\(1,Th.own T r y)=(s,t):=by
    by_cases h0:o=0
    .subst h0;exact⟨rfl,aoB ho⟩
    .exfalso;have:find [(0,(1,Th.own T r y))] o=ae:=td h0;rw[this]at ho;cases ho
   cases h;refine⟨v',hv,h1,by simp[aR.cL,Th.base],lV.to _ lI,lI.no,lI.lt,λk hk=>?_⟩;exact eK.use k hk
  .have key:∀o x,find [(0,(1,Th.own T r y))] o=aa x->o=0:=λo x h=>by
    by_cases h0:o=0
    .exact h0
    .have:find [(0,(1,Th.own T r y))] o=ae:=td h0;rw[this]at h;cases h
   exact absurd ((key o _ ho).trans (key o' _ py).symm) dS
  .have h1:2<=m:=h1
   show(if m=1 then _ else H.con m)=ae
   rw[ai (by omega)];exact(jJ m (by omega)).2
 .intro m hm;have hm:2<=m:=hm;refine⟨(jJ m (by omega)).1,?_⟩
  show(if m=1 then _ else H.con m)=ae
  rw[ai (by omega)];exact(jJ m (by omega)).2
theorem MB{f:FuncId}{r:Row}{fn:List r.den->Option (List r.den)}(hb:∃fn,P.funcs[f]? =aa fn/\(fn.name== "runtime.NumGoroutine")=ag/\fn.body.isNone=ag)
 (hr:r.beq r=af)
 (hc:∀{F:Nat->Prop}{w:World}{v:Value}{l m:List r.den},fn l=aa m->lV 0 F w T r v l->(∀b,F b->b<w.heap.size)->Calls P f #[v] w λe w'=>∃v',e= .returned v'/\Ext (cc v) w w'/\lV 0 F w' T r v' m/\∀k,cc v' k->cc v k):
 kO P f ⟨⟨[(0, .val ag (.own 0))],[(0, .own T r)],[],1⟩,⟨[(0, .val ag (.own 1))],[(1, .own T r)],[],2⟩,fn⟩:=by
 refine⟨hb,λx y AS args w H F G hlen iP fR jJ hG=>?_⟩;have jJ:ln H 1:=jJ
 match args,hlen with
 |[v],_=>
 have hx:(kN 0 [(0,OS.own T r)] (eD [(0,SS.val ag (.own 0))] (fe [.slice r] x)).2)=[(0,(0, .own T r x))]:=by
  show[(0,(0,(du (.own T r) [⟨.slice r,x⟩]).1))]=_
  simp only[du,hr,cond_true]
 have hy:(kN 1 [(1,OS.own T r)] (eD [(0,SS.val ag (.own 1))] (fe [.slice r] y)).2)=[(1,(1, .own T r y))]:=by
  show[(1,(1,(du (.own T r) [⟨.slice r,y⟩]).1))]=_
  simp only[du,hr,cond_true]
 have fR:aS (λk=>w.heap.size<=k\/G k) H F w (find [(0,(0,Th.own T r x))]) 1:=by rw[<-hx];exact fR
 have hd:aN H F w (.val ag (.own 0)) v:=iP 0 _ rfl;obtain⟨cs,⟨v',hv,h1,rfl⟩,_,vA⟩:=hd
 obtain rfl:v'=v:=by have:=vA rfl;simpa using this
 have gS:=fR.own rfl hv;obtain⟨v2,Lu,eK⟩:=fR.obj 0 0 _ rfl;rw[hv]at Lu;obtain rfl:=aoB Lu;have Er:=jJ 1 (aoJ _)
 refine(hc AS gS fR.lt).mono λe w' ⟨v3,he,cG,lI,OK⟩=>?_
 have h13:v3.oneCell'=af:=(nQ.one lI.2)
 have hle:H.le ((H.cL 1 (.own T r y)).fJ 1 v3):=⟨λo u h=>by
  show(if o=1 then aa v3 else H.val o)=aa u
  rw[ai (λe=>by rw[e,Er.1]at h;cases h)]
  exact h,(aR.mw (t:= .own T r y) Er.2).con,(aR.mw (t:= .own T r y) Er.2).sub⟩
 refine⟨[v3],he,rfl,(H.cL 1 (.own T r y)).fJ 1 v3,F,⟨cG.os,cG.tape,cG.output,cG.size,λk hk hn=>cG.block k hk λhm=>?_⟩,hle,λb h=>h,λb h=> .inl h,λt d h=>?_,?_,?_⟩
 .rcases eK.use k hm with h|h
  .omega
  .exact hn h
 .have ht:t=0/\d= .val ag (.own 1):=by
   have h:find [(0,aM.val ag (.own 1))] t=aa d:=h;by_cases h0:t=0
   .subst h0;exact⟨rfl,(aoB h).symm⟩
   .have e:find [(0,aM.val ag (.own 1))] t=ae:=td h0;rw[e]at h;cases h
  obtain⟨rfl,rfl⟩:=ht;exact⟨[v3],⟨v3,by simp[aR.fJ],h13,rfl⟩,rfl,λ_=>rfl⟩
 .show aS _ _ F w' (find (kN 1 [(1,OS.own T r)] (eD [(0,SS.val ag (.own 1))] (fe [.slice r] y)).2)) 2
  rw[hy]
  have key:∀o x,find [(1,(1,Th.own T r y))] o=aa x->o=1/\x=(1,Th.own T r y):=λo x h=>by
   by_cases h0:o=1
   .subst h0;exact⟨rfl,(aoB h).symm⟩
   .have:find [(1,(1,Th.own T r y))] o=ae:=td h0;rw[this]at h;cases h
  refine⟨λo s t ho=>?_,λo o' s s' t t' u u' dS ho py=>?_,λm h1 h2=>⟨?_,?_⟩,λb hb=>api (fR.lt b hb) cG.size,λb hb=> .inl (Nat.le_trans cG.size hb),fR.gl.step (Step.ext cG fR.lt gS.no)⟩
  .obtain⟨rfl,h⟩:=key o _ ho;cases h;exact⟨v3,by simp[aR.fJ],h13,by simp[aR.cL,aR.fJ,Th.base],lV.to _ lI,lI.no,lI.lt,λk hk=>eK.use k (OK k hk)⟩
  .exact absurd ((key o _ ho).1.trans (key o' _ py).1.symm) dS
  .have h1:2<=m:=h1
   show(if m=1 then _ else H.val m)=ae
   rw[ai (by omega)];exact(jJ m (by omega)).1
  .have h1:2<=m:=h1
   show(if m=1 then _ else H.con m)=ae
   rw[ai (by omega)];exact(jJ m (by omega)).2
 .intro m hm;have hm:2<=m:=hm;refine⟨?_,?_⟩
  .show(if m=1 then _ else H.val m)=ae
   rw[ai (by omega)];exact(jJ m (by omega)).1
  .show(if m=1 then _ else H.con m)=ae
   rw[ai (by omega)];exact(jJ m (by omega)).2
def FF(l:List Int):Option (List Int):=if l.length<4611686018427387904 then aa (uM l)else ae
theorem SD{f:FuncId}(hb:∃fn,P.funcs[f]? =aa fn/\(fn.name== "runtime.NumGoroutine")=ag/\fn.body.isNone=ag)
 (h1:∀(sI off cap:Nat)(zs:List Int)(w:World),Go.Sort.Holds (apJ .i64) w sI off zs.toArray->sI<w.heap.size->zs.length<4611686018427387904->
   Calls P f #[.slice (aa ⟨sI,off,ae⟩) zs.length cap] w λe w'=>e= .returned (.tuple #[])/\∃n os,w'=aqk (ap4 (apJ .i64) (ap9 w n) sI off (zs.mergeSort λx y=>decide (x<=y)).toArray) os)
 (h2:∀(p:Option Addr)(cap:Nat)(w:World),Calls P f #[.slice p 0 cap] w λe w'=>e= .returned (.tuple #[])/\w'=w):
 kO P f ⟨⟨[(0, .val ag (.own 0))],[(0, .own T aB)],[],1⟩,⟨[],[(0, .own T aB)],[],2⟩,λx=>FF x⟩:=by
 refine It (r:=aB) hb rfl λ{F w v l m}hm ho hF=>?_
 have hm:FF l=aa m:=hm;unfold FF at hm;split at hm
 case isFalse=>cases hm
 rename_i hlen;obtain rfl:=aoB hm
 rcases B8 ho with⟨rfl,rfl⟩|⟨g,o0,cap,cur,rfl,hg,Ls,Vc,pS,hh⟩
 .refine(h2 ae 0 w).mono λe w' ⟨he,hw⟩=>⟨he,hw▸⟨rfl,rfl,rfl,aoJ _,λ_ _ _=>rfl⟩,hw▸?_⟩
  simpa[uM]using ho
 .refine(h1 g o0 cap l w hh (Array.getElem?_eq_some_iff.1 hg).1 hlen).mono λe w' ⟨he,n,os,hw⟩=>⟨he,?_,?_⟩
  .have:=J8 hw;exact⟨this.os,this.tape,this.output,this.size,λk hk hn=>this.block k hk λe=>hn (by simp[cc,apg,e])⟩
  .have hl:(uM l).length=l.length:=List.length_mergeSort ..;have:=FE (d:=uM l) ho hg pS Vc (by omega) (uM l).length (aoJ _) hw;rw[ao3,hl]at this;exact this
def tf(l:List Int):Option (List Int):=if l.length<=9223372036854775807 then aa (apK l)else ae
theorem Iu{f:FuncId}(hb:∃fn,P.funcs[f]? =aa fn/\(fn.name== "runtime.NumGoroutine")=ag/\fn.body.isNone=ag)
 (h1:∀(sI off cap:Nat)(zs:List Int)(w:World),Go.Sort.Holds (apJ .i64) w sI off zs.toArray->zs.length<=9223372036854775807->zs.length<=cap->
   Calls P f #[.slice (aa ⟨sI,off,ae⟩) zs.length cap] w λe w'=>e= .returned (.slice (aa ⟨sI,off,ae⟩) (apK zs).length cap)/\∃q,w'=ap4 (apJ .i64) (ap9 w q) sI off (apK zs++aoE (zs.length-(apK zs).length) 0).toArray)
 (h2:∀(p:Option Addr)(cap:Nat)(w:World),Calls P f #[.slice p 0 cap] w λe w'=>e= .returned (.slice p 0 cap)/\w'=w):
 kO P f ⟨⟨[(0, .val ag (.own 0))],[(0, .own T aB)],[],1⟩,⟨[(0, .val ag (.own 1))],[(1, .own T aB)],[],2⟩,λx=>tf x⟩:=by
 refine MB (r:=aB) hb rfl λ{F w v l m}hm ho hF=>?_
 have hm:tf l=aa m:=hm;unfold tf at hm;split at hm
 case isFalse=>cases hm
 rename_i hlen;obtain rfl:=aoB hm
 rcases B8 ho with⟨rfl,rfl⟩|⟨g,o0,cap,cur,rfl,hg,Ls,Vc,pS,hh⟩
 .refine(h2 ae 0 w).mono λe w' ⟨he,hw⟩=>⟨_,he,hw▸⟨rfl,rfl,rfl,aoJ _,λ_ _ _=>rfl⟩,hw▸?_,λk hk=>hk⟩
  exact ho
 .have AN:(apK l).length<=l.length:=zL l
  refine(h1 g o0 cap l w hh hlen Ls).mono λe w' ⟨he,n,hw⟩=>⟨_,he,?_,?_,λk hk=>by simpa[cc,apg]using hk⟩
  all_goals have hw:w'=aqk (ap4 (apJ .i64) (ap9 w n) g o0 (apK l++aoE (l.length-(apK l).length) 0).toArray) #[]:=by rw[hw,Pw]
  .have:=J8 hw;exact⟨this.os,this.tape,this.output,this.size,λk hk hn=>this.block k hk λe=>hn (by simp[cc,apg,e])⟩
  .have:=FE (d:=apK l++aoE (l.length-(apK l).length) 0) ho hg pS Vc (by simp;omega) (apK l).length (by simp) hw;rw[List.take_left]at this;exact this
def ua(x:ByteArray×ByteArray):Option Bool:=if x.2.size=1 then aa (decide (0<=ap8 x.1.data.toList (x.2.data.getD 0 0)))else ae
theorem FG{f:FuncId}(hb:∃fn,P.funcs[f]? =aa fn/\(fn.name== "runtime.NumGoroutine")=ag/\fn.body.isNone=ag)
 (h1:∀(s:ByteArray)(c:UInt8)(w:World),Calls P f #[.string s, .string ⟨#[c]⟩] w λe w'=>e= .returned (.bool (decide (0<=ap8 s.data.toList c)))/\w'=w):
 kO P f ⟨⟨[(0, .val ag (.leaf .str)),(1, .val ag (.leaf .str))],[],[],0⟩,⟨[(0, .val ag (.leaf .bool))],[],[],0⟩,λx=>ua x⟩:=by
 refine⟨hb,λx y AS args w H F G hlen iP fR jJ hG=>?_⟩
 match args,hlen with
 |[u,v],_=>
 obtain⟨s,t⟩:=x;have AS:ua (s,t)=aa y:=AS;unfold ua at AS;split at AS
 case isFalse=>cases AS
 rename_i pS;obtain rfl:=aoB AS;have hu:bq H F w ag (.leaf .str s) u:=iP 0 _ rfl;have hv:bq H F w ag (.leaf .str t) v:=iP 1 _ rfl;obtain⟨cs,hc,_,h2⟩:=hu;obtain⟨yd,hc',_,Ra⟩:=hv;have hc:cs=[.string s]:=hc;have hc':yd=[.string t]:=hc'
 have eu:u= .string s:=by have:=(h2 rfl).symm.trans hc;simpa using this
 have ev:v= .string t:=by have:=(Ra rfl).symm.trans hc';simpa using this
 subst eu ev
 obtain⟨⟨⟨l⟩⟩,ht⟩:∃t':ByteArray,t'=t:=⟨t,rfl⟩
 match l,ht with
 |[c],ht=>
  subst ht
  refine(h1 s c w).mono λe w' ⟨he,hw⟩=>?_
  subst hw;refine⟨[_],he,rfl,H,F,⟨rfl,rfl,rfl,aoJ _,λ_ _ _=>rfl⟩,aR.le.refl H,λ_ h=>h,λ_ h=> .inl h,λi d h=>?_,?_,jJ⟩
  .have hd:i=0/\d= .val ag (.leaf .bool (decide (0<=ap8 s.data.toList c))):=by
    have h:find [(0,aM.val ag (.leaf .bool (decide (0<=ap8 s.data.toList c))))] i=aa d:=h;by_cases h0:i=0
    .subst h0;exact⟨rfl,(aoB h).symm⟩
    .rw[td h0]at h;cases h
   obtain⟨rfl,rfl⟩:=hd;exact bq.p4 rfl
  .exact fR
 |[],ht=>subst ht;cases pS
 |_::_::_,ht=>subst ht;simp[ByteArray.size]at pS
end
end
end Go.Proofs.YtfjgcenlllgonaaGreatDoor
