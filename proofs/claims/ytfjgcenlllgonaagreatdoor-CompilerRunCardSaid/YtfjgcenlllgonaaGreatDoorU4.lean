/- Joined texts: Draw2 Draw4 Fn Law Laid Jump Shelf. -/
import Derived.Test.YtfjgcenlllgonaaGreatDoorU3
import Derived.Scope
import Derived.Test.YtfjgcenlllgonaaGreatDoorU1
import Derived.ProofKit
import Derived.LaidMore
import Derived.OpenShut
import Derived.Stop.Joined
import Derived.Sort.Grow
import Derived.Lib.SlicesCompact
import Derived.Lib.Bytealg
set_option linter.defProp false
open _root_.Bool renaming false->ah,true->af
open _root_.Option renaming none->ae,some->aa
open _root_.Nat renaming le_refl->aqS,beq->aqU,lt_of_lt_of_le->ars,min_eq_left->arF,zero_le->aq2
open _root_.Option.some renaming inj->aqL,injEq->aq1
open _root_.List renaming getElem?_eq_getElem->aqK,getElem?_map->arP,length_map->arb,drop_eq_getElem_cons->aq6,getElem?_drop->arC,getElem?_take->arR,length_append->aqT,replicate->aqO,take_length->ara
open _root_.Sum renaming inr->arc
open _root_.Go.Lib renaming compact->arM,indexByte->ar0
open _root_.Go.Sort renaming ahead->ar1,grow->ar9,mapBlock->asr,putCells->asl,putRow->arY
open _root_.List.cons renaming injEq->arE
open _root_.Go.Value renaming int->arL,ownBlock->ark
section
open _root_.Bool renaming false->ah,true->af,cond_eq_ite->arv
open _root_.Option renaming none->ae,some->aa,bind_assoc->arI,isSome_iff_exists->arA
open _root_.Array renaming getElem?_eq_getElem->arp
open _root_.List renaming length_append->aqT,length_singleton->aq8,mem_cons->arw,mem_cons_self->ary,mem_singleton->aq5
open _root_.Nat renaming beq->aqU,blt->art,zero_add->arl
open _root_.Option.some renaming inj->aqL
open _root_.Go.Region renaming binds->asf
namespace Go.Proofs.YtfjgcenlllgonaaGreatDoor
open Go Go.RowKit
section
variable {P:Program} {R:Type} {ob:Nat->Option (Nat×Th)} {n:Nat} (k:gY->Option R)
def zY{rd:Operand->Option aN}{fn:Fn}{first caps:Array Operand}:pJ rd fn first caps k=(pJ rd fn first caps aa).bind k:=by
 unfold pJ
 repeat' first|rfl|split
def Dy(T:b7 P){m:Nat}{e:TypeId}{D:aN}{i:Int}:tP T m e D i k=(tP T m e D i aa).bind k:=by
 unfold tP;simp only[arv]
 repeat' first|rfl|(rw[arI];rfl)|split
def Dz(T:b7 P){t:TypeId}{D:aN}{i:Int}:tT T ob t D i k=(tT T ob t D i aa).bind k:=by
 unfold tT;simp only[arv]
 repeat' first|rfl|(rw[arI];rfl)|split
def FM(T:b7 P){t:TypeId}{D:aN}{i:Int}:wW T ob t D i k=(wW T ob t D i aa).bind k:=by
 unfold wW;simp only[arv]
 repeat' first|rfl|exact Dy k T|(rw[arI];rfl)|split
theorem I1(T:b7 P){t:TypeId}{D:aN}:BV T ob t D k=(BV T ob t D aa).bind k:=by
 unfold BV;simp only[arv]
 repeat' first|rfl|split|(rw[arI];congr 1;funext x;repeat' first|rfl|split)
theorem FN(T:b7 P){t:TypeId}{D V:aN}:wZ T ob n t D V k=(wZ T ob n t D V aa).bind k:=by
 unfold wZ;simp only[arv]
 repeat' first|rfl|split|(rw[arI];rfl)|(rw[arI];congr 1;funext x;repeat' first|rfl|split)
theorem FO(T:b7 P){t:TypeId}{D:aN}:u9 T ob n t D k=(u9 T ob n t D aa).bind k:=by
 unfold u9;simp only[arv]
 repeat' first|rfl|split|(rw[arI];rfl)
def FP(T:b7 P){t:TypeId}{D:aN}:sM T ob n t D k=(sM T ob n t D aa).bind k:=by
 unfold sM
 grind [FO,I1]
theorem DA(T:b7 P){t:TypeId}{D V:aN}:tU T ob n t D V k=(tU T ob n t D V aa).bind k:=by
 unfold tU;simp only[arv]
 repeat' first|rfl|split|(rw[arI];rfl)
def DB(T:b7 P){t:TypeId}{D V:aN}:tX T ob n t D V k=(tX T ob n t D V aa).bind k:=by
 unfold tX
 grind [DA,FN]
theorem Br{e:TypeId}{dr:DR}{ds:List aN}:sL e dr ob n ds k=(sL e dr ob n ds aa).bind k:=by
 grind [sL]
def FQ(T:b7 P){t:TypeId}:w4 T n t k=(w4 T n t aa).bind k:=by
 grind [w4]
def MY{t:TypeId}{V:aN}:Mz n t V k=(Mz n t V aa).bind k:=by
 unfold Mz
 repeat' first|rfl|split
theorem zZ(T:b7 P){t:TypeId}{s:Bool}{a b:Int}:zx T n t s a b k=(zx T n t s a b aa).bind k:=by
 grind [zx]
def FT(T:b7 P){b:Bool}{t:TypeId}{s:Bool}{x y:Int}:zK b T n t s x y k=(zK b T n t s x y aa).bind k:=by
 unfold zK;split
 .unfold Dm
  grind [zZ]
 .exact zZ k T
def DC(T:b7 P){t:TypeId}{X Y:aN}:tS T ob n t X Y k=(tS T ob n t X Y aa).bind k:=by
 unfold tS;simp only[arv]
 repeat' first|rfl|split|(rw[arI];rfl)
def xm(T:b7 P){rd:Operand->Option aN}{t:TypeId}{m:Nat}{ps:Array (Nat×Operand)}:mT T rd ob n t m ps k=(mT T rd ob n t m ps aa).bind k:=by
 unfold mT;simp only[arv]
 repeat' first|rfl|split
def DD{b:Bool}(T:b7 P){rd:Operand->Option aN}{t:TypeId}{m:Nat}{ps:Array (Nat×Operand)}:yV b T rd ob n t m ps k=(yV b T rd ob n t m ps aa).bind k:=by
 cases b with
 |false=>exact xm k T
 |true=>
  show tW T rd ob n t m ps k=(tW T rd ob n t m ps aa).bind k
  grind [tW,Br]
def FU(T:b7 P){rd:Operand->Option aN}{t:TypeId}{ps:Array (Nat×Operand)}:w6 T rd t ps k=(w6 T rd t ps aa).bind k:=by
 unfold w6;simp only[arv]
 repeat' first|rfl|split
def FV(dr:Bool)(T:b7 P){rd:Operand->Option aN}{t:TypeId}{D:aN}{lo hi:Option Operand}:w7 dr T rd ob n t D lo hi k=(w7 dr T rd ob n t D lo hi aa).bind k:=by
 unfold w7;simp only[arv]
 repeat' first|rfl|split|(rw[arI];rfl)
def MZ(T:b7 P){o:BinOp}{t:TypeId}{lit:Bool}{X Y:aN}:MF T ob o t lit X Y k=(MF T ob o t lit X Y aa).bind k:=by
 unfold MF;simp only[arv]
 repeat' first|rfl|split|(rw[arI];rfl)
def Bt(T:b7 P){t:TypeId}{X Y:aN}:qW T ob n t X Y k=(qW T ob n t X Y aa).bind k:=by
 unfold qW
 cases PL ob Y with
 |false=>exact DC k T
 |true=>
  simp only[cond_true];unfold vM;simp only[arv]
  repeat' first|rfl|split|(rw[arI];rfl)
def xn(T:b7 P){t:TypeId}{M X Y:aN}:oH T ob n t M X Y k=(oH T ob n t M X Y aa).bind k:=rfl
def z6(b:Bool)(T:b7 P){t:TypeId}:qV b T n t k=(qV b T n t aa).bind k:=rfl
def Bu(T:b7 P){t:TypeId}{ok:Bool}{M X:aN}:sN T ob n t ok M X k=(sN T ob n t ok M X aa).bind k:=rfl
theorem FW{sg:qc}{bs:Bs}{bC:List (Nat×(Nat×Th))}{nd:List Nat}{y:dj sg.out.rows}:xj sg n bs bC nd y k=(xj sg n bs bC nd y aa).bind k:=by
 grind [xj]
theorem sR{objs:List (Nat×(Nat×Th))}{f:FuncId}{ds:List aN}:{tab:List (Nat×qc)}->rI objs n f ds k tab=(rI objs n f ds aa tab).bind k
 |[]=>rfl
 |(g,sg)::tab=>by
  unfold rI;have ih:=sR (objs:=objs) (f:=f) (ds:=ds) (tab:=tab)
  grind [FW]
def I2{tab:List (Nat×qc)}{rd:Operand->Option aN}{objs:List (Nat×(Nat×Th))}{g:Operand}{args:List Operand}:Cj tab rd objs n g args k=(Cj tab rd objs n g args aa).bind k:=by
 grind [Cj,sR]
def DE(T:b7 P){tab:List (Nat×qc)}{rd:Operand->Option aN}{objs:List (Nat×(Nat×Th))}{g:Operand}{name:String}{args:List Operand}:tZ T tab rd objs n g name args k=(tZ T tab rd objs n g name args aa).bind k:=by
 unfold tZ
 repeat' first|rfl|exact sR k|split
def M0(T:b7 P){t:TypeId}{D:aN}:MT T t D k=(MT T t D aa).bind k:=by
 grind [MT]
def DF(T:b7 P){t:TypeId}{ok:Bool}{D:aN}:tY T t ok D k=(tY T t ok D aa).bind k:=by
 unfold tY;simp only[arv]
 repeat' first|rfl|split
def I3(E:Env P){rd:Operand->Option aN}{objs:List (Nat×(Nat×Th))}{c:Callee}{args:Array Operand}{Ba:Array TypeId}:uL E rd objs n c args Ba k=(uL E rd objs n c args Ba aa).bind k:=by
 unfold uL;simp only[arv]
 repeat' first|rfl|exact Bt k _|exact I2 k|exact DE k _|split
def Qb(E:Env P){rd:Operand->Option aN}{objs:List (Nat×(Nat×Th))}{dst:Option Nat}{op:Op}:T5 E rd objs n dst op k=(T5 E rd objs n dst op aa).bind k:=by
 unfold T5
 repeat' first|rfl|exact DB k _|exact xn k _|exact z6 k _ _|exact Bu k _|exact M0 k _|exact DF k _|exact I3 k _|exact FQ k _|exact MY k|exact FU k _|exact DD k _|exact FP k _|exact MZ k _|exact FT k _|exact FV k _ _|exact FM k _|exact Dz k _|exact zY k|split
end
def lQ{α:Type}(ns:List Nat):List (Nat×α)->List (Nat×α)
 |[]=>[]
 |(m,a)::l=>bif rH m ns then(m,a)::lQ ns l else lQ ns l
def Cp{α:Type}{ns:List Nat}{l:List (Nat×α)}{n:Nat}{a:α}:find (lQ ns l) n=aa a↔n∈ns/\find l n=aa a:=by
 induction l with
 |nil=>simp[lQ,find]
 |cons p l ih=>
  grind [lQ,iM,bA]
def tmpsOf:List Operand->List Nat
 |[]=>[]
 | .tmp t::l=>t::tmpsOf l
 |_::l=>tmpsOf l
def V2:List (Bool×Tree)->List Nat
 |[]=>[]
 |p::l=>p.2.owns++V2 l
def Z8:aN->List Nat
 | .val _ t=>t.owns
 | .ptr o _ _=>[o]
 | .elem o .. =>[o]
 | .dlm o .. =>[o]
 | .tup ds=>V2 ds
 | .fn _ caps=>caps.map (·.1)
 | .ifc _ d=>Z8 d
 |_=>[]
def V3(aK:List (Nat×aN)):List Nat->List Nat
 |[]=>[]
 |t::l=>(match find aK t with
  |some d=>Z8 d
  |none=>[])++V3 aK l
def within(objs:List (Nat×(Nat×Th))):List Nat->List Nat
 |[]=>[]
 |o::l=>(match find objs o with
  |some (_, .box _ t)=>t.owns
  |_=>[])++within objs l
def Ua(aK:List (Nat×aN))(objs:List (Nat×(Nat×Th)))(ts:List Nat):List Nat:=
 (λl=>l++within objs l) (V3 aK ts)
def Cq(bC:List (Nat×(Nat×Th)))(nd:List Nat)(e:gY):gY:=
 {dst:=e.dst,eat:=nd++e.eat,make:=e.make++del e.eat (sj bC nd)}
section
variable {U:Nat->Prop} {H:aW} {F:Nat->Prop} {w:World} {n:Nat}
def M1{obj bC:List (Nat×(Nat×Th))}{nd:List Nat}{e:gY}{v:Value}{w':World}{F1:Nat->Prop}(Bn:hZ obj nd=aa bC)(yW:aX U H F1 w (find bC) n)(ET:∀b,F b->F1 b)(SY:∀b,F1 b->F b\/dH H (find obj) nd b)
 (h:ph H F1 w (find bC) n e v w'):ph H F w (find obj) n (Cq bC nd e) v w':=by
 obtain⟨H',F',hp⟩:=h
 have pn:∀k,dH H (find bC) e.eat k->dH H (find obj) (nd++e.eat) k:=by
  rintro k ⟨o,ho,s,t,u,h1,h2,h3⟩
  rcases kQ Bn o s t h1 with h4|h4
  .exact⟨o,by simp[ho],s,t,u,h4,h2,h3⟩
  .exact(ko h4 h3).elim
 have part:∀o s t,find (e.make++del e.eat (sj bC nd)) o=aa (s,t)->find e.make o=aa (s,t)\/(o∉e.eat/\o∈nd/\find bC o=aa (s,t)/\iB t=af):=by
  intro o s t ho;rw[kH]at ho
  cases hm:find e.make o with
  |some x=>grind
  |none=>
   grind [kI,pS]
 refine⟨H',F',⟨hp.o9.mi,⟨hp.o9.ext.os,hp.o9.ext.tape,hp.o9.ext.output,hp.o9.ext.size,λk hk hn=>hp.o9.ext.block k hk λhh=>hn (pn k hh)⟩,λb hb=>hp.o9.le b (ET b hb),λb hb=>?_,hp.o9.lt⟩,hp.fresh,hp.dst,⟨λo s t ho=>?_,λo o' s s' t t' v v' dG ho oY hv gZ k hk jh=>?_⟩,λo ho=>?_⟩
 .rcases hp.o9.grow b hb with h1|h1|h1
  .rcases SY b h1 with h2|⟨o,ho,rest⟩
   .exact .inl h2
   .exact .inr (.inr ⟨o,by simp[Cq,ho],rest⟩)
  .exact .inr (.inl h1)
  .exact .inr (.inr (pn b h1))
 .rcases part o s t ho with h1|⟨h1,h2,h3,h4⟩
  .obtain⟨u,a1,a2,a3,a4,a5⟩:=hp.made.obj o s t h1;exact⟨u,a1,a2,a3,a4,λk hk=>⟨(a5 k hk).1,(a5 k hk).2.1,(a5 k hk).2.2.imp id (pn k)⟩⟩
  .obtain⟨u,hu,eJ⟩:=yW.obj _ _ _ h3;have:=eJ.o9 yW hp.o9 h3 h1 hu;exact⟨u,hp.o9.mi.val _ _ hu,this.one,this.con,this.ok,λk hk=>(ko h4 hk).elim⟩
 .rcases part o s t ho with h1|⟨_,_,_,h4⟩
  .rcases part o' s' t' oY with h2|⟨_,_,_,h4'⟩
   .exact hp.made.apart o o' s s' t t' v v' dG h1 h2 hv gZ k hk jh
   .exact ko h4' jh
  .exact ko h4 hk
 .obtain⟨x,hx⟩:=arA.1 ho
  rcases part o x.1 x.2 hx with h1|⟨_,h2,_⟩
  .exact(hp.ids o (by rw[h1];rfl)).imp (λh=>by simp[Cq,h]) id
  .exact .inl (by simp[Cq,h2])
end
def kv(x y:Nat×Th):Prop:=x=y\/∃T d l h h',x.2= .deep T d l h/\y.2= .deep T d l h'
def kv.symm{x y:Nat×Th}(h:kv x y):kv y x:=by
 rcases h with rfl|⟨T,d,l,h,h',h1,h2⟩
 .exact .inl rfl
 .exact .inr ⟨T,d,l,h',h,h2,h1⟩
def kv.trans{x y z:Nat×Th}(h:kv x y)(h':kv y z):kv x z:=by
 rcases h with rfl|⟨T,d,l,a,b,h1,h2⟩
 .exact h'
 .rcases h' with rfl|⟨T',d',l',a',b',h3,h4⟩
  .exact .inr ⟨T,d,l,a,b,h1,h2⟩
  .rw[h2]at h3;cases h3;exact .inr ⟨T,d,l,a,b',h1,h4⟩
structure om where
 dst:Option Nat
 ts:List Nat
 os:List Nat
 e:gY
 ls:List Nat:=[]
 soft:List Nat:=[]
def ya:List (Nat×(Nat×Th))->List Nat
 |[]=>[]
 |(o,_)::l=>o::ya l
def om.mut(x:om):List Nat:=x.e.eat++ya x.e.make
def I4:Op->Bool
 | .call c=>match c.callee with
   | .builtin .len=>af
   |_=>ah
 |_=>ah
def V4(rd:Operand->Option aN):Op->List Nat
 | .load _ x=>match rd x with
   |some (.dlm o _ _ _ _)=>[o]
   |_=>[]
 |_=>[]
def jY(st:State)(op:Op):List Nat:=
 match op with
 | .move _=>[]
 | .assign _=>[]
 |_=>Ua st.aK st.objs (tmpsOf op.operands.toList)
noncomputable def Cr{R:Type}{P:Program}(E:Env P)(dst:Option Nat)(op:Op)(gs:List Nat)(st:State)(k:gY->om->Option R):Option R:=
 match hZ (lQ (jY st op) st.objs) (vd E (Oz (lQ (tmpsOf op.operands.toList) st.aK)) (lQ (jY st op) st.objs) op)with
 |some bC=>bif fnB dst op then T5 E (Oz (lQ (tmpsOf op.operands.toList) st.aK)) bC st.nxt dst op (λe=>
   (λe'=>k e' {dst:=dst,ts:=tmpsOf op.operands.toList++gs,os:=bif I4 op then[]else jY st op,e:=e',ls:=bif I4 op then jY st op else[],soft:=V4 (Oz (lQ (tmpsOf op.operands.toList) st.aK)) op}) (Cq bC (vd E (Oz (lQ (tmpsOf op.operands.toList) st.aK)) (lQ (jY st op) st.objs) op) e))else ae
 |none=>ae
structure V5(P:Program)(U:Nat->Prop)(o:Oper)(sl:Nat->Option aN)(ob:Nat->Option (Nat×Th))(n:Nat)(KI:om):Prop where
 dst:KI.dst=o.dst
 run:∃(slR:Nat->Option aN)(SR:Nat->Option (Nat×Th)),(∀t d,slR t=aa d->t∈KI.ts/\sl t=aa d)/\(∀q x,SR q=aa x->(q∈KI.os\/q∈KI.ls)/\ob q=aa x)/\
  ∀(H:aW)(F:Nat->Prop)(w:World)(ρ:Nat->Value)(M2:Nat->Option (Nat×Th)),(∀q x,SR q=aa x->∃x',M2 q=aa x'/\kv x x'/\(q∈KI.os->x'=x))->(∀t d,slR t=aa d->aO H F w d (ρ t))->aX U H F w M2 n->
   ∃ob2:Nat->Option (Nat×Th),(∀q x,ob2 q=aa x->M2 q=aa x)/\ef P ρ ⟨o.dst,o.op,o.type,o.pos,o.after,ae⟩ w (ph H F w ob2 n KI.e)
 soft:∀q∈KI.soft,q∈KI.mut->∃x y,ob q=aa x/\find KI.e.make q=aa y/\kv x y
def M3{ob Pp:Nat->Option (Nat×Th)}{D:aN}{k:Pv}(V6:∀q x,ob q=aa x->∃x',Pp q=aa x'/\kv x x')(h:yA ob D=aa k):∃k',yA Pp D=aa k'/\xT k'=xT k:=by
 unfold yA at h;split at h
 .cases h;exact⟨_,rfl,rfl⟩
 .cases h;exact⟨_,rfl,rfl⟩
 .rename_i o
  cases ho:ob o with
  |none=>rw[ho]at h;cases h
  |some x=>
   obtain⟨s,t⟩:=x;obtain⟨⟨s',t'⟩,h1,h2⟩:=V6 o _ ho;rw[ho]at h
   rcases h2 with e|⟨T,d,l,a,b,e1,e2⟩
   .cases e;exact⟨k,by show(match Pp o with|some (s, .own T r l)=>_|some (_, .yx _ r l)=>_|some (_, .fdeep _ d l)=>_|some (s, .deep T d l h)=>_|_=>_)=_;rw[h1];exact h,rfl⟩
   .simp only at e1 e2;subst e1 e2;cases h;exact⟨.deep o s' T d l b,by show(match Pp o with|some (s, .own T r l)=>_|some (_, .yx _ r l)=>_|some (_, .fdeep _ d l)=>_|some (s, .deep T d l h)=>_|_=>_)=_;rw[h1],rfl⟩
 .rename_i o s r m
  have hk:xT k=(m.length:Int):=by
   split at h
   .rename_i s' _ _ _ _
    cases hb:aqU s' s<;>rw[hb]at h<;>cases h<;>rfl
   .cases h;rfl
  rw[hk]
  show∃k',(match Pp o with|some (s', .yx ..)=>bif aqU s' s then aa (Pv.read r m)else aa (.view o s r m)|_=>aa (.view o s r m))=aa k'/\xT k'=_
  split
  .rename_i s' _ _ _ _
   cases hb:aqU s' s with
   |true=>exact⟨Pv.read r m,rfl,rfl⟩
   |false=>exact⟨Pv.view o s r m,rfl,rfl⟩
  .exact⟨Pv.view o s r m,rfl,rfl⟩
 .cases h
def M4{P:Program}(T:b7 P){ob Pp:Nat->Option (Nat×Th)}{t:TypeId}{D D':aN}(V6:∀q x,ob q=aa x->∃x',Pp q=aa x'/\kv x x')(h:MA T ob t D=aa D'):MA T Pp t D=aa D':=by
 unfold MA at h⊢;split at h
 .split at h
  case h_2=>cases h
  rename_i k hk;obtain⟨k',h1,h2⟩:=M3 V6 hk
  grind
 .exact h
 .cases h
def M5{P:Program}(T:b7 P){ob:Nat->Option (Nat×Th)}{n:Nat}{t:TypeId}{o:Nat}{d:DR}{i:Int}{p:List Bool}{off:Nat}{e:gY}(h:sM T ob n t (.dlm o d i p off) aa=aa e)(hm:o∈e.eat++ya e.make):
 ∃x y,ob o=aa x/\find e.make o=aa y/\kv x y:=by
 unfold sM u9 at h;simp only at h;split at h
 .cases h
 split at h
 case h_2=>cases h
 rename_i s T0 dr l hh ho;obtain⟨_,h⟩:=bz h;split at h
 .obtain⟨_,h⟩:=bz h;obtain⟨_,_,h⟩:=bind_some h;cases h;simp[ya]at hm
 .obtain⟨_,h⟩:=bz h;split at h
  .obtain⟨_,_,h⟩:=bind_some h;cases h;exact⟨_,(n, .deep T0 dr l _),ho,by rw[bA,al rfl], .inr ⟨T0,dr,l,ae,_,rfl,rfl⟩⟩
  .obtain⟨_,h⟩:=bz h;split at h
   .obtain⟨_,_,h⟩:=bind_some h;cases h;simp[ya]at hm
   .cases h
 .cases h
def Qc{P:Program}{E:Env P}{U:Nat->Prop}{R:Type}{o:Oper}{gs:List Nat}{st:State}{k:gY->om->Option R}{q:R}(h:Cr E o.dst o.op gs st k=aa q):
 ∃e KI,k e KI=aa q/\KI.e=e/\(∀g∈gs,g∈KI.ts)/\V5 P U o (find st.aK) (find st.objs) st.nxt KI:=by
 unfold Cr at h;split at h
 case h_2=>cases h
 rename_i bC Bn;obtain⟨Co,h'⟩:=bz h;clear h;rw[Qb]at h';obtain⟨e,he,hk⟩:=bind_some h'
 have Z9:∀t d,find (lQ (tmpsOf o.op.operands.toList) st.aK) t=aa d->t∈tmpsOf o.op.operands.toList/\find st.aK t=aa d:=λt d ht=>Cp.1 ht
 have Ub:∀q x,find (lQ (jY st o.op) st.objs) q=aa x->q∈jY st o.op/\find st.objs q=aa x:=λq x hx=>Cp.1 hx
 refine⟨_,_,hk,rfl,λg hg=>by simp[hg],rfl,⟨find (lQ (tmpsOf o.op.operands.toList) st.aK),find (lQ (jY st o.op) st.objs),(by grind),λq x hx=>⟨?_,(Ub q x hx).2⟩,λH F w ρ M2 V6 jq gz=>?_⟩,λq hq hm=>?_⟩
 .grind
 .cases hl:I4 o.op with
  |false=>
   simp only[hl,cond_false]at V6
   have kK:∀q x,find (lQ (jY st o.op) st.objs) q=aa x->M2 q=aa x:=(by grind)
   have yD:aX U H F w (find (lQ (jY st o.op) st.objs)) st.nxt:=⟨λo s t ho=>gz.obj o s t (kK _ _ ho),λo o' s s' t t' v v' dG ho oY=>gz.apart o o' s s' t t' v v' dG (kK _ _ ho) (kK _ _ oY),gz.fresh,gz.lt,gz.new,gz.gl⟩
   refine⟨_,kK,?_⟩;obtain⟨F1,yW,ET,SY⟩:=qX Bn yD
   have mf:Step F w F1 w:=λb hb=>⟨ET b hb,rfl⟩
   obtain⟨e',Qd,hs⟩:=P2 (ρ:=ρ) (ty:=o.type) (pos:=o.pos) (aft:=o.after) E (λx d hx=>zr yW.gl (λt d ht=>(jq t d ht).keep (aW.le.refl H) mf) x d hx) (λhn c hc=>by rw[hn,hc]at Co;exact Co) he yW;obtain rfl:=aqL Qd
   exact hs.mono λv w' hp=>M1 Bn yW ET SY hp
  |true=>
   refine⟨M2,λ_ _ h=>h,?_⟩;obtain⟨Xc,oop,oty,aeh,aei,ogd⟩:=o;simp only at*
   cases oop<;>try(cases hl;done)
   rename_i c;obtain⟨callee,args,Ba⟩:=c
   cases callee<;>try(cases hl;done)
   rename_i b
   cases b<;>try(cases hl;done)
   cases Xc with
   |none=>cases Co
   |some d=>
    have TK:vd E (Oz (lQ (tmpsOf (Op.operands (.call {callee:= .builtin .len,args:=args,argTypes:=Ba})).toList) st.aK)) (lQ (jY st (.call {callee:= .builtin .len,args:=args,argTypes:=Ba})) st.objs) (.call {callee:= .builtin .len,args:=args,argTypes:=Ba})=[]:=by unfold vd;cases E.deep<;>rfl
    rw[TK]at Bn⊢;obtain rfl:=aqL Bn;have Uc:uL E _ _ st.nxt (.builtin .len) args Ba aa=aa e:=he;unfold uL at Uc;simp only at Uc;split at Uc
    case h_2=>cases Uc
    rename_i x t ha ht;obtain rfl:=ic ha;obtain rfl:=ic ht;split at Uc
    case h_2=>cases Uc
    rename_i D hD;split at Uc
    case h_2=>cases Uc
    rename_i D' To;cases Uc;have hlen:=M4 E.T (λq x hx=>by obtain⟨x',h1,h2,_⟩:=V6 q x hx;exact⟨x',h1,h2⟩) To;exact Kk E.T hlen gz (zr gz.gl jq _ _ hD)
 .obtain⟨Xc,oop,oty,aeh,aei,ogd⟩:=o;simp only at*
  cases oop<;>try(cases hq;done)
  rename_i t x;unfold V4 at hq;simp only at hq;split at hq
  case h_2=>cases hq
  rename_i o' d0 i p off kA;obtain rfl:=aq5.1 hq
  have TK:vd E (Oz (lQ (tmpsOf (Op.operands (.load t x)).toList) st.aK)) (lQ (jY st (.load t x)) st.objs) (.load t x)=[]:=by unfold vd;cases E.deep<;>rfl
  rw[TK]at Bn hm⊢;obtain rfl:=aqL Bn
  cases Xc with
  |none=>cases he
  |some d=>
   unfold T5 at he;simp only[kA]at he
   have EM:q∈e.eat++ya e.make:=by
    simpa[om.mut,Cq,sj,del]using hm
   obtain⟨x1,y1,h1,h2,h3⟩:=M5 E.T he EM;refine⟨x1,y1,(Ub _ _ h1).2,?_,h3⟩
   show find (e.make++_) q=_
   rw[kH,h2];rfl
end Go.Proofs.YtfjgcenlllgonaaGreatDoor
namespace Go.Proofs.YtfjgcenlllgonaaGreatDoor
open Go Go.RowKit
def Bv(acc:List Nat)(i:Nat):List Edge->Option Nat
 |[]=>aa 0
 |e::l=>match Bv acc i l with
  |some m=>bif asf .any e then(bif art e.on i then aa (m|||2 ^ e.on|||acc.getD e.on 0)else ae)else aa m
  |none=>ae
def M6(acc:List Nat):List Oper->Option (List Nat)
 |[]=>aa acc
 |o::l=>match Bv acc acc.length o.after.toList with
  |some m=>M6 (acc++[m]) l
  |none=>ae
def qH(d:Option Nat)(l:List Nat):Bool:=
 match d with
 |some t=>rH t l
 |none=>ah
def FX(l l':List Nat):Bool:=l.any λo=>rH o l'
def om.aaa(x:om):List Nat:=x.mut.filter λo=> !rH o x.soft
def conflict(a b:om):Bool:=
 qH a.dst b.ts||qH b.dst a.ts||qH a.dst (b.dst.toList)||FX a.mut (b.os++b.mut)||FX a.aaa b.ls||FX (a.os++a.ls++a.mut) b.mut
def DG(ms:List Nat)(i:Nat)(x:om):Nat->List om->Bool
 |_,[]=>af
 |j,y::l=>(bif conflict x y then Nat.testBit (ms.getD j 0) i else af)&&DG ms i x (j+1) l
def yY(ms:List Nat):Nat->List om->Bool
 |_,[]=>af
 |i,x::l=>DG ms i x (i+1) l&&yY ms (i+1) l
def xo(ops:List Oper)(es:List om):Bool:=
 match M6 [] ops with
 |some ms=>yY ms 0 es
 |none=>ah
section
variable {ops:Array Oper}
def I5(ops:Array Oper)(S:Nat->Prop):Prop:=∀i,S i->∀o,ops[i]? =aa o->∀e∈o.after,asf .any e=af->S e.on
def DH{acc:List Nat}{i:Nat}:{l:List Edge}->{m:Nat}->Bv acc i l=aa m->∀j,m.testBit j=af->∃e∈l,asf .any e=af/\e.on<i/\(e.on=j\/(acc.getD e.on 0).testBit j=af)
 |[],m,h,j,hj=>by
  obtain rfl:=aqL h;simp at hj
 |e::l,m,h,j,hj=>by
  unfold Bv at h;split at h
  case h_2=>cases h
  rename_i m0 h0
  cases hb:asf .any e with
  |false=>
   rw[hb,cond_false]at h;obtain rfl:=aqL h;obtain⟨e',a1,a2⟩:=DH h0 j hj;exact⟨e',by simp[a1],a2⟩
  |true=>
   rw[hb,cond_true]at h
   cases aI:art e.on i with
   |false=>rw[aI]at h;cases h
   |true=>
    rw[aI,cond_true]at h;obtain rfl:=aqL h;rw[Nat.testBit_or,Nat.testBit_or,Bool.or_eq_true,Bool.or_eq_true]at hj
    have alJ:e.on<i:=by simpa using aI
    rcases hj with(hj|hj)|hj
    .obtain⟨e',a1,a2⟩:=DH h0 j hj;exact⟨e',by simp[a1],a2⟩
    all_goals grind
def KJ{acc:List Nat}{i:Nat}:{l:List Edge}->{m:Nat}->Bv acc i l=aa m->∀e∈l,asf .any e=af->e.on<i
 |[],m,h,e,he,_=>by cases he
 |e0::l,m,h,e,he,hb=>by
  unfold Bv at h;split at h
  case h_2=>cases h
  rename_i m0 h0
  rcases arw.1 he with rfl|he
  .rw[hb,cond_true]at h
   cases aI:art e.on i<;>simp_all
  .exact KJ h0 e he hb
def DI:{l:List Oper}->{acc ms:List Nat}->M6 acc l=aa ms->ms.length=acc.length+l.length/\(∀i,i<acc.length->ms.getD i 0=acc.getD i 0)/\
 ∀k o,l[k]? =aa o->∃m,Bv ms (acc.length+k) o.after.toList=aa m/\ms.getD (acc.length+k) 0=m
 |[],acc,ms,h=>by
  obtain rfl:=aqL h
  grind
 |o0::l,acc,ms,h=>by
  unfold M6 at h;split at h
  case h_2=>cases h
  rename_i m hm;obtain⟨a1,a2,a3⟩:=DI h;rw[aqT,aq8]at a1 a2 a3
  have aej:∀i,i<acc.length->ms.getD i 0=acc.getD i 0:=(by grind)
  have alK:∀(l:List Edge)(m:Nat),Bv acc acc.length l=aa m->Bv ms acc.length l=aa m:=by
   intro l
   induction l with
   |nil=>intro m h;exact h
   |cons e l ih=>
    intro m h;unfold Bv at h⊢;split at h
    case h_2=>cases h
    rename_i m0 h0;rw[ih m0 h0];simp only
    cases hb:asf .any e with
    |false=>rw[hb]at h;exact h
    |true=>
     rw[hb,cond_true]at h
     cases aI:art e.on acc.length<;>simp_all
  grind
theorem Qe{ms:List Nat}(h:M6 [] ops.toList=aa ms){S:Nat->Prop}(hS:I5 ops S):∀i o,ops[i]? =aa o->(∀e∈o.after,asf .any e=af->S e.on)->∀j,(ms.getD i 0).testBit j=af->S j:=by
 obtain⟨_,_,a3⟩:=DI h;intro i
 induction i using Nat.strongRecOn with
 |_ i ih=>
  intro o ho hd j hj;obtain⟨m,h1,h2⟩:=a3 i o (by rw[Array.getElem?_toList];exact ho);simp only[List.length_nil,arl]at h1 h2;rw[h2]at hj;obtain⟨e,he,hb,aI,h3⟩:=DH h1 j hj;have hSe:=hd e (by simpa using he) hb
  rcases h3 with rfl|h3
  .exact hSe
  .have aab:e.on<ops.size:=by
    have:=(Array.getElem?_eq_some_iff.1 ho).1;omega
   exact ih e.on aI _ (arp aab) (λe' Qd sE=>hS e.on hSe _ (arp aab) e' Qd sE) j h3
end
def jG(S:Nat->Bool):Nat->List om->(Nat->Option aN)->Nat->Option aN
 |_,[],f=>f
 |i,x::l,f=>jG S (i+1) l (λt=>bif S i&&qH (aa t) x.dst.toList then aa x.e.dst else f t)
def iX(S:Nat->Bool):Nat->List om->(Nat->Option (Nat×Th))->Nat->Option (Nat×Th)
 |_,[],f=>f
 |i,x::l,f=>iX S (i+1) l (λo=>bif S i then(find x.e.make o).or (bif rH o x.e.eat then ae else f o)else f o)
theorem ub{l:List (Nat×(Nat×Th))}{o:Nat}{x:Nat×Th}(h:find l o=aa x):o∈ya l:=by
 induction l with
 |nil=>cases h
 |cons p l ih=>
  obtain⟨o',y⟩:=p;rw[bA]at h;split at h
  .rename_i e;subst e;exact ary
  .exact List.mem_cons_of_mem _ (ih h)
theorem yZ{d:Option Nat}{t:Nat}:qH (aa t) d.toList=af↔d=aa t:=by
 grind [qH,iM]
theorem oJ{S S':Nat->Bool}{t:Nat}:{l:List om}->{i:Nat}->{f f':Nat->Option aN}->f t=f' t->(∀k x,l[k]? =aa x->x.dst=aa t->S (i+k)=S' (i+k))->jG S i l f t=jG S' i l f' t
 |[],_,_,_,hf,_=>hf
 |x::l,i,f,f',hf,h=>by
  show jG S (i+1) l _ t=jG S' (i+1) l _ t
  refine oJ ?_ λk y hy hd=>by
   have:=h (k+1) y (by simpa using hy) hd
   rwa [show i+(k+1)=i+1+k from by omega]at this
  by_cases hd:x.dst=aa t
  .have:=h 0 x rfl hd;simp only[Nat.add_zero]at this;rw[this,hf]
  grind [yZ]
theorem nZ{S S':Nat->Bool}{o:Nat}:{l:List om}->{i:Nat}->{f f':Nat->Option (Nat×Th)}->f o=f' o->(∀k x,l[k]? =aa x->o∈x.mut->S (i+k)=S' (i+k))->iX S i l f o=iX S' i l f' o
 |[],_,_,_,hf,_=>hf
 |x::l,i,f,f',hf,h=>by
  show iX S (i+1) l _ o=iX S' (i+1) l _ o
  refine nZ ?_ λk y hy hd=>by
   have:=h (k+1) y (by simpa using hy) hd
   rwa [show i+(k+1)=i+1+k from by omega]at this
  by_cases hd:o∈x.mut
  .have:=h 0 x rfl hd;simp only[Nat.add_zero]at this;rw[this,hf]
  .have h1:find x.e.make o=ae:=by
    cases hm:find x.e.make o with
    |none=>rfl
    |some y=>exact absurd (by simp[om.mut,ub hm]) hd
   have h2:rH o x.e.eat=ah:=by
    cases hb:rH o x.e.eat with
    |false=>rfl
    |true=>exact absurd (by simp[om.mut,iM.1 hb]) hd
   grind
theorem rJ{S:Nat->Bool}{t:Nat}:{l:List om}->{i:Nat}->{f:Nat->Option aN}->(∀k x,l[k]? =aa x->x.dst=aa t->S (i+k)=ah)->jG S i l f t=f t
 |[],_,_,_=>rfl
 |x::l,i,f,h=>by
  show jG S (i+1) l _ t=_
  rw[rJ λk y hy hd=>by
   have:=h (k+1) y (by simpa using hy) hd
   rwa [show i+(k+1)=i+1+k from by omega]at this]
  by_cases hd:x.dst=aa t
  .have:=h 0 x rfl hd;simp only[Nat.add_zero]at this;simp[this]
  grind [yZ]
def q7{S:Nat->Bool}{o:Nat}:{l:List om}->{i:Nat}->{f:Nat->Option (Nat×Th)}->(∀k x,l[k]? =aa x->o∈x.mut->S (i+k)=ah)->iX S i l f o=f o
 |[],_,_,_=>rfl
 |x::l,i,f,h=>by
  show iX S (i+1) l _ o=_
  rw[q7 λk y hy hd=>by
   have:=h (k+1) y (by simpa using hy) hd
   rwa [show i+(k+1)=i+1+k from by omega]at this]
  by_cases hd:o∈x.mut
  .have:=h 0 x rfl hd;simp only[Nat.add_zero]at this;simp[this]
  .have h1:find x.e.make o=ae:=by
    cases hm:find x.e.make o with
    |none=>rfl
    |some y=>exact absurd (by simp[om.mut,ub hm]) hd
   have h2:rH o x.e.eat=ah:=by
    cases hb:rH o x.e.eat with
    |false=>rfl
    |true=>exact absurd (by simp[om.mut,iM.1 hb]) hd
   grind
def rK{S:Nat->Bool}{l l':List om}{i:Nat}{f:Nat->Option aN}:jG S i (l++l') f=jG S (i+l.length) l' (jG S i l f):=by
 induction l generalizing i f with
 |nil=>rfl
 |cons x l ih=>
  grind [jG]
def mU{S:Nat->Bool}{l l':List om}{i:Nat}{f:Nat->Option (Nat×Th)}:iX S i (l++l') f=iX S (i+l.length) l' (iX S i l f):=by
 induction l generalizing i f with
 |nil=>rfl
 |cons x l ih=>
  grind [iX]
end Go.Proofs.YtfjgcenlllgonaaGreatDoor
end
section
open _root_.Bool renaming false->ah,true->af,false_eq_true->aqM
open _root_.Option renaming none->ae,some->aa
open _root_.Array renaming getD_eq_getD_getElem?->arz,getElem?_eq_getElem->arp
open _root_.List renaming drop_eq_getElem_cons->aq6,getElem?_drop->arC,getElem?_eq_getElem->aqK,getElem?_eq_some_iff->aqQ,getElem_of_mem->aqZ,length_append->aqT,length_cons->arh,length_singleton->aq8,mem_of_getElem?->arJ,range->arK,take_append_drop->ar5
open _root_.Nat renaming beq->aqU,blt->art,le_refl->aqS,zero_add->arl
open _root_.Option.some renaming inj->aqL
open _root_.Go.Region renaming binds->asf,wanted->ar7
namespace Go.Proofs.YtfjgcenlllgonaaGreatDoor
open Go Go.RowKit
def z7{ms:List Nat}{i:Nat}{x:om}:{l:List om}->{j:Nat}->DG ms i x j l=af->∀k y,l[k]? =aa y->conflict x y=af->(ms.getD (j+k) 0).testBit i=af
 |[],_,_,k,y,h,_=>by simp at h
 |z::l,j,hl,k,y,h,hc=>by
  obtain⟨h1,h2⟩:=e8 hl
  cases k with
  |zero=>
   grind
  |succ k=>
   have:=z7 h2 k y (by simpa using h) hc
   grind
def vf{ms:List Nat}:{l:List om}->{i:Nat}->yY ms i l=af->∀a b x y,a<b->l[a]? =aa x->l[b]? =aa y->conflict x y=af->(ms.getD (i+b) 0).testBit (i+a)=af
 |[],_,_,a,b,x,y,_,h,_,_=>by simp at h
 |z::l,i,hl,a,b,x,y,yB,hx,hy,hc=>by
  obtain⟨h1,h2⟩:=e8 hl
  cases a with
  |zero=>
   obtain rfl:z=x:=by simpa using hx
   cases b with
   |zero=>omega
   |succ b=>
    have:=z7 h1 b y (by simpa using hy) hc
    grind
  |succ a=>
   cases b with
   |zero=>omega
   |succ b=>
    have:=vf h2 a b x y (by omega) (by simpa using hx) (by simpa using hy) hc
    grind
inductive Xd(ops:Array Oper)(nt:Nat)(ts:List Nat)(sl:Nat->Option aN):Option (Nat×Bool)->Bool->Prop
 |none:Xd ops nt ts sl ae af
 |lit {j g:Nat} {b t:Bool} {d:aN} (h1:KH ops j=aa g) (h2:art g nt=af) (h3:g∈ts) (h4:sl g=aa d) (h5:asBool d=aa t):Xd ops nt ts sl (aa (j,b)) (decide (t=b))
 |undef {j g:Nat} {b:Bool} (h1:KH ops j=aa g) (h2:art g nt=af) (h3:g∈ts) (h4:sl g=aa .undef):Xd ops nt ts sl (aa (j,b)) ah
structure Xe(P:Program)(ops:Array Oper)(nt:Nat)(U:Nat->Prop)(o:Oper)(sl:Nat->Option aN)(ob:Nat->Option (Nat×Th))(n:Nat)(x:om):Prop where
 dst:x.dst=o.dst
 I6:FJ nt o.dst=af
 on:∃b,Xd ops nt x.ts sl o.guard b/\(b=af->V5 P U o sl ob n x)/\(b=ah->x.e={dst:= .undef})
section
variable {P:Program} {nt:Nat} {ops:Array Oper}
def Ud{ρ:Nat->Value}{o:Oper}{w:World}{QQ:Value->World->Prop}{a:Act}{K:Act->World->Prop}{Q:Exit->Act->World->Prop}(h:ef P ρ ⟨o.dst,o.op,o.type,o.pos,o.after,ae⟩ w QQ)(hf:Fr nt a ρ)
 (hk:∀v w',QQ v w'->K (a.put o.dst v) w'):o.wp P a w K Q:=by
 unfold Oper.wp;rw[hf.eval];unfold ef at h;have e:execOp (ev ρ) o=execOp (ev ρ) ⟨o.dst,o.op,o.type,o.pos,o.after,ae⟩:=rfl;rw[e];generalize(execOp (ev ρ) ⟨o.dst,o.op,o.type,o.pos,o.after,ae⟩).run P w=r at*
 cases r with
 |halt x w'=>exact h.elim
 |ok x w'=>
  cases x<;>first
   |exact h.elim
   |skip
  case value v=>exact hk v w' h.2
  case skip=>exact hk undef w' h.2
  case enter f args=>
   refine h.mono λe yQ ⟨v,he,hv⟩=>?_
   grind
def aX.sub{U:Nat->Prop}{H:aW}{F:Nat->Prop}{w:World}{ob SR:Nat->Option (Nat×Th)}{n m:Nat}(h:aX U H F w ob n)(hR:∀o x,SR o=aa x->ob o=aa x)(EU:∀k,m<=k->k<m+16->H.val k=ae/\H.con k=ae):aX U H F w SR m:=
 ⟨λo s t ho=>h.obj o s t (hR _ _ ho),λo o' s s' t t' v v' dG ho oY=>h.apart o o' s s' t t' v v' dG (hR _ _ ho) (hR _ _ oY),EU,h.lt,h.new,h.gl⟩
structure Inv(G:Nat->Prop)(w0:World)(F0:Nat->Prop)(es:List om)(sl0:Nat->Option aN)(ob0:Nat->Option (Nat×Th))(n0:Nat)(H:aW)(F:Nat->Prop)(w:World)(ρ:Nat->Value)(S:Nat->Bool)(H':aW)(F':Nat->Prop)(w':World)(di:Nat->Value):Prop where
 slot:∀t d,jG S 0 es sl0 t=aa d->aO H' F' w' d (di t)
 ob:aX (UU G w0) H' F' w' (iX S 0 es ob0) (n0+16*es.length)
 all:lT H' (n0+16*es.length)
 fresh:∀i,i<es.length->S i=ah->∀m,n0+16*i<=m->m<n0+16*i+16->H'.val m=ae/\H'.con m=ae
 glob:PM G w0 F0 w' F'
 keeps:dB H F w H' F' w'
 same:∀t,(∀x∈es,x.dst≠aa t)->di t=ρ t
def ins(S:Nat->Bool)(i:Nat):Nat->Bool:=λj=>bif aqU j i then af else S j
theorem sS{S:Nat->Bool}{i:Nat}:ins S i i=af:=by simp[ins]
theorem sT{S:Nat->Bool}{i j:Nat}(h:j≠i):ins S i j=S j:=by
 grind [ins,beq_true]
section
variable {G:Nat->Prop} {w0:World} {F0:Nat->Prop} {es:List om} {sl0:Nat->Option aN} {ob0:Nat->Option (Nat×Th)} {n0:Nat} {H:aW} {F:Nat->Prop} {w:World} {ρ:Nat->Value} {ms:List Nat}
def FZ{i:Nat}{x:om}(h:es[i]? =aa x):es=es.take i++x::es.drop (i+1)/\(es.take i).length=i:=by
 grind [aq6,ar5]
def Ct{S:Nat->Bool}{i:Nat}{x:om}(hx:es[i]? =aa x)(aac:∀t,x.dst=aa t->∀j y,es[j]? =aa y->y.dst=aa t->S j=af->j<i)(t:Nat):
 jG (ins S i) 0 es sl0 t=if x.dst=aa t then aa x.e.dst else jG S 0 es sl0 t:=by
 by_cases hd:x.dst=aa t
 .rw[al hd];obtain⟨e1,e2⟩:=FZ hx;rw[e1,rK,e2,arl]
  show jG (ins S i) (i+1) (es.drop (i+1)) _ t=_
  grind [rJ,sT,sS,yZ]
 grind [oJ,sT]
def F5{S:Nat->Bool}{i:Nat}{x:om}(hx:es[i]? =aa x)(hS:S i=ah)(aac:∀o,o∈x.mut->∀j y,es[j]? =aa y->o∈y.mut->S j=af->j<i)(o s:Nat)(t:Th)(h:iX (ins S i) 0 es ob0 o=aa (s,t)):
 find x.e.make o=aa (s,t)\/(o∉x.e.eat/\iX S 0 es ob0 o=aa (s,t)/\find x.e.make o=ae):=by
 by_cases hd:o∈x.mut
 .obtain⟨e1,e2⟩:=FZ hx
  have late:∀S':Nat->Bool,(∀j,j≠i->S' j=S j)->∀f,iX S' (i+1) (es.drop (i+1)) f o=f o:=λS' hS' f=>q7 (by grind)
  have pre:iX (ins S i) 0 (es.take i) ob0 o=iX S 0 (es.take i) ob0 o:=nZ rfl λk y hy _=>by
   grind [sT]
  have all:iX S 0 es ob0 o=iX S 0 (es.take i) ob0 o:=by
   conv=>lhs;rw[e1]
   rw[mU,e2,arl]
   show iX S (i+1) (es.drop (i+1)) _ o=_
   rw[late S (λ_ _=>rfl),hS];rfl
  conv at h=>lhs;rw[e1]
  rw[mU,e2,arl]at h;change iX (ins S i) (i+1) (es.drop (i+1)) _ o=_ at h;rw[late (ins S i) (λj hj=>sT hj),sS,cond_true,pre,<-all]at h
  cases hm:find x.e.make o with
  |some y=>grind
  |none=>
   rw[hm,Option.none_or]at h
   cases he:rH o x.e.eat with
   |true=>rw[he]at h;cases h
   |false=>
    grind [iM]
 .right
  have h1:find x.e.make o=ae:=by
   cases hm:find x.e.make o with
   |none=>rfl
   |some y=>grind [om.mut,ub]
  grind [om.mut,nZ,sT]
theorem q8{l l':List Nat}{o:Nat}(h:o∈l)(h':o∈l'):FX l l'=af:=by
 grind [FX,iM]
theorem z8{i j:Nat}(h:i<=j):art j i=ah:=by
 cases hb:art j i with
 |false=>rfl
 |true=>have:j<i:=by simpa using hb
        omega
def M7(_:Nat):Bool:=af
def I7{es:List om}{i:Nat}(hi:i<=es.length):jG (λj=>art j i) 0 es sl0=jG M7 0 (es.take i) sl0:=by
 funext t
 conv=>lhs;rw[<-ar5 i es]
 rw[rK,rJ (S:=λj=>art j i) λk x _ _=>z8 (by simp;omega)]
 refine oJ rfl λk x hx _=>?_
 have:=(aqQ.1 hx).1;simp at this;simp[M7];omega
def Cu{es:List om}{i:Nat}(hi:i<=es.length):iX (λj=>art j i) 0 es ob0=iX M7 0 (es.take i) ob0:=by
 funext t
 conv=>lhs;rw[<-ar5 i es]
 rw[mU,q7 (S:=λj=>art j i) λk x _ _=>z8 (by simp;omega)]
 refine nZ rfl λk x hx _=>?_
 have:=(aqQ.1 hx).1;simp at this;simp[M7];omega
def M8{S:Nat->Bool}{i q:Nat}(hA:∀k y,k<i->es[k]? =aa y->q∈y.mut->S k=af\/q∈y.soft)
 (hs:∀k y,es[k]? =aa y->q∈y.soft->q∈y.mut->∃z z',iX M7 0 (es.take k) ob0 q=aa z/\find y.e.make q=aa z'/\kv z z'):
 ∀m,m<=i->m<=es.length->∀z,iX M7 0 (es.take m) ob0 q=aa z->∃z',iX S 0 (es.take m) ob0 q=aa z'/\kv z z':=by
 intro m
 induction m with
 |zero=>intro _ _ z hz;exact⟨z,hz, .inl rfl⟩
 |succ m ih=>
  intro hm hl z hz
  have aI:m<es.length:=by omega
  have hy:es[m]? =aa es[m]:=aqK aI
  have e1:es.take (m+1)=es.take m++[es[m]]:=by rw[List.take_add_one,hy];rfl
  have el:(es.take m).length=m:=by simp;omega
  rw[e1,mU,el,arl]at hz⊢;generalize hgy:es[m]=y at*;have ez:(find y.e.make q).or (bif rH q y.e.eat then ae else iX M7 0 (es.take m) ob0 q)=aa z:=hz
  show∃z',(bif S m then(find y.e.make q).or (bif rH q y.e.eat then ae else iX S 0 (es.take m) ob0 q)else iX S 0 (es.take m) ob0 q)=aa z'/\kv z z'
  by_cases aad:q∈y.mut
  .cases hSm:S m with
   |true=>
    rw[cond_true]
    cases Bc:find y.e.make q with
    |some x=>rw[Bc]at ez;exact⟨z,ez, .inl rfl⟩
    |none=>
     grind
   |false=>
    rw[cond_false]
    rcases hA m y (by omega) hy aad with h|h
    .rw[hSm]at h;cases h
    .obtain⟨x,x',h1,h2,h3⟩:=hs m y hy h aad;rw[h2]at ez;obtain rfl:=aqL ez;obtain⟨z',h4,h5⟩:=ih (by omega) (by omega) x h1;exact⟨z',h4,h3.symm.trans h5⟩
  .have h1:find y.e.make q=ae:=by
    cases hm:find y.e.make q with
    |none=>rfl
    |some y=>grind [om.mut,ub]
   grind
def Aa(M9:M6 [] ops.toList=aa ms)(hp:yY ms 0 es=af)(hlen:es.length=ops.size){S:Nat->Bool}(hS:I5 ops (λj=>S j=af)){i:Nat}{o:Oper}{x:om}(ho:ops[i]? =aa o)(hx:es[i]? =aa x)(Xf:S i=ah)
 (V7:∀e∈o.after,asf .any e=af->S e.on=af)(V8:∀k y,es[k]? =aa y->∀q,q∈y.soft->q∈y.mut->∃z z',iX M7 0 (es.take k) ob0 q=aa z/\find y.e.make q=aa z'/\kv z z')(fJ:Xe P ops nt (UU G w0) o (jG (λj=>art j i) 0 es sl0) (iX (λj=>art j i) 0 es ob0) (n0+16*i) x)
 {H':aW}{F':Nat->Prop}{w':World}{di:Nat->Value}{a:Act}(hf:Fr nt a di)(hinv:Inv G w0 F0 es sl0 ob0 n0 H F w ρ S H' F' w' di){K:Act->World->Prop}{Q:Exit->Act->World->Prop}
 (hk:∀a'' vV wV Fq yQ,Fr nt a'' vV->Inv G w0 F0 es sl0 ob0 n0 H F w ρ (ins S i) wV Fq yQ vV->K a'' yQ):wpOp P ops Q i K a w':=by
 have aae:i<es.length:=(aqQ.1 hx).1
 have up:∀j y,es[j]? =aa y->j<i->conflict y x=af->S j=af:=λj y hy hji hc=>by
  have:=vf hp j i y x hji hy hx hc
  grind [Qe]
 have down:∀j y,es[j]? =aa y->i<j->conflict x y=af->S j=af->False:=λj y hy ZN hc hj=>by
  have:=vf hp i j x y ZN hx hy hc;rw[arl,arl]at this
  have TY:j<ops.size:=by have:=(aqQ.1 hy).1;omega
  have h2:=Qe M9 hS j _ (arp TY) (λe he hb=>hS j hj _ (arp TY) e he hb) i this
  grind
 have V9:∀t,x.dst=aa t->∀j y,es[j]? =aa y->y.dst=aa t->S j=af->j<i:=λt ht j y hy hyt hj=>by
  grind [conflict,qH,iM]
 have Wa:∀q,q∈x.mut->∀j y,es[j]? =aa y->q∈y.mut->S j=af->j<i:=λq hq j y hy Zd hj=>by
  grind [conflict,q8]
 have Xg:∀t,t∈x.ts->jG (λj=>art j i) 0 es sl0 t=jG S 0 es sl0 t:=λt ht=>oJ rfl λj y hy hyt=>by
  rw[arl]
  rcases Nat.lt_trichotomy j i with h|h|h
  .rw[up j y hy h (by unfold conflict;simp[qH,hyt,iM,ht])];simpa using h
  all_goals grind [z8,conflict,qH,iM]
 have alM:∀q,q∈x.os->iX (λj=>art j i) 0 es ob0 q=iX S 0 es ob0 q:=λq hq=>nZ rfl λj y hy Zd=>by
  rw[arl]
  rcases Nat.lt_trichotomy j i with h|h|h
  .rw[up j y hy h (by grind [conflict,q8])];simpa using h
  .grind [z8]
  .have:S j=ah:=by
    cases hj:S j with
    |false=>rfl
    |true=>exact(down j y hy h (by unfold conflict;rw[q8 (l:=x.os++x.ls++x.mut) (l':=y.mut) (by simp[hq]) Zd];simp) hj).elim
   rw[this];exact z8 (by omega)
 have alN:∀q z,q∈x.ls->iX (λj=>art j i) 0 es ob0 q=aa z->∃z',iX S 0 es ob0 q=aa z'/\kv z z':=λq z hq hz=>by
  rw[Cu (by omega)]at hz
  obtain⟨z',h1,h2⟩:=M8 (S:=S) (i:=i) (q:=q) (λk y hk hy Zd=>by
   by_cases hsf:q∈y.soft
   .exact .inr hsf
   .refine .inl (up k y hy hk ?_)
    have:q∈y.aaa:=List.mem_filter.2 ⟨Zd,by
     cases hb:rH q y.soft with
     |false=>rfl
     |true=>exact absurd (iM.1 hb) hsf⟩
    grind [conflict,q8]) (by grind) i (aqS _) (by omega) z hz
  refine⟨z',?_,h2⟩;rw[<-h1]
  conv=>lhs;rw[<-ar5 i es]
  rw[mU]
  refine q7 λk y hy Zd=>?_
  have Qf:es[i+k]? =aa y:=by rw[<-hy,arC]
  have el:(es.take i).length=i:=by simp;omega
  rw[el,arl]
  cases hSk:S (i+k)with
  |false=>rfl
  |true=>
   rcases Nat.eq_zero_or_pos k with rfl|hk
   .grind
   .exact(down (i+k) y Qf (by omega) (by unfold conflict;rw[q8 (l:=x.os++x.ls++x.mut) (l':=y.mut) (by simp[hq]) Zd];simp) hSk).elim
 obtain⟨b,hg,hon,Tw⟩:=fJ.on
 have aag:ar7 o (yielded ops a.tmps)=b:=by
  generalize hog:o.guard=gd at hg
  cases hg with
  |none=>unfold ar7;rw[hog]
  |lit h1 h2 h3 h4 h5=>
   rename_i j g b' t d;rw[Xg g h3]at h4;have hy:=rz hf h1 h2 (qS h5 (hinv.slot g _ h4));unfold ar7
   grind
  |undef h1 h2 h3 h4=>
   rename_i j g b';rw[Xg g h3]at h4;have hy:=qE hf h1 h2 (show di g=undef from hinv.slot g _ h4);unfold ar7
   grind
 have zq:∀v,Fr nt (a.put o.dst v) (yy di o.dst v):=λv=>by
  have hb:=fJ.I6
  cases hd:o.dst with
  |none=>exact hf
  |some d=>rw[hd]at hb;exact hf.put hb v
 have I8:∀t,x.dst=aa t↔o.dst=aa t:=λt=>by rw[fJ.dst]
 unfold wpOp;simp only[ho,aag]
 cases b with
 |false=>
  simp only[aqM,if_false];have he:=Tw rfl;refine hk _ (yy di o.dst undef) H' F' w' (zq undef) ⟨λt d ht=>?_,?_,hinv.all,λk hk Bw=>?_,hinv.glob,hinv.keeps,λt ht=>?_⟩
  .rw[Ct hx V9]at ht;split at ht
   .rename_i Xh;obtain rfl:=aqL ht;rw[he]
    show yy di o.dst undef t=undef
    rw[(I8 t).1 Xh]
    show Ih di t undef t=undef
    rw[sH,al rfl]
   .rename_i Xh;rw[ua (λe=>Xh ((I8 t).2 e))];exact hinv.slot t d ht
  .refine hinv.ob.sub (λq y hq=>?_) (λm hm _=>hinv.all m hm)
   rcases F5 hx Xf Wa q y.1 y.2 hq with h1|⟨_,h2,_⟩
   .rw[he]at h1;cases h1
   .exact h2
  .by_cases e:k=i
   .subst e;rw[sS]at Bw;cases Bw
   .rw[sT e]at Bw;exact hinv.fresh k hk Bw
  .rw[ua (λe=>ht x (arJ hx) ((I8 t).2 e))];exact hinv.same t ht
 |true=>
  simp only[if_true]
  left
  obtain⟨_,⟨slR,SR,Z9,Ub,cO⟩,_⟩:=hon rfl
  obtain⟨ob2,kK,cO⟩:=cO H' F' w' di (iX S 0 es ob0) (λq y hq=>by
   obtain⟨h1,h2⟩:=Ub q y hq;by_cases hos:q∈x.os
   .exact⟨y,by grind, .inl rfl,λ_=>rfl⟩
   grind) (λt d ht=>by
   obtain⟨h1,h2⟩:=Z9 t d ht;rw[Xg t h1]at h2
   exact hinv.slot t d h2) (hinv.ob.sub (λ_ _ h=>h) (hinv.fresh i aae Xf))
  have FG:=hinv.ob.sub kK (hinv.fresh i aae Xf)
  refine Ud cO hf λv yQ ⟨wV,Fq,xY⟩=>?_
  .have uH:=xY.o9.step FG.lt FG.kJ
   have kt:lT wV (n0+16*es.length):=λm hm=>by
    have h1:=hinv.all m hm;have h2:=xY.fresh m (.inr (by omega));exact⟨h2.1 h1.1,h2.2 h1.2⟩
   refine hk _ (yy di o.dst v) wV Fq yQ (zq v) ⟨λt d ht=>?_,?_,kt,λk hk Bw m hm1 hm2=>?_,hinv.glob.o9 xY.o9 FG.km,hinv.keeps.trans ⟨xY.o9.mi,uH⟩,λt ht=>?_⟩
   .rw[Ct hx V9]at ht;split at ht
    .rename_i Xh;obtain rfl:=aqL ht;rw[(I8 t).1 Xh]
     show aO wV Fq yQ _ (Ih di t v t)
     grind [sH,qG.dst]
    .rename_i Xh;rw[ua (λe=>Xh ((I8 t).2 e))];exact(hinv.slot t d ht).keep xY.o9.mi uH
   .exact hinv.ob.Po kK xY (λq s t hq=>F5 hx Xf Wa q s t hq) λm hm _=>kt m hm
   .by_cases e:k=i
    .subst e;rw[sS]at Bw;cases Bw
    .rw[sT e]at Bw;have h1:=hinv.fresh k hk Bw m hm1 hm2;have h2:=xY.fresh m (by omega);exact⟨h2.1 h1.1,h2.2 h1.2⟩
   .rw[ua (λe=>ht x (arJ hx) ((I8 t).2 e))];exact hinv.same t ht
end
end
end Go.Proofs.YtfjgcenlllgonaaGreatDoor
namespace Go.Proofs.YtfjgcenlllgonaaGreatDoor
open Go Go.RowKit
def xp(dst:Option Nat)(g:Nat):om:={dst:=dst,ts:=[g],os:=[],e:={dst:= .undef}}
noncomputable def qi{R:Type}{P:Program}(E:Env P)(nt:Nat)(ops:Array Oper):List Oper->State->List om->(State->Option R)->Option R
 |[],st,acc,k=>bif xo ops.toList acc then k st else ae
 |o::os,st,acc,k=>bif FJ nt o.dst then(match o.guard with
  |none=>Cr E o.dst o.op [] st (λe x=>qi E nt ops os (st.apply o.dst e) (acc++[x]) k)
  |some (j,b)=>match KH ops j with
   |none=>ae
   |some g=>bif art g nt then(match find st.aK g with
    |some .undef=>qi E nt ops os (st.apply o.dst {dst:= .undef}) (acc++[xp o.dst g]) k
    |some d=>match asBool d with
     |some t=>if t=af then
       (bif b then Cr E o.dst o.op [g] (st.put (aa g) (fR af)) (λe x=>qi E nt ops os ((st.put (aa g) (fR af)).apply o.dst e) (acc++[x]) k)
         else qi E nt ops os ((st.put (aa g) (fR af)).apply o.dst {dst:= .undef}) (acc++[xp o.dst g]) k)
      else
       (bif b then qi E nt ops os ((st.put (aa g) (fR ah)).apply o.dst {dst:= .undef}) (acc++[xp o.dst g]) k
         else Cr E o.dst o.op [g] (st.put (aa g) (fR ah)) (λe x=>qi E nt ops os ((st.put (aa g) (fR ah)).apply o.dst e) (acc++[x]) k))
     |none=>ae
    |none=>ae)else ae)else ae
section
variable {P:Program} {nt:Nat} {ops:Array Oper} {R:Type}
variable {G:Nat->Prop} {w0:World} {F0:Nat->Prop} {sl0:Nat->Option aN} {ob0:Nat->Option (Nat×Th)} {n0:Nat}
structure Lex(P:Program)(nt:Nat)(ops:Array Oper)(U:Nat->Prop)(sl0:Nat->Option aN)(ob0:Nat->Option (Nat×Th))(n0:Nat)(es:List om)(st:State):Prop where
 slot:∀t,find st.aK t=jG M7 0 es sl0 t
 ob:∀o,find st.objs o=iX M7 0 es ob0 o
 nxt:st.nxt=n0+16*es.length
 ok:∀i o x,ops[i]? =aa o->es[i]? =aa x->Xe P ops nt U o (jG M7 0 (es.take i) sl0) (iX M7 0 (es.take i) ob0) (n0+16*i) x
def I9{S:Nat->Bool}{es:List om}{x:om}{f:Nat->Option aN}{t:Nat}(h:S es.length=af):jG S 0 (es++[x]) f t=if x.dst=aa t then aa x.e.dst else jG S 0 es f t:=by
 rw[rK,arl]
 show(bif S es.length&&qH (aa t) x.dst.toList then aa x.e.dst else jG S 0 es f t)=_
 rw[h,Bool.true_and];by_cases hd:x.dst=aa t
 all_goals grind [yZ]
def Na{S:Nat->Bool}{es:List om}{x:om}{f:Nat->Option (Nat×Th)}{o:Nat}(h:S es.length=af):iX S 0 (es++[x]) f o=(find x.e.make o).or (bif rH o x.e.eat then ae else iX S 0 es f o):=by
 rw[mU,arl]
 show(bif S es.length then _ else _)=_
 rw[h];rfl
def xq{st:State}{dst:Option Nat}{e:gY}{t:Nat}:find (st.apply dst e).aK t=if dst=aa t then aa e.dst else find st.aK t:=by
 cases dst with
 |none=>simp[State.apply]
 |some d=>
  show find ((d,e.dst)::st.aK) t=_
  grind [bA]
def yE{st:State}{dst:Option Nat}{e:gY}{o:Nat}:find (st.apply dst e).objs o=(find e.make o).or (bif rH o e.eat then ae else find st.objs o):=by
 show find (e.make++del e.eat st.objs) o=_
 rw[kH]
 congr 1
 cases hb:rH o e.eat with
 |true=>
  rw[cond_true]
  cases h:find (del e.eat st.objs) o with
  |none=>rfl
  |some x=>grind [iM,kI]
 |false=>
  rw[cond_false]
  have hn:o∉e.eat:=λh=>by rw[iM.2 h]at hb;cases hb
  cases h:find st.objs o with
  |some x=>exact kI.2 ⟨hn,h⟩
  |none=>
   cases h2:find (del e.eat st.objs) o with
   |none=>rfl
   |some x=>rw[(kI.1 h2).2]at h;cases h
def Lex.snoc{U:Nat->Prop}{es:List om}{st:State}{x:om}{o:Oper}(h:Lex P nt ops U sl0 ob0 n0 es st)(ho:ops[es.length]? =aa o)(hd:x.dst=o.dst)
 (sB:Xe P ops nt U o (find st.aK) (find st.objs) st.nxt x):Lex P nt ops U sl0 ob0 n0 (es++[x]) (st.apply o.dst x.e):=by
 refine⟨λt=>?_,λq=>?_,?_,λi o' y oY hy=>?_⟩
 .rw[xq,I9 rfl,hd,h.slot t]
 .rw[yE,Na rfl,h.ob q]
 .show st.nxt+16=_
  grind [Lex.nxt]
 .rcases Nat.lt_or_ge i es.length with aI|hge
  .rw[List.getElem?_append_left aI]at hy;rw[List.take_append_of_le_length (by omega)];exact h.ok i o' y oY hy
  .have hi:i=es.length:=by
    have:=(aqQ.1 hy).1;simp at this;omega
   subst hi;simp at hy;subst hy;rw[ho]at oY;obtain rfl:=aqL oY;rw[List.take_left']
   .rw[<-funext h.slot,<-funext h.ob,<-h.nxt];exact sB
   .rfl
def Lex.put{U:Nat->Prop}{es:List om}{st:State}{g:Nat}{d:aN}(h:Lex P nt ops U sl0 ob0 n0 es st)(hg:find st.aK g=aa d):Lex P nt ops U sl0 ob0 n0 es (st.put (aa g) d):=by
 refine⟨λt=>?_,h.ob,h.nxt,h.ok⟩
 show find ((g,d)::st.aK) t=_
 rw[bA,<-h.slot t]
 grind
def Nb{d:aN}{t:Bool}(h:asBool d=aa t):d=fR t:=by
 unfold asBool at h
 grind
def F6{E:Env P}{q:R}{k:State->Option R}:{l:List Oper}->{st:State}->{es:List om}->qi E nt ops l st es k=aa q->(∀j,l[j]? =ops[es.length+j]?)->Lex P nt ops (UU G w0) sl0 ob0 n0 es st->
 ∃wN cV,k cV=aa q/\xo ops.toList wN=af/\Lex P nt ops (UU G w0) sl0 ob0 n0 wN cV/\wN.length=es.length+l.length
 |[],st,es,h,_,hl=>by
  unfold qi at h
  grind
 |o::l,st,es,h,rB,hl=>by
  have ho:ops[es.length]? =aa o:=by simpa using(rB 0).symm
  have aai:∀x:om,∀j,l[j]? =ops[(es++[x]).length+j]? :=λx j=>by
   have:=rB (j+1)
   grind
  have go:∀{q6:State}{x:om},qi E nt ops l q6 (es++[x]) k=aa q->Lex P nt ops (UU G w0) sl0 ob0 n0 (es++[x]) q6->∃wN cV,k cV=aa q/\xo ops.toList wN=af/\Lex P nt ops (UU G w0) sl0 ob0 n0 wN cV/\wN.length=es.length+(o::l).length:=by
   intro q6 x h1 h2;obtain⟨wN,cV,a1,a2,a3,a4⟩:=F6 h1 (aai x) h2;refine⟨wN,cV,a1,a2,a3,?_⟩;rw[a4,aqT,aq8,arh];omega
  unfold qi at h;obtain⟨hd,h'⟩:=bz h;clear h
  have on:∀{q6:State}{gs:List Nat},Cr E o.dst o.op gs q6 (λe x=>qi E nt ops l (q6.apply o.dst e) (es++[x]) k)=aa q->Lex P nt ops (UU G w0) sl0 ob0 n0 es q6->(∀ts:List Nat,(∀g∈gs,g∈ts)->Xd ops nt ts (find q6.aK) o.guard af)->∃wN cV,k cV=aa q/\xo ops.toList wN=af/\Lex P nt ops (UU G w0) sl0 ob0 n0 wN cV/\wN.length=es.length+(o::l).length:=by
   intro q6 gs h1 h2 h3;obtain⟨e,x,a1,a2,a3,a4⟩:=Qc (U:=UU G w0) h1;subst a2;exact go a1 (h2.snoc ho a4.dst ⟨a4.dst,hd,af,h3 _ a3,λ_=>a4,λh=>by cases h⟩)
  have off:∀{q6:State}{g:Nat},qi E nt ops l (q6.apply o.dst {dst:= .undef}) (es++[xp o.dst g]) k=aa q->Lex P nt ops (UU G w0) sl0 ob0 n0 es q6->Xd ops nt [g] (find q6.aK) o.guard ah->∃wN cV,k cV=aa q/\xo ops.toList wN=af/\Lex P nt ops (UU G w0) sl0 ob0 n0 wN cV/\wN.length=es.length+(o::l).length:=by
   intro q6 g h1 h2 h3;exact go (x:=xp o.dst g) h1 (h2.snoc (x:=xp o.dst g) ho rfl ⟨rfl,hd,ah,h3,λh=>(by cases h),λ_=>rfl⟩)
  split at h'
  .rename_i Ue
   exact on h' hl λts _=>by rw[Ue];exact .none
  .rename_i j b Ue;split at h'
   case h_1=>cases h'
   rename_i g V0;obtain⟨V1,h⟩:=bz h';clear h';split at h
   .rename_i hu;exact off h hl (by rw[Ue];exact .undef V0 V1 (by simp) hu)
   .rename_i d jq;split at h
    case h_2=>cases h
    rename_i t ht;obtain rfl:=Nb ht
    have aaj:∀v:Bool,find (st.put (aa g) (fR v)).aK g=aa (fR v):=λv=>by
     show find ((g,fR v)::st.aK) g=_
     rw[bA,al rfl]
    have alR:∀(v:Bool)(ts:List Nat)(r:Bool),g∈ts->r=decide (v=b)->Xd ops nt ts (find (st.put (aa g) (fR v)).aK) (aa (j,b)) r:=λv ts r hg hr=>by
     rw[hr];exact .lit V0 V1 hg (aaj v) rfl
    split at h
    .rename_i T9;subst T9;have Y1:=hl.put jq
     grind
    .rename_i T9
     have T9:t=ah:=by cases t<;>simp_all
     subst T9;have Y1:=hl.put jq
     grind
   .cases h
def unl(m:Nat)(listed:Array Bool):Nat:=((arK m).filter λj=> !listed.getD j ah).length
def KK{m i:Nat}{listed:Array Bool}(hi:i<m)(hs:listed.size=m)(h:listed.getD i ah=ah):unl m (listed.setIfInBounds i af)+1<=unl m listed:=by
 unfold unl
 have kK:∀l:List Nat,(l.filter λj=> !(listed.setIfInBounds i af).getD j ah).length<=(l.filter λj=> !listed.getD j ah).length/\(i∈l->(l.filter λj=> !(listed.setIfInBounds i af).getD j ah).length+1<=(l.filter λj=> !listed.getD j ah).length):=by
  intro l
  induction l with
  |nil=>grind
  |cons j l ih=>
   by_cases hj:i=j
   .subst hj
    have e1:(listed.setIfInBounds i af).getD i ah=af:=by simp[arz,hs,hi]
    grind
   .have e1:(listed.setIfInBounds i af).getD j ah=listed.getD j ah:=getD_set_ne ah hj
    grind
 grind
def Uf{E:Env P}{id:Nat}{q:R}{k:State->Option R}{st:State}{H:aW}{F:Nat->Prop}{w:World}{ρ:Nat->Value}{Q:Exit->(Nat->Value)->World->Prop}(hm:P.follows .mixedOrders=af)
 (h:qi E nt ops ops.toList st [] k=aa q)(hh:dJ G w0 F0 H F w ρ st)
 (hk:∀cV H' F' w' di,k cV=aa q->dJ G w0 F0 H' F' w' di cV->dB H F w H' F' w'->(∀t,(∀o∈ops.toList,o.dst≠aa t)->di t=ρ t)->Q .normal di w'):uU P nt (.region id ops af) Q ρ w:=by
 obtain⟨es,cV,ael,mX,Ja,hlen⟩:=F6 (G:=G) (w0:=w0) (sl0:=find st.aK) (ob0:=find st.objs) (n0:=st.nxt) h (λj=>by simp) ⟨λ_=>rfl,λ_=>rfl,by simp,λi o x _ hx=>by simp at hx⟩;simp only[List.length_nil,arl,Array.length_toList]at hlen;unfold xo at mX;split at mX
 case h_2=>cases mX
 rename_i ms M9
 have I8:∀x∈es,∃o∈ops.toList,x.dst=o.dst:=λx hx=>by
  obtain⟨i,hi,rfl⟩:=aqZ hx
  have aI:i<ops.size:=by omega
  exact⟨ops[i],by simp,(Ja.ok i ops[i] es[i] (arp aI) (aqK hi)).dst⟩
 have V8:∀k y,es[k]? =aa y->∀q,q∈y.soft->q∈y.mut->∃z z',iX M7 0 (es.take k) (find st.objs) q=aa z/\find y.e.make q=aa z'/\kv z z':=λk y hy q h1 h2=>by
  have aI:k<es.length:=(aqQ.1 hy).1;obtain⟨_,_,b,_,hon,Tw⟩:=Ja.ok k _ y (arp (by omega)) hy
  cases b with
  |true=>exact(hon rfl).soft q h1 h2
  |false=>
   grind [om.mut,ya]
 have acW:∀i o,ops[i]? =aa o->∀e∈o.after,asf .any e=af->e.on<i:=λi o ho e he hb=>by
  obtain⟨m,h1,_⟩:=(DI M9).2.2 i o (by grind);simp only[List.length_nil,arl]at h1;exact KJ h1 e (by simpa using he) hb
 intro a hf;refine wp_region_any hm ?_
 have main:∀fuel(listed:Array Bool)(a:Act)(w':World)H' F' di,listed.size=ops.size->unl ops.size listed<=fuel->I5 ops (λj=>listed.getD j ah=af)->Fr nt a di->
  Inv G w0 F0 es (find st.aK) (find st.objs) st.nxt H F w ρ (λj=>listed.getD j ah) H' F' w' di->wpAny P .any ops (λe a' w'=>∃di,Fr nt a' di/\Q e di w') fuel listed a w':=by
  have done:∀(listed:Array Bool)(a:Act)(w':World)H' F' di,(∀i,i<ops.size->listed.getD i ah=af)->Fr nt a di->Inv G w0 F0 es (find st.aK) (find st.objs) st.nxt H F w ρ (λj=>listed.getD j ah) H' F' w' di->∃di,Fr nt a di/\Q .normal di w':=by
   intro listed a w' H' F' di kt hf hinv
   have eS:∀t,jG (λj=>listed.getD j ah) 0 es (find st.aK) t=find cV.aK t:=λt=>by
    rw[Ja.slot t]
    refine oJ rfl λk x hx _=>?_
    have:=(aqQ.1 hx).1;rw[arl];exact kt k (by omega)
   have eO:∀o,iX (λj=>listed.getD j ah) 0 es (find st.objs) o=find cV.objs o:=λo=>by
    rw[Ja.ob o]
    refine nZ rfl λk x hx _=>?_
    have:=(aqQ.1 hx).1;rw[arl];exact kt k (by omega)
   refine⟨di,hf,hk cV H' F' w' di ael ⟨⟨λt d hd=>hinv.slot t d (by rw[eS];exact hd),?_,?_⟩,hinv.glob⟩ hinv.keeps λt ht=>hinv.same t λx hx=>?_⟩
   .have:=hinv.ob;rw[funext eO]at this;rw[Ja.nxt];exact this
   .rw[Ja.nxt];exact hinv.all
   .grind
  have Nc:∀(listed:Array Bool),listed.size=ops.size->Region.ready .any ops listed=[]->∀i,i<ops.size->listed.getD i ah=af:=by
   intro listed hs hr i
   induction i using Nat.strongRecOn with
   |_ i ih=>
    intro hi
    cases hl:listed.getD i ah with
    |true=>rfl
    |false=>
     have:i∈Region.ready .any ops listed:=mem_ready.2 ⟨by
      grind,ops[i],arp hi,(by grind)⟩
     grind
  intro fuel
  induction fuel with
  |zero=>
   intro listed a w' H' F' di hs hu hc hf hinv
   have kt:∀i,i<ops.size->listed.getD i ah=af:=λi hi=>by
    cases hl:listed.getD i ah with
    |true=>rfl
    |false=>
     have:=KK hi hs hl;omega
   refine⟨?_,done listed a w' H' F' di kt hf hinv⟩
   cases hr:Region.ready .any ops listed with
   |nil=>rfl
   |cons i l=>
    have hi:i∈Region.ready .any ops listed:=by rw[hr];simp
    grind [Go.mem_ready]
  |succ fuel ih=>
   intro listed a w' H' F' di hs hu hc hf hinv;refine⟨λhr=>done listed a w' H' F' di (Nc listed hs hr) hf hinv,λi hi=>?_⟩;obtain⟨h1,o,ho,V7⟩:=mem_ready.1 hi;have aI:=(Array.getElem?_eq_some_iff.1 ho).1
   have Xf:listed.getD i ah=ah:=by
    simp only[arz]at h1⊢;rw[arp (by omega)]at h1⊢;simpa using h1
   have hx:es[i]? =aa (es[i]'(by omega)):=aqK (by omega);have fJ:=Ja.ok i o _ ho hx;rw[<-I7 (by omega),<-Cu (by omega)]at fJ
   have Bw:(λj=>(listed.setIfInBounds i af).getD j ah)=ins (λj=>listed.getD j ah) i:=by
    funext j;by_cases e:j=i
    .subst e;rw[sS];simp[arz,hs,aI]
    .rw[sT e];exact getD_set_ne ah (Ne.symm e)
   refine Aa M9 mX hlen hc ho hx Xf V7 V8 fJ hf hinv λa'' vV wV Fq yQ aem aen=>?_
   refine ih _ a'' yQ wV Fq vV (by simp[hs]) ?_ ?_ aem ?_
   .have:=KK aI hs Xf;omega
   .intro j hj o' oY e he hb;by_cases ej:j=i
    .grind [Go.getD_set_true]
    .have EL:listed.getD j ah=af:=by
      have:(listed.setIfInBounds i af).getD j ah=listed.getD j ah:=getD_set_ne ah (Ne.symm ej);rw[<-this];exact hj
     exact getD_set_true (hc j EL o' oY e he hb)
   grind
 have hS0:∀j,(Array.replicate ops.size ah).getD j ah=ah:=λj=>by
  simp only[arz]
  grind
 have hw:Step F w F w.drew:=Step.drew F w
 refine main ops.size _ a _ H F ρ (by simp) ?_ (λi hi=>by
  grind) hf ⟨λt d hd=>?_,?_,λm hm=>hh.sat.all m (by omega),λi hi _ m hm _=>hh.sat.all m (by omega),⟨⟨hh.glob.ext.os,hh.glob.ext.tape,hh.glob.ext.output,hh.glob.ext.size,hh.glob.ext.block⟩,hh.glob.le,hh.glob.new⟩,⟨aW.le.refl H,hw⟩,λ_ _=>rfl⟩
 .grind [unl]
 .rw[rJ λk x _ _=>hS0 _]at hd;exact(hh.sat.slot t d hd).keep (aW.le.refl H) hw
 .have e:iX (λj=>(Array.replicate ops.size ah).getD j ah) 0 es (find st.objs)=find st.objs:=by
   funext o
   exact q7 λk x _ _=>hS0 _
  rw[e];have hb:=hh.sat.ob;refine⟨λo s t ho=>?_,hb.apart,λm hm _=>hh.sat.all m (by omega),hb.lt,hb.new,hb.gl.step (λ_ h=>⟨h,rfl⟩)⟩;obtain⟨v,hv,eJ⟩:=hb.obj o s t ho;exact⟨v,hv,eJ.one,eJ.con,eJ.ok.heap (aW.le.refl H) hw λ_ _=>rfl,eJ.no,eJ.lt,eJ.use⟩
end
end Go.Proofs.YtfjgcenlllgonaaGreatDoor
end
section
open _root_.Bool renaming false->ah,true->af,and_eq_true->arV
open _root_.Option renaming none->ae,some->aa,isSome_iff_exists->arA,map_eq_some_iff->arH
open _root_.List.cons renaming injEq->arE
open _root_.List renaming length_cons->arh,mem_cons->arw
open _root_.Nat renaming beq->aqU,le_refl->aqS
open _root_.Option.some renaming inj->aqL,injEq->aq1
open _root_.Go.Sem renaming run_bind->arf
open _root_.Sum renaming inl->arj,inr->arc
open _root_.Go.Value.slice renaming injEq->ar8
namespace Go.Proofs.YtfjgcenlllgonaaGreatDoor
open Go Go.RowKit
inductive Ex where
 |normal
 |exit (id:Nat)
 |ret
 |goto (l:Nat)
def Ex.q9:Ex->Exit
 | .normal=> .normal
 | .exit id=> .exit id
 | .ret=> .ret
 | .goto l=> .goto l
def noGoto{R:Type}(k:Ex->State->Option R):Ex->State->Option R
 | .goto _,_=>ae
 |e,st=>k e st
inductive vz where
 |nil
 |two (a b:vz)
 |join (J:JS) (a b:vz)
 |meet (J:JS) (a b:vz)
 |loop (L:JS) (a:vz)
abbrev vz.o(a:vz):vz:= .two .nil a
def vz.l:vz->vz
 | .two a _=>a
 |_=> .nil
def vz.r:vz->vz
 | .two _ b=>b
 |_=> .nil
def vW:List Oper->List Nat
 |[]=>[]
 |o::l=>match o.dst with
  |some d=>d::vW l
  |none=>vW l
def writes:Code->List Nat
 | .region _ ops _=>vW ops.toList
 | .seq a b=>writes a++writes b
 | .cond _ a b=>writes a++writes b
 | .block _ a=>writes a
 | .loop a=>writes a
 | .scope a=>writes a
 |_=>[]
def F7:List Nat->List (Nat×aN)->List (Nat×aN)
 |[],l=>l
 |t::ts,l=>(t, .dead)::F7 ts l
def Wb:List (Nat×OS)->List Nat
 |[]=>[]
 |(j,_)::l=>j::Wb l
def KM(st:State)(J:JS):List (Nat×(Nat×Th)):=del (Wb J.objs++J.drop) st.objs
def behind(st:State)(W:List Nat)(J:JS)(x:dj J.rows):State:=
 {aK:=(eU J.aK (fD _ x)).1++F7 W st.aK,objs:=lk st.nxt J.objs (eU J.aK (fD _ x)).2++KM st J,nxt:=J.nxt}
def Jb(st:State)(J:JS)(q6:State):Option (dj J.rows):=
 match Ca st.nxt (KM st J) J q6.aK q6.objs with
 |some (x,_)=>aa x
 |none=>ae
def Qg(ob:Nat->Option (Nat×Th))(n o:Nat):Option gY:=
 match ob o with
 |some (_, .deep T d l ae)=>aa {dst:= .dead,eat:=[o],make:=[(o,(n, .own T d.row l))]}
 |_=>ae
def qj(st:State):List (Nat×OS)->State
 |[]=>st
 |(j, .own _ _)::os=>match Qg (find st.objs) st.nxt j with
  |some e=>qj (st.apply ae e) os
  |none=>qj st os
 |_::os=>qj st os
def Qh(st:State)(t o:Nat)(r:Row):Option State:=
 match find st.objs o with
 |some (_, .box _ t0)=>match hZ st.objs t0.owns with
  |some bC=>match find bC o with
   |some (_, .box _ t1)=>match flat (find bC) r t1 with
    |some x=>aa (State.apply {st with objs:=bC} (aa t) {dst:= .at r x,eat:=[o]})
    |none=>ae
   |_=>ae
  |none=>ae
 |_=>ae
noncomputable def DJ{R:Type}(st:State)(k:State->Option R):List (Nat×SS)->Option R
 |[]=>k st
 |(t, .at r)::ss=>match find st.aK t with
  |some (.ptr o [] 0)=>match Qh st t o r with
   |some cV=>DJ cV k ss
   |none=>ae
  |some (.dlm o d i [] 0)=>match hZ st.objs [o]with
   |some bC=>match find bC o with
    |some (_, .fdeep _ d' l)=>bif aqU d.low.size d'.row.size then(idx l i).bind λx=>DJ {aK:=(t, .at d'.row x)::st.aK,objs:=bC,nxt:=st.nxt} k ss else ae
    |_=>ae
   |none=>ae
  |_=>DJ st k ss
 |_::ss=>DJ st k ss
noncomputable def carry(st:State)(J:JS)(q6:State):Option (dj J.rows):=DJ (qj (sq q6) J.objs) (Jb st J) J.aK
def bK{J R:Type}(m:Option (J⊕R))(k:J->Option R):Option R:=m.bind λs=>match s with
 | .inl j=>k j
 | .inr r=>aa r
noncomputable def exec{P:Program}(E:Env P)(nt N:Nat):Code->{R:Type}->vz->State->(Ex->State->Option R)->Option R
 | .skip,_,_,st,k=>k .normal st
 | .label _,_,_,st,k=>k .normal st
 | .scope x,_,a,st,k=>exec E nt N x a.l st (noGoto k)
 | .goto l,_,_,st,k=>k (.goto l) st
 | .ret,_,_,st,k=>k .ret st
 | .exit id,_,_,st,k=>k (.exit id) st
 | .cond c x y,_,a,st,k=>match Oz st.aK c with
   |some D=>match asBool D with
    |some b=>if b=af then exec E nt N x a.l st k else exec E nt N y a.r st k
    |none=>ae
   |none=>ae
 | .region _ ops draw,_,_,st,k=>bif draw then qi E nt ops ops.toList st [] (k .normal)else runs E nt ops ops.toList [] st (k .normal)
 | .seq x y,R,a,st,k=>match a with
   | .join J a1 a2=>bK (exec E nt N x (R:=dj J.rows⊕R) a1 st (λe cV=>match e with
       | .normal=>(carry st J cV).map .inl
       |e=>(k e cV).map .inr)) λj=>exec E nt N y a2 (behind st (writes x) J j) k
   | .meet J a1 a2=>(exec E nt N x (R:=dj J.rows) a1 st (λe cV=>match e with
       | .normal=>carry st J cV
       |_=>ae)).bind λj=>exec E nt N y a2 (behind st (writes x) J j) k
   |a=>exec E nt N x a.l st (λe cV=>match e with
     | .normal=>exec E nt N y a.r cV k
     |e=>k e cV)
 | .block id x,R,a,st,k=>match a with
   | .join J a1 _=>bK (exec E nt N x (R:=dj J.rows⊕R) a1 st (λe cV=>match e with
       | .normal=>(carry st J cV).map .inl
       | .exit i=>bif aqU i id then(carry st J cV).map .inl else(k (.exit i) cV).map .inr
       |e=>(k e cV).map .inr)) λj=>k .normal (behind st (writes x) J j)
   | .meet J a1 _=>(exec E nt N x (R:=dj J.rows) a1 st (λe cV=>match e with
       | .normal=>carry st J cV
       | .exit i=>bif aqU i id then carry st J cV else ae
       |_=>ae)).bind λj=>k .normal (behind st (writes x) J j)
   |a=>exec E nt N x a.l st (λe cV=>match e with
     | .exit i=>bif aqU i id then k .normal cV else k (.exit i) cV
     |e=>k e cV)
 | .loop x,R,a,st,k=>match a with
   | .loop L a1=>match carry st L st with
     |some s0=>Loop (S:=dj L.rows) (X:=R) (λs=>exec E nt N x (R:=dj L.rows⊕R) a1 (behind st (writes x) L s) (λe cV=>match e with
       | .normal=>(carry st L cV).map .inl
       |e=>(k e cV).map .inr)) N s0
     |none=>ae
   |_=>ae
 |_,_,_,_,_=>ae
section
variable {P:Program} {nt N:Nat} {R:Type}
variable {ρ:Nat->Value} {w w0:World} {H:aW} {F F0 G:Nat->Prop}
def Jc{W:List Nat}{l:List (Nat×aN)}{t:Nat}{d:aN}(h:find (F7 W l) t=aa d):d= .dead\/(t∉W/\find l t=aa d):=by
 induction W with
 |nil=>exact .inr ⟨by simp,h⟩
 |cons s W ih=>
  have h':find ((s,aN.dead)::F7 W l) t=aa d:=h
  grind [bA]
def Nd{st q6:State}{W:List Nat}{J:JS}{x:dj J.rows}{H1:aW}{F1:Nat->Prop}{w1:World}{HX:Nat->Value}(h:Jb st J q6=aa x)(hh:dJ G w0 F0 H F w ρ st)(uA:dJ G w0 F0 H1 F1 w1 HX q6)(hk:dB H F w H1 F1 w1)
 (T8:∀t,t∉W->HX t=ρ t):∃H2 F2,dJ G w0 F0 H2 F2 w1 HX (behind st W J x)/\dB H F w H2 F2 w1:=by
 unfold Jb at h;split at h
 case h_2=>cases h
 rename_i _ y rest hp;obtain⟨bs,bC⟩:=rest;obtain rfl:=aqL h;obtain⟨F2,H2,a1,a2,a3,_,a5,_,a6,a7,a8⟩:=zP (U':=UU G w0) hp hh.sat.ob hh.sat.all hk uA.sat.ob uA.sat.slot
 have mf:Step F1 w1 F2 w1:=λb hb=>⟨a2 b hb,rfl⟩
 have gz:=a8 uA.sat.ob.new (λo s t v k _ h2 h3 h4=>by
  obtain⟨v',gZ,eJ⟩:=a1.obj _ _ _ h2;rw[h3]at gZ;obtain rfl:=aqL gZ
  exact eJ.use k h4) (λo s t v k h2 h3 h4=>by
  have h5:=(kI.1 h2).2;obtain⟨v',gZ,eJ⟩:=hh.sat.ob.obj _ _ _ h5;rw[hk.mi.val _ _ gZ]at h3;obtain rfl:=aqL h3
  exact eJ.use k (by rwa [hk.mi.sub _ _ eJ.con]at h4))
 refine⟨H2,F2,⟨⟨λt d hd=>?_,gz,a6⟩,⟨uA.glob.ext,λb hb=>a2 b (uA.glob.le b hb),λb hb=>?_⟩⟩,⟨a5,λb hb=>⟨a2 b (hk.step b hb).1,(hk.step b hb).2⟩⟩⟩
 .have HS:find ((eU J.aK (fD J.rows y)).1++F7 W st.aK) t=aa d:=hd;rw[kH]at HS
  cases hm:find (eU J.aK (fD J.rows y)).1 t with
  |some d'=>
   grind
  |none=>
   rw[hm,Option.none_or]at HS
   rcases Jc HS with rfl|⟨h1,h2⟩
   .trivial
   .rw[T8 t h1]
    exact(hh.sat.slot t d h2).keep a5 λb hb=>⟨a2 b (hk.step b hb).1,(hk.step b hb).2⟩
 .rcases a3 b hb with h1|h1
  .exact uA.glob.new b h1
  .exact .inr (uA.sat.ob.km b h1)
def Nf{U:Nat->Prop}{ob:Nat->Option (Nat×Th)}{n:Nat}(hs:aX U H F w ob n){o:Nat}{e:gY}(h:Qg ob n o=aa e):ph H F w ob n e undef w:=by
 unfold Qg at h;split at h
 case h_2=>cases h
 rename_i s T d l gz;obtain rfl:=aqL h;obtain⟨v,hv,eJ⟩:=hs.obj _ _ _ gz
 obtain⟨lh,Ss,⟨xs,hx,VL⟩,h2,h3,h4⟩:=(show Mo F w T d.low (rC H F w d ae) v l (H.sub s)from eJ.ok)
 have hn:∀k,H.sub s k->¬F k:=eJ.no
 have ET:qa 0 (λb=>F b\/∃i,i<l.length/\Ss i b) w T d.row v l:=by
  refine⟨λk hk hF=>?_,xs,?_,λi hi=>?_⟩
  .rcases hF with hF|⟨i,hi,hm⟩
   .exact hn k (h4.cF k hk) hF
   .exact h4.out i k hi hm hk
  .rw[<-d.size,<-h2];exact hx
  .have jn:i<lh.length:=by omega
   have:=mZ.freeze (h3 i jn hi) (λk hk=>hn k (h4.part hi k hk)) (VL i jn);rw[<-d.size]
   exact this.step λb hb=>(by grind)
 have hf:=hs.fresh n (aqS _) (by omega)
 have pn:∀k,H.sub s k->dH H ob [o] k:=λk hk=>⟨o,by simp,s,_,v,gz,hv,hk⟩
 refine⟨H.cU n (.own T d.row l),λb=>F b\/∃i,i<l.length/\Ss i b,⟨⟨λ_ _ h=>h,λs' t h=>?_,λs' t h=>?_⟩,⟨rfl,rfl,rfl,aqS _,λ_ _ _=>rfl⟩,λ_ h=> .inl h,λb hb=>?_,λb hb=>?_⟩,λm hm=>⟨id,λh=>?_⟩,trivial,⟨λo' s' q hq=>?_,λo1 o2 s1 s2 q1 q2 u1 u2 dG g1 g2=>?_⟩,λo' h=>?_⟩
 .grind [aW.cU]
 .rfl
 .rcases hb with hb|⟨i,hi,hb⟩
  .exact .inl hb
  .exact .inr (.inr (pn b (h4.part hi b hb)))
 .rcases hb with hb|⟨i,hi,hb⟩
  .exact hs.lt b hb
  .exact eJ.lt b (h4.part hi b hb)
 .grind [aW.cU]
 .obtain⟨rfl,e⟩:=jr hq;obtain⟨rfl,rfl⟩:=Prod.mk.inj e;refine⟨v,hv,eJ.one,by simp[aW.cU,Th.base],ET.2,λk hk=>⟨ET.1 k hk,eJ.lt k (h4.cF k hk), .inr (pn k (h4.cF k hk))⟩⟩
 all_goals grind [jr,arA]
def dJ.qj:(os:List (Nat×OS))->{st:State}->{H:aW}->{F:Nat->Prop}->dJ G w0 F0 H F w ρ st->∃H' F',dJ G w0 F0 H' F' w ρ (qj st os)/\dB H F w H' F' w
 |[],_,H,F,h=>⟨H,F,h,dB.refl H F w⟩
 |(j, .own _ _)::os,st,H,F,h=>by
  unfold Go.Proofs.YtfjgcenlllgonaaGreatDoor.qj;split
  .rename_i e he;obtain⟨H',F',hp⟩:=Nf h.sat.ob he;have hs:=h.sat.apply (d:=ae) hp;obtain⟨H2,F2,h2,k2⟩:=dJ.qj os (st:=st.apply ae e) ⟨hs,h.glob.o9 hp.o9 h.sat.ob.km⟩;exact⟨H2,F2,h2,(dB.FK hp.o9 h.sat.ob.lt h.sat.ob.kJ).trans k2⟩
  .exact dJ.qj os h
 |(_, .box ..)::os,_,_,_,h=>dJ.qj os h
 |(_, .map ..)::os,_,_,_,h=>dJ.qj os h
 |(_, .deep ..)::os,_,_,_,h=>dJ.qj os h
 |(_, .dmap ..)::os,_,_,_,h=>dJ.qj os h
def dJ.Qh{st cV:State}{t o:Nat}{r:Row}(h:dJ G w0 F0 H F w ρ st)(jq:find st.aK t=aa (.ptr o [] 0))(hb:Qh st t o r=aa cV):∃F',dJ G w0 F0 H F' w ρ cV/\dB H F w H F' w:=by
 unfold Go.Proofs.YtfjgcenlllgonaaGreatDoor.Qh at hb;split at hb
 case h_2=>cases hb
 split at hb
 case h_2=>cases hb
 rename_i bC Bn;obtain⟨F1,h1,k1⟩:=h.yx Bn;split at hb
 case h_2=>cases hb
 rename_i s1 T1 t1 gz;split at hb
 case h_2=>cases hb
 rename_i x hx;obtain rfl:=aqL hb;obtain⟨v,hv,eJ⟩:=h1.sat.ob.obj _ _ _ gz
 obtain⟨b,es,rfl,hhp,hold⟩:=(show∃b es,v= .pointer (aa ⟨b,0,ae⟩)/\w.heap[b]? =aa (.cells es.toArray T1 (0,0))/\Holds H F1 w t1 es from eJ.ok)
 obtain⟨b',gZ,yC⟩:=h.sat.slot t _ jq;rw[hv]at gZ;simp only[aq1,Value.pointer.injEq,Addr.mk.injEq,and_true]at gZ;subst gZ;have Bl:=m5 h1.sat.ob hx hold
 have hg:dH H (find bC) [o] b:=⟨o,by simp,s1,_,_,gz,hv,rfl⟩
 have mf:Step F1 w (λk=>F1 k\/k=b) w:=λk hk=>⟨.inl hk,rfl⟩
 have hp:qG H F1 w (find bC) st.nxt {dst:= .at r x,eat:=[o]} (ρ t) w H (λk=>F1 k\/k=b):=
  ⟨⟨aW.le.refl H,⟨rfl,rfl,rfl,aqS _,λ_ _ _=>rfl⟩,λ_ hk=> .inl hk,(by grind),λk hk=>hk.elim (h1.sat.ob.lt k) λe=>by grind⟩,λm _=>⟨id,id⟩,
    ⟨b,0,yC, .inr rfl,es,Bl.length,λj u hu=>by
      show w.cell? ⟨b,0+j,ae⟩=aa u
      simp[World.cell?,hhp,hu],Bl.step mf⟩,⟨λ_ _ _ h=>(by cases h),λ_ _ _ _ _ _ _ _ _ h=>(by cases h)⟩,λ_ h=>(by cases h)⟩
 have hs:=h1.sat.apply (d:=aa t) hp
 have hup:yy ρ (aa t) (ρ t)=ρ:=by
  funext u
  show Ih ρ t (ρ t) u=ρ u
  rw[sH];split
  .rename_i e;rw[e]
  .rfl
 rw[hup]at hs;exact⟨_,⟨hs,h1.glob.o9 hp.o9 h1.sat.ob.km⟩,k1.trans (dB.FK hp.o9 h1.sat.ob.lt h1.sat.ob.kJ)⟩
def dJ.DJ{R:Type}{k:State->Option R}{q:R}:(ss:List (Nat×SS))->{st:State}->{H:aW}->{F:Nat->Prop}->dJ G w0 F0 H F w ρ st->DJ st k ss=aa q->∃Qa H' F',k Qa=aa q/\dJ G w0 F0 H' F' w ρ Qa/\dB H F w H' F' w
 |[],st,H,F,h,hk=>⟨st,H,F,hk,h,dB.refl H F w⟩
 |(t, .at r)::ss,st,H,F,h,hk=>by
  unfold Go.Proofs.YtfjgcenlllgonaaGreatDoor.DJ at hk;split at hk
  .rename_i o jq;split at hk
   case h_2=>cases hk
   rename_i cV hbx;obtain⟨F1,h1,k1⟩:=h.Qh jq hbx;obtain⟨Qa,H2,F2,g1,g2,g3⟩:=dJ.DJ ss h1 hk;exact⟨Qa,H2,F2,g1,g2,k1.trans g3⟩
  .rename_i o d i jq;split at hk
   case h_2=>cases hk
   rename_i bC Bn;obtain⟨F1,h1,k1⟩:=h.yx Bn;split at hk
   case h_2=>cases hk
   rename_i s1 T1 d' l gz;obtain⟨p9,hk⟩:=bz hk;have p9:=Nat.eq_of_beq_eq_true p9;obtain⟨x,hx,hkx⟩:=bind_some hk;obtain⟨j,rfl,hj,F8⟩:=jX hx;obtain⟨g,o0,q0,m,cap,hv,hq,yC⟩:=h1.sat.slot t _ jq;obtain⟨v,gZ,eJ⟩:=h1.sat.ob.obj _ _ _ gz;rw[hv]at gZ;obtain rfl:=aqL gZ
   obtain⟨A,Pd,e1,_,_,wR⟩:=(show eF F1 w (.slice d'.row) [_] l from eJ.ok)
   obtain⟨b,off,es,hA,hFb,hlen,EP,Bl⟩:=wR j hj;simp only[arE,ar8,and_true]at e1;obtain⟨e1,_,_⟩:=e1;rw[<-e1]at hA;simp only[aq1,Addr.mk.injEq,and_true]at hA;obtain⟨rfl,rfl⟩:=hA
   have vy:aO H F1 w (.at d'.row x) (ρ t):=by
    have e:j=q0:=by omega
    subst e;refine⟨g,o0+j*d.low.size+0,yC,hFb,es,hlen,λjj u hu=>?_,by rw[<-F8];exact Bl⟩;rw[p9];exact EP jj u hu
   obtain⟨Qa,H2,F2,g1,g2,g3⟩:=dJ.DJ ss (st:={aK:=(t, .at d'.row x)::st.aK,objs:=bC,nxt:=st.nxt}) ⟨⟨λt' q' sC=>by
    have sC:find ((t,aN.at d'.row x)::st.aK) t'=aa q':=sC;rw[bA]at sC;by_cases e:t=t'
    .grind
    .rw[aj e]at sC
     exact h1.sat.slot t' q' sC,h1.sat.ob,h1.sat.all⟩,h1.glob⟩ hkx
   exact⟨Qa,H2,F2,g1,g2,k1.trans g3⟩
  .exact dJ.DJ ss h hk
 |(_, .val ..)::ss,_,_,_,h,hk=>dJ.DJ ss h hk
 |(_, .ptr ..)::ss,_,_,_,h,hk=>dJ.DJ ss h hk
 |(_, .undef)::ss,_,_,_,h,hk=>dJ.DJ ss h hk
 |(_, .fn ..)::ss,_,_,_,h,hk=>dJ.DJ ss h hk
 |(_, .ifc ..)::ss,_,_,_,h,hk=>dJ.DJ ss h hk
def oK{st q6:State}{W:List Nat}{J:JS}{x:dj J.rows}{H1:aW}{F1:Nat->Prop}{w1:World}{HX:Nat->Value}(h:carry st J q6=aa x)(hh:dJ G w0 F0 H F w ρ st)(uA:dJ G w0 F0 H1 F1 w1 HX q6)(hk:dB H F w H1 F1 w1)
 (T8:∀t,t∉W->HX t=ρ t):∃H2 F2,dJ G w0 F0 H2 F2 w1 HX (behind st W J x)/\dB H F w H2 F2 w1:=by
 obtain⟨H1',F1',aep,jh⟩:=uA.sq;obtain⟨H2',F2',aeq,Pj⟩:=aep.qj J.objs;unfold carry at h;obtain⟨Qa,H3',F3',h3,hh3,hk3⟩:=aeq.DJ J.aK h;exact Nd h3 hh hh3 (((hk.trans jh).trans Pj).trans hk3) T8
def yb{l:List Oper}{o:Oper}{t:Nat}(ho:o∈l)(hd:o.dst=aa t):t∈vW l:=by
 induction l with
 |nil=>cases ho
 |cons p l ih=>
  grind [vW]
structure Ng(G:Nat->Prop)(w0:World)(F0:Nat->Prop)(W:List Nat)(H:aW)(F:Nat->Prop)(w:World)(ρ:Nat->Value)(H':aW)(F':Nat->Prop)(w':World)(di:Nat->Value)(cV:State):Prop where
 here:dJ G w0 F0 H' F' w' di cV
 keeps:dB H F w H' F' w'
 same:∀t,t∉W->di t=ρ t
def map_inl{α β:Type}{o:Option α}{f:α->β}{r:β}(h:o.map f=aa r):∃x,o=aa x/\f x=r:=arH.1 h
def jL{E:Env P}:(c:Code)->{R:Type}->{q:R}->{a:vz}->{st:State}->{k:Ex->State->Option R}->{H:aW}->{F:Nat->Prop}->{w:World}->{ρ:Nat->Value}->{Q:Exit->(Nat->Value)->World->Prop}->
 exec E nt N c a st k=aa q->dJ G w0 F0 H F w ρ st->
 (∀e cV H' F' w' di,k e cV=aa q->Ng G w0 F0 (writes c) H F w ρ H' F' w' di cV->Q e.q9 di w')->uU P nt c Q ρ w
 | .skip,R,q,a,st,k,H,F,w,ρ,Q,h,hh,hk=>OP (hk .normal st H F w ρ h ⟨hh,dB.refl H F w,λ_ _=>rfl⟩)
 | .ret,R,q,a,st,k,H,F,w,ρ,Q,h,hh,hk=>Ti (hk .ret st H F w ρ h ⟨hh,dB.refl H F w,λ_ _=>rfl⟩)
 | .exit id,R,q,a,st,k,H,F,w,ρ,Q,h,hh,hk=>OQ (hk (.exit id) st H F w ρ h ⟨hh,dB.refl H F w,λ_ _=>rfl⟩)
 | .cond c x y,R,q,a,st,k,H,F,w,ρ,Q,h,hh,hk=>by
   unfold exec at h;split at h
   case h_2=>cases h
   rename_i D hD;split at h
   case h_2=>cases h
   rename_i b hb;have hv:=qS hb (zr hh.sat.ob.gl hh.sat.slot _ _ hD);split at h
   .rename_i e;subst e;exact OR hv (jL x h hh λe cV H' F' w' di h1 h2=>hk e cV H' F' w' di h1 ⟨h2.here,h2.keeps,λt ht=>h2.same t λhm=>ht (by simp[writes,hm])⟩)
   .rename_i e
    have e:b=ah:=by cases b<;>simp_all
    subst e;exact L3 hv (jL y h hh λe cV H' F' w' di h1 h2=>hk e cV H' F' w' di h1 ⟨h2.here,h2.keeps,λt ht=>h2.same t λhm=>ht (by simp[writes,hm])⟩)
 | .region id ops draw,R,q,a,st,k,H,F,w,ρ,Q,h,hh,hk=>by
   unfold exec at h
   cases draw with
   |true=>
    rw[cond_true]at h
    exact Uf E.mix h hh λcV H' F' w' di h1 h2 h3 h4=>hk .normal cV H' F' w' di h1 ⟨h2,h3,λt ht=>h4 t λo ho e=>ht (yb ho e)⟩
   |false=>
    rw[cond_false]at h
    have:=Dx (K:=λρ w=>Q .normal ρ w) (ops:=ops) (nt:=nt) h (λ_ _ h=>by cases h) hh λcV H' F' w' di h1 h2 h3 h4=>hk .normal cV H' F' w' di h1 ⟨h2,h3,λt ht=>h4 t λo ho e=>ht (yb ho e)⟩
    have h2:=Ii (id:=id) (l:=ops.toList) (P:=P) (n:=nt) (Q:=Q) (ρ:=ρ) (w:=w) (by omega);omega
 | .seq x y,R,q,a,st,k,H,F,w,ρ,Q,h,hh,hk=>by
   have fin:∀{H1:aW}{F1:Nat->Prop}{w1:World}{HX:Nat->Value}{q6:State}{a2:vz},exec E nt N y a2 q6 k=aa q->dJ G w0 F0 H1 F1 w1 HX q6->dB H F w H1 F1 w1->(∀t,t∉writes x->HX t=ρ t)->uU P nt y Q HX w1:=by
    intro H1 F1 w1 HX q6 a2 g1 g2 g3 g4
    exact jL y g1 g2 λe cV H' F' w' di h1 h2=>hk e cV H' F' w' di h1 ⟨h2.here,g3.trans h2.keeps,λt ht=>(h2.same t λhm=>ht (by simp[writes,hm])).trans (g4 t λhm=>ht (by simp[writes,hm]))⟩
   have out:∀{e:Ex}{cV:State}{H':aW}{F':Nat->Prop}{w':World}{di:Nat->Value},k e cV=aa q->Ng G w0 F0 (writes x) H F w ρ H' F' w' di cV->Q e.q9 di w':=by
    intro e cV H' F' w' di g1 g2;exact hk e cV H' F' w' di g1 ⟨g2.here,g2.keeps,λt ht=>g2.same t λhm=>ht (by simp[writes,hm])⟩
   unfold exec at h;split at h
   .rename_i J a1 a2;unfold bK at h;obtain⟨s,hs,h⟩:=bind_some h;refine tN (jL x hs hh λe cV H' F' w' di h1 h2=>?_)
    cases e with
    |normal=>
     obtain⟨j,hj,rfl⟩:=map_inl h1;obtain⟨H2,F2,g1,g2⟩:=oK (W:=writes x) hj hh h2.here h2.keeps h2.same;exact fin h g1 g2 h2.same
    |exit id=>
     obtain⟨r,hr,rfl⟩:=map_inl h1;obtain rfl:=aqL h;exact out hr h2
    |ret=>
     obtain⟨r,hr,rfl⟩:=map_inl h1;obtain rfl:=aqL h;exact out hr h2
    |goto l=>
     obtain⟨r,hr,rfl⟩:=map_inl h1;obtain rfl:=aqL h;exact out hr h2
   .rename_i J a1 a2;obtain⟨s,hs,h⟩:=bind_some h;refine tN (jL x hs hh λe cV H' F' w' di h1 h2=>?_)
    cases e with
    |normal=>
     obtain⟨H2,F2,g1,g2⟩:=oK (W:=writes x) h1 hh h2.here h2.keeps h2.same;exact fin h g1 g2 h2.same
    |exit id=>cases h1
    |ret=>cases h1
    |goto l=>cases h1
   .refine tN (jL x h hh λe cV H' F' w' di h1 h2=>?_)
    cases e with
    |normal=>exact fin h1 h2.here h2.keeps h2.same
    |exit id=>exact out h1 h2
    |ret=>exact out h1 h2
    |goto l=>exact out h1 h2
 | .block id x,R,q,a,st,k,H,F,w,ρ,Q,h,hh,hk=>by
   have hw:writes (.block id x)=writes x:=rfl;rw[hw]at hk
   have toB:∀{e:Ex}{di:Nat->Value}{w':World},(match e with| .exit i=>if i=id then Q .normal di w' else Q (.exit i) di w'|e=>Q e.q9 di w')->Y0 id Q e.q9 di w':=by
    intro e di w' g
    cases e with
    |normal=>exact g
    |ret=>exact g
    |goto l=>exact g
    |exit i=>
     by_cases e:i=id
     .subst e;simp only[al]at g;exact Pk g
     .simp only[aj e]at g;refine Mi ?_ g
      cases hb:aqU i id<;>simp_all
   have Qi:∀{i:Nat},i≠id->aqU i id=ah:=λ{i}e=>by
    cases hb:aqU i id<;>simp_all
   unfold exec at h;split at h
   .rename_i J a1 a2;unfold bK at h;obtain⟨s,hs,h⟩:=bind_some h;refine wS (jL x hs hh λe cV H' F' w' di h1 h2=>toB ?_)
    have inn:(carry st J cV).map arj=aa s->Q .normal di w':=λh1=>by
     obtain⟨j,hj,rfl⟩:=map_inl h1;obtain⟨H2,F2,g1,g2⟩:=oK (W:=writes x) hj hh h2.here h2.keeps h2.same;exact hk .normal _ H2 F2 w' di h ⟨g1,g2,h2.same⟩
    have out:∀{e:Ex},(k e cV).map arc=aa s->Q e.q9 di w':=λ{e}h1=>by
     obtain⟨r,hr,rfl⟩:=map_inl h1
     grind
    cases e with
    |normal=>exact inn h1
    |exit i=>
     show if i=id then _ else _
     by_cases e:i=id
     .subst e;rw[al rfl];refine inn ?_;simpa using h1
     .rw[aj e];simp only[Qi e,cond_false]at h1;exact out (e:= .exit i) h1
    |ret=>exact out (e:= .ret) h1
    |goto l=>grind
   .rename_i J a1 a2;obtain⟨s,hs,h⟩:=bind_some h;refine wS (jL x hs hh λe cV H' F' w' di h1 h2=>toB ?_)
    have inn:carry st J cV=aa s->Q .normal di w':=λh1=>by
     obtain⟨H2,F2,g1,g2⟩:=oK (W:=writes x) h1 hh h2.here h2.keeps h2.same;exact hk .normal _ H2 F2 w' di h ⟨g1,g2,h2.same⟩
    cases e with
    |normal=>exact inn h1
    |exit i=>
     grind
    |ret=>cases h1
    |goto l=>cases h1
   .refine wS (jL x h hh λe cV H' F' w' di h1 h2=>toB ?_)
    cases e with
    |normal=>grind
    |exit i=>
     show if i=id then _ else _
     by_cases e:i=id
     .subst e;rw[al rfl];refine hk .normal cV H' F' w' di ?_ h2;simpa using h1
     .rw[aj e];simp only[Qi e,cond_false]at h1;exact hk (.exit i) cV H' F' w' di h1 h2
    |ret=>grind
    |goto l=>grind
 | .loop x,R,q,a,st,k,H,F,w,ρ,Q,h,hh,hk=>by
   have hw:writes (.loop x)=writes x:=rfl;rw[hw]at hk;unfold exec at h;split at h
   case h_2=>cases h
   rename_i L a1;split at h
   case h_2=>cases h
   rename_i s0 OB;refine OT (λs di w'=>∃H' F',dJ G w0 F0 H' F' w' di (behind st (writes x) L s)/\dB H F w H' F' w'/\∀t,t∉writes x->di t=ρ t) h ?_ ?_
   .obtain⟨H2,F2,g1,g2⟩:=oK (W:=writes x) OB hh hh (dB.refl H F w) λ_ _=>rfl
    grind
   .rintro s di w' y ⟨H',F',g1,g2,g3⟩ hy
    refine jL x hy g1 λe cV wV Fq yQ vV h1 h2=>?_
    have sm:∀t,t∉writes x->vV t=ρ t:=λt ht=>(h2.same t ht).trans (g3 t ht)
    have out:∀{e:Ex},e≠ .normal->(k e cV).map arc=aa y->VH (λs di w'=>∃H' F',dJ G w0 F0 H' F' w' di (behind st (writes x) L s)/\dB H F w H' F' w'/\∀t,t∉writes x->di t=ρ t) Q q y e.q9 vV yQ:=λ{e}he h1=>by
     obtain⟨r,hr,rfl⟩:=map_inl h1;refine⟨by cases e<;>simp_all[Ex.q9],λhq=>?_⟩;subst hq;exact hk e cV wV Fq yQ vV hr ⟨h2.here,g2.trans h2.keeps,sm⟩
    cases e with
    |normal=>
     obtain⟨j,hj,rfl⟩:=map_inl h1;obtain⟨H2,F2,m1,m2⟩:=oK (W:=writes x) hj hh h2.here (g2.trans h2.keeps) sm;exact⟨rfl,H2,F2,m1,m2,sm⟩
    |exit i=>grind
    |ret=>grind
    |goto l=>grind
 | .label l,R,q,a,st,k,H,F,w,ρ,Q,h,hh,hk=>λact hf=>wp_label ⟨ρ,hf,hk .normal st H F w ρ h ⟨hh,dB.refl H F w,λ_ _=>rfl⟩⟩
 | .scope x,R,q,a,st,k,H,F,w,ρ,Q,h,hh,hk=>by
   have h1:=jL (Q:=λe ρ w=>match e with| .goto _=>False|e=>Q e ρ w) x (show exec E nt N x a.l st (noGoto k)=aa q from h) hh λe cV H' F' w' di h1 h2=>by
    cases e with
    |goto l=>cases h1
    |_=>exact hk _ cV H' F' w' di h1 h2
   intro act hf;refine wp_scope_straight (wp_mono (h1 act hf) λe a' w' ⟨di,vB,hh'⟩=>?_)
   cases e<;>first
    |exact hh'.elim
    |exact⟨di,vB,hh'⟩
 | .goto l,R,q,a,st,k,H,F,w,ρ,Q,h,hh,hk=>λact hf=>wp_goto ⟨ρ,hf,hk (.goto l) st H F w ρ h ⟨hh,dB.refl H F w,λ_ _=>rfl⟩⟩
 | .rangeFunc ..,_,_,_,_,_,_,_,_,_,_,h,_,_=>by cases h
 | .refuse _,_,_,_,_,_,_,_,_,_,_,h,_,_=>by cases h
end
end Go.Proofs.YtfjgcenlllgonaaGreatDoor
namespace Go.Proofs.YtfjgcenlllgonaaGreatDoor
open Go Go.RowKit
def DK{P:Program}(T:b7 P)(aK:List (Nat×aN))(objs:List (Nat×(Nat×Th)))(t:Nat)(T0:TypeId):Option aN:=
 match find T.und T0 with
 |none=>ae
 |some kk=>match find aK t with
  |some (.ptr o p off)=>match find objs o with
   |some (_, .box _ tr)=>match tr.get p with
    |some (s,fZ)=>bif aqU fZ off&&pR T T0 kk s.size then aa (.val (pb kk) s)else ae
    |none=>ae
   |_=>ae
  |_=>ae
def DL{P:Program}(T:b7 P)(aK:List (Nat×aN))(objs:List (Nat×(Nat×Th))):List ResultVar->Option (List aN)
 |[]=>aa []
 | .tmp t::l=>match find aK t with
   |some d=>match DL T aK objs l with
    |some ds=>aa (d::ds)
    |none=>ae
   |none=>ae
 | .cell t T0::l=>match DK T aK objs t T0 with
   |some d=>match DL T aK objs l with
    |some ds=>aa (d::ds)
    |none=>ae
   |none=>ae
noncomputable def Xi{P:Program}(T:b7 P)(rs:List ResultVar)(nb:Nat)(out:JS)(st:State):Option (dj out.rows):=
 match DL T st.aK st.objs rs with
 |some ds=>DJ {aK:=kR 0 ds,objs:=(sq st).objs,nxt:=(sq st).nxt} (λq6=>match Ca nb [] out q6.aK q6.objs with
  |some (x,_)=>aa x
  |none=>ae) out.aK
 |none=>ae
def init(inn:JS)(x:dj inn.rows):State:=
 {aK:=(eU inn.aK (fD _ x)).1,objs:=lk 0 inn.objs (eU inn.aK (fD _ x)).2,nxt:=inn.nxt}
noncomputable def Xj{P:Program}(T:b7 P)(rs:List ResultVar)(nb:Nat)(out:JS):Ex->State->Option (dj out.rows)
 | .exit _,_=>ae
 | .goto _,_=>ae
 |_,st=>Xi T rs nb out st
noncomputable def Xk{P:Program}(E:Env P)(nt N:Nat)(c:Code)(rs:List ResultVar)(a:vz)(inn out:JS)(x:dj inn.rows):Option (dj out.rows):=
 exec E nt N c a (init inn x) (Xj E.T rs inn.nxt out)
section
variable {P:Program} {ρ:Nat->Value} {w:World} {H:aW} {F:Nat->Prop} {U:Nat->Prop} {n:Nat}
def F9(T:b7 P){t:TypeId}{kk:Oy}(hu:find T.und t=aa kk){b off:Nat}{s:Tree}{cs:List Value}(hh:Holds H F w s cs)(hc:∀j u,cs[j]? =aa u->w.cell? ⟨b,off+j,ae⟩=aa u)
 (hz:if pb kk=af then∃r,find T.row t=aa r/\r.size=s.size else s.size=1):∃v,(loadVar t ⟨b,off,ae⟩).run P w= .ok v w/\bB H F w (pb kk) s v:=by
 obtain⟨dd,xS,zk⟩:=(T.und_ok _ _ hu).agg;have hl:=hh.length
 cases ha:pb kk with
 |true=>
  rw[al ha]at hz;obtain⟨r,hr,OA⟩:=hz;obtain⟨ti,z,h1,_,_,h4,_⟩:=T.row_ok _ _ hr
  have Zc:(loadCells ⟨b,off,ae⟩ cs.length).run P w= .ok cs.toArray w:=
   run_loadCells_list (P:=P) w ⟨b,off,ae⟩ cs (λj v hv=>by rw[eG];exact hc j v hv)
  refine⟨.agg cs.toArray,?_,cs,hh,rfl,by simp⟩
  have p9:ti.size=cs.length:=by omega
  simp[loadVar,arf,iI xS,zk.trans ha,sizeOf,typeInfo,h1,p9,Zc]
 |false=>
  rw[aj (by simp[ha])]at hz
  obtain⟨v,rfl⟩:∃v,cs=[v]:=by
   match cs,hl.trans hz with
   |[v],_=>exact⟨v,rfl⟩
  refine⟨v,?_,[v],hh,rfl,λ_=>rfl⟩;have:=hc 0 v rfl;simp only[Nat.add_zero]at this;simp[loadVar,arf,iI xS,zk.trans ha,this,go_sem]
def Jd(T:b7 P){aK:List (Nat×aN)}{objs:List (Nat×(Nat×Th))}{t:Nat}{T0:TypeId}{D:aN}(h:DK T aK objs t T0=aa D)(jq:∀t d,find aK t=aa d->aO H F w d (ρ t))(hs:aX U H F w (find objs) n):
 ∃a v,ρ t= .pointer (aa a)/\(loadVar T0 a).run P w= .ok v w/\aO H F w D v:=by
 unfold DK at h;split at h
 .cases h
 rename_i kk hu;split at h
 case h_2=>cases h
 rename_i o p off hD;split at h
 case h_2=>cases h
 rename_i s0 T1 tr gz;split at h
 case h_2=>cases h
 rename_i s fZ hg;obtain⟨h1,rfl⟩:=pQ h;obtain⟨h1,h3⟩:=e8 h1;obtain rfl:=beq_true h1;obtain⟨b,hb,e⟩:=jq _ _ hD;obtain⟨es,hh,VO⟩:=hs.box gz hb;obtain⟨g1,g2⟩:=VO.get hg
 obtain⟨v,hv,sB⟩:=F9 (b:=b) (off:=fZ) T hu g1 (λj u hj=>by
  grind [zu]) (mR T h3)
 exact⟨_,v,e,hv,sB⟩
def Ug(tmps:Array Value):ResultVar->Sem Value
 | .tmp t=>pure (tmps.getD t undef)
 | .cell a t=>do loadVar t (<-asAddr (tmps.getD a undef))
def DM(T:b7 P){aK:List (Nat×aN)}{objs:List (Nat×(Nat×Th))}(jq:∀t d,find aK t=aa d->aO H F w d (ρ t))(hs:aX U H F w (find objs) n){tmps:Array Value}(hf:∀t,tmps.getD t undef=ρ t):
 {rs:List ResultVar}->{ds:List aN}->DL T aK objs rs=aa ds->∃vs:List Value,(rs.mapM (Ug tmps)).run P w= .ok vs w/\iL H F w ds vs
 |[],ds,h=>by obtain rfl:=aqL h;exact⟨[],by simp,rfl⟩
 | .tmp t::l,ds,h=>by
   unfold DL at h;split at h
   case h_2=>cases h
   rename_i d hd;split at h
   case h_2=>cases h
   rename_i ds' Bk;obtain rfl:=aqL h;obtain⟨vs,h1,h2⟩:=DM T jq hs hf Bk;refine⟨ρ t::vs,?_,ρ t,vs,rfl,jq t d hd,h2⟩
   grind [Ug,Go.Sem.run_bind,Go.Sem.run_pure,Go.Result.andThen_ok]
 | .cell t T0::l,ds,h=>by
   unfold DL at h;split at h
   case h_2=>cases h
   rename_i d hd;split at h
   case h_2=>cases h
   rename_i ds' Bk;obtain rfl:=aqL h;obtain⟨vs,h1,h2⟩:=DM T jq hs hf Bk;obtain⟨a,v,e1,e2,e3⟩:=Jd T hd jq hs;refine⟨v::vs,?_,v,vs,rfl,e3,h2⟩;have ha:(asAddr (.pointer (aa a))).run P w= .ok a w:=rfl
   grind [Ug,Go.Sem.run_bind,Go.Result.andThen_ok,Go.Sem.run_pure]
def Je(T:b7 P){fn:Func}{rs:List ResultVar}(OA:fn.results.toList=rs){aK:List (Nat×aN)}{objs:List (Nat×(Nat×Th))}(jq:∀t d,find aK t=aa d->aO H F w d (ρ t))(hs:aX U H F w (find objs) n){tmps:Array Value}(hf:∀t,tmps.getD t undef=ρ t)
 {ds:List aN}(h:DL T aK objs rs=aa ds):∃vs:List Value,(results fn tmps).run P w= .ok (Bo vs) w/\iL H F w ds vs:=by
 obtain⟨vs,h1,h2⟩:=DM T jq hs hf h;refine⟨vs,?_,h2⟩;have e:fn.results=rs.toArray:=ic OA;have er:results fn tmps=(fn.results.mapM (Ug tmps)>>= λvs=>pure (if h:vs.size=1 then vs[0]else Value.tuple vs)):=rfl;rw[er,e,List.mapM_toArray]
 have:∀vs:List Value,(if h:vs.toArray.size=1 then vs.toArray[0]else Value.tuple vs.toArray)=Bo vs:=by
  intro vs
  match vs with
  |[]=>rfl
  |[v]=>rfl
  |a::b::l=>simp[Bo]
 simp_all
def KN:{l:List (Nat×SS)}->{vs:List nT}->{k t:Nat}->{d:aN}->vR k l=af->find (eU l vs).1 t=aa d->t<k+l.length
 |[],_,_,_,_,_,h=>by cases h
 |(t0,s)::l,vs,k,t,d,hi,h=>by
  obtain⟨h1,h2⟩:=e8 hi;have h':find ((t0,(gG s vs).1)::(eU l (gG s vs).2).1) t=aa d:=h;rw[bA]at h';have:=beq_true h1;rw[arh];split at h'
  .omega
  .have:=KN h2 h';omega
def Wc(P:Program)(nt:Nat)(c:Code)(run:{R:Type}->State->(Ex->State->Option R)->Option R):Prop:=
 ∀{R:Type}{q:R}{st:State}{k:Ex->State->Option R}{H:aW}{F:Nat->Prop}{w:World}{ρ:Nat->Value}{G:Nat->Prop}{w0:World}{F0:Nat->Prop}{Q:Exit->(Nat->Value)->World->Prop},
  run st k=aa q->dJ G w0 F0 H F w ρ st->(∀e cV H' F' w' di,k e cV=aa q->Ng G w0 F0 (writes c) H F w ρ H' F' w' di cV->Q e.q9 di w')->uU P nt c Q ρ w
def Qj{E:Env P}{f:FuncId}{fn:Func}{c:Code}{rs:List ResultVar}{sg:qc}{run:{R:Type}->State->(Ex->State->Option R)->Option R}(hW:Wc P fn.ntmps c run)(hf:P.funcs[f]? =aa fn)(hn:(fn.name== "runtime.NumGoroutine")=ah)(hb:fn.body=aa c)(OA:fn.results.toList=rs)
 (rB:vR 0 sg.inn.aK=af)(hlen:Nat.ble sg.inn.aK.length fn.ntmps=af)(Bi:aqU rs.length sg.out.aK.length=af)
 (Co:∀x,sg.fn x=run (init sg.inn x) (Xj E.T rs sg.inn.nxt sg.out)):jF P f sg:=by
 refine⟨⟨fn,hf,hn,by rw[hb];rfl⟩,λx y Bg args w H F G Kc jq gz kt hG=>?_⟩
 have hlen:sg.inn.aK.length<=fn.ntmps:=by simpa using hlen
 have Bi:=beq_true Bi
 refine(C6 (R:=λv w'=>∃vs,v=Bo vs/\vs.length=sg.out.aK.length/\∃H' F',Ext G w w'/\H.le H'/\(∀b,F b->F' b)/\(∀b,F' b->F b\/w.heap.size<=b\/G b)/\
  (∀t d,find (eU sg.out.aK (fD _ y)).1 t=aa d->aO H' F' w' d (vs.getD t undef))/\
  aX (λk=>w.heap.size<=k\/G k) H' F' w' (find (lk sg.inn.nxt sg.out.objs (eU sg.out.aK (fD _ y)).2)) sg.out.nxt/\lT H' sg.out.nxt) hf hb (by omega) λρ T8=>?_).mono (by grind)
 have aes:∀t,t<args.length->ρ t=args.getD t undef:=(by grind)
 have keys:∀t d,find (eU sg.inn.aK (fD sg.inn.rows x)).1 t=aa d->aO H F w d (ρ t):=λt d hd=>by
  rw[aes t (by have:=KN rB hd;omega)];exact jq t d hd
 have hh:dJ G w F H F w ρ (init sg.inn x):=⟨⟨keys,gz,kt⟩,⟨⟨rfl,rfl,rfl,aqS _,λ_ _ _=>rfl⟩,λ_ h=>h,λ_ h=> .inl h⟩⟩
 refine hW ((Co x).symm.trans Bg) hh λe cV H' F' w' di h1 h2=>?_
 have main:Xi E.T rs sg.inn.nxt sg.out cV=aa y->∀act,Fr fn.ntmps act di->∃v,(results fn act.tmps).run P w'= .ok v w'/\∃vs,v=Bo vs/\vs.length=sg.out.aK.length/\∃H' F',Ext G w w'/\H.le H'/\(∀b,F b->F' b)/\(∀b,F' b->F b\/w.heap.size<=b\/G b)/\
  (∀t d,find (eU sg.out.aK (fD _ y)).1 t=aa d->aO H' F' w' d (vs.getD t undef))/\
  aX (λk=>w.heap.size<=k\/G k) H' F' w' (find (lk sg.inn.nxt sg.out.objs (eU sg.out.aK (fD _ y)).2)) sg.out.nxt/\lT H' sg.out.nxt:=by
  intro hr act EU;unfold Xi at hr;split at hr
  case h_2=>cases hr
  rename_i ds Bk;obtain⟨vs,g1,g2⟩:=Je E.T OA h2.here.sat.slot h2.here.sat.ob EU.get Bk;have hdl:=m6 g2;refine⟨_,g1,vs,rfl,?_,?_⟩
  .have:∀{rs:List ResultVar}{ds:List aN},DL E.T cV.aK cV.objs rs=aa ds->ds.length=rs.length:=by
    intro rs
    induction rs with
    |nil=>intro ds h;obtain rfl:=aqL h;rfl
    |cons r l ih=>
     intro ds h
     cases r<;>unfold DL at h<;>split at h<;>try cases h
     all_goals grind
   grind
  .have OB:aX (UU G w) H F w (find (del [] [])) sg.inn.nxt:=⟨λ_ _ _ h=>(by cases h),λ_ _ _ _ _ _ _ _ _ h=>(by cases h),gz.fresh,gz.lt,gz.new,gz.gl⟩
   obtain⟨H4,F4,h4,k4⟩:=h2.here.sq;obtain⟨q6,H3,F3,hr,h3,k3⟩:=dJ.DJ (ρ:=λt=>vs.getD t undef) (st:={aK:=kR 0 ds,objs:=(sq cV).objs,nxt:=(sq cV).nxt}) sg.out.aK ⟨⟨λt d hd=>aO.keep k4.mi k4.step (by simpa using(sP g2 t d hd).2),h4.sat.ob,h4.sat.all⟩,h4.glob⟩ hr;split at hr
   case h_2=>cases hr
   rename_i _ z rest hp;obtain⟨bs,bC⟩:=rest;obtain rfl:=aqL hr;obtain⟨F2,H2,a1,a2,a3,_,a5,_,a6,a7,a8⟩:=zP (U':=UU G w) (ns:=[]) (objs0:=[]) (ρ:=λt=>vs.getD t undef) hp OB kt ((h2.keeps.trans k4).trans k3) h3.sat.ob (λt d hd=>h3.sat.slot t d hd)
   have yD:=a8 h3.sat.ob.new (λo s t v k _ m2 m3 m4=>by
    obtain⟨v',gZ,eJ⟩:=a1.obj _ _ _ m2;rw[m3]at gZ;obtain rfl:=aqL gZ
    exact eJ.use k m4) (λ_ _ _ _ _ h=>by cases h)
   rw[show del [] ([]:List (Nat×(Nat×Th)))=[]from rfl,List.append_nil]at yD;refine⟨H2,F2,h3.glob.ext,a5,λb hb=>a2 b (h3.glob.le b hb),λb hb=>?_,a7,yD,a6⟩
   rcases a3 b hb with m1|m1
   .exact h3.glob.new b m1
   .exact .inr (h3.sat.ob.km b m1)
 cases e with
 |normal=>exact main h1
 |ret=>exact main h1
 |exit id=>cases h1
 |goto l=>cases h1
def aam{E:Env P}{f:FuncId}{fn:Func}{c:Code}{rs:List ResultVar}{N:Nat}{a:vz}{sg:qc}(hf:P.funcs[f]? =aa fn)(hn:(fn.name== "runtime.NumGoroutine")=ah)(hb:fn.body=aa c)(OA:fn.results.toList=rs)
 (rB:vR 0 sg.inn.aK=af)(hlen:Nat.ble sg.inn.aK.length fn.ntmps=af)(Bi:aqU rs.length sg.out.aK.length=af)
 (Co:∀x,sg.fn x=Xk E fn.ntmps N c rs a sg.inn sg.out x):jF P f sg:=
 Qj (E:=E) (run:=λst k=>exec E fn.ntmps N c a st k) (λh hh hk=>jL c h hh hk) hf hn hb OA rB hlen Bi Co
structure CT(P:Program)where
 f:Nat
 sg:qc
 ok:jF P f sg
def ck{P:Program}{f:Nat}{sg:qc}(h:jF P f sg):CT P:=⟨f,sg,h⟩
def CT.tab{P:Program}:List (CT P)->List (Nat×qc)
 |[]=>[]
 |c::l=>(c.f,c.sg)::CT.tab l
def CT.DN{P:Program}:{l:List (CT P)}->∀p∈CT.tab l,jF P p.1 p.2
 |[],_,h=>by cases h
 |c::l,p,h=>by
  rcases arw.1 h with rfl|h
  .exact c.ok
  .exact CT.DN p h
def fwB(fn:Func)(sg:qc):Bool:= !(fn.name== "runtime.NumGoroutine")&&fn.body.isSome&&vR 0 sg.inn.aK&&Nat.ble sg.inn.aK.length fn.ntmps&&aqU fn.results.toList.length sg.out.aK.length
def fw(E:Env P){f:FuncId}{fn:Func}{N:Nat}{sg:qc}(a:vz)(hf:P.funcs[f]? =aa fn)(hc:fwB fn sg=af)
 (Co:∀x,sg.fn x=Xk E fn.ntmps N (fn.body.getD .skip) fn.results.toList a sg.inn sg.out x):jF P f sg:=by
 unfold fwB at hc;simp only[arV,Bool.not_eq_true']at hc;obtain⟨⟨⟨⟨h1,h2⟩,h3⟩,h4⟩,h5⟩:=hc;obtain⟨c,hc⟩:=arA.1 h2;exact aam (E:=E) (N:=N) (a:=a) hf h1 (by rw[hc];rfl) rfl h3 h4 h5 Co
@[reducible] def SS.l(r:Row):SS:= .val ah (.leaf r)
@[reducible] def SS.g(r:Row):SS:= .val af (.leaf r)
def uc{f:FuncId}{fn:Func}{sg:qc}(hf:P.funcs[f]? =aa fn)(hn:(fn.name== "runtime.NumGoroutine")=ah)(hb:fn.body.isNone=ah)(Co:∀x,sg.fn x=ae):jF P f sg:=
 ⟨⟨fn,hf,hn,hb⟩,(by grind)⟩
abbrev aC:Row:= .int .i64
def nn{α:Type}:Nat->List α->List (Nat×α)
 |_,[]=>[]
 |n,a::l=>(n,a)::nn (n+1) l
abbrev JS.j1(l:List SS)(o:List OS)(k:Nat):JS:=⟨nn 0 l,nn 0 o,[],k⟩
abbrev JS.i1(l:List SS):JS:= .j1 l [] 0
abbrev JS.w1(t:Nat)(r:Row):JS:= .j1 [.val ah (.own 0)] [.own t r] 1
abbrev u2{A B R:Type}(f:A->B->R)(x:A×B):R:=f x.1 x.2
abbrev u3{A B C R:Type}(f:A->B->C->R)(x:A×B×C):R:=f x.1 x.2.1 x.2.2
abbrev u4{A B C D R:Type}(f:A->B->C->D->R)(x:A×B×C×D):R:=f x.1 x.2.1 x.2.2.1 x.2.2.2
abbrev u5{A B C D E R:Type}(f:A->B->C->D->E->R)(x:A×B×C×D×E):R:=f x.1 x.2.1 x.2.2.1 x.2.2.2.1 x.2.2.2.2
abbrev u6{A B C D E F R:Type}(f:A->B->C->D->E->F->R)(x:A×B×C×D×E×F):R:=f x.1 x.2.1 x.2.2.1 x.2.2.2.1 x.2.2.2.2.1 x.2.2.2.2.2
inductive Tk where
 |O|T|X
 |B (i n:Nat)
 |L (i n:Nat)
 |E (n:Nat)
 |R (j:JS)
 |J (j:JS)
 |P (j:JS)
def dk:Nat->List Tk->(vz->List Tk->vz)->vz
 |k+1, .O::l,c=>dk k l λa l=>c (.two .nil a) l
 |k+1, .T::l,c=>dk k l λa l=>dk k l λb l=>c (.two a b) l
 |_+1, .X::l,c=>c .nil l
 |_+1, .B i n::l,c=>c (.meet ⟨[(i, .l .bool)],[],[],n⟩ .nil .nil) l
 |k+1, .L i n::l,c=>dk k l λa l=>c (.loop ⟨[(i, .l aC)],[],[],n⟩ a) l
 |k+1, .E n::l,c=>dk k l λa l=>dk k l λb l=>c (.join ⟨[],[],[],n⟩ a b) l
 |k+1, .R j::l,c=>dk k l λa l=>dk k l λb l=>c (.meet j a b) l
 |k+1, .J j::l,c=>dk k l λa l=>dk k l λb l=>c (.join j a b) l
 |k+1, .P j::l,c=>dk k l λa l=>c (.loop j a) l
 |_,_,c=>c .nil []
abbrev ak(l:List Tk):vz:=dk 9999 l λa _=>a
instance{P:Program}{f:Nat}{sg:qc}:CoeOut (jF P f sg) (CT P):=⟨ck⟩
end
end Go.Proofs.YtfjgcenlllgonaaGreatDoor
end
namespace Go.Proofs.YtfjgcenlllgonaaGreatDoor
open Go Go.RowKit
set_option maxRecDepth 100000
set_option linter.unusedSimpArgs false
set_option linter.unusedVariables false
set_option linter.defProp false
inductive Nh(F:Nat->Prop)(w:World):Nat->List (Nat×SS)->List nT->List Value->Prop where
 |nil {k:Nat}:Nh F w k [] [] []
 |cons {k:Nat} {agg:Bool} {r:Row} {x:r.den} {v:Value} {ss:List (Nat×SS)} {ds:List nT} {vs:List Value} (h:bB ⟨λ_=>ae,λ_=>ae,λ_ _=>False⟩ F w agg (.leaf r x) v) (hs:Nh F w (k+1) ss ds vs):Nh F w k ((k, .val agg (.leaf r))::ss) (⟨r,x⟩::ds) (v::vs)
def Nh.aK{F:Nat->Prop}{w:World}{k:Nat}{ss:List (Nat×SS)}{ds:List nT}{vs:List Value}(h:Nh F w k ss ds vs):(∀t d,find (eU ss ds).1 t=aa d->k<=t/\aO ⟨λ_=>ae,λ_=>ae,λ_ _=>False⟩ F w d (vs.getD (t-k) undef))/\(eU ss ds).2=[]/\vs.length=ss.length:=by
 induction h with
 |nil=>exact⟨λ_ _ h=>(by cases h),rfl,rfl⟩
 | @cons k agg r x v ss ds vs h hs ih=>
   refine⟨λt d hf=>?_,ih.2.1,by simp[ih.2.2]⟩;have vB:find ((k,aN.val agg (bif r.beq r then Tree.leaf r x else .nil))::(eU ss ds).1) t=aa d:=hf;rw[bA]at vB;split at vB
   .rename_i e;subst e;obtain rfl:=aqL vB;rw[Row.beq_refl,Nat.sub_self];exact⟨aqS _,h⟩
   grind
def Qk(F:Nat->Prop)(w:World)(k:IntKind)(x:Int):bB ⟨λ_=>ae,λ_=>ae,λ_ _=>False⟩ F w ah (.leaf (.int k) x) (.int k x):=bB.qf rfl
def yc{F:Nat->Prop}{w:World}{r:Row}{x:r.den}{es:List Value}(h:eF F w r es x):bB ⟨λ_=>ae,λ_=>ae,λ_ _=>False⟩ F w af (.leaf r x) (.agg es.toArray):=⟨es,h,rfl,by simp⟩
def Ni{P:Program}{f:FuncId}{inn:JS}{fn:dj inn.rows->Option Bool}(h:jF P f ⟨inn,⟨[(0, .val ah (.leaf .bool))],[],[],0⟩,fn⟩){x:dj inn.rows}{y:Bool}(hy:fn x=aa y){ds:List nT}(Bk:fD inn.rows x=ds){W:World}{vs:List Value}
 (ha:Nh (λb=>b<W.heap.size) W 0 inn.aK ds vs)(ho:inn.objs=[])(hgl:uX (λb=>b<W.heap.size) W):Calls P f vs.toArray W λe W'=>e= .returned (.bool y)/\Below W.heap.size W W':=by
 obtain⟨h1,h2,h3⟩:=ha.aK;subst Bk
 refine(h.ok x y hy vs W ⟨λ_=>ae,λ_=>ae,λ_ _=>False⟩ (λb=>b<W.heap.size) (λ_=>False) h3 (by grind) ?_ (λ_ _=>⟨rfl,rfl⟩) (λ_ h=>h.elim)).mono λe W' ⟨us,he,W1,H',F',a1,_,_,_,a5,_⟩=>?_
 .show aX _ _ _ W (find (lk 0 inn.objs _)) inn.nxt
  rw[ho];exact⟨λ_ _ _ h=>(by cases h),λ_ _ _ _ _ _ _ _ _ h=>(by cases h),λ_ _ _=>⟨rfl,rfl⟩,λ_ h=>h,λ_ h=> .inl h,hgl⟩
 .refine⟨?_,⟨a1.os,a1.tape,a1.output,a1.size,λk hk=>a1.block k hk (λh=>h)⟩⟩
  match us,W1 with
  |[u],_=>
   have:=a5 0 (fR y) rfl;have hu:u= .bool y:=bB.bool (x:=y) this;rw[he,hu];rfl
def Nj{H:Type}{enc:TypeId×Value->H}{P:Program}{W:World}{base:Nat}{spare:Nat->Bool}{held:Bool}{fuel:Nat}{t e:TypeId}{n:Nat}{k:IntKind}(ht:P.underlying t=aa (.array n e))(he:P.underlying e=aa (.int k))(hc:P.cellsOf e=1)(Xl:P.cellsOf t=n)
 {cs:List Value}{ns:List Int}{q:List MemPlace}(hd:DataW.trod enc P W base spare held fuel t cs=aa (.agg (ns.map λx=> .lit (.int k x)),q)):cs=ns.map λx=> .int k x:=by
 obtain⟨xs,m,_,hx,hl,hn,wR⟩:=DataW.trod_array ht hd;simp only[Prod.mk.injEq,DataW.agg.injEq]at hx
 have hln:ns.length=n:=by rw[<-hn,<-arb (f:=λx:Int=>(DataW.lit (.int k x):DataW H)),hx.1,arb]
 apply List.ext_getElem?
 intro i;by_cases hi:i<n
 .have h:=wR i hi;rw[hc,Nat.mul_one,aqK (by omega:i<xs.length)]at h;obtain⟨z,h1,h2,_⟩:=DataW.trod_int he h
  have h3:(xs.map (·.1))[i]? =aa (.lit (.int k z)):=by
   rw[arP,aqK (by omega:i<xs.length),h2];rfl
  rw[<-hx.1,arP,aqK (by omega:i<ns.length)]at h3;simp only[Option.map_some,aq1,DataW.lit.injEq,Lit.int.injEq,true_and]at h3;rw[arP,aqK (by omega:i<ns.length),h3]
  have h4:((cs.drop i).take 1)[0]? =aa (.int k z):=by rw[h1];rfl
  grind
 grind
def Uh{W:World}{b off:Nat}{v:Value}(h:W.cell? ⟨b,off,ae⟩=aa v):b<W.heap.size:=by
 unfold World.cell? at h
 grind
section
def Xm(l:Nat)(J:(Nat->Value)->World->Prop)(Q:Exit->(Nat->Value)->World->Prop):Exit->(Nat->Value)->World->Prop
 | .goto l',ρ,w=>l'=l/\J ρ w
 |e,ρ,w=>Q e ρ w
def aan(l:Nat)(J:Act->World->Prop)(Q:Exit->Act->World->Prop):Exit->Act->World->Prop
 | .goto l',a,w=>l'=l/\J a w
 |e,a,w=>Q e a w
def Bx{P:Program}{a:Act}{w:World}{Q:Exit->Act->World->Prop}{c rest:Code}(l:Nat)(J:Nat->Act->World->Prop)(hf:findLabel c l=aa rest)
 (first:c.wp P (aan l (λa w=>∃n,J n a w) Q) a w)
 (pass:∀n a w,J n a w->rest.wp P (aan l (λa' w'=>∃m,m<n/\J m a' w') Q) a w):(Code.scope c).wp P Q a w:=by
 intro b k cs
 have hg:gotoIn l (.inScope c::k)=aa (.code rest:: .inScope c::k):=by simp[gotoIn,hf]
 have key:∀n a w,J n a w->∃e a' w',Q e a' w'/\Arrives P (lone (b.at a (.code rest:: .inScope c::k)) cs w) b k cs e a' w':=by
  intro n
  induction n using Nat.strongRecOn with
  |_ n ih=>
   intro a w hJ;obtain⟨e,xr,xu,hq,xv⟩:=pass n a w hJ b (.inScope c::k) cs
   cases e with
   |normal=>exact⟨.normal,xr,xu,hq,Steps.trans xv (.one step_inScope)⟩
   |exit id=>exact⟨.exit id,xr,xu,hq,λk' hk=>xv k' (by simp[exitTo,hk])⟩
   |goto l'=>
    obtain⟨rfl,m,aI,hJ'⟩:=hq;obtain⟨Xn,Xo,Xp,Ql,DO⟩:=ih m aI xr xu hJ';exact⟨Xn,Xo,Xp,Ql, .of_steps (xv _ hg) DO⟩
   |ret=>exact⟨_,xr,xu,hq,xv⟩
   |panic ch=>exact⟨_,xr,xu,hq,xv⟩
   |outgrown=>exact⟨_,xr,xu,hq,xv⟩
 obtain⟨e,xr,xu,hq,xv⟩:=first b (.inScope c::k) cs
 cases e with
 |normal=>exact⟨.normal,xr,xu,hq, .head step_scope (Steps.trans xv (.one step_inScope))⟩
 |exit id=>exact⟨.exit id,xr,xu,hq,λk' hk=> .head step_scope (xv k' (by simp[exitTo,hk]))⟩
 |goto l'=>
  obtain⟨rfl,m,hJ'⟩:=hq;obtain⟨Xn,Xo,Xp,Ql,DO⟩:=key m xr xu hJ';exact⟨Xn,Xo,Xp,Ql, .of_steps (.head step_scope (xv _ hg)) DO⟩
 |ret=>exact⟨_,xr,xu,hq, .of_steps (.one step_scope) xv⟩
 |panic ch=>exact⟨_,xr,xu,hq, .of_steps (.one step_scope) xv⟩
 |outgrown=>exact⟨_,xr,xu,hq, .of_steps (.one step_scope) xv⟩
def Nk{P:Program}{n:Nat}{Q:Exit->(Nat->Value)->World->Prop}{ρ:Nat->Value}{w:World}{x b:Code}{l:Nat}(J:Nat->(Nat->Value)->World->Prop)(hf:findLabel x l=aa (.seq .skip b))
 (first:uU P n x (Xm l (λρ w=>∃m,J m ρ w) Q) ρ w)(pass:∀m ρ w,J m ρ w->uU P n b (Xm l (λρ w=>∃k,k<m/\J k ρ w) Q) ρ w):uU P n (.scope x) Q ρ w:=by
 intro act aev
 refine Bx l (λm a w=>∃ρ,Fr n a ρ/\J m ρ w) hf (wp_mono (first act aev) λe a' w' ⟨di,h1,h2⟩=>?_) λm a w ⟨ρ,hr,hJ⟩=>wp_seq (wp_skip (wp_mono (pass m ρ w hJ a hr) λe a' w' ⟨di,h1,h2⟩=>?_))
 .cases e with
  |goto l'=>exact⟨h2.1,h2.2.imp λm hm=>⟨di,h1,hm⟩⟩
  |_=>exact⟨di,h1,h2⟩
 .cases e with
  |goto l'=>exact⟨h2.1,h2.2.imp λm hm=>⟨hm.1,di,h1,hm.2⟩⟩
  |_=>exact⟨di,h1,h2⟩
def yd(l:Nat):Code->Option Code
 | .seq a b=>match a with
   | .label l'=>bif aqU l' l then aa b else ae
   |a=>bif (findLabel a l).isNone then yd l b else ae
 |_=>ae
def Ga{l:Nat}:{x b:Code}->yd l x=aa b->findLabel x l=aa (.seq .skip b)
 | .seq a y,b,h=>by
   unfold yd at h;split at h
   .rename_i l';obtain⟨h1,rfl⟩:=pQ h;obtain rfl:=beq_true h1;simp[findLabel]
   .obtain⟨h1,h2⟩:=bz h;have h3:=Ga h2
    have h4:findLabel a l=ae:=by simpa using h1
    simp[findLabel,h4,h3]
 | .skip,_,h=>by cases h
 | .ret,_,h=>by cases h
 | .exit _,_,h=>by cases h
 | .cond _ _ _,_,h=>by cases h
 | .region _ _ _,_,h=>by cases h
 | .block _ _,_,h=>by cases h
 | .loop _,_,h=>by cases h
 | .label _,_,h=>by cases h
 | .scope _,_,h=>by cases h
 | .goto _,_,h=>by cases h
 | .rangeFunc ..,_,h=>by cases h
 | .refuse _,_,h=>by cases h
noncomputable def KO{P:Program}(E:Env P)(nt N l:Nat){R:Type}:Code->vz->State->(Ex->State->Option R)->(State->Option R)->Option R
 | .seq a b,an,st,k,kL=>match a with
   | .label _=>kL st
   |a=>exec E nt N a an.l st (λe cV=>match e with
    | .normal=>KO E nt N l b an.r cV k kL
    |e=>k e cV)
 |_,_,_,_,_=>ae
noncomputable def Qm{P:Program}(E:Env P)(nt N l:Nat)(x:Code){R:Type}(L:JS)(a1 a2:vz)(st:State)(k:Ex->State->Option R):Option R:=
 match yd l x with
 |some b=>bK (J:=dj L.rows) (R:=R) (KO E nt N l (R:=dj L.rows⊕R) x a1 st (noGoto λe cV=>(k e cV).map .inr) (λcV=>(carry st L cV).map .inl)) λs0=>
   Loop (S:=dj L.rows) (X:=R) (λs=>exec E nt N b (R:=dj L.rows⊕R) a2 (behind st (writes x) L s) (λe cV=>match e with
    | .goto i=>bif aqU i l then(carry st L cV).map .inl else ae
    |e=>(k e cV).map .inr)) N s0
 |none=>ae
noncomputable def KP{P:Program}(E:Env P)(nt N l:Nat)(c:Code){R:Type}(L:JS)(a0 a1 a2:vz)(st:State)(k:Ex->State->Option R):Option R:=
 match c with
 | .seq r (.scope x)=>exec E nt N r a0 st (λe cV=>match e with
   | .normal=>Qm E nt N l x L a1 a2 cV k
   |e=>k e cV)
 |_=>ae
section
variable {P:Program} {nt N:Nat} {R:Type}
variable {ρ:Nat->Value} {w w0:World} {H:aW} {F F0 G:Nat->Prop}
def vX{l:Nat}:{x b:Code}->yd l x=aa b->∀t∈writes b,t∈writes x
 | .seq a y,b,h,t,ht=>by
   unfold yd at h;split at h
   .obtain⟨h1,rfl⟩:=pQ h;simp[writes,ht]
   .obtain⟨h1,h2⟩:=bz h;simp[writes,vX h2 t ht]
 | .skip,_,h,_,_=>by cases h
 | .ret,_,h,_,_=>by cases h
 | .exit _,_,h,_,_=>by cases h
 | .cond _ _ _,_,h,_,_=>by cases h
 | .region _ _ _,_,h,_,_=>by cases h
 | .block _ _,_,h,_,_=>by cases h
 | .loop _,_,h,_,_=>by cases h
 | .label _,_,h,_,_=>by cases h
 | .scope _,_,h,_,_=>by cases h
 | .goto _,_,h,_,_=>by cases h
 | .rangeFunc ..,_,h,_,_=>by cases h
 | .refuse _,_,h,_,_=>by cases h
def Gb{E:Env P}{l:Nat}{q:R}:(c:Code)->{b:Code}->{a:vz}->{st:State}->{k:Ex->State->Option R}->{kL:State->Option R}->{H:aW}->{F:Nat->Prop}->{w:World}->{ρ:Nat->Value}->{Q:Exit->(Nat->Value)->World->Prop}->
 yd l c=aa b->KO E nt N l c a st k kL=aa q->dJ G w0 F0 H F w ρ st->
 (∀e cV H' F' w' di,k e cV=aa q->Ng G w0 F0 (writes c) H F w ρ H' F' w' di cV->Q e.q9 di w')->
 (∀cV H' F' w' di,kL cV=aa q->Ng G w0 F0 (writes c) H F w ρ H' F' w' di cV->uU P nt b Q di w')->uU P nt c Q ρ w
 | .seq a y,b,an,st,k,kL,H,F,w,ρ,Q,ht,h,hh,hk,hL=>by
   unfold yd at ht;unfold KO at h;split at ht
   .obtain⟨h1,rfl⟩:=pQ ht;exact tN (λact hf=>wp_label ⟨ρ,hf,hL st H F w ρ h ⟨hh,dB.refl H F w,λ_ _=>rfl⟩⟩)
   .rename_i dG;obtain⟨h1,h2⟩:=bz ht;split at h
    .grind
    refine tN (jL a h hh λe cV H' F' w' di g1 g2=>?_)
    have out:∀{e:Ex},k e cV=aa q->Q e.q9 di w':=λ{e}g1=>hk e cV H' F' w' di g1 ⟨g2.here,g2.keeps,λt ht=>g2.same t λhm=>ht (by simp[writes,hm])⟩
    cases e with
    |normal=>
     refine Gb y h2 g1 g2.here (λe Qn wV Fq yQ vV m1 m2=>?_) λQn wV Fq yQ vV m1 m2=>?_
     .exact hk e Qn wV Fq yQ vV m1 ⟨m2.here,g2.keeps.trans m2.keeps,λt ht=>(m2.same t λhm=>ht (by simp[writes,hm])).trans (g2.same t λhm=>ht (by simp[writes,hm]))⟩
     .exact hL Qn wV Fq yQ vV m1 ⟨m2.here,g2.keeps.trans m2.keeps,λt ht=>(m2.same t λhm=>ht (by simp[writes,hm])).trans (g2.same t λhm=>ht (by simp[writes,hm]))⟩
    |exit i=>exact out g1
    |ret=>exact out g1
    |goto i=>exact out g1
 | .skip,_,_,_,_,_,_,_,_,_,_,h,_,_,_,_=>by cases h
 | .ret,_,_,_,_,_,_,_,_,_,_,h,_,_,_,_=>by cases h
 | .exit _,_,_,_,_,_,_,_,_,_,_,h,_,_,_,_=>by cases h
 | .cond _ _ _,_,_,_,_,_,_,_,_,_,_,h,_,_,_,_=>by cases h
 | .region _ _ _,_,_,_,_,_,_,_,_,_,_,h,_,_,_,_=>by cases h
 | .block _ _,_,_,_,_,_,_,_,_,_,_,h,_,_,_,_=>by cases h
 | .loop _,_,_,_,_,_,_,_,_,_,_,h,_,_,_,_=>by cases h
 | .label _,_,_,_,_,_,_,_,_,_,_,h,_,_,_,_=>by cases h
 | .scope _,_,_,_,_,_,_,_,_,_,_,h,_,_,_,_=>by cases h
 | .goto _,_,_,_,_,_,_,_,_,_,_,h,_,_,_,_=>by cases h
 | .rangeFunc ..,_,_,_,_,_,_,_,_,_,_,h,_,_,_,_=>by cases h
 | .refuse _,_,_,_,_,_,_,_,_,_,_,h,_,_,_,_=>by cases h
def Qo{E:Env P}{l:Nat}{x:Code}{L:JS}{a1 a2:vz}{q:R}{st:State}{k:Ex->State->Option R}{Q:Exit->(Nat->Value)->World->Prop}(h:Qm E nt N l x L a1 a2 st k=aa q)(hh:dJ G w0 F0 H F w ρ st)
 (hk:∀e cV H' F' w' di,k e cV=aa q->Ng G w0 F0 (writes x) H F w ρ H' F' w' di cV->Q e.q9 di w'):uU P nt (.scope x) Q ρ w:=by
 unfold Qm at h;split at h
 case h_2=>cases h
 rename_i b hb;unfold bK at h;obtain⟨s,hs,h⟩:=bind_some h;have hbw:=vX hb
 let I:dj L.rows->(Nat->Value)->World->Prop:=λs di w'=>∃H' F',dJ G w0 F0 H' F' w' di (behind st (writes x) L s)/\dB H F w H' F' w'/\∀t,t∉writes x->di t=ρ t
 let body:dj L.rows->Option (dj L.rows⊕R):=λs=>exec E nt N b (R:=dj L.rows⊕R) a2 (behind st (writes x) L s) (λe cV=>match e with
  | .goto i=>bif aqU i l then(carry st L cV).map .inl else ae
  |e=>(k e cV).map .inr)
 have pass:∀m HX w1,(∃s,I s HX w1/\Loop body m s=aa q)->uU P nt b (Xm l (λρ w=>∃k,k<m/\∃s,I s ρ w/\Loop body k s=aa q) Q) HX w1:=by
  rintro m HX w1 ⟨s,⟨H1,F1,g1,g2,g3⟩,hl⟩
  cases m with
  |zero=>cases hl
  |succ m=>
   unfold Loop at hl
   cases hy:body s with
   |none=>grind
   |some y=>
    rw[hy]at hl
    refine jL b hy g1 λe cV H' F' w' di m1 m2=>?_
    have sm:∀t,t∉writes x->di t=ρ t:=λt ht=>(m2.same t λhm=>ht (hbw t hm)).trans (g3 t ht)
    have out:∀{e:Ex},(k e cV).map arc=aa y->Q e.q9 di w':=λ{e}h1=>by
     obtain⟨r,hr,rfl⟩:=map_inl h1;obtain rfl:=aqL hl;exact hk e cV H' F' w' di hr ⟨m2.here,g2.trans m2.keeps,sm⟩
    cases e with
    |normal=>exact out (e:= .normal) m1
    |exit i=>exact out (e:= .exit i) m1
    |ret=>exact out (e:= .ret) m1
    |goto i=>
     obtain⟨h1,h2⟩:=bz m1;obtain rfl:=beq_true h1;obtain⟨j,hj,rfl⟩:=map_inl h2;obtain⟨H2,F2,n1,n2⟩:=oK (W:=writes x) hj hh m2.here (g2.trans m2.keeps) sm;exact⟨rfl,m,Nat.lt_succ_self m,j,⟨H2,F2,n1,n2,sm⟩,hl⟩
 refine Nk (λm ρ w=>∃s,I s ρ w/\Loop body m s=aa q) (Ga hb) ?_ pass
 refine Gb x hb hs hh (λe cV H' F' w' di m1 m2=>?_) λcV H' F' w' di m1 m2=>?_
 .cases e with
  |goto i=>cases m1
  |normal=>
   obtain⟨r,hr,rfl⟩:=map_inl (show(k .normal cV).map arc=aa s from m1);obtain rfl:=aqL h;exact hk .normal cV H' F' w' di hr m2
  |exit i=>
   obtain⟨r,hr,rfl⟩:=map_inl (show(k (.exit i) cV).map arc=aa s from m1);obtain rfl:=aqL h;exact hk (.exit i) cV H' F' w' di hr m2
  |ret=>
   obtain⟨r,hr,rfl⟩:=map_inl (show(k .ret cV).map arc=aa s from m1);obtain rfl:=aqL h;exact hk .ret cV H' F' w' di hr m2
 .obtain⟨j,hj,rfl⟩:=map_inl m1;obtain⟨H2,F2,n1,n2⟩:=oK (W:=writes x) hj hh m2.here m2.keeps m2.same
  refine OO (pass N di w' ⟨j,⟨H2,F2,n1,n2,m2.same⟩,h⟩) λe ρ2 w2 hq=>?_
  cases e with
  |goto i=>exact⟨hq.1,hq.2.imp λm hm=>hm.2⟩
  |_=>exact hq
def Gc{E:Env P}{l:Nat}{c:Code}{L:JS}{a0 a1 a2:vz}:Wc P nt c λst k=>KP E nt N l c L a0 a1 a2 st k:=by
 intro R q st k H F w ρ G w0 F0 Q h hh hk;unfold KP at h;split at h
 case h_2=>cases h
 rename_i r x;refine tN (jL r h hh λe cV H' F' w' di g1 g2=>?_)
 have out:∀{e:Ex},k e cV=aa q->Q e.q9 di w':=λ{e}g1=>hk e cV H' F' w' di g1 ⟨g2.here,g2.keeps,λt ht=>g2.same t λhm=>ht (by simp[writes,hm])⟩
 cases e with
 |normal=>
  refine Qo g1 g2.here λe Qn wV Fq yQ vV m1 m2=>?_
  exact hk e Qn wV Fq yQ vV m1 ⟨m2.here,g2.keeps.trans m2.keeps,λt ht=>(m2.same t λhm=>ht (by simp[writes,hm])).trans (g2.same t λhm=>ht (by simp[writes,hm]))⟩
 |exit i=>exact out g1
 |ret=>exact out g1
 |goto i=>exact out g1
def Qp{E:Env P}{f:FuncId}{fn:Func}{c:Code}{rs:List ResultVar}{N l:Nat}{L:JS}{a0 a1 a2:vz}{sg:qc}(hf:P.funcs[f]? =aa fn)(hn:(fn.name== "runtime.NumGoroutine")=ah)(hb:fn.body=aa c)(OA:fn.results.toList=rs)
 (rB:vR 0 sg.inn.aK=af)(hlen:Nat.ble sg.inn.aK.length fn.ntmps=af)(Bi:aqU rs.length sg.out.aK.length=af)
 (Co:∀x,sg.fn x=KP E fn.ntmps N l c L a0 a1 a2 (init sg.inn x) (Xj E.T rs sg.inn.nxt sg.out)):jF P f sg:=
 Qj (E:=E) (run:=λst k=>KP E fn.ntmps N l c L a0 a1 a2 st k) Gc hf hn hb OA rB hlen Bi Co
end
end
section
def ra(l:List Int):List Int:=l.mergeSort λx y=>decide (x<=y)
section
variable {P:Program} {w w':World} {F:Nat->Prop} {T:TypeId}
def Qq(w:World):ar9 w #[]=w:=by
 unfold ar9;rw[Array.append_empty]
def KQ{g off:Nat}{d:Array Int}{n:Nat}{os:Array Obj}(h:w'=ar9 (arY (arL .i64) (ar1 w n) g off d) os):Ext (λk=>k=g) w w':=by
 subst h;refine⟨rfl,rfl,rfl,?_,λk hk hn=>?_⟩
 .simp[ar9,arY,asr,ar1]
 .simp only[ar9];rw[Array.getElem?_append_left (by simpa[arY,asr,ar1]using hk)];simp only[arY,asr,ar1,Array.getElem?_modify];rw[aj (λe=>hn e.symm)]
def Ui{g off:Nat}{d:Array Int}{n:Nat}{os:Array Obj}(h:w'=ar9 (arY (arL .i64) (ar1 w n) g off d) os){cur:Array Value}(hg:w.heap[g]? =aa (.cells cur T (0,0))):
 w'.heap[g]? =aa (.cells (asl (arL .i64) off d cur) T (0,0)):=by
 subst h;have aI:g<w.heap.size:=(Array.getElem?_eq_some_iff.1 hg).1;simp only[ar9];rw[Array.getElem?_append_left (by simpa[arY,asr,ar1]using aI)];simp only[arY,asr,ar1,Array.getElem?_modify];rw[al trivial,hg];rfl
def Jf{l:List Int}{xs:List Value}(hx:xs.length=l.length*1)(h:∀i(hi:i<l.length),eF F w aC ((xs.drop (i*1)).take 1) l[i]):xs=l.map (arL .i64):=by
 apply List.ext_getElem (by simpa using hx);intro i h1 h2
 have hi:i<l.length:=by simpa using h2
 have:(xs.drop (i*1)).take 1=[arL .i64 l[i]]:=h i hi;rw[Nat.mul_one,aq6 h1,List.take_succ_cons,List.take_zero]at this;simpa only[List.getElem_map,arE,and_true]using this
def Nl{off:Nat}{d:Array Int}{cur:Array Value}(h:off+d.size<=cur.size):((asl (arL .i64) off d cur).toList.drop off).take d.size=d.toList.map (arL .i64):=by
 apply List.ext_getElem (by simp[asl];omega);intro i h1 h2
 have hi:i<d.size:=by simpa using h2
 rw[List.getElem_take,List.getElem_drop,List.getElem_map,Array.getElem_toList,Array.getElem_toList];simp only[asl,Array.getElem_mapIdx];rw[al ⟨by omega,by omega⟩,show off+i-off=i by omega,getElem!_pos d i hi]
def Cv{v:Value}{l:List Int}(h:qa 0 F w T aC v l):(v= .slice ae 0 0/\l=[])\/∃g o0 cap cur,v= .slice (aa ⟨g,o0,ae⟩) l.length cap/\w.heap[g]? =aa (.cells cur T (0,0))/\l.length<=cap/\cap<=maxLen/\o0+cap<=cur.size/\Go.Sort.Holds (arL .i64) w g o0 l.toArray:=by
 obtain⟨_,xs,⟨hx,h2⟩,h3⟩:=h;have e:=Jf hx h3
 rcases h2 with⟨rfl,h0⟩|⟨g,o0,cap,cur,rfl,_,hg,h4,h5,h6,h7⟩
 .exact .inl ⟨rfl,List.eq_nil_of_length_eq_zero h0⟩
 .refine .inr ⟨g,o0,cap,cur,rfl,hg,h4,h5,by simpa[Row.size]using h6,λj hj=>⟨?_,frozen_of_row w g _ cur T hg⟩⟩
  have hj:j<l.length:=by simpa using hj
  rw[cell_of_row w g _ cur T (0,0) hg]
  have:xs[j]? =aa (arL .i64 l[j]):=by rw[e];simp[hj]
  rw[<-h7,arR]at this;split at this
  .rw[arC]at this;rw[getElem!_pos l.toArray j (by simpa using hj)];simpa using this
  .cases this
def Gd{g o0 cap:Nat}{l d:List Int}{cur:Array Value}{n:Nat}{os:Array Obj}(h:qa 0 F w T aC (.slice (aa ⟨g,o0,ae⟩) l.length cap) l)(hg:w.heap[g]? =aa (.cells cur T (0,0)))(hs:o0+cap<=cur.size)(hc:cap<=maxLen)
 (hl:d.length<=cap)(m:Nat)(hm:m<=d.length)(hw:w'=ar9 (arY (arL .i64) (ar1 w n) g o0 d.toArray) os):qa 0 F w' T aC (.slice (aa ⟨g,o0,ae⟩) m cap) (d.take m):=by
 have Qr:=Ui hw hg;have hp:=Nl (off:=o0) (d:=d.toArray) (cur:=cur) (by simp;omega);refine⟨λk hk=>h.no k (by simpa[cF,ark]using hk),(d.take m).map (arL .i64),⟨by simp[Row.size], .inr ⟨g,o0,cap,_,by simp[arF hm],aq2 _,Qr,by simp;omega,hc,by simp[asl,Row.size];omega,?_⟩⟩,λi hi=>?_⟩
 .have:((asl (arL .i64) o0 d.toArray cur).toList.drop o0).take m=(d.take m).map (arL .i64):=by
   rw[show m=min m d.toArray.size by simp[arF hm],<-List.take_take,hp,List.map_take];simp[arF hm]
  simpa[Row.size,arF hm]using this
 .have jn:i<d.length:=by simp at hi;omega
  show((List.map (arL .i64) (d.take m)).drop (i*1)).take 1=[arL .i64 (d.take m)[i]]
  rw[Nat.mul_one,aq6 (by simpa using hi)];simp
def sU(d:Array Int):∀m,(Go.Lib.compactUpTo d m).length<=m
 |0=>by simp[Go.Lib.compactUpTo]
 |m+1=>by
  have:=sU d m;rw[Go.Lib.compactUpTo_succ,aqT]
  split<;>simp<;>omega
theorem Ab(l:List Int):(arM l).length<=l.length:=sU _ _
def sV{α:Type}{k o:Nat}{x:α}(h:o≠k):find [(k,x)] o=ae:=by
 have:aqU k o=ah:=by
  cases hb:aqU k o with
  |false=>rfl
  |true=>exact absurd (Nat.eq_of_beq_eq_true hb).symm h
 simp[find,this]
def Jg{f:FuncId}{r:Row}{fn:List r.den->Option (List r.den)}(hb:∃fn,P.funcs[f]? =aa fn/\(fn.name== "runtime.NumGoroutine")=ah/\fn.body.isNone=ah)
 (hr:r.beq r=af)
 (hc:∀{F:Nat->Prop}{w:World}{v:Value}{l m:List r.den},fn l=aa m->qa 0 F w T r v l->(∀b,F b->b<w.heap.size)->Calls P f #[v] w λe w'=>e= .returned (.tuple #[])/\Ext (cF v) w w'/\qa 0 F w' T r v m):
 jF P f ⟨⟨[(0, .val ah (.own 0))],[(0, .own T r)],[],1⟩,⟨[],[(0, .own T r)],[],2⟩,fn⟩:=by
 refine⟨hb,λx y Bg args w H F G hlen jq gz kt hG=>?_⟩;have kt:lT H 1:=kt
 match args,hlen with
 |[v],_=>
 have hx:(lk 0 [(0,OS.own T r)] (eU [(0,SS.val ah (.own 0))] (fD [.slice r] x)).2)=[(0,(0, .own T r x))]:=by
  show[(0,(0,(dI (.own T r) [⟨.slice r,x⟩]).1))]=_
  simp only[dI,hr,cond_true]
 have hy:(lk 1 [(0,OS.own T r)] (eU [] (fD [.slice r] y)).2)=[(0,(1, .own T r y))]:=by
  show[(0,(1,(dI (.own T r) [⟨.slice r,y⟩]).1))]=_
  simp only[dI,hr,cond_true]
 have gz:aX (λk=>w.heap.size<=k\/G k) H F w (find [(0,(0,Th.own T r x))]) 1:=by rw[<-hx];exact gz
 have hd:aO H F w (.val ah (.own 0)) v:=jq 0 _ rfl;obtain⟨cs,⟨v',hv,h1,rfl⟩,_,vC⟩:=hd
 obtain rfl:v'=v:=by have:=vC rfl;simpa using this
 have iH:=gz.own rfl hv;obtain⟨v2,Kb,eJ⟩:=gz.obj 0 0 _ rfl;rw[hv]at Kb;obtain rfl:=aqL Kb
 refine(hc Bg iH gz.lt).mono λe w' ⟨he,cP,mh⟩=>⟨[],he,rfl,H.cU 1 (.own T r y),F,⟨cP.os,cP.tape,cP.output,cP.size,λk hk hn=>cP.block k hk λhm=>?_⟩,aW.mS (kt 1 (aqS _)).2,λb h=>h,λb h=> .inl h,λt d h=>?_,?_,?_⟩
 .rcases eJ.use k hm with h|h
  .omega
  .exact hn h
 .cases h
 .show aX _ _ F w' (find (lk 1 [(0,OS.own T r)] (eU [] (fD [.slice r] y)).2)) 2
  rw[hy];refine⟨λo s t ho=>?_,λo o' s s' t t' u u' dG ho oY=>?_,λm h1 h2=>⟨(kt m (by have:2<=m:=h1;omega)).1,?_⟩,λb hb=>ars (gz.lt b hb) cP.size,λb hb=> .inl (Nat.le_trans cP.size hb),gz.gl.step (Step.ext cP gz.lt iH.no)⟩
  .obtain⟨rfl,h⟩:o=0/\(1,Th.own T r y)=(s,t):=by
    by_cases h0:o=0
    .subst h0;exact⟨rfl,aqL ho⟩
    .exfalso;have:find [(0,(1,Th.own T r y))] o=ae:=sV h0;rw[this]at ho;cases ho
   cases h;refine⟨v',hv,h1,by simp[aW.cU,Th.base],qa.to _ mh,mh.no,mh.lt,λk hk=>?_⟩;exact eJ.use k hk
  .have key:∀o x,find [(0,(1,Th.own T r y))] o=aa x->o=0:=λo x h=>by
    by_cases h0:o=0
    .exact h0
    .have:find [(0,(1,Th.own T r y))] o=ae:=sV h0;rw[this]at h;cases h
   exact absurd ((key o _ ho).trans (key o' _ oY).symm) dG
  .have h1:2<=m:=h1
   show(if m=1 then _ else H.con m)=ae
   rw[aj (by omega)];exact(kt m (by omega)).2
 .intro m hm;have hm:2<=m:=hm;refine⟨(kt m (by omega)).1,?_⟩
  show(if m=1 then _ else H.con m)=ae
  rw[aj (by omega)];exact(kt m (by omega)).2
def Nn{f:FuncId}{r:Row}{fn:List r.den->Option (List r.den)}(hb:∃fn,P.funcs[f]? =aa fn/\(fn.name== "runtime.NumGoroutine")=ah/\fn.body.isNone=ah)
 (hr:r.beq r=af)
 (hc:∀{F:Nat->Prop}{w:World}{v:Value}{l m:List r.den},fn l=aa m->qa 0 F w T r v l->(∀b,F b->b<w.heap.size)->Calls P f #[v] w λe w'=>∃v',e= .returned v'/\Ext (cF v) w w'/\qa 0 F w' T r v' m/\∀k,cF v' k->cF v k):
 jF P f ⟨⟨[(0, .val ah (.own 0))],[(0, .own T r)],[],1⟩,⟨[(0, .val ah (.own 1))],[(1, .own T r)],[],2⟩,fn⟩:=by
 refine⟨hb,λx y Bg args w H F G hlen jq gz kt hG=>?_⟩;have kt:lT H 1:=kt
 match args,hlen with
 |[v],_=>
 have hx:(lk 0 [(0,OS.own T r)] (eU [(0,SS.val ah (.own 0))] (fD [.slice r] x)).2)=[(0,(0, .own T r x))]:=by
  show[(0,(0,(dI (.own T r) [⟨.slice r,x⟩]).1))]=_
  simp only[dI,hr,cond_true]
 have hy:(lk 1 [(1,OS.own T r)] (eU [(0,SS.val ah (.own 1))] (fD [.slice r] y)).2)=[(1,(1, .own T r y))]:=by
  show[(1,(1,(dI (.own T r) [⟨.slice r,y⟩]).1))]=_
  simp only[dI,hr,cond_true]
 have gz:aX (λk=>w.heap.size<=k\/G k) H F w (find [(0,(0,Th.own T r x))]) 1:=by rw[<-hx];exact gz
 have hd:aO H F w (.val ah (.own 0)) v:=jq 0 _ rfl;obtain⟨cs,⟨v',hv,h1,rfl⟩,_,vC⟩:=hd
 obtain rfl:v'=v:=by have:=vC rfl;simpa using this
 have iH:=gz.own rfl hv;obtain⟨v2,Kb,eJ⟩:=gz.obj 0 0 _ rfl;rw[hv]at Kb;obtain rfl:=aqL Kb;have EU:=kt 1 (aqS _)
 refine(hc Bg iH gz.lt).mono λe w' ⟨v3,he,cP,mh,PK⟩=>?_
 have h13:v3.oneCell'=af:=(o7.one mh.2)
 have hle:H.le ((H.cU 1 (.own T r y)).ga 1 v3):=⟨λo u h=>by
  show(if o=1 then aa v3 else H.val o)=aa u
  rw[aj (λe=>by rw[e,EU.1]at h;cases h)]
  exact h,(aW.mS (t:= .own T r y) EU.2).con,(aW.mS (t:= .own T r y) EU.2).sub⟩
 refine⟨[v3],he,rfl,(H.cU 1 (.own T r y)).ga 1 v3,F,⟨cP.os,cP.tape,cP.output,cP.size,λk hk hn=>cP.block k hk λhm=>?_⟩,hle,λb h=>h,λb h=> .inl h,λt d h=>?_,?_,?_⟩
 .rcases eJ.use k hm with h|h
  .omega
  .exact hn h
 .have ht:t=0/\d= .val ah (.own 1):=by
   have h:find [(0,aN.val ah (.own 1))] t=aa d:=h;by_cases h0:t=0
   .subst h0;exact⟨rfl,(aqL h).symm⟩
   .have e:find [(0,aN.val ah (.own 1))] t=ae:=sV h0;rw[e]at h;cases h
  obtain⟨rfl,rfl⟩:=ht;exact⟨[v3],⟨v3,by simp[aW.ga],h13,rfl⟩,rfl,λ_=>rfl⟩
 .show aX _ _ F w' (find (lk 1 [(1,OS.own T r)] (eU [(0,SS.val ah (.own 1))] (fD [.slice r] y)).2)) 2
  rw[hy]
  have key:∀o x,find [(1,(1,Th.own T r y))] o=aa x->o=1/\x=(1,Th.own T r y):=λo x h=>by
   by_cases h0:o=1
   .subst h0;exact⟨rfl,(aqL h).symm⟩
   .have:find [(1,(1,Th.own T r y))] o=ae:=sV h0;rw[this]at h;cases h
  refine⟨λo s t ho=>?_,λo o' s s' t t' u u' dG ho oY=>?_,λm h1 h2=>⟨?_,?_⟩,λb hb=>ars (gz.lt b hb) cP.size,λb hb=> .inl (Nat.le_trans cP.size hb),gz.gl.step (Step.ext cP gz.lt iH.no)⟩
  .obtain⟨rfl,h⟩:=key o _ ho;cases h;exact⟨v3,by simp[aW.ga],h13,by simp[aW.cU,aW.ga,Th.base],qa.to _ mh,mh.no,mh.lt,λk hk=>eJ.use k (PK k hk)⟩
  .exact absurd ((key o _ ho).1.trans (key o' _ oY).1.symm) dG
  .have h1:2<=m:=h1
   show(if m=1 then _ else H.val m)=ae
   rw[aj (by omega)];exact(kt m (by omega)).1
  .have h1:2<=m:=h1
   show(if m=1 then _ else H.con m)=ae
   rw[aj (by omega)];exact(kt m (by omega)).2
 .intro m hm;have hm:2<=m:=hm;refine⟨?_,?_⟩
  .show(if m=1 then _ else H.val m)=ae
   rw[aj (by omega)];exact(kt m (by omega)).1
  .show(if m=1 then _ else H.con m)=ae
   rw[aj (by omega)];exact(kt m (by omega)).2
def Cw(l:List Int):Option (List Int):=if l.length<4611686018427387904 then aa (ra l)else ae
def Uj{f:FuncId}(hb:∃fn,P.funcs[f]? =aa fn/\(fn.name== "runtime.NumGoroutine")=ah/\fn.body.isNone=ah)
 (h1:∀(sA off cap:Nat)(zs:List Int)(w:World),Go.Sort.Holds (arL .i64) w sA off zs.toArray->sA<w.heap.size->zs.length<4611686018427387904->
   Calls P f #[.slice (aa ⟨sA,off,ae⟩) zs.length cap] w λe w'=>e= .returned (.tuple #[])/\∃n os,w'=ar9 (arY (arL .i64) (ar1 w n) sA off (zs.mergeSort λx y=>decide (x<=y)).toArray) os)
 (h2:∀(p:Option Addr)(cap:Nat)(w:World),Calls P f #[.slice p 0 cap] w λe w'=>e= .returned (.tuple #[])/\w'=w):
 jF P f ⟨⟨[(0, .val ah (.own 0))],[(0, .own T aC)],[],1⟩,⟨[],[(0, .own T aC)],[],2⟩,λx=>Cw x⟩:=by
 refine Jg (r:=aC) hb rfl λ{F w v l m}hm ho hF=>?_
 have hm:Cw l=aa m:=hm;unfold Cw at hm;split at hm
 case isFalse=>cases hm
 rename_i hlen;obtain rfl:=aqL hm
 rcases Cv ho with⟨rfl,rfl⟩|⟨g,o0,cap,cur,rfl,hg,Mh,WM,p9,hh⟩
 .refine(h2 ae 0 w).mono λe w' ⟨he,hw⟩=>⟨he,hw▸⟨rfl,rfl,rfl,aqS _,λ_ _ _=>rfl⟩,hw▸?_⟩
  simpa[ra]using ho
 .refine(h1 g o0 cap l w hh (Array.getElem?_eq_some_iff.1 hg).1 hlen).mono λe w' ⟨he,n,os,hw⟩=>⟨he,?_,?_⟩
  .have:=KQ hw;exact⟨this.os,this.tape,this.output,this.size,λk hk hn=>this.block k hk λe=>hn (by simp[cF,ark,e])⟩
  .have hl:(ra l).length=l.length:=List.length_mergeSort ..;have:=Gd (d:=ra l) ho hg p9 WM (by omega) (ra l).length (aqS _) hw;rw[ara,hl]at this;exact this
def sW(l:List Int):Option (List Int):=if l.length<=9223372036854775807 then aa (arM l)else ae
def Jh{f:FuncId}(hb:∃fn,P.funcs[f]? =aa fn/\(fn.name== "runtime.NumGoroutine")=ah/\fn.body.isNone=ah)
 (h1:∀(sA off cap:Nat)(zs:List Int)(w:World),Go.Sort.Holds (arL .i64) w sA off zs.toArray->zs.length<=9223372036854775807->zs.length<=cap->
   Calls P f #[.slice (aa ⟨sA,off,ae⟩) zs.length cap] w λe w'=>e= .returned (.slice (aa ⟨sA,off,ae⟩) (arM zs).length cap)/\∃q,w'=arY (arL .i64) (ar1 w q) sA off (arM zs++aqO (zs.length-(arM zs).length) 0).toArray)
 (h2:∀(p:Option Addr)(cap:Nat)(w:World),Calls P f #[.slice p 0 cap] w λe w'=>e= .returned (.slice p 0 cap)/\w'=w):
 jF P f ⟨⟨[(0, .val ah (.own 0))],[(0, .own T aC)],[],1⟩,⟨[(0, .val ah (.own 1))],[(1, .own T aC)],[],2⟩,λx=>sW x⟩:=by
 refine Nn (r:=aC) hb rfl λ{F w v l m}hm ho hF=>?_
 have hm:sW l=aa m:=hm;unfold sW at hm;split at hm
 case isFalse=>cases hm
 rename_i hlen;obtain rfl:=aqL hm
 rcases Cv ho with⟨rfl,rfl⟩|⟨g,o0,cap,cur,rfl,hg,Mh,WM,p9,hh⟩
 .refine(h2 ae 0 w).mono λe w' ⟨he,hw⟩=>⟨_,he,hw▸⟨rfl,rfl,rfl,aqS _,λ_ _ _=>rfl⟩,hw▸?_,λk hk=>hk⟩
  exact ho
 .have Ac:(arM l).length<=l.length:=Ab l
  refine(h1 g o0 cap l w hh hlen Mh).mono λe w' ⟨he,n,hw⟩=>⟨_,he,?_,?_,λk hk=>by simpa[cF,ark]using hk⟩
  all_goals have hw:w'=ar9 (arY (arL .i64) (ar1 w n) g o0 (arM l++aqO (l.length-(arM l).length) 0).toArray) #[]:=by rw[hw,Qq]
  .have:=KQ hw;exact⟨this.os,this.tape,this.output,this.size,λk hk hn=>this.block k hk λe=>hn (by simp[cF,ark,e])⟩
  .have:=Gd (d:=arM l++aqO (l.length-(arM l).length) 0) ho hg p9 WM (by simp;omega) (arM l).length (by simp) hw;rw[List.take_left]at this;exact this
def ud(x:ByteArray×ByteArray):Option Bool:=if x.2.size=1 then aa (decide (0<=ar0 x.1.data.toList (x.2.data.getD 0 0)))else ae
def Ge{f:FuncId}(hb:∃fn,P.funcs[f]? =aa fn/\(fn.name== "runtime.NumGoroutine")=ah/\fn.body.isNone=ah)
 (h1:∀(s:ByteArray)(c:UInt8)(w:World),Calls P f #[.string s, .string ⟨#[c]⟩] w λe w'=>e= .returned (.bool (decide (0<=ar0 s.data.toList c)))/\w'=w):
 jF P f ⟨⟨[(0, .val ah (.leaf .str)),(1, .val ah (.leaf .str))],[],[],0⟩,⟨[(0, .val ah (.leaf .bool))],[],[],0⟩,λx=>ud x⟩:=by
 refine⟨hb,λx y Bg args w H F G hlen jq gz kt hG=>?_⟩
 match args,hlen with
 |[u,v],_=>
 obtain⟨s,t⟩:=x;have Bg:ud (s,t)=aa y:=Bg;unfold ud at Bg;split at Bg
 case isFalse=>cases Bg
 rename_i p9;obtain rfl:=aqL Bg;have hu:bB H F w ah (.leaf .str s) u:=jq 0 _ rfl;have hv:bB H F w ah (.leaf .str t) v:=jq 1 _ rfl;obtain⟨cs,hc,_,h2⟩:=hu;obtain⟨yw,hc',_,SP⟩:=hv;have hc:cs=[.string s]:=hc;have hc':yw=[.string t]:=hc'
 have eu:u= .string s:=by have:=(h2 rfl).symm.trans hc;simpa using this
 have ev:v= .string t:=by have:=(SP rfl).symm.trans hc';simpa using this
 subst eu ev
 obtain⟨⟨⟨l⟩⟩,ht⟩:∃t':ByteArray,t'=t:=⟨t,rfl⟩
 match l,ht with
 |[c],ht=>
  subst ht
  refine(h1 s c w).mono λe w' ⟨he,hw⟩=>?_
  subst hw;refine⟨[_],he,rfl,H,F,⟨rfl,rfl,rfl,aqS _,λ_ _ _=>rfl⟩,aW.le.refl H,λ_ h=>h,λ_ h=> .inl h,λi d h=>?_,?_,kt⟩
  .have hd:i=0/\d= .val ah (.leaf .bool (decide (0<=ar0 s.data.toList c))):=by
    have h:find [(0,aN.val ah (.leaf .bool (decide (0<=ar0 s.data.toList c))))] i=aa d:=h;by_cases h0:i=0
    .subst h0;exact⟨rfl,(aqL h).symm⟩
    .rw[sV h0]at h;cases h
   obtain⟨rfl,rfl⟩:=hd;exact bB.qf rfl
  .exact gz
 |[],ht=>subst ht;cases p9
 |_::_::_,ht=>subst ht;simp[ByteArray.size]at p9
end
end
end Go.Proofs.YtfjgcenlllgonaaGreatDoor
