/- Joined texts: Exec Draw2 Draw4 Fn Law Laid Jump. -/
import Derived.Test.YtfeahmiobbjklaaGreatDoorU3
import Derived.Scope
import Derived.Test.YtfeahmiobbjklaaGreatDoorU1
import Derived.ProofKit
import Derived.LaidMore
import Derived.OpenShut
import Derived.Stop.Joined
set_option linter.defProp false
open _root_.Bool renaming false->ag,true->af
open _root_.Option renaming none->ae,some->aa
open _root_.Array renaming toArray_toList->ahd
open _root_.List.cons renaming injEq->ahl
open _root_.Nat renaming beq->agu,blt->agW,le_trans->agR,le_refl->agt
open _root_.Option.some renaming inj->agq,injEq->agz
open _root_.Go.Sem renaming run_bind->agL
open _root_.List renaming getElem?_eq_getElem->agx
namespace Go.Proofs.YtfeahmiobbjklaaGreatDoor
open Go Go.RowKit
set_option maxRecDepth 100000
set_option linter.unusedSimpArgs false
set_option linter.unusedVariables false
set_option linter.defProp false
section
structure Env(P:Program)where
 T:aX P
 tab:List (Nat×nP)
 ok:∀p∈tab,fL P p.1 p.2
 mix:P.follows .mixedOrders=af
 deep:Bool
 drop:Bool
def yZ(rd:Operand->Option aC):List Operand->Option (List (Nat×List Bool×Nat))
 |[]=>aa []
 |x::xs=>match rd x with
  |some (.ptr o p off)=>match yZ rd xs with
   |some cs=>aa ((o,p,off)::cs)
   |none=>ae
  |_=>ae
def xO{H:aG}{F:Nat->Prop}{w:World}{ρ:Nat->Value}{rd:Operand->Option aC}(fU:∀x d,rd x=aa d->aB H F w d (ev ρ x)):{xs:List Operand}->{cs:List (Nat×List Bool×Nat)}->yZ rd xs=aa cs->kH H cs (xs.map (ev ρ))
 |[],cs,h=>by obtain rfl:=agq h;rfl
 |x::xs,cs,h=>by
  unfold yZ at h;split at h
  case h_2=>cases h
  rename_i o p off hx;split at h
  case h_2=>cases h
  rename_i uk qQ;obtain rfl:=agq h;exact⟨_,_,rfl,fU _ _ hx,xO fU qQ⟩
def lY{R:Type}(rd:Operand->Option aC)(fn:Fn)(first caps:Array Operand)(k:dF->Option R):Option R:=
 match fn,first.toList with
 | .func f,[]=>match yZ rd caps.toList with
   |some cs=>k {dst:= .fn f cs}
   |none=>ae
 |_,_=>ae
def za{R:Type}{P:Program}{U:Nat->Prop}{H:aG}{F:Nat->Prop}{w:World}{ρ:Nat->Value}{ob:Nat->Option (Nat×Th)}{n d:Nat}{ty:TypeId}{pos:String}{aft:Array Edge}{rd:Operand->Option aC}(fU:∀x d,rd x=aa d->aB H F w d (ev ρ x)){fn:Fn}{first caps:Array Operand}{k:dF->Option R}{q:R}
 (h:lY rd fn first caps k=aa q)(hs:aI U H F w ob n):∃e,k e=aa q/\cd P U H F w ρ ob n ⟨aa d, .makeFunc fn first caps,ty,pos,aft,ae⟩ e:=by
 unfold lY at h;split at h
 case h_2=>cases h
 rename_i f hf;split at h
 case h_2=>cases h
 rename_i cs qQ
 have Pc:first= #[]:=by rw[<-ahd (xs:=first),hf]
 subst Pc
 have e:caps.map (ev ρ)=(caps.toList.map (ev ρ)).toArray:=by rw[<-List.map_toArray,ahd]
 exact⟨_,h,bz hs (v:= .func (.func f) #[] (caps.toList.map (ev ρ)).toArray) (by simp[execOp,Instr.makeFunc,e]) ⟨_,rfl,xO fU qQ⟩⟩
noncomputable def nR{R:Type}{P:Program}(E:Env P)(rd:Operand->Option aC)(objs:List (Nat×(Nat×Th)))(n:Nat)(callee:Callee)(args:Array Operand)(tQ:Array TypeId)(k:dF->Option R):Option R:=
 match callee with
 | .builtin .len=>match args.toList,tQ.toList with
   |[x],[t]=>match rd x with
    |some D=>match GP E.T (find objs) t D with
     |some D'=>k {dst:=D'}
     |none=>ae
    |none=>ae
   |_,_=>ae
 | .builtin .append=>match args.toList,tQ.toList with
   |[x,y],[t,t']=>bif agu t t' then(match rd x with
    |some X=>match rd y with
     |some Y=>nM E.T (find objs) n t X Y k
     |none=>ae
    |none=>ae)else ae
   |_,_=>ae
 | .builtin .max=>match args.toList,tQ.toList with
   |[x,y],[_,_]=>match rd x with
    |some X=>match rd y with
     |some Y=>match uL af X Y with
      |some D=>k {dst:=D}
      |none=>ae
     |none=>ae
    |none=>ae
   |_,_=>ae
 | .builtin .min=>match args.toList,tQ.toList with
   |[x,y],[_,_]=>match rd x with
    |some X=>match rd y with
     |some Y=>match uL ag X Y with
      |some D=>k {dst:=D}
      |none=>ae
     |none=>ae
    |none=>ae
   |_,_=>ae
 | .builtin .delete=>match args.toList,tQ.toList with
   |[m,x],[t,_]=>match rd m with
    |some M=>match rd x with
     |some X=>p9 E.T (find objs) n t M X k
     |none=>ae
    |none=>ae
   |_,_=>ae
 | .value g=>xL E.tab rd objs n g args.toList k
 | .invoke x name=>qk E.T E.tab rd objs n x name args.toList k
 |_=>ae
noncomputable def MO{R:Type}{P:Program}(E:Env P)(rd:Operand->Option aC)(objs:List (Nat×(Nat×Th)))(n:Nat)(dst:Option Nat)(op:Op)(k:dF->Option R):Option R:=
 match dst with
 |none=>match op with
  | .store t x y=>match rd x with
    |some X=>match rd y with
     |some Y=>qg E.T (find objs) n t X Y k
     |none=>ae
    |none=>ae
  | .call c=>nR E rd objs n c.callee c.args c.argTypes k
  | .mapUpdate t m x y=>match rd m with
    |some M=>match rd x with
     |some X=>match rd y with
      |some Y=>jD E.T (find objs) n t M X Y k
      |none=>ae
     |none=>ae
    |none=>ae
  |_=>ae
 |some _=>match op with
  | .move x=>match rd x with
    |some D=>k {dst:=D}
    |none=>ae
  | .assign x=>match rd x with
    |some D=>k {dst:=D}
    |none=>ae
  | .pick c x y=>match rd c with
    |some C=>match asBool C with
     |some b=>match(if b=af then rd x else rd y)with
      |some D=>k {dst:=D}
      |none=>ae
     |none=>ae
    |none=>ae
  | .alloc t=>sL E.T n t k
  | .box t x=>match rd x with
    |some X=>GN n t X k
    |none=>ae
  | .build t ps=>sN E.T rd t ps k
  | .buildSlice t m ps=>uN E.deep E.T rd (find objs) n t m ps k
  | .load t x=>match rd x with
    |some X=>po E.T (find objs) n t X k
    |none=>ae
  | .nilCheck x=>match rd x with
    |some (.ptr o p off)=>k {dst:= .ptr o p off}
    |some (.elem o s r i z p off)=>k {dst:= .elem o s r i z p off}
    |some (.dlm o d i p off)=>k {dst:= .dlm o d i p off}
    |some (.at r z)=>k {dst:= .at r z}
    |_=>ae
  | .binOp o t x y _=>match rd x with
    |some X=>match rd y with
     |some Y=>GW E.T (find objs) o t (Rt y) X Y k
     |none=>ae
    |none=>ae
  | .unOp o _ x=>match rd x with
    |some X=>match Vv o X with
     |some D=>k {dst:=D}
     |none=>ae
    |none=>ae
  | .convert s t x=>match rd x with
    |some X=>match Jz E.T s t X with
     |some D=>k {dst:=D}
     |none=>ae
    |none=>ae
  | .makeSlice t a b=>match rd a with
    |some A=>match asInt A with
     |some (_,i)=>match rd b with
      |some B=>match asInt B with
       |some (_,j)=>vC E.deep E.T n t (pj a b) i j k
       |none=>ae
      |none=>ae
     |none=>ae
    |none=>ae
  | .slice t x lo hi ae=>match rd x with
    |some X=>sO E.drop E.T rd (find objs) n t X lo hi k
    |none=>ae
  | .fieldAddr t x f=>match rd x with
    |some X=>match Db E.T t f X with
     |some D=>k {dst:=D}
     |none=>ae
    |none=>ae
  | .field t x f=>match rd x with
    |some X=>match yI E.T t f X with
     |some D=>k {dst:=D}
     |none=>ae
    |none=>ae
  | .indexAddr t x y=>match rd x with
    |some X=>match rd y with
     |some Y=>match asInt Y with
      |some (_,i)=>sJ E.T (find objs) t X i k
      |none=>ae
     |none=>ae
    |none=>ae
  | .index t x y=>match rd x with
    |some X=>match rd y with
     |some Y=>match asInt Y with
      |some (_,i)=>qb E.T (find objs) t X i k
      |none=>ae
     |none=>ae
    |none=>ae
  | .extract x i=>match rd x with
    |some X=>match vr X i with
     |some D=>k {dst:=D}
     |none=>ae
    |none=>ae
  | .call c=>nR E rd objs n c.callee c.args c.argTypes k
  | .makeFunc fn first caps=>lY rd fn first caps k
  | .makeMap t ae=>lX E.deep E.T n t k
  | .lookup t m x ok=>match rd m with
    |some M=>match rd x with
     |some X=>nL E.T (find objs) n t ok M X k
     |none=>ae
    |none=>ae
  | .range t x=>match rd x with
    |some X=>sW E.T (find objs) n t X k
    |none=>ae
  | .entry x=>match rd x with
    |some X=>match Dx objs X with
     |some D=>k {dst:=D}
     |none=>ae
    |none=>ae
  | .makeInterface t x=>match rd x with
    |some X=>Hg E.T t X k
    |none=>ae
  | .typeAssert x _ t ok=>match rd x with
    |some X=>qj E.T t ok X k
    |none=>ae
  |_=>ae
section
variable {P:Program} {ρ:Nat->Value} {w w':World} {H H':aG} {F F':Nat->Prop} {U:Nat->Prop} {n:Nat} {R:Type}
variable {ty:TypeId} {pos:String} {aft:Array Edge} {dst:Option Nat} {d:Nat}
def dy{α:Type}{a:Array α}{l:List α}(h:a.toList=l):a=l.toArray:=by grind
def xP(E:Env P){rd:Operand->Option aC}(fU:∀x d,rd x=aa d->aB H F w d (ev ρ x)){objs:List (Nat×(Nat×Th))}{args:Array Operand}{tQ:Array TypeId}{k:dF->Option R}{q:R}{dst:Option Nat}
 (h:nR E rd objs n (.builtin .delete) args tQ k=aa q)(hs:aI U H F w (find objs) n):∃e,k e=aa q/\cd P U H F w ρ (find objs) n ⟨dst, .call {callee:= .builtin .delete,args:=args,argTypes:=tQ},ty,pos,aft,ae⟩ e:=by
 unfold nR at h;simp only at h;split at h
 case h_2=>cases h
 rename_i m x t t' ha ht;obtain rfl:=dy ha;obtain rfl:=dy ht;split at h
 case h_2=>cases h
 rename_i M hM;split at h
 case h_2=>cases h
 rename_i X hX;exact Dj E.T h hs (fU _ _ hM) (fU _ _ hX)
def J4(E:Env P){rd:Operand->Option aC}(fU:∀x d,rd x=aa d->aB H F w d (ev ρ x)){objs:List (Nat×(Nat×Th))}{c:Call}{k:dF->Option R}{q:R}
 (h:nR E rd objs n c.callee c.args c.argTypes k=aa q)(hs:aI U H F w (find objs) n):∃e,k e=aa q/\cd P U H F w ρ (find objs) n ⟨aa d, .call c,ty,pos,aft,ae⟩ e:=by
 obtain⟨callee,args,tQ⟩:=c;simp only at h;unfold nR at h;split at h
 .split at h
  case h_2=>cases h
  rename_i x t ha ht;obtain rfl:=dy ha;obtain rfl:=dy ht;split at h
  case h_2=>cases h
  rename_i D hD;split at h
  case h_2=>cases h
  rename_i D' Me;exact⟨_,h,EX E.T Me hs (fU _ _ hD)⟩
 .split at h
  case h_2=>cases h
  rename_i x y t t' ha ht;obtain rfl:=dy ha;obtain rfl:=dy ht;obtain⟨hb,h'⟩:=aP h;clear h;obtain rfl:=beq_true hb;split at h'
  case h_2=>cases h'
  rename_i X hX;split at h'
  case h_2=>cases h'
  rename_i Y hY;exact AR E.T h' hs (fU _ _ hX) (fU _ _ hY)
 .split at h
  case h_2=>cases h
  rename_i x y t t' ha ht;obtain rfl:=dy ha;obtain rfl:=dy ht
  grind [vu]
 .split at h
  case h_2=>cases h
  rename_i x y t t' ha ht;obtain rfl:=dy ha;obtain rfl:=dy ht
  grind [vu]
 .refine xP E fU ?_ hs;unfold nR;exact h
 .exact A9 E.ok fU h hs
 .exact vN E.T E.ok fU h hs
 .cases h
def R6:Callee->Bool
 | .value _=>af
 | .invoke .. =>af
 |_=>ag
def J5:Callee->Bool
 | .builtin .delete=>af
 |c=>R6 c
def wY(E:Env P){rd:Operand->Option aC}(fU:∀x d,rd x=aa d->aB H F w d (ev ρ x)){objs:List (Nat×(Nat×Th))}{c:Call}{k:dF->Option R}{q:R}(hc:J5 c.callee=af)
 (h:nR E rd objs n c.callee c.args c.argTypes k=aa q)(hs:aI U H F w (find objs) n):∃e,k e=aa q/\cd P U H F w ρ (find objs) n ⟨ae, .call c,ty,pos,aft,ae⟩ e:=by
 obtain⟨callee,args,tQ⟩:=c;simp only at h hc
 cases callee with
 |value g=>exact A9 E.ok fU h hs
 |invoke x name=>exact vN E.T E.ok fU h hs
 |builtin b=>cases b<;>first|(cases hc;done)|exact xP E fU h hs
end
section
variable {P:Program} {ρ:Nat->Value} {w w':World} {H H':aG} {F F':Nat->Prop} {U:Nat->Prop} {n:Nat} {R:Type}
variable {ty:TypeId} {pos:String} {aft:Array Edge} {dst:Option Nat} {d:Nat}
def Hj{c x y:Operand}{b:Bool}{D:aC}{ob:Nat->Option (Nat×Th)}(hs:aI U H F w ob n)(hc:ev ρ c= .bool b)(hx:aB H F w D (ev ρ (if b=af then x else y))):cd P U H F w ρ ob n ⟨aa d, .pick c x y,ty,pos,aft,ae⟩ {dst:=D}:=by
 cases b with
 |true=>exact aQ hs (u0 hc rfl) hx
 |false=>exact aQ hs (ui hc rfl) hx
def J6(E:Env P){rd:Operand->Option aC}(fU:∀x d,rd x=aa d->aB H F w d (ev ρ x)){objs:List (Nat×(Nat×Th))}{op:Op}{k:dF->Option R}{q:R}
 (Ac:dst=ae->∀c,op= .call c->J5 c.callee=af)(h:MO E rd objs n dst op k=aa q)(hs:aI U H F w (find objs) n):∃e,k e=aa q/\cd P U H F w ρ (find objs) n ⟨dst,op,ty,pos,aft,ae⟩ e:=by
 cases dst with
 |none=>
  unfold MO at h;simp only at h;split at h
  .split at h
   case h_2=>cases h
   rename_i X hX;split at h
   case h_2=>cases h
   rename_i Y hY;exact Dt E.T h hs (fU _ _ hX) (fU _ _ hY)
  .rename_i c;exact wY E fU (Ac rfl c rfl) h hs
  .split at h
   case h_2=>cases h
   rename_i M hM;split at h
   case h_2=>cases h
   rename_i X hX;split at h
   case h_2=>cases h
   rename_i Y hY;exact vE E.T h hs (fU _ _ hM) (fU _ _ hX) (fU _ _ hY)
  .cases h
 |some d=>
  unfold MO at h;simp only at h;split at h
  .grind [GX]
  .grind [Ax]
  .split at h
   case h_2=>cases h
   rename_i C hC;split at h
   case h_2=>cases h
   rename_i b hb;split at h
   case h_2=>cases h
   rename_i D hD;refine⟨_,h,Hj hs (nE hb (fU _ _ hC)) ?_⟩
   grind
  .exact GM E.T h hs
  .split at h
   case h_2=>cases h
   rename_i X hX;exact Ml h hs (fU _ _ hX)
  .exact GQ E.T fU h hs
  .exact Du E.deep E.T fU h hs
  .split at h
   case h_2=>cases h
   rename_i X hX;exact G7 E.T h hs (fU _ _ hX)
  .split at h
   .rename_i o p off hX;obtain⟨b,h1,h2⟩:=fU _ _ hX;exact⟨_,h,bz hs (v:= .pointer (aa ⟨b,off,ae⟩)) (by simp[execOp,h2]) ⟨b,h1,rfl⟩⟩
   .rename_i o s r i z p off hX;have hd:=fU _ _ hX;obtain⟨g,o0,q,T,m,cap,l,_,_,_,_,h2⟩:=id hd;exact⟨_,h,bz hs (v:= .pointer (aa ⟨g,o0+q*r.size+off,ae⟩)) (by simp[execOp,h2]) (by grind)⟩
   .rename_i o d i p off hX;have hd:=fU _ _ hX;obtain⟨g,o0,q,m,cap,_,_,h2⟩:=id hd;exact⟨_,h,bz hs (v:= .pointer (aa ⟨g,o0+q*d.low.size+off,ae⟩)) (by simp[execOp,h2]) (by grind)⟩
   .rename_i r z hX;have hd:=fU _ _ hX;obtain⟨b,off,h2,_⟩:=id hd;exact⟨_,h,bz hs (v:= .pointer (aa ⟨b,off,ae⟩)) (by simp[execOp,h2]) (by grind)⟩
   .cases h
  .split at h
   case h_2=>cases h
   rename_i X hX;split at h
   case h_2=>cases h
   rename_i Y hY;exact Mq E.T h hs (fU _ _ hX) (fU _ _ hY)
  .grind [OV]
  .split at h
   case h_2=>cases h
   rename_i X hX;split at h
   case h_2=>cases h
   rename_i D hD;exact⟨_,h,JA E.T hD hs (fU _ _ hX)⟩
  .split at h
   case h_2=>cases h
   rename_i A hA;split at h
   case h_2=>cases h
   rename_i i hi;split at h
   case h_2=>cases h
   rename_i B hB;split at h
   case h_2=>cases h
   rename_i j hj;exact G6 E.deep E.T h hs (hZ hi (fU _ _ hA)) (hZ hj (fU _ _ hB))
  .split at h
   case h_2=>cases h
   rename_i X hX;exact GV E.drop E.T fU h hs (fU _ _ hX)
  .split at h
   case h_2=>cases h
   rename_i X hX;split at h
   case h_2=>cases h
   rename_i D hD;exact⟨_,h,GH E.T hD hs (fU _ _ hX)⟩
  .split at h
   case h_2=>cases h
   rename_i X hX;split at h
   case h_2=>cases h
   rename_i D hD;exact⟨_,h,Di E.T hD hs (fU _ _ hX)⟩
  .split at h
   case h_2=>cases h
   rename_i X hX;split at h
   case h_2=>cases h
   rename_i Y hY;split at h
   case h_2=>cases h
   rename_i i hi;exact GI E.T h hs (fU _ _ hX) (hZ hi (fU _ _ hY))
  .split at h
   case h_2=>cases h
   rename_i X hX;split at h
   case h_2=>cases h
   rename_i Y hY;split at h
   case h_2=>cases h
   rename_i k' i hi;exact Dm E.T h hs (fU _ _ hX) (hZ hi (fU _ _ hY))
  .grind [Aw]
  .exact J4 E fU h hs
  .exact za fU h hs
  .exact yU E.deep E.T h hs
  .split at h
   case h_2=>cases h
   rename_i M hM;split at h
   case h_2=>cases h
   rename_i X hX;exact AM E.T h hs (fU _ _ hM) (fU _ _ hX)
  .split at h
   case h_2=>cases h
   rename_i X hX;exact G9 E.T h hs (fU _ _ hX)
  .grind [Ha]
  .split at h
   case h_2=>cases h
   rename_i X hX;exact MN E.T h hs (fU _ _ hX)
  .split at h
   case h_2=>cases h
   rename_i X hX;exact DL E.T h hs (fU _ _ hX)
  .cases h
end
def q6(rd:Operand->Option aC)(x:Operand):List Nat:=
 match rd x with
 |some (.val _ t)=>t.owns
 |_=>[]
def zb(rd:Operand->Option aC)(x:Operand):List Nat:=
 match rd x with
 |some (.val _ (.view o _ _ _))=>[o]
 |_=>[]
def Fs(rd:Operand->Option aC):List Operand->List Nat
 |[]=>[]
 |x::xs=>q6 rd x++Fs rd xs
def td:Operand->Bool
 | .const (.slice ae 0 0)=>af
 |_=>ag
def MP(rd:Operand->Option aC):Op->List Nat
 | .store _ x y=>match rd x with
   |some (.elem ..)=>q6 rd y
   |_=>[]
 | .buildSlice _ _ ps=>Fs rd (ps.toList.map (·.2))
 | .binOp .eql _ x y _=>bif td y then[]else q6 rd x++q6 rd y
 | .binOp .neq _ x y _=>bif td y then[]else q6 rd x++q6 rd y
 | .slice _ x _ _ _=>zb rd x
 | .indexAddr _ x _=>zb rd x
 | .call c=>match c.callee,c.args.toList with
   | .builtin .append,[_,y]=>zb rd y
   |_,_=>[]
 | .mapUpdate _ _ _ y=>q6 rd y
 |_=>[]
def Bb(nt:Nat):Option Nat->Bool
 |some d=>agW d nt
 |none=>af
def fnB(dst:Option Nat)(op:Op):Bool:=
 match dst with
 |some _=>af
 |none=>match op with
  | .call c=>J5 c.callee
  |_=>af
open Classical in
noncomputable def DO{α:Type}(a b:Option α):Option α:=if a=b then a else ae
def Pd{α:Type}{a b:Option α}{q:α}(h:DO a b=aa q):a=aa q:=by
 grind [DO]
def Pe{α:Type}{a b:Option α}{q:α}(h:DO a b=aa q):b=aa q:=by
 grind [DO]
def J7{P:Program}(T:aX P)(rd:Operand->Option aC)(ob:Nat->Option (Nat×Th)):Op->Option (Bool×Nat)
 | .binOp o t x y _=>match o with
   | .eql=>bif td y then(match find T.und t with
     |some (.slice _)=>match rd x with
      |some X=>match uu ob X with
       |some (.read _ l)=>aa (ag,l.length)
       |some (.own _ _ _ _ l)=>aa (ag,l.length)
       |_=>ae
      |none=>ae
     |_=>ae)else ae
   | .neq=>bif td y then(match find T.und t with
     |some (.slice _)=>match rd x with
      |some X=>match uu ob X with
       |some (.read _ l)=>aa (af,l.length)
       |some (.own _ _ _ _ l)=>aa (af,l.length)
       |_=>ae
      |none=>ae
     |_=>ae)else ae
   |_=>ae
 |_=>ae
def q7{P:Program}(E:Env P)(rd:Operand->Option aC)(objs:List (Nat×(Nat×Th)))(op:Op):List Nat:=
 match E.deep,op with
 |true, .buildSlice .. =>[]
 |_,_=>MP rd op
noncomputable def vO(st:State)(o:Nat):State:=
 match N4 (find st.objs) st.nxt o with
 |some e=>st.apply ae e
 |none=>st
noncomputable def tS(st:State):List Nat->State
 |[]=>st
 |o::os=>tS (vO st o) os
def N8:List (Nat×(Nat×Th))->Bool
 |[]=>ag
 |(_,(_, .deep _ _ _ (aa _)))::_=>af
 |_::l=>N8 l
noncomputable def oT(st:State):State:=
 match N8 st.objs with
 |true=>tS (tS st (st.objs.map (·.1))) (st.objs.map (·.1))
 |false=>st
def R7:Op->Bool
 | .call c=>R6 c.callee
 |_=>ag
def DP(o:Nat):List (Nat×(Nat×Th))->Bool
 |[]=>ag
 |(_,(_, .deep _ _ _ (aa h)))::l=>agu h.o o||DP o l
 |_::l=>DP o l
def MQ(st:State)(x:Operand):Bool:=
 match GF st.aD x with
 |some (.val _ (.own o))=>DP o st.objs
 |_=>ag
def J8(st:State):Op->Bool
 | .call c=>c.args.toList.any (MQ st)
 |_=>ag
def J9:Op->Option Operand
 | .next x ag=>aa x
 |_=>ae
noncomputable def Ft{R:Type}{P:Program}(E:Env P)(dst:Option Nat)(op:Op)(st:State)(k:State->Option R):Option R:=
 match fy st.objs (q7 E (GF st.aD) st.objs op)with
 |some aT=>match J7 E.T (GF st.aD) (find aT) op with
  |some (b,m)=>match dst with
   |some d=>if agu m 0=af then DO (k (State.apply {st with objs:=aT} (aa d) {dst:=dC af})) (k (State.apply {st with objs:=aT} (aa d) {dst:=dC ag}))
     else k (State.apply {st with objs:=aT} (aa d) {dst:=dC b})
   |none=>ae
  |none=>match J9 op with
   |some x=>match dst with
    |some d=>match GF st.aD x with
     |some X=>JK aT st.nxt X (λe=>k (State.apply {st with objs:=aT} (aa d) e))
     |none=>ae
    |none=>ae
   |none=>bif fnB dst op then MO E (GF st.aD) aT st.nxt dst op (λe=>k (State.apply {st with objs:=aT} dst e))else ae
 |none=>ae
noncomputable def vP{R:Type}{P:Program}(E:Env P)(dst:Option Nat)(op:Op)(st:State)(k:State->Option R):Option R:=
 match E.deep&&R7 op&& !J8 st op with
 |true=>Ft E dst op (oT st) k
 |false=>Ft E dst op st k
def Fu(all:Array Oper)(j:Nat):Option Nat:=(all[j]?).bind (·.dst)
def State.put(st:State)(dst:Option Nat)(d:aC):State:=
 match dst with
 |some t=>{st with aD:=(t,d)::st.aD}
 |none=>st
def vQ(dst:Option Nat)(kn:List (Nat×Bool)):List (Nat×Bool):=
 match dst with
 |some d=>del [d] kn
 |none=>kn
noncomputable def runs{R:Type}{P:Program}(E:Env P)(nt:Nat)(all:Array Oper):List Oper->List (Nat×Bool)->State->(State->Option R)->Option R
 |[],_,st,k=>k st
 |o::os,kn,st,k=>bif Bb nt o.dst then(match o.guard with
  |none=>vP E o.dst o.op st (λcT=>runs E nt all os (vQ o.dst kn) cT k)
  |some (j,b)=>match Fu all j with
   |none=>ae
   |some g=>bif agW g nt then(match find kn g with
    |some v=>bif (bif v then b else !b)then vP E o.dst o.op st (λcT=>runs E nt all os (vQ o.dst kn) cT k)else runs E nt all os (vQ o.dst kn) (st.put o.dst .undef) k
    |none=>match find st.aD g with
     |some .undef=>runs E nt all os (vQ o.dst kn) (st.put o.dst .undef) k
     |some d=>match asBool d with
      |some t=>if t=af then
        (bif b then vP E o.dst o.op (st.put (aa g) (dC af)) (λcT=>runs E nt all os (vQ o.dst ((g,af)::kn)) cT k)
          else runs E nt all os (vQ o.dst ((g,af)::kn)) ((st.put (aa g) (dC af)).put o.dst .undef) k)
       else
        (bif b then runs E nt all os (vQ o.dst ((g,ag)::kn)) ((st.put (aa g) (dC ag)).put o.dst .undef) k
          else vP E o.dst o.op (st.put (aa g) (dC ag)) (λcT=>runs E nt all os (vQ o.dst ((g,ag)::kn)) cT k))
      |none=>ae
     |none=>ae)else ae)else ae
section
variable {P:Program} {nt:Nat} {ops:Array Oper} {K:(Nat->Value)->World->Prop} {rest:List Oper} {R:Type}
variable {ρ:Nat->Value} {w w0:World} {H:aG} {F F0 G:Nat->Prop}
abbrev UU(G:Nat->Prop)(w0:World):Nat->Prop:=λk=>w0.heap.size<=k\/G k
def JP.kQ{H':aG}{F':Nat->Prop}{w':World}{g:Nat->Prop}(hg:JP G w0 F0 w F)(he:LN H F w H' F' w' g)(hu:∀k,g k->UU G w0 k):JP G w0 F0 w' F':=by
 have mz:=hg.ext.size;refine⟨⟨he.ext.os.trans hg.ext.os,⟨he.ext.tape.1.trans hg.ext.tape.1,agR hg.ext.tape.2 he.ext.tape.2⟩,he.ext.output.trans hg.ext.output,agR mz he.ext.size,λk hk hn=>?_⟩,λb hb=>he.le b (hg.le b hb),λb hb=>?_⟩
 .rw[he.ext.block k (by omega) λh=>?_]
  .exact hg.ext.block k hk hn
  grind
 .rcases he.grow b hb with h1|h1|h1
  .exact hg.new b h1
  all_goals grind
structure cI(G:Nat->Prop)(w0:World)(F0:Nat->Prop)(H:aG)(F:Nat->Prop)(w:World)(ρ:Nat->Value)(st:State):Prop where
 sat:Sat (UU G w0) H F w ρ st
 glob:JP G w0 F0 w F
def cg.xQ{H':aG}{F':Nat->Prop}{w':World}{g:Nat->Prop}(he:LN H F w H' F' w' g)(hF:∀b,F b->b<w.heap.size)(hg:∀k,g k->¬F k):cg H F w H' F' w':=⟨he.gj,he.step hF hg⟩
def cI.um{st:State}{os:List Nat}{aT:List (Nat×(Nat×Th))}(h:cI G w0 F0 H F w ρ st)(hf:fy st.objs os=aa aT):
 ∃F',cI G w0 F0 H F' w ρ {st with objs:=aT}/\cg H F w H F' w:=by
 obtain⟨F',a1,a2,a3⟩:=nN hf h.sat.ob
 have gx:Step F w F' w:=λb hb=>⟨a2 b hb,rfl⟩
 refine⟨F',⟨⟨λt d hd=>(h.sat.slot t d hd).keep (aG.le.refl H) gx,a1,h.sat.all⟩,⟨h.glob.ext,λb hb=>a2 b (h.glob.le b hb),λb hb=>?_⟩⟩,⟨aG.le.refl H,gx⟩⟩
 rcases a3 b hb with h1|h1
 .exact h.glob.new b h1
 .exact .inr (h.sat.ob.fI b h1)
def DQ{P:Program}{ρ:Nat->Value}{w:World}{o:BinOp}(lH:o= .eql\/o= .neq){t u e:TypeId}{x y:Operand}{d:Nat}{ty:TypeId}{pos:String}{aft:Array Edge}(hu:P.underlying t=aa (.slice e)){A:Option Addr}{m c:Nat}(hx:ev ρ x= .slice A m c)(hy:ev ρ y= .slice ae 0 0):
 (execOp (ev ρ) ⟨aa d, .binOp o t x y u,ty,pos,aft,ae⟩).run P w= .ok (.value (.bool (bif decide (o= .eql)then A.isNone else !A.isNone))) w:=by
 have hm:Op.maxDepth=9999+1:=rfl
 have he:(Op.equal t (.slice A m c) (.slice ae 0 0)).run P w= .ok A.isNone w:=by
  unfold Op.equal;rw[hm];unfold Op.equalIn;rw[agL,run_underlying hu]
  cases A<;>rfl
 rcases lH with rfl|rfl
 .simp[execOp,eqGuard,binOp,hx,hy,he]
 .simp[execOp,eqGuard,binOp,hx,hy,he]
def Ka{P:Program}(T:aX P){U:Nat->Prop}{H:aG}{F:Nat->Prop}{w:World}{ρ:Nat->Value}{n:Nat}{ob:Nat->Option (Nat×Th)}{rd:Operand->Option aC}(fU:∀x d,rd x=aa d->aB H F w d (ev ρ x))(hs:aI U H F w ob n){op:Op}{b:Bool}{m:Nat}(h:J7 T rd ob op=aa (b,m)){d:Nat}{ty:TypeId}{pos:String}{aft:Array Edge}:
 ∃r:Bool,(m≠0->r=b)/\(execOp (ev ρ) ⟨aa d,op,ty,pos,aft,ae⟩).run P w= .ok (.value (.bool r)) w:=by
 have isn:∀{y:Operand},td y=af->ev ρ y= .slice ae 0 0:=by
  intro y hy;unfold td at hy;split at hy
  .rfl
  .cases hy
 have key:∀{k:Js}{v:Value},Mi U H F w ob v k->∀m,(match k with| .read _ l=>l.length=m| .own _ _ _ _ l=>l.length=m|_=>False)->∃A n c,v= .slice A n c/\(m≠0->A.isNone=ag):=by
  intro k v hk m hm
  cases k with
  |read r l=>
   obtain⟨A,cap,hv,_,_,h3⟩:=hk;simp only[ahl,and_true]at hv;refine⟨A,_,cap,hv,λh0=>?_⟩;obtain⟨b,off,es,rfl,_⟩:=h3 0 (by grind);rfl
  |own o s T r l=>
   obtain⟨xs,hx,_⟩:=hk.2.2.2
   rcases hx.2 with⟨rfl,h0⟩|⟨g,o0,cap,cur,rfl,_⟩
   all_goals grind
  |nil=>exact hm.elim
  |view o s r m=>exact hm.elim
  |deep=>exact hm.elim
 unfold J7 at h;split at h
 case h_2=>cases h
 rename_i o t x y u;split at h
 case h_3=>cases h
 all_goals
  obtain⟨hy,h⟩:=aP h;split at h
  case h_2=>cases h
  rename_i e hu;have hu:=T.und_ok _ _ hu;split at h
  case h_2=>cases h
  rename_i X hX;split at h
  case h_3=>cases h
  all_goals
   rename_i gE;obtain⟨rfl,rfl⟩:=Prod.mk.inj (agq h);obtain⟨A,n',c,hv,hA⟩:=key (iB hs gE (fU _ _ hX)) _ rfl;refine⟨_,λh0=>?_,DQ (by grind) hu hv (isn hy)⟩
   grind
def cI.vO{st:State}(h:cI G w0 F0 H F w ρ st)(o:Nat):∃H' F',cI G w0 F0 H' F' w ρ (vO st o)/\cg H F w H' F' w:=by
 unfold Go.Proofs.YtfeahmiobbjklaaGreatDoor.vO;split
 .rename_i e he;obtain⟨H',F',hp⟩:=Dy h.sat.ob he;have hs:=h.sat.apply (d:=ae) hp;exact⟨H',F',⟨hs,h.glob.kQ hp.kQ h.sat.ob.fI⟩,cg.xQ hp.kQ h.sat.ob.lt h.sat.ob.eE⟩
 .exact⟨H,F,h,cg.refl H F w⟩
def cI.tS:{os:List Nat}->{st:State}->{H:aG}->{F:Nat->Prop}->cI G w0 F0 H F w ρ st->∃H' F',cI G w0 F0 H' F' w ρ (tS st os)/\cg H F w H' F' w
 |[],_,H,F,h=>⟨H,F,h,cg.refl H F w⟩
 |o::os,st,H,F,h=>by
  obtain⟨H1,F1,h1,k1⟩:=h.vO o;obtain⟨H2,F2,h2,k2⟩:=cI.tS (os:=os) h1;exact⟨H2,F2,h2,k1.trans k2⟩
def cI.oT{st:State}(h:cI G w0 F0 H F w ρ st):∃H' F',cI G w0 F0 H' F' w ρ (oT st)/\cg H F w H' F' w:=by
 unfold Go.Proofs.YtfeahmiobbjklaaGreatDoor.oT;split
 case h_2=>exact⟨H,F,h,cg.refl H F w⟩
 obtain⟨H1,F1,h1,k1⟩:=h.tS (os:=st.objs.map (·.1));obtain⟨H2,F2,h2,k2⟩:=h1.tS (os:=st.objs.map (·.1));exact⟨H2,F2,h2,k1.trans k2⟩
def Bc{E:Env P}{dst:Option Nat}{op:Op}{ty:TypeId}{pos:String}{aft:Array Edge}{st:State}{k:State->Option R}{q:R}(h:Ft E dst op st k=aa q)(hd:Bb nt dst=af)(hh:cI G w0 F0 H F w ρ st)
 (hk:∀cT H' F' w' cN,k cT=aa q->cI G w0 F0 H' F' w' cN cT->cg H F w H' F' w'->(∀t,dst≠aa t->cN t=ρ t)->wpS P nt ops K rest cN w'):wpS P nt ops K (⟨dst,op,ty,pos,aft,ae⟩::rest) ρ w:=by
 unfold Ft at h;split at h
 case h_2=>cases h
 rename_i aT wV;obtain⟨F1,nS,Kb⟩:=hh.um wV;split at h
 .rename_i b m hn;split at h
  case h_2=>cases h
  rename_i d;obtain⟨r,hr,bj⟩:=Ka E.T (ρ:=ρ) (d:=d) (ty:=ty) (pos:=pos) (aft:=aft) (λx d hx=>sH nS.sat.ob.gl nS.sat.slot x d hx) nS.sat.ob hn
  have hkr:k (State.apply {st with objs:=aT} (aa d) {dst:=dC r})=aa q:=by
   split at h
   .cases r with
    |true=>exact Pd h
    |false=>exact Pe h
   .simp_all
  have Bd:cd P (UU G w0) H F1 w ρ (find aT) st.nxt ⟨aa d,op,ty,pos,aft,ae⟩ {dst:=dC r}:=bz nS.sat.ob bj (aO.fx ..)
  refine vf Bd (λd' Ab=>by rw[Ab]at hd;exact hd) λv w' ⟨H',F',hp⟩=>?_
  have hs:=nS.sat.apply (d:=aa d) hp
  refine hk _ H' F' w' _ hkr ⟨hs,nS.glob.kQ hp.kQ nS.sat.ob.fI⟩ (Kb.trans (cg.xQ hp.kQ nS.sat.ob.lt nS.sat.ob.eE)) λt ht=>?_
  show CN ρ d v t=ρ t
  grind [om]
 split at h
 .rename_i x V4;split at h
  case h_2=>cases h
  rename_i d;split at h
  case h_2=>cases h
  rename_i X hX
  have lH:op= .next x ag:=by
   unfold J9 at V4;split at V4
   .grind
   .cases V4
  subst lH;obtain⟨e,he,Bd⟩:=JL (ρ:=ρ) (d:=d) (ty:=ty) (pos:=pos) (aft:=aft) (P:=P) (U:=UU G w0) h nS.sat.ob (sH nS.sat.ob.gl nS.sat.slot _ _ hX)
  refine vf Bd (λd' Ab=>by rw[Ab]at hd;exact hd) λv w' ⟨H',F',hp⟩=>?_
  have hs:=nS.sat.apply (d:=aa d) hp
  refine hk _ H' F' w' _ he ⟨hs,nS.glob.kQ hp.kQ nS.sat.ob.fI⟩ (Kb.trans (cg.xQ hp.kQ nS.sat.ob.lt nS.sat.ob.eE)) λt ht=>?_
  show CN ρ d v t=ρ t
  grind [om]
 obtain⟨Ac,h'⟩:=aP h;clear h;obtain⟨e,he,Bd⟩:=J6 (ρ:=ρ) (ty:=ty) (pos:=pos) (aft:=aft) E (λx d hx=>sH nS.sat.ob.gl nS.sat.slot x d hx) (λhn c hc=>by subst hn;subst hc;exact Ac) h' nS.sat.ob
 refine vf Bd (λd Ab=>by rw[Ab]at hd;exact hd) λv w' ⟨H',F',hp⟩=>?_
 have hs:=nS.sat.apply (d:=dst) hp
 refine hk _ H' F' w' _ he ⟨hs,nS.glob.kQ hp.kQ nS.sat.ob.fI⟩ (Kb.trans (cg.xQ hp.kQ nS.sat.ob.lt nS.sat.ob.eE)) λt ht=>?_
 cases dst with
 |none=>rfl
 |some d=>
  show CN ρ d v t=ρ t
  grind [om]
def Kc{E:Env P}{dst:Option Nat}{op:Op}{ty:TypeId}{pos:String}{aft:Array Edge}{st:State}{k:State->Option R}{q:R}(h:vP E dst op st k=aa q)(hd:Bb nt dst=af)(hh:cI G w0 F0 H F w ρ st)
 (hk:∀cT H' F' w' cN,k cT=aa q->cI G w0 F0 H' F' w' cN cT->cg H F w H' F' w'->(∀t,dst≠aa t->cN t=ρ t)->wpS P nt ops K rest cN w'):wpS P nt ops K (⟨dst,op,ty,pos,aft,ae⟩::rest) ρ w:=by
 unfold vP at h;split at h
 .obtain⟨H1,F1,h1,k1⟩:=hh.oT
  exact Bc h hd h1 λcT H' F' w' cN a b c d=>hk cT H' F' w' cN a b (k1.trans c) d
 .exact Bc h hd hh hk
def cI.put{st:State}{dst:Option Nat}{d:aC}{v:Value}(h:cI G w0 F0 H F w ρ st)(hd:aB H F w d v):cI G w0 F0 H F w (uq ρ dst v) (st.put dst d):=by
 refine⟨⟨λt q hq=>?_,?_,by cases dst<;>exact h.sat.all⟩,h.glob⟩
 .cases dst with
  |none=>exact h.sat.slot t q hq
  |some s=>
   have Ai:find ((s,d)::st.aD) t=aa q:=hq;rw[aS]at Ai
   show aB H F w q (CN ρ s v t)
   rw[om];by_cases e:s=t
   .grind
   .rw[ai e]at Ai;rw[ai (Ne.symm e)];exact h.sat.slot t q Ai
 .cases dst<;>exact h.sat.ob
def cI.lit{st:State}{g:Nat}{d:aC}(h:cI G w0 F0 H F w ρ st)(hd:aB H F w d (ρ g)):cI G w0 F0 H F w ρ (st.put (aa g) d):=by
 refine⟨⟨λt q hq=>?_,h.sat.ob,h.sat.all⟩,h.glob⟩;have Ai:find ((g,d)::st.aD) t=aa q:=hq;rw[aS]at Ai;split at Ai
 .grind
 .exact h.sat.slot t q Ai
def rX(ρ:Nat->Value)(kn:List (Nat×Bool)):Prop:=∀g b,find kn g=aa b->ρ g= .bool b
theorem rX.del{cN:Nat->Value}{dst:Option Nat}{kn:List (Nat×Bool)}(h:rX ρ kn)(MR:∀t,dst≠aa t->cN t=ρ t):rX cN (vQ dst kn):=by
 intro g b hg
 cases dst with
 |none=>rw[MR g (by simp)];exact h g b hg
 |some d=>
  obtain⟨h1,h2⟩:=gW.1 hg;rw[MR g (λe=>h1 (by simp[agq e]))];exact h g b h2
def rX.cons{kn:List (Nat×Bool)}{g:Nat}{b:Bool}(h:rX ρ kn)(hb:ρ g= .bool b):rX ρ ((g,b)::kn):=by
 intro g' b' hg;rw[aS]at hg;split at hg
 .grind
 .exact h g' b' hg
def ql{dst:Option Nat}{v:Value}{t:Nat}(h:dst≠aa t):uq ρ dst v t=ρ t:=by
 cases dst with
 |none=>rfl
 |some d=>
  show CN ρ d v t=ρ t
  grind [om]
def zc{E:Env P}{q:R}:{l:List Oper}->{kn:List (Nat×Bool)}->{st:State}->{k:State->Option R}->{H:aG}->{F:Nat->Prop}->{w:World}->{ρ:Nat->Value}->runs E nt ops l kn st k=aa q->rX ρ kn->cI G w0 F0 H F w ρ st->
 (∀cT H' F' w' cN,k cT=aa q->cI G w0 F0 H' F' w' cN cT->cg H F w H' F' w'->(∀t,(∀o∈l,o.dst≠aa t)->cN t=ρ t)->K cN w')->wpS P nt ops K l ρ w
 |[],kn,st,k,H,F,w,ρ,h,_,hh,hk=>L8 (hk st H F w ρ h hh (cg.refl H F w) λ_ _=>rfl)
 |o::l,kn,st,k,H,F,w,ρ,h,LX,hh,hk=>by
  unfold runs at h;obtain⟨hd,h'⟩:=aP h;clear h
  have V5:∀d,o.dst=aa d->agW d nt=af:=λd e=>by rw[e]at hd;exact hd
  have on:∀{st1:State}{Pf:List (Nat×Bool)},vP E o.dst o.op st1 (λcT=>runs E nt ops l (vQ o.dst Pf) cT k)=aa q->rX ρ Pf->cI G w0 F0 H F w ρ st1->wpS P nt ops K (⟨o.dst,o.op,o.type,o.pos,o.after,ae⟩::l) ρ w:=by
   intro st1 Pf hs Kd nS
   refine Kc hs hd nS λcT H' F' w' cN e1 e2 e3 e4=>?_
   refine zc e1 (Kd.del e4) e2 λst2 H2 F2 w2 V6 f1 f2 f3 f4=>?_
   exact hk st2 H2 F2 w2 V6 f1 f2 (e3.trans f3) (by grind)
  have off:∀{st1:State}{Pf:List (Nat×Bool)},runs E nt ops l (vQ o.dst Pf) (st1.put o.dst .undef) k=aa q->rX ρ Pf->cI G w0 F0 H F w ρ st1->wpS P nt ops K l (uq ρ o.dst undef) w:=by
   intro st1 Pf hs Kd nS
   refine zc hs (Kd.del λt ht=>ql ht) (nS.put rfl) λst2 H2 F2 w2 V6 f1 f2 f3 f4=>?_
   exact hk st2 H2 F2 w2 V6 f1 f2 f3 λt ht=>(f4 t λo' lD=>ht o' (by simp[lD])).trans (ql (ht o (by simp)))
  obtain⟨dst,op,ty,pos,aft,guard⟩:=o;simp only at h' on off V5;split at h'
  .grind
  .rename_i j b;split at h'
   case h_1=>cases h'
   rename_i g N9;obtain⟨Oa,h⟩:=aP h';clear h'
   have wOn:ρ g= .bool b->wpS P nt ops K (⟨dst,op,ty,pos,aft,ae⟩::l) ρ w->wpS P nt ops K (⟨dst,op,ty,pos,aft,aa (j,b)⟩::l) ρ w:=λhb hw=>OG g N9 Oa hb hw
   have abU:∀b',ρ g= .bool b'->b'≠b->wpS P nt ops K l (uq ρ dst undef) w->wpS P nt ops K (⟨dst,op,ty,pos,aft,aa (j,b)⟩::l) ρ w:=λb' hb dJ hw=>by
    cases dst with
    |none=>exact yz g N9 Oa hb dJ hw
    |some d=>exact L9 g N9 Oa hb dJ (V5 d rfl) hw
   split at h
   .rename_i v hv;have hgv:=LX g v hv
    grind
   .split at h
    .rename_i hu;have hgu:ρ g=undef:=hh.sat.slot _ _ hu
     cases dst with
     |none=>exact wO g N9 Oa hgu (off h LX hh)
     |some d=>exact IQ g N9 Oa hgu (V5 d rfl) (off h LX hh)
    .rename_i d Ab;split at h
     case h_2=>cases h
     rename_i t ht;have hgt:=nE ht (hh.sat.slot _ _ Ab);split at h
     .rename_i MS;subst MS;have nS:cI G w0 F0 H F w ρ (st.put (aa g) (dC af)):=hh.lit (by rw[hgt];exact aO.fx ..);have Kd:=LX.cons hgt
      grind
     .rename_i MS
      have MS:t=ag:=by cases t<;>simp_all
      subst MS;have nS:cI G w0 F0 H F w ρ (st.put (aa g) (dC ag)):=hh.lit (by rw[hgt];exact aO.fx ..);have Kd:=LX.cons hgt
      grind
    .cases h
end
end
end Go.Proofs.YtfeahmiobbjklaaGreatDoor
section
open _root_.Bool renaming false->ag,true->af,cond_eq_ite->agM
open _root_.Option renaming none->ae,some->aa,bind_assoc->ah0,isSome_iff_exists->agY
open _root_.Array renaming getElem?_eq_getElem->agH,getElem?_eq_some_iff->agZ
open _root_.List renaming mem_cons->ahq,mem_singleton->agQ
open _root_.Nat renaming beq->agu,blt->agW,zero_add->agX
open _root_.Option.some renaming inj->agq
open _root_.Go.Region renaming binds->ahM
namespace Go.Proofs.YtfeahmiobbjklaaGreatDoor
open Go Go.RowKit
section
variable {P:Program} {R:Type} {ob:Nat->Option (Nat×Th)} {n:Nat} (k:dF->Option R)
def vR{rd:Operand->Option aC}{fn:Fn}{first caps:Array Operand}:lY rd fn first caps k=(lY rd fn first caps aa).bind k:=by
 unfold lY
 grind
def zd(T:aX P){m:Nat}{e:TypeId}{D:aC}{i:Int}:p5 T m e D i k=(p5 T m e D i aa).bind k:=by
 unfold p5;simp only[agM]
 repeat' first|rfl|(rw[ah0];rfl)|split
def ze(T:aX P){t:TypeId}{D:aC}{i:Int}:qb T ob t D i k=(qb T ob t D i aa).bind k:=by
 unfold qb;simp only[agM]
 repeat' first|rfl|(rw[ah0];rfl)|split
def Be(T:aX P){t:TypeId}{D:aC}{i:Int}:sJ T ob t D i k=(sJ T ob t D i aa).bind k:=by
 unfold sJ;simp only[agM]
 repeat' first|rfl|exact zd k T|(rw[ah0];rfl)|split
theorem DS(T:aX P){t:TypeId}{D:aC}:xo T ob t D k=(xo T ob t D aa).bind k:=by
 unfold xo;simp only[agM]
 repeat' first|rfl|split|grind
theorem Bf(T:aX P){t:TypeId}{D V:aC}:sK T ob n t D V k=(sK T ob n t D V aa).bind k:=by
 unfold sK;simp only[agM]
 repeat' first|rfl|split|grind|(rw[ah0];congr 1;funext x;repeat' first|rfl|split)
theorem Bg(T:aX P){t:TypeId}{D:aC}:qV T ob n t D k=(qV T ob n t D aa).bind k:=by
 unfold qV;simp only[agM]
 repeat' first|rfl|split|grind
def Bh(T:aX P){t:TypeId}{D:aC}:po T ob n t D k=(po T ob n t D aa).bind k:=by
 unfold po
 grind [Bg,DS]
theorem zf(T:aX P){t:TypeId}{D V:aC}:qd T ob n t D V k=(qd T ob n t D V aa).bind k:=by
 unfold qd;simp only[agM]
 repeat' first|rfl|split|grind
def zg(T:aX P){t:TypeId}{D V:aC}:qg T ob n t D V k=(qg T ob n t D V aa).bind k:=by
 unfold qg
 grind [zf,Bf]
theorem wZ{e:TypeId}{dr:DR}{ds:List aC}:pn e dr ob n ds k=(pn e dr ob n ds aa).bind k:=by
 grind [pn]
def Bi(T:aX P){t:TypeId}:sL T n t k=(sL T n t aa).bind k:=by
 grind [sL]
def Hk{t:TypeId}{V:aC}:GN n t V k=(GN n t V aa).bind k:=by
 unfold GN
 grind
theorem vS(T:aX P){t:TypeId}{s:Bool}{a b:Int}:vl T n t s a b k=(vl T n t s a b aa).bind k:=by
 grind [vl]
def Bj(T:aX P){b:Bool}{t:TypeId}{s:Bool}{x y:Int}:vC b T n t s x y k=(vC b T n t s x y aa).bind k:=by
 unfold vC;split
 .unfold yR
  grind [vS]
 .exact vS k T
def zh(T:aX P){t:TypeId}{X Y:aC}:p8 T ob n t X Y k=(p8 T ob n t X Y aa).bind k:=by
 unfold p8;simp only[agM]
 repeat' first|rfl|split|grind
def tf(T:aX P){rd:Operand->Option aC}{t:TypeId}{m:Nat}{ps:Array (Nat×Operand)}:jC T rd ob n t m ps k=(jC T rd ob n t m ps aa).bind k:=by
 unfold jC;simp only[agM]
 repeat' first|rfl|split
def zi{b:Bool}(T:aX P){rd:Operand->Option aC}{t:TypeId}{m:Nat}{ps:Array (Nat×Operand)}:uN b T rd ob n t m ps k=(uN b T rd ob n t m ps aa).bind k:=by
 cases b with
 |false=>exact tf k T
 |true=>
  show qf T rd ob n t m ps k=(qf T rd ob n t m ps aa).bind k
  grind [qf,wZ]
def Bk(T:aX P){rd:Operand->Option aC}{t:TypeId}{ps:Array (Nat×Operand)}:sN T rd t ps k=(sN T rd t ps aa).bind k:=by
 unfold sN;simp only[agM]
 repeat' first|rfl|split
def Bl(dr:Bool)(T:aX P){rd:Operand->Option aC}{t:TypeId}{D:aC}{lo hi:Option Operand}:sO dr T rd ob n t D lo hi k=(sO dr T rd ob n t D lo hi aa).bind k:=by
 unfold sO;simp only[agM]
 repeat' first|rfl|split|grind
def Hl(T:aX P){o:BinOp}{t:TypeId}{lit:Bool}{X Y:aC}:GW T ob o t lit X Y k=(GW T ob o t lit X Y aa).bind k:=by
 unfold GW;simp only[agM]
 repeat' first|rfl|split|grind
def uw(T:aX P){t:TypeId}{M X Y:aC}:kJ T ob n t M X Y k=(kJ T ob n t M X Y aa).bind k:=by
 unfold kJ;simp only[agM]
 repeat' first|rfl|split
def w3(T:aX P){t:TypeId}:nJ T n t k=(nJ T n t aa).bind k:=by
 unfold nJ
 repeat' first|rfl|split
def zj(T:aX P){t:TypeId}{ok:Bool}{M X:aC}:qa T ob t ok M X k=(qa T ob t ok M X aa).bind k:=by
 unfold qa;simp only[agM]
 repeat' first|rfl|split
def w4(T:aX P){t:TypeId}{X Y:aC}:nM T ob n t X Y k=(nM T ob n t X Y aa).bind k:=by
 unfold nM
 cases JO ob Y with
 |false=>exact zh k T
 |true=>
  simp only[cond_true];unfold rR;simp only[agM]
  repeat' first|rfl|split|grind
def tg(T:aX P){t:TypeId}{M X Y:aC}:jD T ob n t M X Y k=(jD T ob n t M X Y aa).bind k:=by
 unfold jD;simp only[agM]
 repeat' first|rfl|exact uw k _|split
def vT(b:Bool)(T:aX P){t:TypeId}:lX b T n t k=(lX b T n t aa).bind k:=by
 unfold lX;simp only[agM]
 repeat' first|rfl|exact w3 k _|split
def w5(T:aX P){t:TypeId}{ok:Bool}{M X:aC}:nL T ob n t ok M X k=(nL T ob n t ok M X aa).bind k:=by
 unfold nL;simp only[agM]
 repeat' first|rfl|exact zj k _|split
theorem Bm{sg:nP}{bs:Bs}{aT:List (Nat×(Nat×Th))}{nd:List Nat}{y:cV sg.out.rows}:tc sg n bs aT nd y k=(tc sg n bs aT nd y aa).bind k:=by
 grind [tc]
theorem px{objs:List (Nat×(Nat×Th))}{f:FuncId}{ds:List aC}:{tab:List (Nat×nP)}->ot objs n f ds k tab=(ot objs n f ds aa tab).bind k
 |[]=>rfl
 |(g,sg)::tab=>by
  unfold ot;have ih:=px (objs:=objs) (f:=f) (ds:=ds) (tab:=tab)
  grind [Bm]
def DT{tab:List (Nat×nP)}{rd:Operand->Option aC}{objs:List (Nat×(Nat×Th))}{g:Operand}{args:List Operand}:xL tab rd objs n g args k=(xL tab rd objs n g args aa).bind k:=by
 grind [xL,px]
def zk(T:aX P){tab:List (Nat×nP)}{rd:Operand->Option aC}{objs:List (Nat×(Nat×Th))}{g:Operand}{name:String}{args:List Operand}:qk T tab rd objs n g name args k=(qk T tab rd objs n g name args aa).bind k:=by
 unfold qk
 repeat' first|rfl|exact px k|split
def Bn(T:aX P){t:TypeId}{M:aC}:sW T ob n t M k=(sW T ob n t M aa).bind k:=by
 grind [sW]
def Hm(T:aX P){t:TypeId}{D:aC}:Hg T t D k=(Hg T t D aa).bind k:=by
 grind [Hg]
def zl(T:aX P){t:TypeId}{ok:Bool}{D:aC}:qj T t ok D k=(qj T t ok D aa).bind k:=by
 unfold qj
 grind
def zm(T:aX P){t:TypeId}{M X:aC}:p9 T ob n t M X k=(p9 T ob n t M X aa).bind k:=by
 grind [p9]
def DU(E:Env P){rd:Operand->Option aC}{objs:List (Nat×(Nat×Th))}{c:Callee}{args:Array Operand}{tQ:Array TypeId}:nR E rd objs n c args tQ k=(nR E rd objs n c args tQ aa).bind k:=by
 unfold nR;simp only[agM]
 repeat' first|rfl|exact w4 k _|exact zm k _|exact DT k|exact zk k _|split
def Ke(E:Env P){rd:Operand->Option aC}{objs:List (Nat×(Nat×Th))}{dst:Option Nat}{op:Op}:MO E rd objs n dst op k=(MO E rd objs n dst op aa).bind k:=by
 unfold MO
 repeat' first|rfl|exact zg k _|exact tg k _|exact vT k _ _|exact w5 k _|exact Bn k _|exact Hm k _|exact zl k _|exact DU k _|exact Bi k _|exact Hk k|exact Bk k _|exact zi k _|exact Bh k _|exact Hl k _|exact Bj k _|exact Bl k _ _|exact Be k _|exact ze k _|exact vR k|split
end
def iT{α:Type}(ns:List Nat):List (Nat×α)->List (Nat×α)
 |[]=>[]
 |(m,a)::l=>bif oq m ns then(m,a)::iT ns l else iT ns l
def xR{α:Type}{ns:List Nat}{l:List (Nat×α)}{n:Nat}{a:α}:find (iT ns l) n=aa a↔n∈ns/\find l n=aa a:=by
 induction l with
 |nil=>simp[iT,find]
 |cons p l ih=>
  grind [iT,fi,aS]
def tmpsOf:List Operand->List Nat
 |[]=>[]
 | .tmp t::l=>t::tmpsOf l
 |_::l=>tmpsOf l
def Ob:List (Bool×Tree)->List Nat
 |[]=>[]
 |p::l=>p.2.owns++Ob l
def R8:aC->List Nat
 | .val _ t=>t.owns
 | .ptr o _ _=>[o]
 | .elem o .. =>[o]
 | .dlm o .. =>[o]
 | .tup ds=>Ob ds
 | .fn _ caps=>caps.map (·.1)
 | .ifc _ d=>R8 d
 |_=>[]
def Kf(aD:List (Nat×aC)):List Nat->List Nat
 |[]=>[]
 |t::l=>(match find aD t with
  |some d=>R8 d
  |none=>[])++Kf aD l
def within(objs:List (Nat×(Nat×Th))):List Nat->List Nat
 |[]=>[]
 |o::l=>(match find objs o with
  |some (_, .box _ t)=>t.owns
  |_=>[])++within objs l
def MT(aD:List (Nat×aC))(objs:List (Nat×(Nat×Th)))(ts:List Nat):List Nat:=
 (λl=>l++within objs l) (Kf aD ts)
def xS(aT:List (Nat×(Nat×Th)))(nd:List Nat)(e:dF):dF:=
 {dst:=e.dst,eat:=nd++e.eat,make:=e.make++del e.eat (oS aT nd)}
section
variable {U:Nat->Prop} {H:aG} {F:Nat->Prop} {w:World} {n:Nat}
def Hn{obj aT:List (Nat×(Nat×Th))}{nd:List Nat}{e:dF}{v:Value}{w':World}{F1:Nat->Prop}(wV:fy obj nd=aa aT)(uO:aI U H F1 w (find aT) n)(Ah:∀b,F b->F1 b)(LW:∀b,F1 b->F b\/bX H (find obj) nd b)
 (h:lL H F1 w (find aT) n e v w'):lL H F w (find obj) n (xS aT nd e) v w':=by
 obtain⟨H',F',hp⟩:=h
 have jr:∀k,bX H (find aT) e.eat k->bX H (find obj) (nd++e.eat) k:=by
  rintro k ⟨o,ho,s,t,u,h1,h2,h3⟩
  rcases jE wV o s t h1 with h4|h4
  .exact⟨o,by simp[ho],s,t,u,h4,h2,h3⟩
  .exact(gF h4 h3).elim
 have part:∀o s t,find (e.make++del e.eat (oS aT nd)) o=aa (s,t)->find e.make o=aa (s,t)\/(o∉e.eat/\o∈nd/\find aT o=aa (s,t)/\eT t=af):=by
  intro o s t ho;rw[gV]at ho
  cases hm:find e.make o with
  |some x=>grind
  |none=>
   grind [gW,mb]
 refine⟨H',F',⟨hp.kQ.gj,⟨hp.kQ.ext.os,hp.kQ.ext.tape,hp.kQ.ext.output,hp.kQ.ext.size,λk hk hn=>hp.kQ.ext.block k hk λhh=>hn (jr k hh)⟩,λb hb=>hp.kQ.le b (Ah b hb),λb hb=>?_,hp.kQ.lt⟩,hp.fresh,hp.dst,⟨λo s t ho=>?_,λo o' s s' t t' v v' dJ ho lD hv dX k hk gD=>?_⟩,λo ho=>?_⟩
 .rcases hp.kQ.grow b hb with h1|h1|h1
  .rcases LW b h1 with h2|⟨o,ho,rest⟩
   .exact .inl h2
   .exact .inr (.inr ⟨o,by simp[xS,ho],rest⟩)
  .grind
  .exact .inr (.inr (jr b h1))
 .rcases part o s t ho with h1|⟨h1,h2,h3,h4⟩
  .obtain⟨u,a1,a2,a3,a4,a5⟩:=hp.made.obj o s t h1;exact⟨u,a1,a2,a3,a4,λk hk=>⟨(a5 k hk).1,(a5 k hk).2.1,(a5 k hk).2.2.imp id (jr k)⟩⟩
  .obtain⟨u,hu,cL⟩:=uO.obj _ _ _ h3;have:=cL.kQ uO hp.kQ h3 h1 hu;exact⟨u,hp.kQ.gj.val _ _ hu,this.one,this.con,this.ok,λk hk=>(gF h4 hk).elim⟩
 .rcases part o s t ho with h1|⟨_,_,_,h4⟩
  .rcases part o' s' t' lD with h2|⟨_,_,_,h4'⟩
   .exact hp.made.apart o o' s s' t t' v v' dJ h1 h2 hv dX k hk gD
   .exact gF h4' gD
  .exact gF h4 hk
 .obtain⟨x,hx⟩:=agY.1 ho
  rcases part o x.1 x.2 hx with h1|⟨_,h2,_⟩
  .exact(hp.ids o (by rw[h1];rfl)).imp (λh=>by simp[xS,h]) id
  .exact .inl (by simp[xS,h2])
end
def gN(x y:Nat×Th):Prop:=x=y\/∃T d l h h',x.2= .deep T d l h/\y.2= .deep T d l h'
def gN.symm{x y:Nat×Th}(h:gN x y):gN y x:=by
 rcases h with rfl|⟨T,d,l,h,h',h1,h2⟩
 .exact .inl rfl
 .exact .inr ⟨T,d,l,h',h,h2,h1⟩
def gN.trans{x y z:Nat×Th}(h:gN x y)(h':gN y z):gN x z:=by
 rcases h with rfl|⟨T,d,l,a,b,h1,h2⟩
 .exact h'
 .rcases h' with rfl|⟨T',d',l',a',b',h3,h4⟩
  .exact .inr ⟨T,d,l,a,b,h1,h2⟩
  .rw[h2]at h3;cases h3;exact .inr ⟨T,d,l,a,b',h1,h4⟩
structure kS where
 dst:Option Nat
 ts:List Nat
 os:List Nat
 e:dF
 ls:List Nat:=[]
 soft:List Nat:=[]
def tT:List (Nat×(Nat×Th))->List Nat
 |[]=>[]
 |(o,_)::l=>o::tT l
def kS.mut(x:kS):List Nat:=x.e.eat++tT x.e.make
def DV:Op->Bool
 | .call c=>match c.callee with
   | .builtin .len=>af
   |_=>ag
 |_=>ag
def Oc(rd:Operand->Option aC):Op->List Nat
 | .load _ x=>match rd x with
   |some (.dlm o _ _ _ _)=>[o]
   |_=>[]
 |_=>[]
def gz(st:State)(op:Op):List Nat:=
 match op with
 | .move _=>[]
 | .assign _=>[]
 | .extract _ _=>[]
 | .fieldAddr _ _ _=>[]
 | .load _ _=>Kf st.aD (tmpsOf op.operands.toList)
 |_=>MT st.aD st.objs (tmpsOf op.operands.toList)
noncomputable def xT{R:Type}{P:Program}(E:Env P)(dst:Option Nat)(op:Op)(gs:List Nat)(st:State)(k:dF->kS->Option R):Option R:=
 match fy (iT (gz st op) st.objs) (q7 E (GF (iT (tmpsOf op.operands.toList) st.aD)) (iT (gz st op) st.objs) op)with
 |some aT=>bif fnB dst op then MO E (GF (iT (tmpsOf op.operands.toList) st.aD)) aT st.nxt dst op (λe=>
   (λe'=>k e' {dst:=dst,ts:=tmpsOf op.operands.toList++gs,os:=bif DV op then[]else gz st op,e:=e',ls:=bif DV op then gz st op else[],soft:=Oc (GF (iT (tmpsOf op.operands.toList) st.aD)) op}) (xS aT (q7 E (GF (iT (tmpsOf op.operands.toList) st.aD)) (iT (gz st op) st.objs) op) e))else ae
 |none=>ae
structure Od(P:Program)(U:Nat->Prop)(o:Oper)(sl:Nat->Option aC)(ob:Nat->Option (Nat×Th))(n:Nat)(Fv:kS):Prop where
 dst:Fv.dst=o.dst
 run:∃(V7:Nat->Option aC)(LO:Nat->Option (Nat×Th)),(∀t d,V7 t=aa d->t∈Fv.ts/\sl t=aa d)/\(∀q x,LO q=aa x->(q∈Fv.os\/q∈Fv.ls)/\ob q=aa x)/\
  ∀(H:aG)(F:Nat->Prop)(w:World)(ρ:Nat->Value)(Ho:Nat->Option (Nat×Th)),(∀q x,LO q=aa x->∃x',Ho q=aa x'/\gN x x'/\(q∈Fv.os->x'=x))->(∀t d,V7 t=aa d->aB H F w d (ρ t))->aI U H F w Ho n->
   ∃V8:Nat->Option (Nat×Th),(∀q x,V8 q=aa x->Ho q=aa x)/\bT P ρ ⟨o.dst,o.op,o.type,o.pos,o.after,ae⟩ w (lL H F w V8 n Fv.e)
 soft:∀q∈Fv.soft,q∈Fv.mut->∃x y,ob q=aa x/\find Fv.e.make q=aa y/\gN x y
def Hp{ob Jn:Nat->Option (Nat×Th)}{D:aC}{k:Js}(Ra:∀q x,ob q=aa x->∃x',Jn q=aa x'/\gN x x')(h:uu ob D=aa k):∃k',uu Jn D=aa k'/\tJ k'=tJ k:=by
 unfold uu at h;split at h
 .cases h;exact⟨_,rfl,rfl⟩
 .cases h;exact⟨_,rfl,rfl⟩
 .rename_i o
  cases ho:ob o with
  |none=>grind
  |some x=>
   obtain⟨s,t⟩:=x;obtain⟨⟨s',t'⟩,h1,h2⟩:=Ra o _ ho;rw[ho]at h
   rcases h2 with e|⟨T,d,l,a,b,e1,e2⟩
   .cases e;exact⟨k,by show(match Jn o with|some (s, .own T r l)=>_|some (_, .um _ r l)=>_|some (_, .fdeep _ d l)=>_|some (s, .deep T d l h)=>_|_=>_)=_;grind,rfl⟩
   .simp only at e1 e2;subst e1 e2;cases h;exact⟨.deep o s' T d l b,by show(match Jn o with|some (s, .own T r l)=>_|some (_, .um _ r l)=>_|some (_, .fdeep _ d l)=>_|some (s, .deep T d l h)=>_|_=>_)=_;rw[h1],rfl⟩
 .rename_i o s r m
  have hk:tJ k=(m.length:Int):=by
   split at h
   .rename_i s' _ _ _ _
    cases hb:agu s' s<;>rw[hb]at h<;>cases h<;>rfl
   .cases h;rfl
  rw[hk]
  show∃k',(match Jn o with|some (s', .um ..)=>bif agu s' s then aa (Js.read r m)else aa (.view o s r m)|_=>aa (.view o s r m))=aa k'/\tJ k'=_
  split
  .rename_i s' _ _ _ _
   cases hb:agu s' s with
   |true=>exact⟨Js.read r m,rfl,rfl⟩
   |false=>exact⟨Js.view o s r m,rfl,rfl⟩
  .exact⟨Js.view o s r m,rfl,rfl⟩
 .cases h
def Hq{P:Program}(T:aX P){ob Jn:Nat->Option (Nat×Th)}{t:TypeId}{D D':aC}(Ra:∀q x,ob q=aa x->∃x',Jn q=aa x'/\gN x x')(h:GP T ob t D=aa D'):GP T Jn t D=aa D':=by
 unfold GP at h⊢;split at h
 .split at h
  case h_2=>cases h
  rename_i k hk;obtain⟨k',h1,h2⟩:=Hp Ra hk
  grind
 all_goals grind
def Hr{P:Program}(T:aX P){ob:Nat->Option (Nat×Th)}{n:Nat}{t:TypeId}{o:Nat}{d:DR}{i:Int}{p:List Bool}{off:Nat}{e:dF}(h:po T ob n t (.dlm o d i p off) aa=aa e)(hm:o∈e.eat++tT e.make):
 ∃x y,ob o=aa x/\find e.make o=aa y/\gN x y:=by
 unfold po qV at h;simp only at h;split at h
 .cases h
 split at h
 case h_2=>cases h
 rename_i s T0 dr l hh ho;obtain⟨_,h⟩:=aP h;split at h
 .obtain⟨_,h⟩:=aP h;obtain⟨_,_,h⟩:=bind_some h;cases h;simp[tT]at hm
 .obtain⟨_,h⟩:=aP h;split at h
  .obtain⟨_,_,h⟩:=bind_some h;cases h;exact⟨_,(n, .deep T0 dr l _),ho,by rw[aS,aj rfl], .inr ⟨T0,dr,l,ae,_,rfl,rfl⟩⟩
  .obtain⟨_,h⟩:=aP h;split at h
   .obtain⟨_,_,h⟩:=bind_some h;cases h;simp[tT]at hm
   .cases h
 .cases h
def Kg{P:Program}{E:Env P}{U:Nat->Prop}{R:Type}{o:Oper}{gs:List Nat}{st:State}{k:dF->kS->Option R}{q:R}(h:xT E o.dst o.op gs st k=aa q):
 ∃e Fv,k e Fv=aa q/\Fv.e=e/\(∀g∈gs,g∈Fv.ts)/\Od P U o (find st.aD) (find st.objs) st.nxt Fv:=by
 unfold xT at h;split at h
 case h_2=>cases h
 rename_i aT wV;obtain⟨Ac,h'⟩:=aP h;clear h;rw[Ke]at h';obtain⟨e,he,hk⟩:=bind_some h'
 have R9:∀t d,find (iT (tmpsOf o.op.operands.toList) st.aD) t=aa d->t∈tmpsOf o.op.operands.toList/\find st.aD t=aa d:=λt d ht=>xR.1 ht
 have MU:∀q x,find (iT (gz st o.op) st.objs) q=aa x->q∈gz st o.op/\find st.objs q=aa x:=λq x hx=>xR.1 hx
 refine⟨_,_,hk,rfl,λg hg=>by simp[hg],rfl,⟨find (iT (tmpsOf o.op.operands.toList) st.aD),find (iT (gz st o.op) st.objs),(by grind),λq x hx=>⟨?_,(MU q x hx).2⟩,λH F w ρ Ho Ra gE cA=>?_⟩,λq hq hm=>?_⟩
 .grind
 .cases hl:DV o.op with
  |false=>
   simp only[hl,cond_false]at Ra
   have gZ:∀q x,find (iT (gz st o.op) st.objs) q=aa x->Ho q=aa x:=(by grind)
   have uv:aI U H F w (find (iT (gz st o.op) st.objs)) st.nxt:=⟨λo s t ho=>cA.obj o s t (gZ _ _ ho),λo o' s s' t t' v v' dJ ho lD=>cA.apart o o' s s' t t' v v' dJ (gZ _ _ ho) (gZ _ _ lD),cA.fresh,cA.lt,cA.new,cA.gl⟩
   refine⟨_,gZ,?_⟩;obtain⟨F1,uO,Ah,LW⟩:=nN wV uv
   have gx:Step F w F1 w:=λb hb=>⟨Ah b hb,rfl⟩
   obtain⟨e',CU,hs⟩:=J6 (ρ:=ρ) (ty:=o.type) (pos:=o.pos) (aft:=o.after) E (λx d hx=>sH uO.gl (λt d ht=>(gE t d ht).keep (aG.le.refl H) gx) x d hx) (λhn c hc=>by rw[hn,hc]at Ac;exact Ac) he uO;obtain rfl:=agq CU
   exact hs.mono λv w' hp=>Hn wV uO Ah LW hp
  |true=>
   refine⟨Ho,λ_ _ h=>h,?_⟩;obtain⟨Pg,V9,oty,Wa,Wb,ogd⟩:=o;simp only at*
   cases V9<;>try(cases hl;done)
   rename_i c;obtain⟨callee,args,tQ⟩:=c
   cases callee<;>try(cases hl;done)
   rename_i b
   cases b<;>try(cases hl;done)
   cases Pg with
   |none=>cases Ac
   |some d=>
    have JH:q7 E (GF (iT (tmpsOf (Op.operands (.call {callee:= .builtin .len,args:=args,argTypes:=tQ})).toList) st.aD)) (iT (gz st (.call {callee:= .builtin .len,args:=args,argTypes:=tQ})) st.objs) (.call {callee:= .builtin .len,args:=args,argTypes:=tQ})=[]:=by unfold q7;cases E.deep<;>rfl
    rw[JH]at wV⊢;obtain rfl:=agq wV;have Kh:nR E _ _ st.nxt (.builtin .len) args tQ aa=aa e:=he;unfold nR at Kh;simp only at Kh;split at Kh
    case h_2=>cases Kh
    rename_i x t ha ht;obtain rfl:=dy ha;obtain rfl:=dy ht;split at Kh
    case h_2=>cases Kh
    rename_i D hD;split at Kh
    case h_2=>cases Kh
    rename_i D' Me;cases Kh;have hlen:=Hq E.T (λq x hx=>by obtain⟨x',h1,h2,_⟩:=Ra q x hx;exact⟨x',h1,h2⟩) Me;exact EX E.T hlen cA (sH cA.gl gE _ _ hD)
 .obtain⟨Pg,V9,oty,Wa,Wb,ogd⟩:=o;simp only at*
  cases V9<;>try(cases hq;done)
  rename_i t x;unfold Oc at hq;simp only at hq;split at hq
  case h_2=>cases hq
  rename_i o' d0 i p off fU;obtain rfl:=agQ.1 hq
  have JH:q7 E (GF (iT (tmpsOf (Op.operands (.load t x)).toList) st.aD)) (iT (gz st (.load t x)) st.objs) (.load t x)=[]:=by unfold q7;cases E.deep<;>rfl
  rw[JH]at wV hm⊢;obtain rfl:=agq wV
  cases Pg with
  |none=>cases he
  |some d=>
   unfold MO at he;simp only[fU]at he
   have Ph:q∈e.eat++tT e.make:=by
    simpa[kS.mut,xS,oS,del]using hm
   obtain⟨x1,y1,h1,h2,h3⟩:=Hr E.T he Ph;refine⟨x1,y1,(MU _ _ h1).2,?_,h3⟩
   show find (e.make++_) q=_
   rw[gV,h2];rfl
end Go.Proofs.YtfeahmiobbjklaaGreatDoor
namespace Go.Proofs.YtfeahmiobbjklaaGreatDoor
open Go Go.RowKit
def w6(acc:List Nat)(i:Nat):List Edge->Option Nat
 |[]=>aa 0
 |e::l=>match w6 acc i l with
  |some m=>bif ahM .any e then(bif agW e.on i then aa (m|||2 ^ e.on|||acc.getD e.on 0)else ae)else aa m
  |none=>ae
def Hs(acc:List Nat):List Oper->Option (List Nat)
 |[]=>aa acc
 |o::l=>match w6 acc acc.length o.after.toList with
  |some m=>Hs (acc++[m]) l
  |none=>ae
def nh(d:Option Nat)(l:List Nat):Bool:=
 match d with
 |some t=>oq t l
 |none=>ag
def Bo(l l':List Nat):Bool:=l.any λo=>oq o l'
def kS.Sa(x:kS):List Nat:=x.mut.filter λo=> !oq o x.soft
def conflict(a b:kS):Bool:=
 nh a.dst b.ts||nh b.dst a.ts||nh a.dst (b.dst.toList)||Bo a.mut (b.os++b.mut)||Bo a.Sa b.ls||Bo (a.os++a.ls++a.mut) b.mut
def zn(ms:List Nat)(i:Nat)(x:kS):Nat->List kS->Bool
 |_,[]=>af
 |j,y::l=>(bif conflict x y then Nat.testBit (ms.getD j 0) i else af)&&zn ms i x (j+1) l
def uQ(ms:List Nat):Nat->List kS->Bool
 |_,[]=>af
 |i,x::l=>zn ms i x (i+1) l&&uQ ms (i+1) l
def th(ops:List Oper)(es:List kS):Bool:=
 match Hs [] ops with
 |some ms=>uQ ms 0 es
 |none=>ag
section
variable {ops:Array Oper}
def DW(ops:Array Oper)(S:Nat->Prop):Prop:=∀i,S i->∀o,ops[i]? =aa o->∀e∈o.after,ahM .any e=af->S e.on
def zo{acc:List Nat}{i:Nat}:{l:List Edge}->{m:Nat}->w6 acc i l=aa m->∀j,m.testBit j=af->∃e∈l,ahM .any e=af/\e.on<i/\(e.on=j\/(acc.getD e.on 0).testBit j=af)
 |[],m,h,j,hj=>by
  obtain rfl:=agq h;simp at hj
 |e::l,m,h,j,hj=>by
  unfold w6 at h;split at h
  case h_2=>cases h
  rename_i m0 h0
  cases hb:ahM .any e with
  |false=>
   rw[hb,cond_false]at h;obtain rfl:=agq h;obtain⟨e',a1,a2⟩:=zo h0 j hj
   grind
  |true=>
   rw[hb,cond_true]at h
   cases bi:agW e.on i with
   |false=>grind
   |true=>
    rw[bi,cond_true]at h;obtain rfl:=agq h;rw[Nat.testBit_or,Nat.testBit_or,Bool.or_eq_true,Bool.or_eq_true]at hj
    have abX:e.on<i:=by simpa using bi
    rcases hj with(hj|hj)|hj
    .obtain⟨e',a1,a2⟩:=zo h0 j hj
     grind
    all_goals grind
def Fw{acc:List Nat}{i:Nat}:{l:List Edge}->{m:Nat}->w6 acc i l=aa m->∀e∈l,ahM .any e=af->e.on<i
 |[],m,h,e,he,_=>by cases he
 |e0::l,m,h,e,he,hb=>by
  unfold w6 at h;split at h
  case h_2=>cases h
  rename_i m0 h0
  rcases ahq.1 he with rfl|he
  .rw[hb,cond_true]at h
   cases bi:agW e.on i<;>simp_all
  .exact Fw h0 e he hb
def zp:{l:List Oper}->{acc ms:List Nat}->Hs acc l=aa ms->ms.length=acc.length+l.length/\(∀i,i<acc.length->ms.getD i 0=acc.getD i 0)/\
 ∀k o,l[k]? =aa o->∃m,w6 ms (acc.length+k) o.after.toList=aa m/\ms.getD (acc.length+k) 0=m
 |[],acc,ms,h=>by
  obtain rfl:=agq h
  grind
 |o0::l,acc,ms,h=>by
  unfold Hs at h;split at h
  case h_2=>cases h
  rename_i m hm;obtain⟨a1,a2,a3⟩:=zp h;rw[List.length_append,List.length_singleton]at a1 a2 a3
  have Wc:∀i,i<acc.length->ms.getD i 0=acc.getD i 0:=(by grind)
  have abY:∀(l:List Edge)(m:Nat),w6 acc acc.length l=aa m->w6 ms acc.length l=aa m:=by
   intro l
   induction l with
   |nil=>intro m h;exact h
   |cons e l ih=>
    intro m h;unfold w6 at h⊢;split at h
    case h_2=>cases h
    rename_i m0 h0;rw[ih m0 h0];simp only
    cases hb:ahM .any e with
    |false=>grind
    |true=>
     rw[hb,cond_true]at h
     cases bi:agW e.on acc.length<;>simp_all
  grind
theorem Ki{ms:List Nat}(h:Hs [] ops.toList=aa ms){S:Nat->Prop}(hS:DW ops S):∀i o,ops[i]? =aa o->(∀e∈o.after,ahM .any e=af->S e.on)->∀j,(ms.getD i 0).testBit j=af->S j:=by
 obtain⟨_,_,a3⟩:=zp h;intro i
 induction i using Nat.strongRecOn with
 |_ i ih=>
  intro o ho hd j hj;obtain⟨m,h1,h2⟩:=a3 i o (by rw[Array.getElem?_toList];exact ho);simp only[List.length_nil,agX]at h1 h2;rw[h2]at hj;obtain⟨e,he,hb,bi,h3⟩:=zo h1 j hj;have hSe:=hd e (by simpa using he) hb
  rcases h3 with rfl|h3
  .exact hSe
  .have Pj:e.on<ops.size:=by
    have:=(agZ.1 ho).1;omega
   exact ih e.on bi _ (agH Pj) (λe' CU qR=>hS e.on hSe _ (agH Pj) e' CU qR) j h3
end
def fV(S:Nat->Bool):Nat->List kS->(Nat->Option aC)->Nat->Option aC
 |_,[],f=>f
 |i,x::l,f=>fV S (i+1) l (λt=>bif S i&&nh (aa t) x.dst.toList then aa x.e.dst else f t)
def fA(S:Nat->Bool):Nat->List kS->(Nat->Option (Nat×Th))->Nat->Option (Nat×Th)
 |_,[],f=>f
 |i,x::l,f=>fA S (i+1) l (λo=>bif S i then(find x.e.make o).or (bif oq o x.e.eat then ae else f o)else f o)
theorem qm{l:List (Nat×(Nat×Th))}{o:Nat}{x:Nat×Th}(h:find l o=aa x):o∈tT l:=by
 induction l with
 |nil=>cases h
 |cons p l ih=>
  obtain⟨o',y⟩:=p;rw[aS]at h;split at h
  .rename_i e;subst e;exact List.mem_cons_self
  .exact List.mem_cons_of_mem _ (ih h)
theorem uR{d:Option Nat}{t:Nat}:nh (aa t) d.toList=af↔d=aa t:=by
 grind [nh,fi]
theorem k8{S S':Nat->Bool}{t:Nat}:{l:List kS}->{i:Nat}->{f f':Nat->Option aC}->f t=f' t->(∀k x,l[k]? =aa x->x.dst=aa t->S (i+k)=S' (i+k))->fV S i l f t=fV S' i l f' t
 |[],_,_,_,hf,_=>hf
 |x::l,i,f,f',hf,h=>by
  show fV S (i+1) l _ t=fV S' (i+1) l _ t
  refine k8 ?_ λk y hy hd=>by
   have:=h (k+1) y (by simpa using hy) hd
   grind
  by_cases hd:x.dst=aa t
  .have:=h 0 x rfl hd
   grind
  grind [uR]
theorem kK{S S':Nat->Bool}{o:Nat}:{l:List kS}->{i:Nat}->{f f':Nat->Option (Nat×Th)}->f o=f' o->(∀k x,l[k]? =aa x->o∈x.mut->S (i+k)=S' (i+k))->fA S i l f o=fA S' i l f' o
 |[],_,_,_,hf,_=>hf
 |x::l,i,f,f',hf,h=>by
  show fA S (i+1) l _ o=fA S' (i+1) l _ o
  refine kK ?_ λk y hy hd=>by
   have:=h (k+1) y (by simpa using hy) hd
   grind
  by_cases hd:o∈x.mut
  .have:=h 0 x rfl hd
   grind
  .have h1:find x.e.make o=ae:=by
    cases hm:find x.e.make o with
    |none=>rfl
    |some y=>grind [kS.mut,qm]
   have h2:oq o x.e.eat=ag:=by
    cases hb:oq o x.e.eat with
    |false=>rfl
    |true=>grind [kS.mut,fi]
   grind
theorem ou{S:Nat->Bool}{t:Nat}:{l:List kS}->{i:Nat}->{f:Nat->Option aC}->(∀k x,l[k]? =aa x->x.dst=aa t->S (i+k)=ag)->fV S i l f t=f t
 |[],_,_,_=>rfl
 |x::l,i,f,h=>by
  show fV S (i+1) l _ t=_
  rw[ou λk y hy hd=>by
   have:=h (k+1) y (by simpa using hy) hd
   grind]
  by_cases hd:x.dst=aa t
  .have:=h 0 x rfl hd
   grind
  grind [uR]
def nT{S:Nat->Bool}{o:Nat}:{l:List kS}->{i:Nat}->{f:Nat->Option (Nat×Th)}->(∀k x,l[k]? =aa x->o∈x.mut->S (i+k)=ag)->fA S i l f o=f o
 |[],_,_,_=>rfl
 |x::l,i,f,h=>by
  show fA S (i+1) l _ o=_
  rw[nT λk y hy hd=>by
   have:=h (k+1) y (by simpa using hy) hd
   grind]
  by_cases hd:o∈x.mut
  .have:=h 0 x rfl hd
   grind
  .have h1:find x.e.make o=ae:=by
    cases hm:find x.e.make o with
    |none=>rfl
    |some y=>grind [kS.mut,qm]
   have h2:oq o x.e.eat=ag:=by
    cases hb:oq o x.e.eat with
    |false=>rfl
    |true=>grind [kS.mut,fi]
   grind
def ov{S:Nat->Bool}{l l':List kS}{i:Nat}{f:Nat->Option aC}:fV S i (l++l') f=fV S (i+l.length) l' (fV S i l f):=by
 induction l generalizing i f with
 |nil=>rfl
 |cons x l ih=>
  grind [fV]
def jF{S:Nat->Bool}{l l':List kS}{i:Nat}{f:Nat->Option (Nat×Th)}:fA S i (l++l') f=fA S (i+l.length) l' (fA S i l f):=by
 induction l generalizing i f with
 |nil=>rfl
 |cons x l ih=>
  grind [fA]
end Go.Proofs.YtfeahmiobbjklaaGreatDoor
end
section
open _root_.Bool renaming false->ag,true->af,false_eq_true->ags
open _root_.Option renaming none->ae,some->aa
open _root_.Array renaming getD_eq_getD_getElem?->agT,getElem?_eq_getElem->agH,getElem?_eq_some_iff->agZ
open _root_.List renaming getElem?_drop->agU,getElem?_eq_getElem->agx,getElem?_eq_some_iff->agJ,range->agw,take_append_drop->ahD
open _root_.Nat renaming beq->agu,blt->agW,le_refl->agt,zero_add->agX
open _root_.Option.some renaming inj->agq
open _root_.Go.Region renaming binds->ahM,wanted->ahF
namespace Go.Proofs.YtfeahmiobbjklaaGreatDoor
open Go Go.RowKit
def vU{ms:List Nat}{i:Nat}{x:kS}:{l:List kS}->{j:Nat}->zn ms i x j l=af->∀k y,l[k]? =aa y->conflict x y=af->(ms.getD (j+k) 0).testBit i=af
 |[],_,_,k,y,h,_=>by simp at h
 |z::l,j,hl,k,y,h,hc=>by
  obtain⟨h1,h2⟩:=ct hl
  cases k with
  |zero=>
   grind
  |succ k=>
   have:=vU h2 k y (by simpa using h) hc
   grind
def q8{ms:List Nat}:{l:List kS}->{i:Nat}->uQ ms i l=af->∀a b x y,a<b->l[a]? =aa x->l[b]? =aa y->conflict x y=af->(ms.getD (i+b) 0).testBit (i+a)=af
 |[],_,_,a,b,x,y,_,h,_,_=>by simp at h
 |z::l,i,hl,a,b,x,y,N0,hx,hy,hc=>by
  obtain⟨h1,h2⟩:=ct hl
  cases a with
  |zero=>
   obtain rfl:z=x:=by simpa using hx
   cases b with
   |zero=>omega
   |succ b=>
    have:=vU h1 b y (by simpa using hy) hc
    grind
  |succ a=>
   cases b with
   |zero=>omega
   |succ b=>
    have:=q8 h2 a b x y (by omega) (by simpa using hx) (by simpa using hy) hc
    grind
inductive Pk(ops:Array Oper)(nt:Nat)(ts:List Nat)(sl:Nat->Option aC):Option (Nat×Bool)->Bool->Prop
 |none:Pk ops nt ts sl ae af
 |lit {j g:Nat} {b t:Bool} {d:aC} (h1:Fu ops j=aa g) (h2:agW g nt=af) (h3:g∈ts) (h4:sl g=aa d) (h5:asBool d=aa t):Pk ops nt ts sl (aa (j,b)) (decide (t=b))
 |undef {j g:Nat} {b:Bool} (h1:Fu ops j=aa g) (h2:agW g nt=af) (h3:g∈ts) (h4:sl g=aa .undef):Pk ops nt ts sl (aa (j,b)) ag
structure Pm(P:Program)(ops:Array Oper)(nt:Nat)(U:Nat->Prop)(o:Oper)(sl:Nat->Option aC)(ob:Nat->Option (Nat×Th))(n:Nat)(x:kS):Prop where
 dst:x.dst=o.dst
 bnd:Bb nt o.dst=af
 on:∃b,Pk ops nt x.ts sl o.guard b/\(b=af->Od P U o sl ob n x)/\(b=ag->x.e={dst:= .undef})
section
variable {P:Program} {nt:Nat} {ops:Array Oper}
def MV{ρ:Nat->Value}{o:Oper}{w:World}{QQ:Value->World->Prop}{a:Act}{K:Act->World->Prop}{Q:Exit->Act->World->Prop}(h:bT P ρ ⟨o.dst,o.op,o.type,o.pos,o.after,ae⟩ w QQ)(hf:Fr nt a ρ)
 (hk:∀v w',QQ v w'->K (a.put o.dst v) w'):o.wp P a w K Q:=by
 unfold Oper.wp;rw[hf.eval];unfold bT at h;have e:execOp (ev ρ) o=execOp (ev ρ) ⟨o.dst,o.op,o.type,o.pos,o.after,ae⟩:=rfl;rw[e];generalize(execOp (ev ρ) ⟨o.dst,o.op,o.type,o.pos,o.after,ae⟩).run P w=r at*
 cases r with
 |halt x w'=>exact h.elim
 |ok x w'=>
  cases x<;>first
   |exact h.elim
   |skip
  case value v=>exact hk v w' h.2
  case skip=>exact hk undef w' h.2
  case enter f args=>
   refine h.mono λe wL ⟨v,he,hv⟩=>?_
   grind
def aI.sub{U:Nat->Prop}{H:aG}{F:Nat->Prop}{w:World}{ob LO:Nat->Option (Nat×Th)}{n m:Nat}(h:aI U H F w ob n)(hR:∀o x,LO o=aa x->ob o=aa x)(yF:∀k,m<=k->k<m+16->H.val k=ae/\H.con k=ae):aI U H F w LO m:=
 ⟨λo s t ho=>h.obj o s t (hR _ _ ho),λo o' s s' t t' v v' dJ ho lD=>h.apart o o' s s' t t' v v' dJ (hR _ _ ho) (hR _ _ lD),yF,h.lt,h.new,h.gl⟩
structure Inv(G:Nat->Prop)(w0:World)(F0:Nat->Prop)(es:List kS)(sl0:Nat->Option aC)(ob0:Nat->Option (Nat×Th))(n0:Nat)(H:aG)(F:Nat->Prop)(w:World)(ρ:Nat->Value)(S:Nat->Bool)(H':aG)(F':Nat->Prop)(w':World)(cN:Nat->Value):Prop where
 slot:∀t d,fV S 0 es sl0 t=aa d->aB H' F' w' d (cN t)
 ob:aI (UU G w0) H' F' w' (fA S 0 es ob0) (n0+16*es.length)
 all:gY H' (n0+16*es.length)
 fresh:∀i,i<es.length->S i=ag->∀m,n0+16*i<=m->m<n0+16*i+16->H'.val m=ae/\H'.con m=ae
 glob:JP G w0 F0 w' F'
 keeps:cg H F w H' F' w'
 same:∀t,(∀x∈es,x.dst≠aa t)->cN t=ρ t
def ins(S:Nat->Bool)(i:Nat):Nat->Bool:=λj=>bif agu j i then af else S j
theorem py{S:Nat->Bool}{i:Nat}:ins S i i=af:=by simp[ins]
theorem pz{S:Nat->Bool}{i j:Nat}(h:j≠i):ins S i j=S j:=by
 grind [ins,beq_true]
section
variable {G:Nat->Prop} {w0:World} {F0:Nat->Prop} {es:List kS} {sl0:Nat->Option aC} {ob0:Nat->Option (Nat×Th)} {n0:Nat} {H:aG} {F:Nat->Prop} {w:World} {ρ:Nat->Value} {ms:List Nat}
def Bp{i:Nat}{x:kS}(h:es[i]? =aa x):es=es.take i++x::es.drop (i+1)/\(es.take i).length=i:=by
 grind [List.drop_eq_getElem_cons,ahD]
def xU{S:Nat->Bool}{i:Nat}{x:kS}(hx:es[i]? =aa x)(Sb:∀t,x.dst=aa t->∀j y,es[j]? =aa y->y.dst=aa t->S j=af->j<i)(t:Nat):
 fV (ins S i) 0 es sl0 t=if x.dst=aa t then aa x.e.dst else fV S 0 es sl0 t:=by
 by_cases hd:x.dst=aa t
 .rw[aj hd];obtain⟨e1,e2⟩:=Bp hx;rw[e1,ov,e2,agX]
  show fV (ins S i) (i+1) (es.drop (i+1)) _ t=_
  grind [ou,pz,py,uR]
 grind [k8,pz]
def Bq{S:Nat->Bool}{i:Nat}{x:kS}(hx:es[i]? =aa x)(hS:S i=ag)(Sb:∀o,o∈x.mut->∀j y,es[j]? =aa y->o∈y.mut->S j=af->j<i)(o s:Nat)(t:Th)(h:fA (ins S i) 0 es ob0 o=aa (s,t)):
 find x.e.make o=aa (s,t)\/(o∉x.e.eat/\fA S 0 es ob0 o=aa (s,t)/\find x.e.make o=ae):=by
 by_cases hd:o∈x.mut
 .obtain⟨e1,e2⟩:=Bp hx
  have late:∀S':Nat->Bool,(∀j,j≠i->S' j=S j)->∀f,fA S' (i+1) (es.drop (i+1)) f o=f o:=λS' hS' f=>nT (by grind)
  have pre:fA (ins S i) 0 (es.take i) ob0 o=fA S 0 (es.take i) ob0 o:=kK rfl λk y hy _=>by
   grind [pz]
  have all:fA S 0 es ob0 o=fA S 0 (es.take i) ob0 o:=by
   conv=>lhs;rw[e1]
   rw[jF,e2,agX]
   show fA S (i+1) (es.drop (i+1)) _ o=_
   rw[late S (λ_ _=>rfl),hS];rfl
  conv at h=>lhs;rw[e1]
  rw[jF,e2,agX]at h;change fA (ins S i) (i+1) (es.drop (i+1)) _ o=_ at h;rw[late (ins S i) (λj hj=>pz hj),py,cond_true,pre,<-all]at h
  cases hm:find x.e.make o with
  |some y=>grind
  |none=>
   rw[hm,Option.none_or]at h
   cases he:oq o x.e.eat with
   |true=>grind
   |false=>
    grind [fi]
 .right
  have h1:find x.e.make o=ae:=by
   cases hm:find x.e.make o with
   |none=>rfl
   |some y=>grind [kS.mut,qm]
  grind [kS.mut,kK,pz]
theorem nU{l l':List Nat}{o:Nat}(h:o∈l)(h':o∈l'):Bo l l'=af:=by
 grind [Bo,fi]
theorem vV{i j:Nat}(h:i<=j):agW j i=ag:=by
 cases hb:agW j i with
 |false=>rfl
 |true=>have:j<i:=by simpa using hb
        omega
def Ht(_:Nat):Bool:=af
def DX{es:List kS}{i:Nat}(hi:i<=es.length):fV (λj=>agW j i) 0 es sl0=fV Ht 0 (es.take i) sl0:=by
 funext t
 conv=>lhs;rw[<-ahD i es]
 rw[ov,ou (S:=λj=>agW j i) λk x _ _=>vV (by simp;omega)]
 refine k8 rfl λk x hx _=>?_
 have:=(agJ.1 hx).1;simp at this;simp[Ht];omega
def xV{es:List kS}{i:Nat}(hi:i<=es.length):fA (λj=>agW j i) 0 es ob0=fA Ht 0 (es.take i) ob0:=by
 funext t
 conv=>lhs;rw[<-ahD i es]
 rw[jF,nT (S:=λj=>agW j i) λk x _ _=>vV (by simp;omega)]
 refine kK rfl λk x hx _=>?_
 have:=(agJ.1 hx).1;simp at this;simp[Ht];omega
def Hu{S:Nat->Bool}{i q:Nat}(hA:∀k y,k<i->es[k]? =aa y->q∈y.mut->S k=af\/q∈y.soft)
 (hs:∀k y,es[k]? =aa y->q∈y.soft->q∈y.mut->∃z z',fA Ht 0 (es.take k) ob0 q=aa z/\find y.e.make q=aa z'/\gN z z'):
 ∀m,m<=i->m<=es.length->∀z,fA Ht 0 (es.take m) ob0 q=aa z->∃z',fA S 0 (es.take m) ob0 q=aa z'/\gN z z':=by
 intro m
 induction m with
 |zero=>intro _ _ z hz;exact⟨z,hz, .inl rfl⟩
 |succ m ih=>
  intro hm hl z hz
  have bi:m<es.length:=by omega
  have hy:es[m]? =aa es[m]:=agx bi
  have e1:es.take (m+1)=es.take m++[es[m]]:=by rw[List.take_add_one,hy];rfl
  have el:(es.take m).length=m:=by simp;omega
  rw[e1,jF,el,agX]at hz⊢;generalize hgy:es[m]=y at*;have ez:(find y.e.make q).or (bif oq q y.e.eat then ae else fA Ht 0 (es.take m) ob0 q)=aa z:=hz
  show∃z',(bif S m then(find y.e.make q).or (bif oq q y.e.eat then ae else fA S 0 (es.take m) ob0 q)else fA S 0 (es.take m) ob0 q)=aa z'/\gN z z'
  by_cases Sc:q∈y.mut
  .cases hSm:S m with
   |true=>
    rw[cond_true]
    cases Kj:find y.e.make q with
    |some x=>rw[Kj]at ez;exact⟨z,ez, .inl rfl⟩
    |none=>
     grind
   |false=>
    rw[cond_false]
    rcases hA m y (by omega) hy Sc with h|h
    .grind
    .obtain⟨x,x',h1,h2,h3⟩:=hs m y hy h Sc;rw[h2]at ez;obtain rfl:=agq ez;obtain⟨z',h4,h5⟩:=ih (by omega) (by omega) x h1;exact⟨z',h4,h3.symm.trans h5⟩
  .have h1:find y.e.make q=ae:=by
    cases hm:find y.e.make q with
    |none=>rfl
    |some y=>grind [kS.mut,qm]
   grind
def vW(LY:Hs [] ops.toList=aa ms)(hp:uQ ms 0 es=af)(hlen:es.length=ops.size){S:Nat->Bool}(hS:DW ops (λj=>S j=af)){i:Nat}{o:Oper}{x:kS}(ho:ops[i]? =aa o)(hx:es[i]? =aa x)(Pn:S i=ag)
 (Oe:∀e∈o.after,ahM .any e=af->S e.on=af)(Of:∀k y,es[k]? =aa y->∀q,q∈y.soft->q∈y.mut->∃z z',fA Ht 0 (es.take k) ob0 q=aa z/\find y.e.make q=aa z'/\gN z z')(lH:Pm P ops nt (UU G w0) o (fV (λj=>agW j i) 0 es sl0) (fA (λj=>agW j i) 0 es ob0) (n0+16*i) x)
 {H':aG}{F':Nat->Prop}{w':World}{cN:Nat->Value}{a:Act}(hf:Fr nt a cN)(hinv:Inv G w0 F0 es sl0 ob0 n0 H F w ρ S H' F' w' cN){K:Act->World->Prop}{Q:Exit->Act->World->Prop}
 (hk:∀Sd tj uo Dz wL,Fr nt Sd tj->Inv G w0 F0 es sl0 ob0 n0 H F w ρ (ins S i) uo Dz wL tj->K Sd wL):wpOp P ops Q i K a w':=by
 have Hv:i<es.length:=(agJ.1 hx).1
 have up:∀j y,es[j]? =aa y->j<i->conflict y x=af->S j=af:=λj y hy hji hc=>by
  have:=q8 hp j i y x hji hy hx hc
  grind [Ki]
 have down:∀j y,es[j]? =aa y->i<j->conflict x y=af->S j=af->False:=λj y hy UK hc hj=>by
  have:=q8 hp i j x y UK hx hy hc;rw[agX,agX]at this
  have DK:j<ops.size:=by have:=(agJ.1 hy).1;omega
  have h2:=Ki LY hS j _ (agH DK) (λe he hb=>hS j hj _ (agH DK) e he hb) i this
  grind
 have Og:∀t,x.dst=aa t->∀j y,es[j]? =aa y->y.dst=aa t->S j=af->j<i:=λt ht j y hy hyt hj=>by
  grind [conflict,nh,fi]
 have Oh:∀q,q∈x.mut->∀j y,es[j]? =aa y->q∈y.mut->S j=af->j<i:=λq hq j y hy Rb hj=>by
  grind [conflict,nU]
 have Po:∀t,t∈x.ts->fV (λj=>agW j i) 0 es sl0 t=fV S 0 es sl0 t:=λt ht=>k8 rfl λj y hy hyt=>by
  rw[agX]
  rcases Nat.lt_trichotomy j i with h|h|h
  .rw[up j y hy h (by grind [conflict,nh,fi])];simpa using h
  all_goals grind [vV,conflict,nh,fi]
 have ab0:∀q,q∈x.os->fA (λj=>agW j i) 0 es ob0 q=fA S 0 es ob0 q:=λq hq=>kK rfl λj y hy Rb=>by
  rw[agX]
  rcases Nat.lt_trichotomy j i with h|h|h
  .rw[up j y hy h (by grind [conflict,nU])];simpa using h
  .grind [vV]
  .have:S j=ag:=by
    cases hj:S j with
    |false=>rfl
    |true=>exact(down j y hy h (by unfold conflict;rw[nU (l:=x.os++x.ls++x.mut) (l':=y.mut) (by simp[hq]) Rb];simp) hj).elim
   rw[this];exact vV (by omega)
 have ab1:∀q z,q∈x.ls->fA (λj=>agW j i) 0 es ob0 q=aa z->∃z',fA S 0 es ob0 q=aa z'/\gN z z':=λq z hq hz=>by
  rw[xV (by omega)]at hz
  obtain⟨z',h1,h2⟩:=Hu (S:=S) (i:=i) (q:=q) (λk y hk hy Rb=>by
   by_cases hsf:q∈y.soft
   .exact .inr hsf
   .refine .inl (up k y hy hk ?_)
    have:q∈y.Sa:=List.mem_filter.2 ⟨Rb,by
     cases hb:oq q y.soft with
     |false=>rfl
     |true=>exact absurd (fi.1 hb) hsf⟩
    unfold conflict;rw[nU this hq]
    simp) (by grind) i (agt _) (by omega) z hz
  refine⟨z',?_,h2⟩;rw[<-h1]
  conv=>lhs;rw[<-ahD i es]
  rw[jF]
  refine nT λk y hy Rb=>?_
  have hy':es[i+k]? =aa y:=by rw[<-hy,agU]
  have el:(es.take i).length=i:=by simp;omega
  rw[el,agX]
  cases hSk:S (i+k)with
  |false=>rfl
  |true=>
   rcases Nat.eq_zero_or_pos k with rfl|hk
   .grind
   .exact(down (i+k) y hy' (by omega) (by unfold conflict;rw[nU (l:=x.os++x.ls++x.mut) (l':=y.mut) (by simp[hq]) Rb];simp) hSk).elim
 obtain⟨b,hg,Wd,Mk⟩:=lH.on
 have Se:ahF o (yielded ops a.tmps)=b:=by
  generalize hog:o.guard=gd at hg
  cases hg with
  |none=>unfold ahF;rw[hog]
  |lit h1 h2 h3 h4 h5=>
   rename_i j g b' t d;rw[Po g h3]at h4;have hy:=oi hf h1 h2 (nE h5 (hinv.slot g _ h4));unfold ahF
   grind
  |undef h1 h2 h3 h4=>
   rename_i j g b';rw[Po g h3]at h4;have hy:=mW hf h1 h2 (show cN g=undef from hinv.slot g _ h4);unfold ahF
   grind
 have sG:∀v,Fr nt (a.put o.dst v) (uq cN o.dst v):=λv=>by
  have hb:=lH.bnd
  cases hd:o.dst with
  |none=>exact hf
  |some d=>rw[hd]at hb;exact hf.put hb v
 have Kk:∀t,x.dst=aa t↔o.dst=aa t:=λt=>by rw[lH.dst]
 unfold wpOp;simp only[ho,Se]
 cases b with
 |false=>
  simp only[ags,if_false];have he:=Mk rfl;refine hk _ (uq cN o.dst undef) H' F' w' (sG undef) ⟨λt d ht=>?_,?_,hinv.all,λk hk Hw=>?_,hinv.glob,hinv.keeps,λt ht=>?_⟩
  .rw[xU hx Og]at ht;split at ht
   .rename_i Pp;obtain rfl:=agq ht;rw[he]
    show uq cN o.dst undef t=undef
    rw[(Kk t).1 Pp]
    show CN cN t undef t=undef
    rw[om,aj rfl]
   .rename_i Pp;rw[ql (λe=>Pp ((Kk t).2 e))];exact hinv.slot t d ht
  .refine hinv.ob.sub (λq y hq=>?_) (λm hm _=>hinv.all m hm)
   rcases Bq hx Pn Oh q y.1 y.2 hq with h1|⟨_,h2,_⟩
   .rw[he]at h1;cases h1
   .exact h2
  .by_cases e:k=i
   .grind [py]
   .rw[pz e]at Hw;exact hinv.fresh k hk Hw
  .rw[ql (by grind)];exact hinv.same t ht
 |true=>
  simp only[if_true]
  left
  obtain⟨_,⟨V7,LO,R9,MU,bj⟩,_⟩:=Wd rfl
  obtain⟨V8,gZ,bj⟩:=bj H' F' w' cN (fA S 0 es ob0) (λq y hq=>by
   obtain⟨h1,h2⟩:=MU q y hq;by_cases hos:q∈x.os
   .exact⟨y,by grind, .inl rfl,λ_=>rfl⟩
   grind) (λt d ht=>by
   obtain⟨h1,h2⟩:=R9 t d ht;rw[Po t h1]at h2
   exact hinv.slot t d h2) (hinv.ob.sub (λ_ _ h=>h) (hinv.fresh i Hv Pn))
  have A8:=hinv.ob.sub gZ (hinv.fresh i Hv Pn)
  refine MV bj hf λv wL ⟨uo,Dz,tR⟩=>?_
  .have dB:=tR.kQ.step A8.lt A8.eE
   have fg:gY uo (n0+16*es.length):=λm hm=>by
    have h1:=hinv.all m hm;have h2:=tR.fresh m (.inr (by omega))
    grind
   refine hk _ (uq cN o.dst v) uo Dz wL (sG v) ⟨λt d ht=>?_,?_,fg,λk hk Hw m hm1 hm2=>?_,hinv.glob.kQ tR.kQ A8.fI,hinv.keeps.trans ⟨tR.kQ.gj,dB⟩,λt ht=>?_⟩
   .rw[xU hx Og]at ht;split at ht
    .rename_i Pp;obtain rfl:=agq ht;rw[(Kk t).1 Pp]
     show aB uo Dz wL _ (CN cN t v t)
     grind [om,kI.dst]
    .rename_i Pp;rw[ql (λe=>Pp ((Kk t).2 e))];exact(hinv.slot t d ht).keep tR.kQ.gj dB
   .exact hinv.ob.Jm gZ tR (λq s t hq=>Bq hx Pn Oh q s t hq) λm hm _=>fg m hm
   .by_cases e:k=i
    .grind [py]
    .rw[pz e]at Hw;have h1:=hinv.fresh k hk Hw m hm1 hm2;have h2:=tR.fresh m (by omega)
     grind
   .rw[ql (by grind)];exact hinv.same t ht
end
end
end Go.Proofs.YtfeahmiobbjklaaGreatDoor
namespace Go.Proofs.YtfeahmiobbjklaaGreatDoor
open Go Go.RowKit
def tl(dst:Option Nat)(g:Nat):kS:={dst:=dst,ts:=[g],os:=[],e:={dst:= .undef}}
noncomputable def mJ{R:Type}{P:Program}(E:Env P)(nt:Nat)(ops:Array Oper):List Oper->State->List kS->(State->Option R)->Option R
 |[],st,acc,k=>bif th ops.toList acc then k st else ae
 |o::os,st,acc,k=>bif Bb nt o.dst then(match o.guard with
  |none=>xT E o.dst o.op [] st (λe x=>mJ E nt ops os (st.apply o.dst e) (acc++[x]) k)
  |some (j,b)=>match Fu ops j with
   |none=>ae
   |some g=>bif agW g nt then(match find st.aD g with
    |some .undef=>mJ E nt ops os (st.apply o.dst {dst:= .undef}) (acc++[tl o.dst g]) k
    |some d=>match asBool d with
     |some t=>if t=af then
       (bif b then xT E o.dst o.op [g] (st.put (aa g) (dC af)) (λe x=>mJ E nt ops os ((st.put (aa g) (dC af)).apply o.dst e) (acc++[x]) k)
         else mJ E nt ops os ((st.put (aa g) (dC af)).apply o.dst {dst:= .undef}) (acc++[tl o.dst g]) k)
      else
       (bif b then mJ E nt ops os ((st.put (aa g) (dC ag)).apply o.dst {dst:= .undef}) (acc++[tl o.dst g]) k
         else xT E o.dst o.op [g] (st.put (aa g) (dC ag)) (λe x=>mJ E nt ops os ((st.put (aa g) (dC ag)).apply o.dst e) (acc++[x]) k))
     |none=>ae
    |none=>ae)else ae)else ae
section
variable {P:Program} {nt:Nat} {ops:Array Oper} {R:Type}
variable {G:Nat->Prop} {w0:World} {F0:Nat->Prop} {sl0:Nat->Option aC} {ob0:Nat->Option (Nat×Th)} {n0:Nat}
structure Lex(P:Program)(nt:Nat)(ops:Array Oper)(U:Nat->Prop)(sl0:Nat->Option aC)(ob0:Nat->Option (Nat×Th))(n0:Nat)(es:List kS)(st:State):Prop where
 slot:∀t,find st.aD t=fV Ht 0 es sl0 t
 ob:∀o,find st.objs o=fA Ht 0 es ob0 o
 nxt:st.nxt=n0+16*es.length
 ok:∀i o x,ops[i]? =aa o->es[i]? =aa x->Pm P ops nt U o (fV Ht 0 (es.take i) sl0) (fA Ht 0 (es.take i) ob0) (n0+16*i) x
def DY{S:Nat->Bool}{es:List kS}{x:kS}{f:Nat->Option aC}{t:Nat}(h:S es.length=af):fV S 0 (es++[x]) f t=if x.dst=aa t then aa x.e.dst else fV S 0 es f t:=by
 rw[ov,agX]
 show(bif S es.length&&nh (aa t) x.dst.toList then aa x.e.dst else fV S 0 es f t)=_
 rw[h,Bool.true_and];by_cases hd:x.dst=aa t
 all_goals grind [uR]
def Hx{S:Nat->Bool}{es:List kS}{x:kS}{f:Nat->Option (Nat×Th)}{o:Nat}(h:S es.length=af):fA S 0 (es++[x]) f o=(find x.e.make o).or (bif oq o x.e.eat then ae else fA S 0 es f o):=by
 rw[jF,agX]
 show(bif S es.length then _ else _)=_
 rw[h];rfl
def tn{st:State}{dst:Option Nat}{e:dF}{t:Nat}:find (st.apply dst e).aD t=if dst=aa t then aa e.dst else find st.aD t:=by
 cases dst with
 |none=>simp[State.apply]
 |some d=>
  show find ((d,e.dst)::st.aD) t=_
  grind [aS]
def ux{st:State}{dst:Option Nat}{e:dF}{o:Nat}:find (st.apply dst e).objs o=(find e.make o).or (bif oq o e.eat then ae else find st.objs o):=by
 show find (e.make++del e.eat st.objs) o=_
 rw[gV]
 congr 1
 cases hb:oq o e.eat with
 |true=>
  rw[cond_true]
  cases h:find (del e.eat st.objs) o with
  |none=>rfl
  |some x=>grind [fi,gW]
 |false=>
  rw[cond_false]
  have hn:o∉e.eat:=λh=>by rw[fi.2 h]at hb;cases hb
  cases h:find st.objs o with
  |some x=>exact gW.2 ⟨hn,h⟩
  |none=>
   cases h2:find (del e.eat st.objs) o with
   |none=>rfl
   |some x=>rw[(gW.1 h2).2]at h;cases h
def Lex.snoc{U:Nat->Prop}{es:List kS}{st:State}{x:kS}{o:Oper}(h:Lex P nt ops U sl0 ob0 n0 es st)(ho:ops[es.length]? =aa o)(hd:x.dst=o.dst)
 (mE:Pm P ops nt U o (find st.aD) (find st.objs) st.nxt x):Lex P nt ops U sl0 ob0 n0 (es++[x]) (st.apply o.dst x.e):=by
 refine⟨λt=>?_,λq=>?_,?_,λi o' y lD hy=>?_⟩
 .rw[tn,DY rfl,hd,h.slot t]
 .rw[ux,Hx rfl,h.ob q]
 .show st.nxt+16=_
  grind [Lex.nxt]
 .rcases Nat.lt_or_ge i es.length with bi|hge
  .rw[List.getElem?_append_left bi]at hy;rw[List.take_append_of_le_length (by omega)];exact h.ok i o' y lD hy
  .have hi:i=es.length:=by
    have:=(agJ.1 hy).1;simp at this;omega
   subst hi;simp at hy;subst hy;rw[ho]at lD;obtain rfl:=agq lD;rw[List.take_left']
   .rw[<-funext h.slot,<-funext h.ob,<-h.nxt];exact mE
   .rfl
def Lex.put{U:Nat->Prop}{es:List kS}{st:State}{g:Nat}{d:aC}(h:Lex P nt ops U sl0 ob0 n0 es st)(hg:find st.aD g=aa d):Lex P nt ops U sl0 ob0 n0 es (st.put (aa g) d):=by
 refine⟨λt=>?_,h.ob,h.nxt,h.ok⟩
 show find ((g,d)::st.aD) t=_
 rw[aS,<-h.slot t]
 grind
def Hy{d:aC}{t:Bool}(h:asBool d=aa t):d=dC t:=by
 unfold asBool at h
 grind
def Br{E:Env P}{q:R}{k:State->Option R}:{l:List Oper}->{st:State}->{es:List kS}->mJ E nt ops l st es k=aa q->(∀j,l[j]? =ops[es.length+j]?)->Lex P nt ops (UU G w0) sl0 ob0 n0 es st->
 ∃lK cT,k cT=aa q/\th ops.toList lK=af/\Lex P nt ops (UU G w0) sl0 ob0 n0 lK cT/\lK.length=es.length+l.length
 |[],st,es,h,_,hl=>by
  unfold mJ at h
  grind
 |o::l,st,es,h,pe,hl=>by
  have ho:ops[es.length]? =aa o:=by simpa using(pe 0).symm
  have Sf:∀x:kS,∀j,l[j]? =ops[(es++[x]).length+j]? :=λx j=>by
   have:=pe (j+1)
   grind
  have go:∀{st1:State}{x:kS},mJ E nt ops l st1 (es++[x]) k=aa q->Lex P nt ops (UU G w0) sl0 ob0 n0 (es++[x]) st1->∃lK cT,k cT=aa q/\th ops.toList lK=af/\Lex P nt ops (UU G w0) sl0 ob0 n0 lK cT/\lK.length=es.length+(o::l).length:=by
   intro st1 x h1 h2;obtain⟨lK,cT,a1,a2,a3,a4⟩:=Br h1 (Sf x) h2;refine⟨lK,cT,a1,a2,a3,?_⟩;rw[a4,List.length_append,List.length_singleton,List.length_cons];omega
  unfold mJ at h;obtain⟨hd,h'⟩:=aP h;clear h
  have on:∀{st1:State}{gs:List Nat},xT E o.dst o.op gs st1 (λe x=>mJ E nt ops l (st1.apply o.dst e) (es++[x]) k)=aa q->Lex P nt ops (UU G w0) sl0 ob0 n0 es st1->(∀ts:List Nat,(∀g∈gs,g∈ts)->Pk ops nt ts (find st1.aD) o.guard af)->∃lK cT,k cT=aa q/\th ops.toList lK=af/\Lex P nt ops (UU G w0) sl0 ob0 n0 lK cT/\lK.length=es.length+(o::l).length:=by
   intro st1 gs h1 h2 h3;obtain⟨e,x,a1,a2,a3,a4⟩:=Kg (U:=UU G w0) h1;subst a2;exact go a1 (h2.snoc ho a4.dst ⟨a4.dst,hd,af,h3 _ a3,λ_=>a4,λh=>by cases h⟩)
  have off:∀{st1:State}{g:Nat},mJ E nt ops l (st1.apply o.dst {dst:= .undef}) (es++[tl o.dst g]) k=aa q->Lex P nt ops (UU G w0) sl0 ob0 n0 es st1->Pk ops nt [g] (find st1.aD) o.guard ag->∃lK cT,k cT=aa q/\th ops.toList lK=af/\Lex P nt ops (UU G w0) sl0 ob0 n0 lK cT/\lK.length=es.length+(o::l).length:=by
   intro st1 g h1 h2 h3;exact go (x:=tl o.dst g) h1 (h2.snoc (x:=tl o.dst g) ho rfl ⟨rfl,hd,ag,h3,λh=>(by cases h),λ_=>rfl⟩)
  split at h'
  .rename_i Pq
   exact on h' hl λts _=>by rw[Pq];exact .none
  .rename_i j b Pq;split at h'
   case h_1=>cases h'
   rename_i g N9;obtain⟨Oa,h⟩:=aP h';clear h';split at h
   .rename_i hu;exact off h hl (by rw[Pq];exact .undef N9 Oa (by simp) hu)
   .rename_i d gE;split at h
    case h_2=>cases h
    rename_i t ht;obtain rfl:=Hy ht
    have Sg:∀v:Bool,find (st.put (aa g) (dC v)).aD g=aa (dC v):=λv=>by
     show find ((g,dC v)::st.aD) g=_
     rw[aS,aj rfl]
    have ab6:∀(v:Bool)(ts:List Nat)(r:Bool),g∈ts->r=decide (v=b)->Pk ops nt ts (find (st.put (aa g) (dC v)).aD) (aa (j,b)) r:=λv ts r hg hr=>by
     rw[hr];exact .lit N9 Oa hg (Sg v) rfl
    split at h
    .rename_i MS;subst MS;have NY:=hl.put gE
     grind
    .rename_i MS
     have MS:t=ag:=by cases t<;>simp_all
     subst MS;have NY:=hl.put gE
     grind
   .cases h
def Si(m:Nat)(listed:Array Bool):Nat:=((agw m).filter λj=> !listed.getD j ag).length
def Fx{m i:Nat}{listed:Array Bool}(hi:i<m)(hs:listed.size=m)(h:listed.getD i ag=ag):Si m (listed.setIfInBounds i af)+1<=Si m listed:=by
 unfold Si
 have gZ:∀l:List Nat,(l.filter λj=> !(listed.setIfInBounds i af).getD j ag).length<=(l.filter λj=> !listed.getD j ag).length/\(i∈l->(l.filter λj=> !(listed.setIfInBounds i af).getD j ag).length+1<=(l.filter λj=> !listed.getD j ag).length):=by
  intro l
  induction l with
  |nil=>grind
  |cons j l ih=>
   by_cases hj:i=j
   .subst hj
    have e1:(listed.setIfInBounds i af).getD i ag=af:=by simp[agT,hs,hi]
    grind
   .have e1:(listed.setIfInBounds i af).getD j ag=listed.getD j ag:=getD_set_ne ag hj
    grind
 grind
def MW{E:Env P}{id:Nat}{q:R}{k:State->Option R}{st:State}{H:aG}{F:Nat->Prop}{w:World}{ρ:Nat->Value}{Q:Exit->(Nat->Value)->World->Prop}(hm:P.follows .mixedOrders=af)
 (h:mJ E nt ops ops.toList st [] k=aa q)(hh:cI G w0 F0 H F w ρ st)
 (hk:∀cT H' F' w' cN,k cT=aa q->cI G w0 F0 H' F' w' cN cT->cg H F w H' F' w'->(∀t,(∀o∈ops.toList,o.dst≠aa t)->cN t=ρ t)->Q .normal cN w'):uE P nt (.region id ops af) Q ρ w:=by
 obtain⟨es,cT,OY,lE,DZ,hlen⟩:=Br (G:=G) (w0:=w0) (sl0:=find st.aD) (ob0:=find st.objs) (n0:=st.nxt) h (λj=>by simp) ⟨λ_=>rfl,λ_=>rfl,by simp,λi o x _ hx=>by simp at hx⟩;simp only[List.length_nil,agX,Array.length_toList]at hlen;unfold th at lE;split at lE
 case h_2=>cases lE
 rename_i ms LY
 have Kk:∀x∈es,∃o∈ops.toList,x.dst=o.dst:=λx hx=>by
  obtain⟨i,hi,rfl⟩:=List.getElem_of_mem hx
  have bi:i<ops.size:=by omega
  exact⟨ops[i],by simp,(DZ.ok i ops[i] es[i] (agH bi) (agx hi)).dst⟩
 have Of:∀k y,es[k]? =aa y->∀q,q∈y.soft->q∈y.mut->∃z z',fA Ht 0 (es.take k) (find st.objs) q=aa z/\find y.e.make q=aa z'/\gN z z':=λk y hy q h1 h2=>by
  have bi:k<es.length:=(agJ.1 hy).1;obtain⟨_,_,b,_,Wd,Mk⟩:=DZ.ok k _ y (agH (by omega)) hy
  cases b with
  |true=>exact(Wd rfl).soft q h1 h2
  |false=>
   grind [kS.mut,tT]
 have UT:∀i o,ops[i]? =aa o->∀e∈o.after,ahM .any e=af->e.on<i:=λi o ho e he hb=>by
  obtain⟨m,h1,_⟩:=(zp LY).2.2 i o (by grind);simp only[List.length_nil,agX]at h1;exact Fw h1 e (by simpa using he) hb
 intro a hf;refine wp_region_any hm ?_
 have main:∀fuel(listed:Array Bool)(a:Act)(w':World)H' F' cN,listed.size=ops.size->Si ops.size listed<=fuel->DW ops (λj=>listed.getD j ag=af)->Fr nt a cN->
  Inv G w0 F0 es (find st.aD) (find st.objs) st.nxt H F w ρ (λj=>listed.getD j ag) H' F' w' cN->wpAny P .any ops (λe a' w'=>∃cN,Fr nt a' cN/\Q e cN w') fuel listed a w':=by
  have done:∀(listed:Array Bool)(a:Act)(w':World)H' F' cN,(∀i,i<ops.size->listed.getD i ag=af)->Fr nt a cN->Inv G w0 F0 es (find st.aD) (find st.objs) st.nxt H F w ρ (λj=>listed.getD j ag) H' F' w' cN->∃cN,Fr nt a cN/\Q .normal cN w':=by
   intro listed a w' H' F' cN fg hf hinv
   have eS:∀t,fV (λj=>listed.getD j ag) 0 es (find st.aD) t=find cT.aD t:=λt=>by
    rw[DZ.slot t]
    refine k8 rfl λk x hx _=>?_
    have:=(agJ.1 hx).1;rw[agX];exact fg k (by omega)
   have eO:∀o,fA (λj=>listed.getD j ag) 0 es (find st.objs) o=find cT.objs o:=λo=>by
    rw[DZ.ob o]
    refine kK rfl λk x hx _=>?_
    have:=(agJ.1 hx).1;rw[agX];exact fg k (by omega)
   refine⟨cN,hf,hk cT H' F' w' cN OY ⟨⟨λt d hd=>hinv.slot t d (by grind),?_,?_⟩,hinv.glob⟩ hinv.keeps λt ht=>hinv.same t λx hx=>?_⟩
   .have:=hinv.ob;rw[funext eO]at this;rw[DZ.nxt];exact this
   .rw[DZ.nxt];exact hinv.all
   .grind
  have Hz:∀(listed:Array Bool),listed.size=ops.size->Region.ready .any ops listed=[]->∀i,i<ops.size->listed.getD i ag=af:=by
   intro listed hs hr i
   induction i using Nat.strongRecOn with
   |_ i ih=>
    intro hi
    cases hl:listed.getD i ag with
    |true=>rfl
    |false=>
     have:i∈Region.ready .any ops listed:=mem_ready.2 ⟨by
      simp only[agT]at hl⊢;rw[agH (by omega)]at hl⊢
      simpa using hl,ops[i],agH hi,(by grind)⟩
     grind
  intro fuel
  induction fuel with
  |zero=>
   intro listed a w' H' F' cN hs hu hc hf hinv
   have fg:∀i,i<ops.size->listed.getD i ag=af:=λi hi=>by
    cases hl:listed.getD i ag with
    |true=>rfl
    |false=>
     have:=Fx hi hs hl;omega
   refine⟨?_,done listed a w' H' F' cN fg hf hinv⟩
   cases hr:Region.ready .any ops listed with
   |nil=>rfl
   |cons i l=>
    have hi:i∈Region.ready .any ops listed:=by rw[hr];simp
    grind [Go.mem_ready]
  |succ fuel ih=>
   intro listed a w' H' F' cN hs hu hc hf hinv;refine⟨λhr=>done listed a w' H' F' cN (Hz listed hs hr) hf hinv,λi hi=>?_⟩;obtain⟨h1,o,ho,Oe⟩:=mem_ready.1 hi;have bi:=(agZ.1 ho).1
   have Pn:listed.getD i ag=ag:=by
    simp only[agT]at h1⊢;rw[agH (by omega)]at h1⊢;simpa using h1
   have hx:es[i]? =aa (es[i]'(by omega)):=agx (by omega);have lH:=DZ.ok i o _ ho hx;rw[<-DX (by omega),<-xV (by omega)]at lH
   have Hw:(λj=>(listed.setIfInBounds i af).getD j ag)=ins (λj=>listed.getD j ag) i:=by
    funext j;by_cases e:j=i
    .subst e;rw[py];simp[agT,hs,bi]
    .rw[pz e];exact getD_set_ne ag (Ne.symm e)
   refine vW LY lE hlen hc ho hx Pn Oe Of lH hf hinv λSd tj uo Dz wL We Wf=>?_
   refine ih _ Sd wL uo Dz tj (by simp[hs]) ?_ ?_ We ?_
   .have:=Fx bi hs Pn;omega
   .intro j hj o' lD e he hb;by_cases ej:j=i
    .grind [Go.getD_set_true]
    .have N1:listed.getD j ag=af:=by
      have:(listed.setIfInBounds i af).getD j ag=listed.getD j ag:=getD_set_ne ag (Ne.symm ej);rw[<-this];exact hj
     exact getD_set_true (hc j N1 o' lD e he hb)
   grind
 have hS0:∀j,(Array.replicate ops.size ag).getD j ag=ag:=λj=>by
  simp only[agT]
  grind
 have hw:Step F w F w.drew:=Step.drew F w
 refine main ops.size _ a _ H F ρ (by simp) ?_ (λi hi=>by
  grind) hf ⟨λt d hd=>?_,?_,λm hm=>hh.sat.all m (by omega),λi hi _ m hm _=>hh.sat.all m (by omega),⟨⟨hh.glob.ext.os,⟨hh.glob.ext.tape.1,Nat.le_succ_of_le hh.glob.ext.tape.2⟩,hh.glob.ext.output,hh.glob.ext.size,hh.glob.ext.block⟩,hh.glob.le,hh.glob.new⟩,⟨aG.le.refl H,hw⟩,λ_ _=>rfl⟩
 .grind [Si]
 .rw[ou λk x _ _=>hS0 _]at hd;exact(hh.sat.slot t d hd).keep (aG.le.refl H) hw
 .have e:fA (λj=>(Array.replicate ops.size ag).getD j ag) 0 es (find st.objs)=find st.objs:=by
   funext o
   exact nT λk x _ _=>hS0 _
  rw[e];have hb:=hh.sat.ob;refine⟨λo s t ho=>?_,hb.apart,λm hm _=>hh.sat.all m (by omega),hb.lt,hb.new,hb.gl.step (λ_ h=>⟨h,rfl⟩)⟩;obtain⟨v,hv,cL⟩:=hb.obj o s t ho;exact⟨v,hv,cL.one,cL.con,cL.ok.heap (aG.le.refl H) hw λ_ _=>rfl,cL.no,cL.lt,cL.use⟩
end
end Go.Proofs.YtfeahmiobbjklaaGreatDoor
end
section
open _root_.Bool renaming false->ag,true->af,and_eq_true->ahn
open _root_.Option renaming none->ae,some->aa,isSome_iff_exists->agY
open _root_.List.cons renaming injEq->ahl
open _root_.List renaming mem_cons->ahq
open _root_.Nat renaming beq->agu,le_refl->agt
open _root_.Option.some renaming inj->agq,injEq->agz
open _root_.Go.Sem renaming run_bind->agL
open _root_.Go.Value.slice renaming injEq->ahH
namespace Go.Proofs.YtfeahmiobbjklaaGreatDoor
open Go Go.RowKit
inductive Ex where
 |normal
 |exit (id:Nat)
 |ret
 |goto (l:Nat)
def Ex.tU:Ex->Exit
 | .normal=> .normal
 | .exit id=> .exit id
 | .ret=> .ret
 | .goto l=> .goto l
def noGoto{R:Type}(k:Ex->State->Option R):Ex->State->Option R
 | .goto _,_=>ae
 |e,st=>k e st
inductive uS where
 |nil
 |two (a b:uS)
 |join (J:JS) (a b:uS)
 |meet (J:JS) (a b:uS)
 |loop (L:JS) (a:uS)
 |loopK (L:JS) (a:uS)
abbrev uS.o(a:uS):uS:= .two .nil a
def uS.l:uS->uS
 | .two a _=>a
 |_=> .nil
def uS.r:uS->uS
 | .two _ b=>b
 |_=> .nil
def rY:List Oper->List Nat
 |[]=>[]
 |o::l=>match o.dst with
  |some d=>d::rY l
  |none=>rY l
def writes:Code->List Nat
 | .region _ ops _=>rY ops.toList
 | .seq a b=>writes a++writes b
 | .cond _ a b=>writes a++writes b
 | .block _ a=>writes a
 | .loop a=>writes a
 | .scope a=>writes a
 |_=>[]
def Bt:List Nat->List (Nat×aC)->List (Nat×aC)
 |[],l=>l
 |t::ts,l=>(t, .dead)::Bt ts l
def Oi:List (Nat×OS)->List Nat
 |[]=>[]
 |(j,_)::l=>j::Oi l
def Fy(st:State)(J:JS):List (Nat×(Nat×Th)):=del (Oi J.objs++J.drop) st.objs
def behind(st:State)(W:List Nat)(J:JS)(x:cV J.rows):State:=
 {aD:=(cS J.aD (c7 _ x)).1++Bt W st.aD,objs:=gL st.nxt J.objs (cS J.aD (c7 _ x)).2++Fy st J,nxt:=J.nxt}
def D1(st:State)(J:JS)(st1:State):Option (cV J.rows):=
 match xF st.nxt (Fy st J) J st1.aD st1.objs with
 |some (x,_)=>aa x
 |none=>ae
def Kl(ob:Nat->Option (Nat×Th))(n o:Nat):Option dF:=
 match ob o with
 |some (_, .deep T d l ae)=>aa {dst:= .dead,eat:=[o],make:=[(o,(n, .own T d.row l))]}
 |_=>ae
def mK(st:State):List (Nat×OS)->State
 |[]=>st
 |(j, .own _ _)::os=>match Kl (find st.objs) st.nxt j with
  |some e=>mK (st.apply ae e) os
  |none=>mK st os
 |_::os=>mK st os
def Km(st:State)(t o:Nat)(r:Row):Option State:=
 match find st.objs o with
 |some (_, .box _ t0)=>match fy st.objs t0.owns with
  |some aT=>match find aT o with
   |some (_, .box _ t1)=>match flat (find aT) r t1 with
    |some x=>aa (State.apply {st with objs:=aT} (aa t) {dst:= .at r x,eat:=[o]})
    |none=>ae
   |_=>ae
  |none=>ae
 |_=>ae
noncomputable def zq{R:Type}(st:State)(k:State->Option R):List (Nat×SS)->Option R
 |[]=>k st
 |(t, .at r)::ss=>match find st.aD t with
  |some (.ptr o [] 0)=>match Km st t o r with
   |some cT=>zq cT k ss
   |none=>ae
  |some (.dlm o d i [] 0)=>match fy st.objs [o]with
   |some aT=>match find aT o with
    |some (_, .fdeep _ d' l)=>bif agu d.low.size d'.row.size then(idx l i).bind λx=>zq {aD:=(t, .at d'.row x)::st.aD,objs:=aT,nxt:=st.nxt} k ss else ae
    |_=>ae
   |none=>ae
  |_=>zq st k ss
 |_::ss=>zq st k ss
noncomputable def carry(st:State)(J:JS)(st1:State):Option (cV J.rows):=zq (mK (oT st1) J.objs) (D1 st J) J.aD
def gm{J R:Type}(m:Option (J⊕R))(k:J->Option R):Option R:=m.bind λs=>match s with
 | .inl j=>k j
 | .inr r=>aa r
def qI{S R:Type}(body:S->(S->Option R)->Option R):Nat->S->Option R
 |0,_=>ae
 |n+1,s=>body s (qI body n)
def HA{P:Program}{n:Nat}{Q:Exit->(Nat->Value)->World->Prop}{ρ:Nat->Value}{w:World}{S R:Type}{body:S->(S->Option R)->Option R}{c:Code}(I:S->(Nat->Value)->World->Prop){q:R}{N:Nat}{s:S}(hm:qI body N s=aa q)(h0:I s ρ w)
 (hb:∀(kk:S->Option R)s ρ w,I s ρ w->body s kk=aa q->uE P n c (λe cN w'=>match e with| .normal=>∃s',kk s'=aa q/\I s' cN w'|e=>Q e cN w') ρ w):uE P n (.loop c) Q ρ w:=by
 intro a hf;refine wp_loop_rounds N ?_
 induction N generalizing s ρ w a with
 |zero=>cases hm
 |succ k ih=>
  rw[rounds_succ]
  refine wp_mono (hb (qI body k) s ρ w h0 hm a hf) λe a' w' ⟨cN,rD,hh⟩=>?_
  cases e with
  |normal=>
   obtain⟨s',h1,h2⟩:=hh;exact ih h1 h2 a' rD
  |_=>exact⟨cN,rD,hh⟩
noncomputable def exec{P:Program}(E:Env P)(nt N:Nat):Code->{R:Type}->uS->State->(Ex->State->Option R)->Option R
 | .skip,_,_,st,k=>k .normal st
 | .label _,_,_,st,k=>k .normal st
 | .scope x,_,a,st,k=>exec E nt N x a.l st (noGoto k)
 | .goto l,_,_,st,k=>k (.goto l) st
 | .ret,_,_,st,k=>k .ret st
 | .exit id,_,_,st,k=>k (.exit id) st
 | .cond c x y,_,a,st,k=>match GF st.aD c with
   |some D=>match asBool D with
    |some b=>if b=af then exec E nt N x a.l st k else exec E nt N y a.r st k
    |none=>ae
   |none=>ae
 | .region _ ops draw,_,_,st,k=>bif draw then mJ E nt ops ops.toList st [] (k .normal)else runs E nt ops ops.toList [] st (k .normal)
 | .seq x y,R,a,st,k=>match a with
   | .join J a1 a2=>gm (exec E nt N x (R:=cV J.rows⊕R) a1 st (λe cT=>match e with
       | .normal=>(carry st J cT).map .inl
       |e=>(k e cT).map .inr)) λj=>exec E nt N y a2 (behind st (writes x) J j) k
   | .meet J a1 a2=>(exec E nt N x (R:=cV J.rows) a1 st (λe cT=>match e with
       | .normal=>carry st J cT
       |_=>ae)).bind λj=>exec E nt N y a2 (behind st (writes x) J j) k
   |a=>exec E nt N x a.l st (λe cT=>match e with
     | .normal=>exec E nt N y a.r cT k
     |e=>k e cT)
 | .block id x,R,a,st,k=>match a with
   | .join J a1 _=>gm (exec E nt N x (R:=cV J.rows⊕R) a1 st (λe cT=>match e with
       | .normal=>(carry st J cT).map .inl
       | .exit i=>bif agu i id then(carry st J cT).map .inl else(k (.exit i) cT).map .inr
       |e=>(k e cT).map .inr)) λj=>k .normal (behind st (writes x) J j)
   | .meet J a1 _=>(exec E nt N x (R:=cV J.rows) a1 st (λe cT=>match e with
       | .normal=>carry st J cT
       | .exit i=>bif agu i id then carry st J cT else ae
       |_=>ae)).bind λj=>k .normal (behind st (writes x) J j)
   |a=>exec E nt N x a.l st (λe cT=>match e with
     | .exit i=>bif agu i id then k .normal cT else k (.exit i) cT
     |e=>k e cT)
 | .loop x,R,a,st,k=>match a with
   | .loop L a1=>match carry st L st with
     |some s0=>Loop (S:=cV L.rows) (X:=R) (λs=>exec E nt N x (R:=cV L.rows⊕R) a1 (behind st (writes x) L s) (λe cT=>match e with
       | .normal=>(carry st L cT).map .inl
       |e=>(k e cT).map .inr)) N s0
     |none=>ae
   | .loopK L a1=>match carry st L st with
     |some s0=>qI (S:=cV L.rows) (R:=R) (λs kk=>exec E nt N x (R:=R) a1 (behind st (writes x) L s) (λe cT=>match e with
       | .normal=>(carry st L cT).bind kk
       |e=>k e cT)) N s0
     |none=>ae
   |_=>ae
 |_,_,_,_,_=>ae
section
variable {P:Program} {nt N:Nat} {R:Type}
variable {ρ:Nat->Value} {w w0:World} {H:aG} {F F0 G:Nat->Prop}
def D2{W:List Nat}{l:List (Nat×aC)}{t:Nat}{d:aC}(h:find (Bt W l) t=aa d):d= .dead\/(t∉W/\find l t=aa d):=by
 induction W with
 |nil=>exact .inr ⟨by simp,h⟩
 |cons s W ih=>
  have h':find ((s,aC.dead)::Bt W l) t=aa d:=h
  grind [aS]
def HB{st st1:State}{W:List Nat}{J:JS}{x:cV J.rows}{H1:aG}{F1:Nat->Prop}{w1:World}{IH:Nat->Value}(h:D1 st J st1=aa x)(hh:cI G w0 F0 H F w ρ st)(nS:cI G w0 F0 H1 F1 w1 IH st1)(hk:cg H F w H1 F1 w1)
 (MR:∀t,t∉W->IH t=ρ t):∃H2 F2,cI G w0 F0 H2 F2 w1 IH (behind st W J x)/\cg H F w H2 F2 w1:=by
 unfold D1 at h;split at h
 case h_2=>cases h
 rename_i _ y rest hp;obtain⟨bs,aT⟩:=rest;obtain rfl:=agq h;obtain⟨F2,H2,a1,a2,a3,_,a5,_,a6,a7,a8⟩:=vJ (U':=UU G w0) hp hh.sat.ob hh.sat.all hk nS.sat.ob nS.sat.slot
 have gx:Step F1 w1 F2 w1:=λb hb=>⟨a2 b hb,rfl⟩
 have cA:=a8 nS.sat.ob.new (λo s t v k _ h2 h3 h4=>by
  obtain⟨v',dX,cL⟩:=a1.obj _ _ _ h2;rw[h3]at dX;obtain rfl:=agq dX
  exact cL.use k h4) (λo s t v k h2 h3 h4=>by
  have h5:=(gW.1 h2).2;obtain⟨v',dX,cL⟩:=hh.sat.ob.obj _ _ _ h5;rw[hk.gj.val _ _ dX]at h3;obtain rfl:=agq h3
  exact cL.use k (by rwa [hk.gj.sub _ _ cL.con]at h4))
 refine⟨H2,F2,⟨⟨λt d hd=>?_,cA,a6⟩,⟨nS.glob.ext,λb hb=>a2 b (nS.glob.le b hb),λb hb=>?_⟩⟩,⟨a5,λb hb=>⟨a2 b (hk.step b hb).1,(hk.step b hb).2⟩⟩⟩
 .have Ab:find ((cS J.aD (c7 J.rows y)).1++Bt W st.aD) t=aa d:=hd;rw[gV]at Ab
  cases hm:find (cS J.aD (c7 J.rows y)).1 t with
  |some d'=>
   grind
  |none=>
   rw[hm,Option.none_or]at Ab
   rcases D2 Ab with rfl|⟨h1,h2⟩
   .trivial
   .rw[MR t h1]
    exact(hh.sat.slot t d h2).keep a5 λb hb=>⟨a2 b (hk.step b hb).1,(hk.step b hb).2⟩
 .rcases a3 b hb with h1|h1
  .exact nS.glob.new b h1
  .exact .inr (nS.sat.ob.fI b h1)
def HC{U:Nat->Prop}{ob:Nat->Option (Nat×Th)}{n:Nat}(hs:aI U H F w ob n){o:Nat}{e:dF}(h:Kl ob n o=aa e):lL H F w ob n e undef w:=by
 unfold Kl at h;split at h
 case h_2=>cases h
 rename_i s T d l cA;obtain rfl:=agq h;obtain⟨v,hv,cL⟩:=hs.obj _ _ _ cA
 obtain⟨lh,Ss,⟨xs,hx,Vh⟩,h2,h3,h4⟩:=(show GC F w T d.low (ol H F w d ae) v l (H.sub s)from cL.ok)
 have hn:∀k,H.sub s k->¬F k:=cL.no
 have Ah:lJ 0 (λb=>F b\/∃i,i<l.length/\Ss i b) w T d.row v l:=by
  refine⟨λk hk hF=>?_,xs,?_,λi hi=>?_⟩
  .rcases hF with hF|⟨i,hi,hm⟩
   .exact hn k (h4.bF k hk) hF
   .exact h4.out i k hi hm hk
  .rw[<-d.size,<-h2];exact hx
  .have jJ:i<lh.length:=by omega
   have:=jK.freeze (h3 i jJ hi) (λk hk=>hn k (h4.part hi k hk)) (Vh i jJ);rw[<-d.size]
   exact this.step λb hb=>(by grind)
 have hf:=hs.fresh n (agt _) (by omega)
 have jr:∀k,H.sub s k->bX H ob [o] k:=λk hk=>⟨o,by simp,s,_,v,cA,hv,hk⟩
 refine⟨H.bk n (.own T d.row l),λb=>F b\/∃i,i<l.length/\Ss i b,⟨⟨λ_ _ h=>h,λs' t h=>?_,λs' t h=>?_⟩,⟨rfl,⟨rfl,agt _⟩,rfl,agt _,λ_ _ _=>rfl⟩,λ_ h=> .inl h,λb hb=>?_,λb hb=>?_⟩,λm hm=>⟨id,λh=>?_⟩,trivial,⟨λo' s' q hq=>?_,λo1 o2 s1 s2 q1 q2 u1 u2 dJ g1 g2=>?_⟩,λo' h=>?_⟩
 .grind [aG.bk]
 .rfl
 .rcases hb with hb|⟨i,hi,hb⟩
  .exact .inl hb
  .exact .inr (.inr (jr b (h4.part hi b hb)))
 .rcases hb with hb|⟨i,hi,hb⟩
  .exact hs.lt b hb
  .exact cL.lt b (h4.part hi b hb)
 .grind [aG.bk]
 .obtain⟨rfl,e⟩:=eF hq;obtain⟨rfl,rfl⟩:=Prod.mk.inj e;refine⟨v,hv,cL.one,by simp[aG.bk,Th.base],Ah.2,λk hk=>⟨Ah.1 k hk,cL.lt k (h4.bF k hk), .inr (jr k (h4.bF k hk))⟩⟩
 all_goals grind [eF,agY]
def cI.mK:(os:List (Nat×OS))->{st:State}->{H:aG}->{F:Nat->Prop}->cI G w0 F0 H F w ρ st->∃H' F',cI G w0 F0 H' F' w ρ (mK st os)/\cg H F w H' F' w
 |[],_,H,F,h=>⟨H,F,h,cg.refl H F w⟩
 |(j, .own _ _)::os,st,H,F,h=>by
  unfold Go.Proofs.YtfeahmiobbjklaaGreatDoor.mK;split
  .rename_i e he;obtain⟨H',F',hp⟩:=HC h.sat.ob he;have hs:=h.sat.apply (d:=ae) hp;obtain⟨H2,F2,h2,k2⟩:=cI.mK os (st:=st.apply ae e) ⟨hs,h.glob.kQ hp.kQ h.sat.ob.fI⟩;exact⟨H2,F2,h2,(cg.xQ hp.kQ h.sat.ob.lt h.sat.ob.eE).trans k2⟩
  .exact cI.mK os h
 |(_, .box ..)::os,_,_,_,h=>cI.mK os h
 |(_, .map ..)::os,_,_,_,h=>cI.mK os h
 |(_, .deep ..)::os,_,_,_,h=>cI.mK os h
 |(_, .smap ..)::os,_,_,_,h=>cI.mK os h
def cI.Km{st cT:State}{t o:Nat}{r:Row}(h:cI G w0 F0 H F w ρ st)(gE:find st.aD t=aa (.ptr o [] 0))(hb:Km st t o r=aa cT):∃F',cI G w0 F0 H F' w ρ cT/\cg H F w H F' w:=by
 unfold Go.Proofs.YtfeahmiobbjklaaGreatDoor.Km at hb;split at hb
 case h_2=>cases hb
 split at hb
 case h_2=>cases hb
 rename_i aT wV;obtain⟨F1,h1,k1⟩:=h.um wV;split at hb
 case h_2=>cases hb
 rename_i s1 T1 t1 cA;split at hb
 case h_2=>cases hb
 rename_i x hx;obtain rfl:=agq hb;obtain⟨v,hv,cL⟩:=h1.sat.ob.obj _ _ _ cA
 obtain⟨b,es,rfl,hhp,hold⟩:=(show∃b es,v= .pointer (aa ⟨b,0,ae⟩)/\w.heap[b]? =aa (.cells es.toArray T1 (0,0))/\Holds H F1 w t1 es from cL.ok)
 obtain⟨b',dX,pk⟩:=h.sat.slot t _ gE;rw[hv]at dX;simp only[agz,Value.pointer.injEq,Addr.mk.injEq,and_true]at dX;subst dX;have sR:=gk h1.sat.ob hx hold
 have hg:bX H (find aT) [o] b:=⟨o,by simp,s1,_,_,cA,hv,rfl⟩
 have gx:Step F1 w (λk=>F1 k\/k=b) w:=λk hk=>⟨.inl hk,rfl⟩
 have hp:kI H F1 w (find aT) st.nxt {dst:= .at r x,eat:=[o]} (ρ t) w H (λk=>F1 k\/k=b):=
  ⟨⟨aG.le.refl H,⟨rfl,⟨rfl,agt _⟩,rfl,agt _,λ_ _ _=>rfl⟩,λ_ hk=> .inl hk,λk hk=>hk.elim .inl λe=> .inr (.inr (e▸hg)),λk hk=>hk.elim (h1.sat.ob.lt k) λe=>by grind⟩,λm _=>⟨id,id⟩,
    ⟨b,0,pk, .inr rfl,es,sR.length,λj u hu=>by
      show w.cell? ⟨b,0+j,ae⟩=aa u
      simp[World.cell?,hhp,hu],sR.step gx⟩,⟨λ_ _ _ h=>(by cases h),λ_ _ _ _ _ _ _ _ _ h=>(by cases h)⟩,λ_ h=>(by cases h)⟩
 have hs:=h1.sat.apply (d:=aa t) hp
 have hup:uq ρ (aa t) (ρ t)=ρ:=by
  funext u
  show CN ρ t (ρ t) u=ρ u
  rw[om];split
  .grind
  .rfl
 rw[hup]at hs;exact⟨_,⟨hs,h1.glob.kQ hp.kQ h1.sat.ob.fI⟩,k1.trans (cg.xQ hp.kQ h1.sat.ob.lt h1.sat.ob.eE)⟩
def cI.zq{R:Type}{k:State->Option R}{q:R}:(ss:List (Nat×SS))->{st:State}->{H:aG}->{F:Nat->Prop}->cI G w0 F0 H F w ρ st->zq st k ss=aa q->∃st2 H' F',k st2=aa q/\cI G w0 F0 H' F' w ρ st2/\cg H F w H' F' w
 |[],st,H,F,h,hk=>⟨st,H,F,hk,h,cg.refl H F w⟩
 |(t, .at r)::ss,st,H,F,h,hk=>by
  unfold Go.Proofs.YtfeahmiobbjklaaGreatDoor.zq at hk;split at hk
  .rename_i o gE;split at hk
   case h_2=>cases hk
   rename_i cT hbx;obtain⟨F1,h1,k1⟩:=h.Km gE hbx;obtain⟨st2,H2,F2,g1,g2,g3⟩:=cI.zq ss h1 hk;exact⟨st2,H2,F2,g1,g2,k1.trans g3⟩
  .rename_i o d i gE;split at hk
   case h_2=>cases hk
   rename_i aT wV;obtain⟨F1,h1,k1⟩:=h.um wV;split at hk
   case h_2=>cases hk
   rename_i s1 T1 d' l cA;obtain⟨mz,hk⟩:=aP hk;have mz:=Nat.eq_of_beq_eq_true mz;obtain⟨x,hx,VI⟩:=bind_some hk;obtain⟨j,rfl,hj,hjx⟩:=gw hx;obtain⟨g,o0,q0,m,cap,hv,hq,pk⟩:=h1.sat.slot t _ gE;obtain⟨v,dX,cL⟩:=h1.sat.ob.obj _ _ _ cA;rw[hv]at dX;obtain rfl:=agq dX
   obtain⟨A,Jc,e1,_,_,uh⟩:=(show cF F1 w (.slice d'.row) [_] l from cL.ok)
   obtain⟨b,off,es,hA,hFb,hlen,uZ,sR⟩:=uh j hj;simp only[ahl,ahH,and_true]at e1;obtain⟨e1,_,_⟩:=e1;rw[<-e1]at hA;simp only[agz,Addr.mk.injEq,and_true]at hA;obtain⟨rfl,rfl⟩:=hA
   have CP:aB H F1 w (.at d'.row x) (ρ t):=by
    have e:j=q0:=by omega
    subst e;refine⟨g,o0+j*d.low.size+0,pk,hFb,es,hlen,λjj u hu=>?_,by grind⟩;rw[mz];exact uZ jj u hu
   obtain⟨st2,H2,F2,g1,g2,g3⟩:=cI.zq ss (st:={aD:=(t, .at d'.row x)::st.aD,objs:=aT,nxt:=st.nxt}) ⟨⟨λt' q' Ai=>by
    have Ai:find ((t,aC.at d'.row x)::st.aD) t'=aa q':=Ai;rw[aS]at Ai;by_cases e:t=t'
    .grind
    .rw[ai e]at Ai
     exact h1.sat.slot t' q' Ai,h1.sat.ob,h1.sat.all⟩,h1.glob⟩ VI
   exact⟨st2,H2,F2,g1,g2,k1.trans g3⟩
  .exact cI.zq ss h hk
 |(_, .val ..)::ss,_,_,_,h,hk=>cI.zq ss h hk
 |(_, .ptr ..)::ss,_,_,_,h,hk=>cI.zq ss h hk
 |(_, .undef)::ss,_,_,_,h,hk=>cI.zq ss h hk
 |(_, .fn ..)::ss,_,_,_,h,hk=>cI.zq ss h hk
 |(_, .ifc ..)::ss,_,_,_,h,hk=>cI.zq ss h hk
def k9{st st1:State}{W:List Nat}{J:JS}{x:cV J.rows}{H1:aG}{F1:Nat->Prop}{w1:World}{IH:Nat->Value}(h:carry st J st1=aa x)(hh:cI G w0 F0 H F w ρ st)(nS:cI G w0 F0 H1 F1 w1 IH st1)(hk:cg H F w H1 F1 w1)
 (MR:∀t,t∉W->IH t=ρ t):∃H2 F2,cI G w0 F0 H2 F2 w1 IH (behind st W J x)/\cg H F w H2 F2 w1:=by
 obtain⟨H1',F1',Wg,gD⟩:=nS.oT;obtain⟨H2',F2',Wh,OJ⟩:=Wg.mK J.objs;unfold carry at h;obtain⟨st2,H3',F3',h3,hh3,hk3⟩:=Wh.zq J.aD h;exact HB h3 hh hh3 (((hk.trans gD).trans OJ).trans hk3) MR
def tV{l:List Oper}{o:Oper}{t:Nat}(ho:o∈l)(hd:o.dst=aa t):t∈rY l:=by
 induction l with
 |nil=>cases ho
 |cons p l ih=>
  grind [rY]
structure Ps(G:Nat->Prop)(w0:World)(F0:Nat->Prop)(W:List Nat)(H:aG)(F:Nat->Prop)(w:World)(ρ:Nat->Value)(H':aG)(F':Nat->Prop)(w':World)(cN:Nat->Value)(cT:State):Prop where
 here:cI G w0 F0 H' F' w' cN cT
 keeps:cg H F w H' F' w'
 same:∀t,t∉W->cN t=ρ t
def map_inl{α β:Type}{o:Option α}{f:α->β}{r:β}(h:o.map f=aa r):∃x,o=aa x/\f x=r:=Option.map_eq_some_iff.1 h
def iD{E:Env P}:(c:Code)->{R:Type}->{q:R}->{a:uS}->{st:State}->{k:Ex->State->Option R}->{H:aG}->{F:Nat->Prop}->{w:World}->{ρ:Nat->Value}->{Q:Exit->(Nat->Value)->World->Prop}->
 exec E nt N c a st k=aa q->cI G w0 F0 H F w ρ st->
 (∀e cT H' F' w' cN,k e cT=aa q->Ps G w0 F0 (writes c) H F w ρ H' F' w' cN cT->Q e.tU cN w')->uE P nt c Q ρ w
 | .skip,R,q,a,st,k,H,F,w,ρ,Q,h,hh,hk=>IR (hk .normal st H F w ρ h ⟨hh,cg.refl H F w,λ_ _=>rfl⟩)
 | .ret,R,q,a,st,k,H,F,w,ρ,Q,h,hh,hk=>Ma (hk .ret st H F w ρ h ⟨hh,cg.refl H F w,λ_ _=>rfl⟩)
 | .exit id,R,q,a,st,k,H,F,w,ρ,Q,h,hh,hk=>IS (hk (.exit id) st H F w ρ h ⟨hh,cg.refl H F w,λ_ _=>rfl⟩)
 | .cond c x y,R,q,a,st,k,H,F,w,ρ,Q,h,hh,hk=>by
   unfold exec at h;split at h
   case h_2=>cases h
   rename_i D hD;split at h
   case h_2=>cases h
   rename_i b hb;have hv:=nE hb (sH hh.sat.ob.gl hh.sat.slot _ _ hD);split at h
   .rename_i e;subst e;exact IT hv (iD x h hh λe cT H' F' w' cN h1 h2=>hk e cT H' F' w' cN h1 ⟨h2.here,h2.keeps,λt ht=>h2.same t λhm=>ht (by simp[writes,hm])⟩)
   .rename_i e
    have e:b=ag:=by cases b<;>simp_all
    subst e;exact Ge hv (iD y h hh λe cT H' F' w' cN h1 h2=>hk e cT H' F' w' cN h1 ⟨h2.here,h2.keeps,λt ht=>h2.same t λhm=>ht (by simp[writes,hm])⟩)
 | .region id ops draw,R,q,a,st,k,H,F,w,ρ,Q,h,hh,hk=>by
   unfold exec at h
   cases draw with
   |true=>
    rw[cond_true]at h
    exact MW E.mix h hh λcT H' F' w' cN h1 h2 h3 h4=>hk .normal cT H' F' w' cN h1 ⟨h2,h3,λt ht=>h4 t λo ho e=>ht (tV ho e)⟩
   |false=>
    rw[cond_false]at h
    have:=zc (K:=λρ w=>Q .normal ρ w) (ops:=ops) (nt:=nt) h (λ_ _ h=>by cases h) hh λcT H' F' w' cN h1 h2 h3 h4=>hk .normal cT H' F' w' cN h1 ⟨h2,h3,λt ht=>h4 t λo ho e=>ht (tV ho e)⟩
    have h2:=C0 (id:=id) (l:=ops.toList) (P:=P) (n:=nt) (Q:=Q) (ρ:=ρ) (w:=w) (by omega);omega
 | .seq x y,R,q,a,st,k,H,F,w,ρ,Q,h,hh,hk=>by
   have fin:∀{H1:aG}{F1:Nat->Prop}{w1:World}{IH:Nat->Value}{st1:State}{a2:uS},exec E nt N y a2 st1 k=aa q->cI G w0 F0 H1 F1 w1 IH st1->cg H F w H1 F1 w1->(∀t,t∉writes x->IH t=ρ t)->uE P nt y Q IH w1:=by
    intro H1 F1 w1 IH st1 a2 g1 g2 g3 g4
    exact iD y g1 g2 λe cT H' F' w' cN h1 h2=>hk e cT H' F' w' cN h1 ⟨h2.here,g3.trans h2.keeps,λt ht=>(h2.same t λhm=>ht (by simp[writes,hm])).trans (g4 t λhm=>ht (by simp[writes,hm]))⟩
   have out:∀{e:Ex}{cT:State}{H':aG}{F':Nat->Prop}{w':World}{cN:Nat->Value},k e cT=aa q->Ps G w0 F0 (writes x) H F w ρ H' F' w' cN cT->Q e.tU cN w':=by
    intro e cT H' F' w' cN g1 g2;exact hk e cT H' F' w' cN g1 ⟨g2.here,g2.keeps,λt ht=>g2.same t λhm=>ht (by simp[writes,hm])⟩
   unfold exec at h;split at h
   .rename_i J a1 a2;unfold gm at h;obtain⟨s,hs,h⟩:=bind_some h;refine yA (iD x hs hh λe cT H' F' w' cN h1 h2=>?_)
    cases e with
    |normal=>
     obtain⟨j,hj,rfl⟩:=map_inl h1;obtain⟨H2,F2,g1,g2⟩:=k9 (W:=writes x) hj hh h2.here h2.keeps h2.same;exact fin h g1 g2 h2.same
    |exit id=>
     obtain⟨r,hr,rfl⟩:=map_inl h1;obtain rfl:=agq h;exact out hr h2
    |ret=>
     obtain⟨r,hr,rfl⟩:=map_inl h1;obtain rfl:=agq h;exact out hr h2
    |goto l=>
     obtain⟨r,hr,rfl⟩:=map_inl h1;obtain rfl:=agq h;exact out hr h2
   .rename_i J a1 a2;obtain⟨s,hs,h⟩:=bind_some h;refine yA (iD x hs hh λe cT H' F' w' cN h1 h2=>?_)
    cases e with
    |normal=>
     obtain⟨H2,F2,g1,g2⟩:=k9 (W:=writes x) h1 hh h2.here h2.keeps h2.same;exact fin h g1 g2 h2.same
    |exit id=>cases h1
    |ret=>cases h1
    |goto l=>cases h1
   .refine yA (iD x h hh λe cT H' F' w' cN h1 h2=>?_)
    cases e with
    |normal=>exact fin h1 h2.here h2.keeps h2.same
    |exit id=>exact out h1 h2
    |ret=>exact out h1 h2
    |goto l=>exact out h1 h2
 | .block id x,R,q,a,st,k,H,F,w,ρ,Q,h,hh,hk=>by
   have hw:writes (.block id x)=writes x:=rfl;rw[hw]at hk
   have Wi:∀{e:Ex}{cN:Nat->Value}{w':World},(match e with| .exit i=>if i=id then Q .normal cN w' else Q (.exit i) cN w'|e=>Q e.tU cN w')->QS id Q e.tU cN w':=by
    intro e cN w' g
    cases e with
    |normal=>exact g
    |ret=>exact g
    |goto l=>exact g
    |exit i=>
     by_cases e:i=id
     .subst e;simp only[aj]at g;exact Jg g
     .simp only[ai e]at g;refine Gx ?_ g
      cases hb:agu i id<;>simp_all
   have Kn:∀{i:Nat},i≠id->agu i id=ag:=λ{i}e=>by
    cases hb:agu i id<;>simp_all
   unfold exec at h;split at h
   .rename_i J a1 a2;unfold gm at h;obtain⟨s,hs,h⟩:=bind_some h;refine sC (iD x hs hh λe cT H' F' w' cN h1 h2=>Wi ?_)
    have inn:(carry st J cT).map Sum.inl=aa s->Q .normal cN w':=λh1=>by
     obtain⟨j,hj,rfl⟩:=map_inl h1;obtain⟨H2,F2,g1,g2⟩:=k9 (W:=writes x) hj hh h2.here h2.keeps h2.same;exact hk .normal _ H2 F2 w' cN h ⟨g1,g2,h2.same⟩
    have out:∀{e:Ex},(k e cT).map Sum.inr=aa s->Q e.tU cN w':=λ{e}h1=>by
     obtain⟨r,hr,rfl⟩:=map_inl h1
     grind
    cases e with
    |normal=>exact inn h1
    |exit i=>
     show if i=id then _ else _
     by_cases e:i=id
     .subst e;rw[aj rfl];refine inn ?_;simpa using h1
     .rw[ai e];simp only[Kn e,cond_false]at h1;exact out (e:= .exit i) h1
    |ret=>grind
    |goto l=>grind
   .rename_i J a1 a2;obtain⟨s,hs,h⟩:=bind_some h;refine sC (iD x hs hh λe cT H' F' w' cN h1 h2=>Wi ?_)
    have inn:carry st J cT=aa s->Q .normal cN w':=λh1=>by
     obtain⟨H2,F2,g1,g2⟩:=k9 (W:=writes x) h1 hh h2.here h2.keeps h2.same;exact hk .normal _ H2 F2 w' cN h ⟨g1,g2,h2.same⟩
    cases e with
    |normal=>exact inn h1
    |exit i=>
     grind
    |ret=>cases h1
    |goto l=>cases h1
   .refine sC (iD x h hh λe cT H' F' w' cN h1 h2=>Wi ?_)
    cases e with
    |normal=>grind
    |exit i=>
     show if i=id then _ else _
     by_cases e:i=id
     .subst e;rw[aj rfl];refine hk .normal cT H' F' w' cN ?_ h2;simpa using h1
     .rw[ai e];simp only[Kn e,cond_false]at h1;exact hk (.exit i) cT H' F' w' cN h1 h2
    |ret=>grind
    |goto l=>grind
 | .loop x,R,q,a,st,k,H,F,w,ρ,Q,h,hh,hk=>by
   have hw:writes (.loop x)=writes x:=rfl;rw[hw]at hk;unfold exec at h;split at h
   case h_3=>cases h
   case h_2=>
    rename_i L a1;split at h
    case h_2=>cases h
    rename_i s0 MJ;refine HA (λs cN w'=>∃H' F',cI G w0 F0 H' F' w' cN (behind st (writes x) L s)/\cg H F w H' F' w'/\∀t,t∉writes x->cN t=ρ t) h ?_ ?_
    .obtain⟨H2,F2,g1,g2⟩:=k9 (W:=writes x) MJ hh hh (cg.refl H F w) λ_ _=>rfl
     grind
    .rintro kk s cN w' ⟨H',F',g1,g2,g3⟩ hy
     refine iD x hy g1 λe cT uo Dz wL tj h1 h2=>?_
     have sm:∀t,t∉writes x->tj t=ρ t:=λt ht=>(h2.same t ht).trans (g3 t ht)
     cases e with
     |normal=>
      obtain⟨j,hj,ID⟩:=Option.bind_eq_some_iff.1 h1;obtain⟨H2,F2,m1,m2⟩:=k9 (W:=writes x) hj hh h2.here (g2.trans h2.keeps) sm;exact⟨j,ID,H2,F2,m1,m2,sm⟩
     |exit i=>exact hk (.exit i) cT uo Dz wL tj h1 ⟨h2.here,g2.trans h2.keeps,sm⟩
     |ret=>exact hk .ret cT uo Dz wL tj h1 ⟨h2.here,g2.trans h2.keeps,sm⟩
     |goto l=>exact hk (.goto l) cT uo Dz wL tj h1 ⟨h2.here,g2.trans h2.keeps,sm⟩
   rename_i L a1;split at h
   case h_2=>cases h
   rename_i s0 MJ;refine IU (λs cN w'=>∃H' F',cI G w0 F0 H' F' w' cN (behind st (writes x) L s)/\cg H F w H' F' w'/\∀t,t∉writes x->cN t=ρ t) h ?_ ?_
   .obtain⟨H2,F2,g1,g2⟩:=k9 (W:=writes x) MJ hh hh (cg.refl H F w) λ_ _=>rfl
    grind
   .rintro s cN w' y ⟨H',F',g1,g2,g3⟩ hy
    refine iD x hy g1 λe cT uo Dz wL tj h1 h2=>?_
    have sm:∀t,t∉writes x->tj t=ρ t:=λt ht=>(h2.same t ht).trans (g3 t ht)
    have out:∀{e:Ex},e≠ .normal->(k e cT).map Sum.inr=aa y->NU (λs cN w'=>∃H' F',cI G w0 F0 H' F' w' cN (behind st (writes x) L s)/\cg H F w H' F' w'/\∀t,t∉writes x->cN t=ρ t) Q q y e.tU tj wL:=λ{e}he h1=>by
     obtain⟨r,hr,rfl⟩:=map_inl h1;refine⟨by cases e<;>simp_all[Ex.tU],λhq=>?_⟩;subst hq;exact hk e cT uo Dz wL tj hr ⟨h2.here,g2.trans h2.keeps,sm⟩
    cases e with
    |normal=>
     obtain⟨j,hj,rfl⟩:=map_inl h1;obtain⟨H2,F2,m1,m2⟩:=k9 (W:=writes x) hj hh h2.here (g2.trans h2.keeps) sm;exact⟨rfl,H2,F2,m1,m2,sm⟩
    |exit i=>grind
    |ret=>grind
    |goto l=>grind
 | .label l,R,q,a,st,k,H,F,w,ρ,Q,h,hh,hk=>λact hf=>wp_label ⟨ρ,hf,hk .normal st H F w ρ h ⟨hh,cg.refl H F w,λ_ _=>rfl⟩⟩
 | .scope x,R,q,a,st,k,H,F,w,ρ,Q,h,hh,hk=>by
   have h1:=iD (Q:=λe ρ w=>match e with| .goto _=>False|e=>Q e ρ w) x (show exec E nt N x a.l st (noGoto k)=aa q from h) hh λe cT H' F' w' cN h1 h2=>by
    cases e with
    |goto l=>cases h1
    |_=>exact hk _ cT H' F' w' cN h1 h2
   intro act hf;refine wp_scope_straight (wp_mono (h1 act hf) λe a' w' ⟨cN,rD,UO⟩=>?_)
   cases e<;>first
    |exact UO.elim
    |exact⟨cN,rD,UO⟩
 | .goto l,R,q,a,st,k,H,F,w,ρ,Q,h,hh,hk=>λact hf=>wp_goto ⟨ρ,hf,hk (.goto l) st H F w ρ h ⟨hh,cg.refl H F w,λ_ _=>rfl⟩⟩
 | .rangeFunc ..,_,_,_,_,_,_,_,_,_,_,h,_,_=>by cases h
 | .refuse _,_,_,_,_,_,_,_,_,_,_,h,_,_=>by cases h
end
end Go.Proofs.YtfeahmiobbjklaaGreatDoor
namespace Go.Proofs.YtfeahmiobbjklaaGreatDoor
open Go Go.RowKit
def zr{P:Program}(T:aX P)(aD:List (Nat×aC))(objs:List (Nat×(Nat×Th)))(t:Nat)(T0:TypeId):Option aC:=
 match find T.und T0 with
 |none=>ae
 |some kk=>match find aD t with
  |some (.ptr o p off)=>match find objs o with
   |some (_, .box _ tr)=>match tr.get p with
    |some (s,dK)=>bif agu dK off&&l7 T T0 kk s.size then aa (.val (jN kk) s)else ae
    |none=>ae
   |_=>ae
  |_=>ae
def zt{P:Program}(T:aX P)(aD:List (Nat×aC))(objs:List (Nat×(Nat×Th))):List ResultVar->Option (List aC)
 |[]=>aa []
 | .tmp t::l=>match find aD t with
   |some d=>match zt T aD objs l with
    |some ds=>aa (d::ds)
    |none=>ae
   |none=>ae
 | .cell t T0::l=>match zr T aD objs t T0 with
   |some d=>match zt T aD objs l with
    |some ds=>aa (d::ds)
    |none=>ae
   |none=>ae
noncomputable def Pu{P:Program}(T:aX P)(rs:List ResultVar)(nb:Nat)(out:JS)(st:State):Option (cV out.rows):=
 match zt T st.aD st.objs rs with
 |some ds=>zq {aD:=ic 0 ds,objs:=(oT st).objs,nxt:=(oT st).nxt} (λst1=>match xF nb [] out st1.aD st1.objs with
  |some (x,_)=>aa x
  |none=>ae) out.aD
 |none=>ae
def init(inn:JS)(x:cV inn.rows):State:=
 {aD:=(cS inn.aD (c7 _ x)).1,objs:=gL 0 inn.objs (cS inn.aD (c7 _ x)).2,nxt:=inn.nxt}
noncomputable def Sj{P:Program}(T:aX P)(rs:List ResultVar)(nb:Nat)(out:JS):Ex->State->Option (cV out.rows)
 | .exit _,_=>ae
 | .goto _,_=>ae
 |_,st=>Pu T rs nb out st
noncomputable def Pv{P:Program}(E:Env P)(nt N:Nat)(c:Code)(rs:List ResultVar)(a:uS)(inn out:JS)(x:cV inn.rows):Option (cV out.rows):=
 exec E nt N c a (init inn x) (Sj E.T rs inn.nxt out)
section
variable {P:Program} {ρ:Nat->Value} {w:World} {H:aG} {F:Nat->Prop} {U:Nat->Prop} {n:Nat}
def Bu(T:aX P){t:TypeId}{kk:IE}(hu:find T.und t=aa kk){b off:Nat}{s:Tree}{cs:List Value}(hh:Holds H F w s cs)(hc:∀j u,cs[j]? =aa u->w.cell? ⟨b,off+j,ae⟩=aa u)
 (hz:if jN kk=af then∃r,find T.row t=aa r/\r.size=s.size else s.size=1):∃v,(loadVar t ⟨b,off,ae⟩).run P w= .ok v w/\aO H F w (jN kk) s v:=by
 obtain⟨dd,uH,ul⟩:=(T.und_ok _ _ hu).agg;have hl:=hh.length
 cases ha:jN kk with
 |true=>
  rw[aj ha]at hz;obtain⟨r,hr,LQ⟩:=hz;obtain⟨ti,z,h1,_,_,h4,_⟩:=T.row_ok _ _ hr
  have V3:(loadCells ⟨b,off,ae⟩ cs.length).run P w= .ok cs.toArray w:=
   run_loadCells_list (P:=P) w ⟨b,off,ae⟩ cs (λj v hv=>by rw[cU];exact hc j v hv)
  refine⟨.agg cs.toArray,?_,cs,hh,rfl,by simp⟩
  have mz:ti.size=cs.length:=by omega
  simp[loadVar,agL,eW uH,ul.trans ha,sizeOf,typeInfo,h1,mz,V3]
 |false=>
  rw[ai (by simp[ha])]at hz
  obtain⟨v,rfl⟩:∃v,cs=[v]:=by
   match cs,hl.trans hz with
   |[v],_=>grind
  refine⟨v,?_,[v],hh,rfl,λ_=>rfl⟩;have:=hc 0 v rfl;simp only[Nat.add_zero]at this;simp[loadVar,agL,eW uH,ul.trans ha,this,go_sem]
def D3(T:aX P){aD:List (Nat×aC)}{objs:List (Nat×(Nat×Th))}{t:Nat}{T0:TypeId}{D:aC}(h:zr T aD objs t T0=aa D)(gE:∀t d,find aD t=aa d->aB H F w d (ρ t))(hs:aI U H F w (find objs) n):
 ∃a v,ρ t= .pointer (aa a)/\(loadVar T0 a).run P w= .ok v w/\aB H F w D v:=by
 unfold zr at h;split at h
 .cases h
 rename_i kk hu;split at h
 case h_2=>cases h
 rename_i o p off hD;split at h
 case h_2=>cases h
 rename_i s0 T1 tr cA;split at h
 case h_2=>cases h
 rename_i s dK hg;obtain⟨h1,rfl⟩:=rJ h;obtain⟨h1,h3⟩:=ct h1;obtain rfl:=beq_true h1;obtain⟨b,hb,e⟩:=gE _ _ hD;obtain⟨es,hh,NZ⟩:=hs.box cA hb;obtain⟨g1,g2⟩:=NZ.get hg
 obtain⟨v,hv,mE⟩:=Bu (b:=b) (off:=dK) T hu g1 (λj u hj=>by
  grind [vi]) (jB T h3)
 exact⟨_,v,e,hv,mE⟩
def MX(tmps:Array Value):ResultVar->Sem Value
 | .tmp t=>pure (tmps.getD t undef)
 | .cell a t=>do loadVar t (<-asAddr (tmps.getD a undef))
def zu(T:aX P){aD:List (Nat×aC)}{objs:List (Nat×(Nat×Th))}(gE:∀t d,find aD t=aa d->aB H F w d (ρ t))(hs:aI U H F w (find objs) n){tmps:Array Value}(hf:∀t,tmps.getD t undef=ρ t):
 {rs:List ResultVar}->{ds:List aC}->zt T aD objs rs=aa ds->∃vs:List Value,(rs.mapM (MX tmps)).run P w= .ok vs w/\fh H F w ds vs
 |[],ds,h=>by obtain rfl:=agq h;exact⟨[],by simp,rfl⟩
 | .tmp t::l,ds,h=>by
   unfold zt at h;split at h
   case h_2=>cases h
   rename_i d hd;split at h
   case h_2=>cases h
   rename_i Vo wS;obtain rfl:=agq h;obtain⟨vs,h1,h2⟩:=zu T gE hs hf wS;refine⟨ρ t::vs,?_,ρ t,vs,rfl,gE t d hd,h2⟩
   grind [MX,Go.Sem.run_bind,Go.Sem.run_pure,Go.Result.andThen_ok]
 | .cell t T0::l,ds,h=>by
   unfold zt at h;split at h
   case h_2=>cases h
   rename_i d hd;split at h
   case h_2=>cases h
   rename_i Vo wS;obtain rfl:=agq h;obtain⟨vs,h1,h2⟩:=zu T gE hs hf wS;obtain⟨a,v,e1,e2,e3⟩:=D3 T hd gE hs;refine⟨v::vs,?_,v,vs,rfl,e3,h2⟩;have ha:(asAddr (.pointer (aa a))).run P w= .ok a w:=rfl
   grind [MX,Go.Sem.run_bind,Go.Result.andThen_ok,Go.Sem.run_pure]
def D4(T:aX P){fn:Func}{rs:List ResultVar}(LQ:fn.results.toList=rs){aD:List (Nat×aC)}{objs:List (Nat×(Nat×Th))}(gE:∀t d,find aD t=aa d->aB H F w d (ρ t))(hs:aI U H F w (find objs) n){tmps:Array Value}(hf:∀t,tmps.getD t undef=ρ t)
 {ds:List aC}(h:zt T aD objs rs=aa ds):∃vs:List Value,(results fn tmps).run P w= .ok (wW vs) w/\fh H F w ds vs:=by
 obtain⟨vs,h1,h2⟩:=zu T gE hs hf h;refine⟨vs,?_,h2⟩;have e:fn.results=rs.toArray:=dy LQ;have er:results fn tmps=(fn.results.mapM (MX tmps)>>= λvs=>pure (if h:vs.size=1 then vs[0]else Value.tuple vs)):=rfl;rw[er,e,List.mapM_toArray]
 have:∀vs:List Value,(if h:vs.toArray.size=1 then vs.toArray[0]else Value.tuple vs.toArray)=wW vs:=by
  intro vs
  match vs with
  |[]=>rfl
  |[v]=>rfl
  |a::b::l=>simp[wW]
 simp_all
def Fz:{l:List (Nat×SS)}->{vs:List jL}->{k t:Nat}->{d:aC}->ta k l=af->find (cS l vs).1 t=aa d->t<k+l.length
 |[],_,_,_,_,_,h=>by cases h
 |(t0,s)::l,vs,k,t,d,hi,h=>by
  obtain⟨h1,h2⟩:=ct hi;have h':find ((t0,(ed s vs).1)::(cS l (ed s vs).2).1) t=aa d:=h;rw[aS]at h';have:=beq_true h1;rw[List.length_cons];split at h'
  .omega
  .have:=Fz h2 h';omega
def Sk(P:Program)(nt:Nat)(c:Code)(run:{R:Type}->State->(Ex->State->Option R)->Option R):Prop:=
 ∀{R:Type}{q:R}{st:State}{k:Ex->State->Option R}{H:aG}{F:Nat->Prop}{w:World}{ρ:Nat->Value}{G:Nat->Prop}{w0:World}{F0:Nat->Prop}{Q:Exit->(Nat->Value)->World->Prop},
  run st k=aa q->cI G w0 F0 H F w ρ st->(∀e cT H' F' w' cN,k e cT=aa q->Ps G w0 F0 (writes c) H F w ρ H' F' w' cN cT->Q e.tU cN w')->uE P nt c Q ρ w
def Pw{E:Env P}{f:FuncId}{fn:Func}{c:Code}{rs:List ResultVar}{sg:nP}{run:{R:Type}->State->(Ex->State->Option R)->Option R}(hW:Sk P fn.ntmps c run)(hf:P.funcs[f]? =aa fn)(hn:(fn.name== "runtime.NumGoroutine")=ag)(hb:fn.body=aa c)(LQ:fn.results.toList=rs)
 (pe:ta 0 sg.inn.aD=af)(hlen:Nat.ble sg.inn.aD.length fn.ntmps=af)(C1:agu rs.length sg.out.aD.length=af)
 (Ac:∀x,sg.fn x=run (init sg.inn x) (Sj E.T rs sg.inn.nxt sg.out)):fL P f sg:=by
 refine⟨⟨fn,hf,hn,by rw[hb];rfl⟩,λx y rv args w H F G EQ gE cA fg hG=>?_⟩
 have hlen:sg.inn.aD.length<=fn.ntmps:=by simpa using hlen
 have C1:=beq_true C1
 refine(yC (R:=λv w'=>∃vs,v=wW vs/\vs.length=sg.out.aD.length/\∃H' F',Ext G w w'/\H.le H'/\(∀b,F b->F' b)/\(∀b,F' b->F b\/w.heap.size<=b\/G b)/\
  (∀t d,find (cS sg.out.aD (c7 _ y)).1 t=aa d->aB H' F' w' d (vs.getD t undef))/\
  aI (λk=>w.heap.size<=k\/G k) H' F' w' (find (gL sg.inn.nxt sg.out.objs (cS sg.out.aD (c7 _ y)).2)) sg.out.nxt/\gY H' sg.out.nxt) hf hb (by omega) λρ MR=>?_).mono (by grind)
 have Wj:∀t,t<args.length->ρ t=args.getD t undef:=(by grind)
 have keys:∀t d,find (cS sg.inn.aD (c7 sg.inn.rows x)).1 t=aa d->aB H F w d (ρ t):=λt d hd=>by
  rw[Wj t (by have:=Fz pe hd;omega)]
  grind
 have hh:cI G w F H F w ρ (init sg.inn x):=⟨⟨keys,cA,fg⟩,⟨⟨rfl,⟨rfl,agt _⟩,rfl,agt _,λ_ _ _=>rfl⟩,λ_ h=>h,λ_ h=> .inl h⟩⟩
 refine hW ((Ac x).symm.trans rv) hh λe cT H' F' w' cN h1 h2=>?_
 have main:Pu E.T rs sg.inn.nxt sg.out cT=aa y->∀act,Fr fn.ntmps act cN->∃v,(results fn act.tmps).run P w'= .ok v w'/\∃vs,v=wW vs/\vs.length=sg.out.aD.length/\∃H' F',Ext G w w'/\H.le H'/\(∀b,F b->F' b)/\(∀b,F' b->F b\/w.heap.size<=b\/G b)/\
  (∀t d,find (cS sg.out.aD (c7 _ y)).1 t=aa d->aB H' F' w' d (vs.getD t undef))/\
  aI (λk=>w.heap.size<=k\/G k) H' F' w' (find (gL sg.inn.nxt sg.out.objs (cS sg.out.aD (c7 _ y)).2)) sg.out.nxt/\gY H' sg.out.nxt:=by
  intro hr act yF;unfold Pu at hr;split at hr
  case h_2=>cases hr
  rename_i ds wS;obtain⟨vs,g1,g2⟩:=D4 E.T LQ h2.here.sat.slot h2.here.sat.ob yF.get wS;have hdl:=jO g2;refine⟨_,g1,vs,rfl,?_,?_⟩
  .have:∀{rs:List ResultVar}{ds:List aC},zt E.T cT.aD cT.objs rs=aa ds->ds.length=rs.length:=by
    intro rs
    induction rs with
    |nil=>intro ds h;obtain rfl:=agq h;rfl
    |cons r l ih=>
     intro ds h
     cases r<;>unfold zt at h<;>split at h<;>try cases h
     all_goals grind
   grind
  .have MJ:aI (UU G w) H F w (find (del [] [])) sg.inn.nxt:=⟨λ_ _ _ h=>(by cases h),λ_ _ _ _ _ _ _ _ _ h=>(by cases h),cA.fresh,cA.lt,cA.new,cA.gl⟩
   obtain⟨H4,F4,h4,k4⟩:=h2.here.oT;obtain⟨st1,H3,F3,hr,h3,k3⟩:=cI.zq (ρ:=λt=>vs.getD t undef) (st:={aD:=ic 0 ds,objs:=(oT cT).objs,nxt:=(oT cT).nxt}) sg.out.aD ⟨⟨λt d hd=>aB.keep k4.gj k4.step (by simpa using(pw g2 t d hd).2),h4.sat.ob,h4.sat.all⟩,h4.glob⟩ hr;split at hr
   case h_2=>cases hr
   rename_i _ z rest hp;obtain⟨bs,aT⟩:=rest;obtain rfl:=agq hr;obtain⟨F2,H2,a1,a2,a3,_,a5,_,a6,a7,a8⟩:=vJ (U':=UU G w) (ns:=[]) (objs0:=[]) (ρ:=λt=>vs.getD t undef) hp MJ fg ((h2.keeps.trans k4).trans k3) h3.sat.ob (λt d hd=>h3.sat.slot t d hd)
   have uv:=a8 h3.sat.ob.new (λo s t v k _ m2 m3 m4=>by
    obtain⟨v',dX,cL⟩:=a1.obj _ _ _ m2;rw[m3]at dX;obtain rfl:=agq dX
    exact cL.use k m4) (λ_ _ _ _ _ h=>by cases h)
   rw[show del [] ([]:List (Nat×(Nat×Th)))=[]from rfl,List.append_nil]at uv;refine⟨H2,F2,h3.glob.ext,a5,λb hb=>a2 b (h3.glob.le b hb),λb hb=>?_,a7,uv,a6⟩
   rcases a3 b hb with m1|m1
   .exact h3.glob.new b m1
   .exact .inr (h3.sat.ob.fI b m1)
 cases e with
 |normal=>exact main h1
 |ret=>exact main h1
 |exit id=>cases h1
 |goto l=>cases h1
def Sl{E:Env P}{f:FuncId}{fn:Func}{c:Code}{rs:List ResultVar}{N:Nat}{a:uS}{sg:nP}(hf:P.funcs[f]? =aa fn)(hn:(fn.name== "runtime.NumGoroutine")=ag)(hb:fn.body=aa c)(LQ:fn.results.toList=rs)
 (pe:ta 0 sg.inn.aD=af)(hlen:Nat.ble sg.inn.aD.length fn.ntmps=af)(C1:agu rs.length sg.out.aD.length=af)
 (Ac:∀x,sg.fn x=Pv E fn.ntmps N c rs a sg.inn sg.out x):fL P f sg:=
 Pw (E:=E) (run:=λst k=>exec E fn.ntmps N c a st k) (λh hh hk=>iD c h hh hk) hf hn hb LQ pe hlen C1 Ac
structure CT(P:Program)where
 f:Nat
 sg:nP
 ok:fL P f sg
def ck{P:Program}{f:Nat}{sg:nP}(h:fL P f sg):CT P:=⟨f,sg,h⟩
def CT.tab{P:Program}:List (CT P)->List (Nat×nP)
 |[]=>[]
 |c::l=>(c.f,c.sg)::CT.tab l
def CT.zw{P:Program}:{l:List (CT P)}->∀p∈CT.tab l,fL P p.1 p.2
 |[],_,h=>by cases h
 |c::l,p,h=>by
  rcases ahq.1 h with rfl|h
  .exact c.ok
  .exact CT.zw p h
def Wk(fn:Func)(sg:nP):Bool:= !(fn.name== "runtime.NumGoroutine")&&fn.body.isSome&&ta 0 sg.inn.aD&&Nat.ble sg.inn.aD.length fn.ntmps&&agu fn.results.toList.length sg.out.aD.length
def fw(E:Env P){f:FuncId}{fn:Func}{N:Nat}{sg:nP}(a:uS)(hf:P.funcs[f]? =aa fn)(hc:Wk fn sg=af)
 (Ac:∀x,sg.fn x=Pv E fn.ntmps N (fn.body.getD .skip) fn.results.toList a sg.inn sg.out x):fL P f sg:=by
 unfold Wk at hc;simp only[ahn,Bool.not_eq_true']at hc;obtain⟨⟨⟨⟨h1,h2⟩,h3⟩,h4⟩,h5⟩:=hc;obtain⟨c,hc⟩:=agY.1 h2;exact Sl (E:=E) (N:=N) (a:=a) hf h1 (by rw[hc];rfl) rfl h3 h4 h5 Ac
@[reducible] def SS.l(r:Row):SS:= .val ag (.leaf r)
@[reducible] def SS.g(r:Row):SS:= .val af (.leaf r)
def rZ{f:FuncId}{fn:Func}{sg:nP}(hf:P.funcs[f]? =aa fn)(hn:(fn.name== "runtime.NumGoroutine")=ag)(hb:fn.body.isNone=ag)(Ac:∀x,sg.fn x=ae):fL P f sg:=
 ⟨⟨fn,hf,hn,hb⟩,(by grind)⟩
abbrev ay:Row:= .int .i64
def nn{α:Type}:Nat->List α->List (Nat×α)
 |_,[]=>[]
 |n,a::l=>(n,a)::nn (n+1) l
abbrev JS.j1(l:List SS)(o:List OS)(k:Nat):JS:=⟨nn 0 l,nn 0 o,[],k⟩
abbrev JS.i1(l:List SS):JS:= .j1 l [] 0
abbrev JS.w1(t:Nat)(r:Row):JS:= .j1 [.val ag (.own 0)] [.own t r] 1
abbrev u2{A B R:Type}(f:A->B->R)(x:A×B):R:=f x.1 x.2
abbrev u3{A B C R:Type}(f:A->B->C->R)(x:A×B×C):R:=f x.1 x.2.1 x.2.2
abbrev u4{A B C D R:Type}(f:A->B->C->D->R)(x:A×B×C×D):R:=f x.1 x.2.1 x.2.2.1 x.2.2.2
abbrev u5{A B C D E R:Type}(f:A->B->C->D->E->R)(x:A×B×C×D×E):R:=f x.1 x.2.1 x.2.2.1 x.2.2.2.1 x.2.2.2.2
abbrev u6{A B C D E F R:Type}(f:A->B->C->D->E->F->R)(x:A×B×C×D×E×F):R:=f x.1 x.2.1 x.2.2.1 x.2.2.2.1 x.2.2.2.2.1 x.2.2.2.2.2
inductive Tk where
 |O|T|X
 |B (i n:Nat)
 |L (i n:Nat)
 |E (n:Nat)
 |R (j:JS)
 |J (j:JS)
 |P (j:JS)
 |K (j:JS)
def dk:Nat->List Tk->(uS->List Tk->uS)->uS
 |k+1, .O::l,c=>dk k l λa l=>c (.two .nil a) l
 |k+1, .T::l,c=>dk k l λa l=>dk k l λb l=>c (.two a b) l
 |_+1, .X::l,c=>c .nil l
 |_+1, .B i n::l,c=>c (.meet ⟨[(i, .l .bool)],[],[],n⟩ .nil .nil) l
 |k+1, .L i n::l,c=>dk k l λa l=>c (.loop ⟨[(i, .l ay)],[],[],n⟩ a) l
 |k+1, .E n::l,c=>dk k l λa l=>dk k l λb l=>c (.join ⟨[],[],[],n⟩ a b) l
 |k+1, .R j::l,c=>dk k l λa l=>dk k l λb l=>c (.meet j a b) l
 |k+1, .J j::l,c=>dk k l λa l=>dk k l λb l=>c (.join j a b) l
 |k+1, .P j::l,c=>dk k l λa l=>c (.loop j a) l
 |k+1, .K j::l,c=>dk k l λa l=>c (.loopK j a) l
 |_,_,c=>c .nil []
abbrev ak(l:List Tk):uS:=dk 9999 l λa _=>a
instance{P:Program}{f:Nat}{sg:nP}:CoeOut (fL P f sg) (CT P):=⟨ck⟩
end
end Go.Proofs.YtfeahmiobbjklaaGreatDoor
end
namespace Go.Proofs.YtfeahmiobbjklaaGreatDoor
open Go Go.RowKit
set_option maxRecDepth 100000
set_option linter.unusedSimpArgs false
set_option linter.unusedVariables false
set_option linter.defProp false
inductive D5(F:Nat->Prop)(w:World):Nat->List (Nat×SS)->List jL->List Value->Prop where
 |nil {k:Nat}:D5 F w k [] [] []
 |cons {k:Nat} {agg:Bool} {r:Row} {x:r.den} {v:Value} {ss:List (Nat×SS)} {ds:List jL} {vs:List Value} (h:aO ⟨λ_=>ae,λ_=>ae,λ_ _=>False⟩ F w agg (.leaf r x) v) (hs:D5 F w (k+1) ss ds vs):D5 F w k ((k, .val agg (.leaf r))::ss) (⟨r,x⟩::ds) (v::vs)
def D5.aD{F:Nat->Prop}{w:World}{k:Nat}{ss:List (Nat×SS)}{ds:List jL}{vs:List Value}(h:D5 F w k ss ds vs):(∀t d,find (cS ss ds).1 t=aa d->k<=t/\aB ⟨λ_=>ae,λ_=>ae,λ_ _=>False⟩ F w d (vs.getD (t-k) undef))/\(cS ss ds).2=[]/\vs.length=ss.length:=by
 induction h with
 |nil=>exact⟨λ_ _ h=>(by cases h),rfl,rfl⟩
 | @cons k agg r x v ss ds vs h hs ih=>
   refine⟨λt d hf=>?_,ih.2.1,by simp[ih.2.2]⟩;have rD:find ((k,aC.val agg (bif r.beq r then Tree.leaf r x else .nil))::(cS ss ds).1) t=aa d:=hf;rw[aS]at rD;split at rD
   .rename_i e;subst e;obtain rfl:=agq rD;rw[Row.beq_refl,Nat.sub_self];exact⟨agt _,h⟩
   grind
def pA{F:Nat->Prop}{w:World}{r:Row}{x:r.den}{es:List Value}(h:cF F w r es x):aO ⟨λ_=>ae,λ_=>ae,λ_ _=>False⟩ F w af (.leaf r x) (.agg es.toArray):=⟨es,h,rfl,by simp⟩
def HD{P:Program}{f:FuncId}{inn:JS}{fn:cV inn.rows->Option Bool}(h:fL P f ⟨inn,⟨[(0, .val ag (.leaf .bool))],[],[],0⟩,fn⟩){x:cV inn.rows}{y:Bool}(hy:fn x=aa y){ds:List jL}(wS:c7 inn.rows x=ds){W:World}{vs:List Value}
 (ha:D5 (λb=>b<W.heap.size) W 0 inn.aD ds vs)(ho:inn.objs=[])(Px:pg (λb=>b<W.heap.size) W):Calls P f vs.toArray W λe W'=>e= .returned (.bool y)/\Below W.heap.size W W':=by
 obtain⟨h1,h2,h3⟩:=ha.aD;subst wS
 refine(h.ok x y hy vs W ⟨λ_=>ae,λ_=>ae,λ_ _=>False⟩ (λb=>b<W.heap.size) (λ_=>False) h3 (by grind) ?_ (λ_ _=>⟨rfl,rfl⟩) (λ_ h=>h.elim)).mono λe W' ⟨us,he,ML,H',F',a1,_,_,_,a5,_⟩=>?_
 .show aI _ _ _ W (find (gL 0 inn.objs _)) inn.nxt
  rw[ho];exact⟨λ_ _ _ h=>(by cases h),λ_ _ _ _ _ _ _ _ _ h=>(by cases h),λ_ _ _=>⟨rfl,rfl⟩,λ_ h=>h,λ_ h=> .inl h,Px⟩
 .refine⟨?_,⟨a1.os,a1.tape.1,a1.output,a1.size,λk hk=>a1.block k hk (λh=>h)⟩⟩
  match us,ML with
  |[u],_=>
   have:=a5 0 (dC y) rfl;have hu:u= .bool y:=aO.bool (x:=y) this;rw[he,hu];rfl
def HE{H:Type}{enc:TypeId×Value->H}{P:Program}{W:World}{base:Nat}{spare:Nat->Bool}{held:Bool}{fuel:Nat}{t e:TypeId}{n:Nat}{k:IntKind}(ht:P.underlying t=aa (.array n e))(he:P.underlying e=aa (.int k))(hc:P.cellsOf e=1)(hct:P.cellsOf t=n)
 {cs:List Value}{ns:List Int}{q:List MemPlace}(hd:DataW.trod enc P W base spare held fuel t cs=aa (.agg (ns.map λx=> .lit (.int k x)),q)):cs=ns.map λx=> .int k x:=by
 obtain⟨xs,m,_,hx,hl,hn,uh⟩:=DataW.trod_array ht hd;simp only[Prod.mk.injEq,DataW.agg.injEq]at hx
 have hln:ns.length=n:=by rw[<-hn,<-List.length_map (f:=λx:Int=>(DataW.lit (.int k x):DataW H)),hx.1,List.length_map]
 apply List.ext_getElem?
 intro i;by_cases hi:i<n
 .have h:=uh i hi;rw[hc,Nat.mul_one,agx (by omega:i<xs.length)]at h;obtain⟨z,h1,h2,_⟩:=DataW.trod_int he h
  have h3:(xs.map (·.1))[i]? =aa (.lit (.int k z)):=by
   rw[List.getElem?_map,agx (by omega:i<xs.length),h2];rfl
  rw[<-hx.1,List.getElem?_map,agx (by omega:i<ns.length)]at h3;simp only[Option.map_some,agz,DataW.lit.injEq,Lit.int.injEq,true_and]at h3;rw[List.getElem?_map,agx (by omega:i<ns.length),h3]
  have h4:((cs.drop i).take 1)[0]? =aa (.int k z):=by rw[h1];rfl
  grind
 grind
def MY{W:World}{b off:Nat}{v:Value}(h:W.cell? ⟨b,off,ae⟩=aa v):b<W.heap.size:=by
 unfold World.cell? at h
 grind
section
section
variable {P:Program} {nt N:Nat} {R:Type}
variable {ρ:Nat->Value} {w w0:World} {H:aG} {F F0 G:Nat->Prop}
end
end
end Go.Proofs.YtfeahmiobbjklaaGreatDoor
