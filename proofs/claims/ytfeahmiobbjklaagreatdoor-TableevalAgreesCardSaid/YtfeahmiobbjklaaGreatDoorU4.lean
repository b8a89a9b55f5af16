/- Joined texts: Exec Draw2 Draw4 Fn Law Laid Jump. -/
import Derived.Test.YtfeahmiobbjklaaGreatDoorU3
import Derived.Scope
import Derived.Test.YtfeahmiobbjklaaGreatDoorU1
import Derived.ProofKit
import Derived.LaidMore
import Derived.OpenShut
import Derived.Stop.Joined
set_option linter.defProp false
open _root_.Bool renaming false->ah,true->af
open _root_.Option renaming none->ae,some->aa
open _root_.Array renaming toArray_toList->ajo
open _root_.List.cons renaming injEq->ajt
open _root_.Nat renaming beq->aiJ,blt->aja,le_trans->ai4,le_refl->aiH
open _root_.Option.some renaming inj->aiC,injEq->aiO
open _root_.Go.Sem renaming run_bind->ai0
open _root_.List renaming getElem?_eq_getElem->aiE,length_map->ajn
namespace Go.Proofs.YtfeahmiobbjklaaGreatDoor
open Go Go.RowKit
set_option maxRecDepth 100000
set_option linter.unusedSimpArgs false
set_option linter.unusedVariables false
set_option linter.defProp false
section
structure Env(P:Program)where
 T:bj P
 tab:List (Nat×pj)
 ok:∀p∈tab,gZ P p.1 p.2
 mix:P.follows .mixedOrders=af
 deep:Bool
 drop:Bool
def Ar(rd:Operand->Option aF):List Operand->Option (List (Nat×List Bool×Nat))
 |[]=>aa []
 |x::xs=>match rd x with
  |some (.ptr o p off)=>match Ar rd xs with
   |some cs=>aa ((o,p,off)::cs)
   |none=>ae
  |_=>ae
def yY{H:aK}{F:Nat->Prop}{w:World}{ρ:Nat->Value}{rd:Operand->Option aF}(gJ:∀x d,rd x=aa d->aE H F w d (ev ρ x)):{xs:List Operand}->{cs:List (Nat×List Bool×Nat)}->Ar rd xs=aa cs->lC H cs (xs.map (ev ρ))
 |[],cs,h=>by obtain rfl:=aiC h;rfl
 |x::xs,cs,h=>by
  unfold Ar at h;split at h
  case h_2=>cases h
  rename_i o p off hx;split at h
  case h_2=>cases h
  rename_i u0 qw;obtain rfl:=aiC h;exact⟨_,_,rfl,gJ _ _ hx,yY gJ qw⟩
def mO{R:Type}(rd:Operand->Option aF)(fn:Fn)(first caps:Array Operand)(k:ed->Option R):Option R:=
 match fn,first.toList with
 | .func f,[]=>match Ar rd caps.toList with
   |some cs=>k {dst:= .fn f cs}
   |none=>ae
 |_,_=>ae
def As{R:Type}{P:Program}{U:Nat->Prop}{H:aK}{F:Nat->Prop}{w:World}{ρ:Nat->Value}{ob:Nat->Option (Nat×Th)}{n d:Nat}{ty:TypeId}{pos:String}{aft:Array Edge}{rd:Operand->Option aF}(gJ:∀x d,rd x=aa d->aE H F w d (ev ρ x)){fn:Fn}{first caps:Array Operand}{k:ed->Option R}{q:R}
 (h:mO rd fn first caps k=aa q)(hs:aL U H F w ob n):∃e,k e=aa q/\cE P U H F w ρ ob n ⟨aa d, .makeFunc fn first caps,ty,pos,aft,ae⟩ e:=by
 unfold mO at h;split at h
 case h_2=>cases h
 rename_i f hf;split at h
 case h_2=>cases h
 rename_i cs qw
 have R4:first= #[]:=by rw[<-ajo (xs:=first),hf]
 subst R4
 have e:caps.map (ev ρ)=(caps.toList.map (ev ρ)).toArray:=by rw[<-List.map_toArray,ajo]
 exact⟨_,h,bP hs (v:= .func (.func f) #[] (caps.toList.map (ev ρ)).toArray) (by simp[execOp,Instr.makeFunc,e]) ⟨_,rfl,yY gJ qw⟩⟩
noncomputable def ox{R:Type}{P:Program}(E:Env P)(rd:Operand->Option aF)(objs:List (Nat×(Nat×Th)))(n:Nat)(callee:Callee)(args:Array Operand)(uH:Array TypeId)(k:ed->Option R):Option R:=
 match callee with
 | .builtin .len=>match args.toList,uH.toList with
   |[x],[t]=>match rd x with
    |some D=>match IA E.T (find objs) t D with
     |some D'=>k {dst:=D'}
     |none=>ae
    |none=>ae
   |_,_=>ae
 | .builtin .append=>match args.toList,uH.toList with
   |[x,y],[t,t']=>bif aiJ t t' then(match rd x with
    |some X=>match rd y with
     |some Y=>ot E.T (find objs) n t X Y k
     |none=>ae
    |none=>ae)else ae
   |_,_=>ae
 | .builtin .max=>match args.toList,uH.toList with
   |[x,y],[_,_]=>match rd x with
    |some X=>match rd y with
     |some Y=>match vz af X Y with
      |some D=>k {dst:=D}
      |none=>ae
     |none=>ae
    |none=>ae
   |_,_=>ae
 | .builtin .min=>match args.toList,uH.toList with
   |[x,y],[_,_]=>match rd x with
    |some X=>match rd y with
     |some Y=>match vz ah X Y with
      |some D=>k {dst:=D}
      |none=>ae
     |none=>ae
    |none=>ae
   |_,_=>ae
 | .builtin .delete=>match args.toList,uH.toList with
   |[m,x],[t,_]=>match rd m with
    |some M=>match rd x with
     |some X=>qB E.T (find objs) n t M X k
     |none=>ae
    |none=>ae
   |_,_=>ae
 | .value g=>yV E.tab rd objs n g args.toList k
 | .invoke x name=>qM E.T E.tab rd objs n x name args.toList k
 |_=>ae
noncomputable def Pg{R:Type}{P:Program}(E:Env P)(rd:Operand->Option aF)(objs:List (Nat×(Nat×Th)))(n:Nat)(dst:Option Nat)(op:Op)(k:ed->Option R):Option R:=
 match dst with
 |none=>match op with
  | .store t x y=>match rd x with
    |some X=>match rd y with
     |some Y=>qI E.T (find objs) n t X Y k
     |none=>ae
    |none=>ae
  | .call c=>ox E rd objs n c.callee c.args c.argTypes k
  | .mapUpdate t m x y=>match rd m with
    |some M=>match rd x with
     |some X=>match rd y with
      |some Y=>kA E.T (find objs) n t M X Y k
      |none=>ae
     |none=>ae
    |none=>ae
  |_=>ae
 |some _=>match op with
  | .move x=>match rd x with
    |some D=>k {dst:=D}
    |none=>ae
  | .assign x=>match rd x with
    |some D=>k {dst:=D}
    |none=>ae
  | .pick c x y=>match rd c with
    |some C=>match asBool C with
     |some b=>match(if b=af then rd x else rd y)with
      |some D=>k {dst:=D}
      |none=>ae
     |none=>ae
    |none=>ae
  | .alloc t=>tw E.T n t k
  | .box t x=>match rd x with
    |some X=>Iz n t X k
    |none=>ae
  | .build t ps=>tA E.T rd t ps k
  | .buildSlice t m ps=>vD E.deep E.T rd (find objs) n t m ps k
  | .load t x=>match rd x with
    |some X=>pK E.T (find objs) n t X k
    |none=>ae
  | .nilCheck x=>match rd x with
    |some (.ptr o p off)=>k {dst:= .ptr o p off}
    |some (.elem o s r i z p off)=>k {dst:= .elem o s r i z p off}
    |some (.dlm o d i p off)=>k {dst:= .dlm o d i p off}
    |some (.at r z)=>k {dst:= .at r z}
    |_=>ae
  | .binOp o t x y _=>match rd x with
    |some X=>match rd y with
     |some Y=>IF E.T (find objs) o t (UH y) X Y k
     |none=>ae
    |none=>ae
  | .unOp o _ x=>match rd x with
    |some X=>match Yy o X with
     |some D=>k {dst:=D}
     |none=>ae
    |none=>ae
  | .convert s t x=>match rd x with
    |some X=>match Ln E.T s t X with
     |some D=>k {dst:=D}
     |none=>ae
    |none=>ae
  | .makeSlice t a b=>match rd a with
    |some A=>match asInt A with
     |some (_,i)=>match rd b with
      |some B=>match asInt B with
       |some (_,j)=>wv E.deep E.T n t (pH a b) i j k
       |none=>ae
      |none=>ae
     |none=>ae
    |none=>ae
  | .slice t x lo hi ae=>match rd x with
    |some X=>tB E.drop E.T rd (find objs) n t X lo hi k
    |none=>ae
  | .fieldAddr t x f=>match rd x with
    |some X=>match EF E.T t f X with
     |some D=>k {dst:=D}
     |none=>ae
    |none=>ae
  | .field t x f=>match rd x with
    |some X=>match Aa E.T t f X with
     |some D=>k {dst:=D}
     |none=>ae
    |none=>ae
  | .indexAddr t x y=>match rd x with
    |some X=>match rd y with
     |some Y=>match asInt Y with
      |some (_,i)=>tt E.T (find objs) t X i k
      |none=>ae
     |none=>ae
    |none=>ae
  | .index t x y=>match rd x with
    |some X=>match rd y with
     |some Y=>match asInt Y with
      |some (_,i)=>qD E.T (find objs) t X i k
      |none=>ae
     |none=>ae
    |none=>ae
  | .extract x i=>match rd x with
    |some X=>match wg X i with
     |some D=>k {dst:=D}
     |none=>ae
    |none=>ae
  | .call c=>ox E rd objs n c.callee c.args c.argTypes k
  | .makeFunc fn first caps=>mO rd fn first caps k
  | .makeMap t ae=>mN E.deep E.T n t k
  | .lookup t m x ok=>match rd m with
    |some M=>match rd x with
     |some X=>oo E.T (find objs) n t ok M X k
     |none=>ae
    |none=>ae
  | .range t x=>match rd x with
    |some X=>tI E.T (find objs) n t X k
    |none=>ae
  | .entry x=>match rd x with
    |some X=>match E1 objs X with
     |some D=>k {dst:=D}
     |none=>ae
    |none=>ae
  | .makeInterface t x=>match rd x with
    |some X=>I0 E.T t X k
    |none=>ae
  | .typeAssert x _ t ok=>match rd x with
    |some X=>qL E.T t ok X k
    |none=>ae
  |_=>ae
section
variable {P:Program} {ρ:Nat->Value} {w w':World} {H H':aK} {F F':Nat->Prop} {U:Nat->Prop} {n:Nat} {R:Type}
variable {ty:TypeId} {pos:String} {aft:Array Edge} {dst:Option Nat} {d:Nat}
def dU{α:Type}{a:Array α}{l:List α}(h:a.toList=l):a=l.toArray:=by grind
def yZ(E:Env P){rd:Operand->Option aF}(gJ:∀x d,rd x=aa d->aE H F w d (ev ρ x)){objs:List (Nat×(Nat×Th))}{args:Array Operand}{uH:Array TypeId}{k:ed->Option R}{q:R}{dst:Option Nat}
 (h:ox E rd objs n (.builtin .delete) args uH k=aa q)(hs:aL U H F w (find objs) n):∃e,k e=aa q/\cE P U H F w ρ (find objs) n ⟨dst, .call {callee:= .builtin .delete,args:=args,argTypes:=uH},ty,pos,aft,ae⟩ e:=by
 unfold ox at h;simp only at h;split at h
 case h_2=>cases h
 rename_i m x t t' ha ht;obtain rfl:=dU ha;obtain rfl:=dU ht;split at h
 case h_2=>cases h
 rename_i M hM;split at h
 case h_2=>cases h
 rename_i X hX;exact EM E.T h hs (gJ _ _ hM) (gJ _ _ hX)
def LS(E:Env P){rd:Operand->Option aF}(gJ:∀x d,rd x=aa d->aE H F w d (ev ρ x)){objs:List (Nat×(Nat×Th))}{c:Call}{k:ed->Option R}{q:R}
 (h:ox E rd objs n c.callee c.args c.argTypes k=aa q)(hs:aL U H F w (find objs) n):∃e,k e=aa q/\cE P U H F w ρ (find objs) n ⟨aa d, .call c,ty,pos,aft,ae⟩ e:=by
 obtain⟨callee,args,uH⟩:=c;simp only at h;unfold ox at h;split at h
 .split at h
  case h_2=>cases h
  rename_i x t ha ht;obtain rfl:=dU ha;obtain rfl:=dU ht;split at h
  case h_2=>cases h
  rename_i D hD;split at h
  case h_2=>cases h
  rename_i D' K7;exact⟨_,h,GF E.T K7 hs (gJ _ _ hD)⟩
 .split at h
  case h_2=>cases h
  rename_i x y t t' ha ht;obtain rfl:=dU ha;obtain rfl:=dU ht;obtain⟨hb,h'⟩:=aV h;clear h;obtain rfl:=beq_true hb;split at h'
  case h_2=>cases h'
  rename_i X hX;split at h'
  case h_2=>cases h'
  rename_i Y hY;exact Cg E.T h' hs (gJ _ _ hX) (gJ _ _ hY)
 .split at h
  case h_2=>cases h
  rename_i x y t t' ha ht;obtain rfl:=dU ha;obtain rfl:=dU ht
  grind [wh]
 .split at h
  case h_2=>cases h
  rename_i x y t t' ha ht;obtain rfl:=dU ha;obtain rfl:=dU ht
  grind [wh]
 .refine yZ E gJ ?_ hs;unfold ox;exact h
 .exact Cz E.ok gJ h hs
 .exact wI E.T E.ok gJ h hs
 .cases h
def Vh:Callee->Bool
 | .value _=>af
 | .invoke .. =>af
 |_=>ah
def LU:Callee->Bool
 | .builtin .delete=>af
 |c=>Vh c
def ya(E:Env P){rd:Operand->Option aF}(gJ:∀x d,rd x=aa d->aE H F w d (ev ρ x)){objs:List (Nat×(Nat×Th))}{c:Call}{k:ed->Option R}{q:R}(hc:LU c.callee=af)
 (h:ox E rd objs n c.callee c.args c.argTypes k=aa q)(hs:aL U H F w (find objs) n):∃e,k e=aa q/\cE P U H F w ρ (find objs) n ⟨ae, .call c,ty,pos,aft,ae⟩ e:=by
 obtain⟨callee,args,uH⟩:=c;simp only at h hc
 cases callee with
 |value g=>exact Cz E.ok gJ h hs
 |invoke x name=>exact wI E.T E.ok gJ h hs
 |builtin b=>cases b<;>first|(cases hc;done)|exact yZ E gJ h hs
end
section
variable {P:Program} {ρ:Nat->Value} {w w':World} {H H':aK} {F F':Nat->Prop} {U:Nat->Prop} {n:Nat} {R:Type}
variable {ty:TypeId} {pos:String} {aft:Array Edge} {dst:Option Nat} {d:Nat}
def I3{c x y:Operand}{b:Bool}{D:aF}{ob:Nat->Option (Nat×Th)}(hs:aL U H F w ob n)(hc:ev ρ c= .bool b)(hx:aE H F w D (ev ρ (if b=af then x else y))):cE P U H F w ρ ob n ⟨aa d, .pick c x y,ty,pos,aft,ae⟩ {dst:=D}:=by
 cases b with
 |true=>exact aZ hs (vP hc rfl) hx
 |false=>exact aZ hs (uY hc rfl) hx
def LV(E:Env P){rd:Operand->Option aF}(gJ:∀x d,rd x=aa d->aE H F w d (ev ρ x)){objs:List (Nat×(Nat×Th))}{op:Op}{k:ed->Option R}{q:R}
 (By:dst=ae->∀c,op= .call c->LU c.callee=af)(h:Pg E rd objs n dst op k=aa q)(hs:aL U H F w (find objs) n):∃e,k e=aa q/\cE P U H F w ρ (find objs) n ⟨dst,op,ty,pos,aft,ae⟩ e:=by
 cases dst with
 |none=>
  unfold Pg at h;simp only at h;split at h
  .split at h
   case h_2=>cases h
   rename_i X hX;split at h
   case h_2=>cases h
   rename_i Y hY;exact EX E.T h hs (gJ _ _ hX) (gJ _ _ hY)
  .rename_i c;exact ya E gJ (By rfl c rfl) h hs
  .split at h
   case h_2=>cases h
   rename_i M hM;split at h
   case h_2=>cases h
   rename_i X hX;split at h
   case h_2=>cases h
   rename_i Y hY;exact wz E.T h hs (gJ _ _ hM) (gJ _ _ hX) (gJ _ _ hY)
  .cases h
 |some d=>
  unfold Pg at h;simp only at h;split at h
  .grind [IG]
  .grind [BU]
  .split at h
   case h_2=>cases h
   rename_i C hC;split at h
   case h_2=>cases h
   rename_i b hb;split at h
   case h_2=>cases h
   rename_i D hD;refine⟨_,h,I3 hs (oe hb (gJ _ _ hC)) ?_⟩
   grind
  .exact Iy E.T h hs
  .split at h
   case h_2=>cases h
   rename_i X hX;exact OJ h hs (gJ _ _ hX)
  .exact IB E.T gJ h hs
  .exact EY E.deep E.T gJ h hs
  .split at h
   case h_2=>cases h
   rename_i X hX;exact IR E.T h hs (gJ _ _ hX)
  .split at h
   .rename_i o p off hX;obtain⟨b,h1,h2⟩:=gJ _ _ hX;exact⟨_,h,bP hs (v:= .pointer (aa ⟨b,off,ae⟩)) (by simp[execOp,h2]) ⟨b,h1,rfl⟩⟩
   .rename_i o s r i z p off hX;have hd:=gJ _ _ hX;obtain⟨g,o0,q,T,m,cap,l,_,_,_,_,h2⟩:=id hd;exact⟨_,h,bP hs (v:= .pointer (aa ⟨g,o0+q*r.size+off,ae⟩)) (by simp[execOp,h2]) (by grind)⟩
   .rename_i o d i p off hX;have hd:=gJ _ _ hX;obtain⟨g,o0,q,m,cap,_,_,h2⟩:=id hd;exact⟨_,h,bP hs (v:= .pointer (aa ⟨g,o0+q*d.low.size+off,ae⟩)) (by simp[execOp,h2]) (by grind)⟩
   .rename_i r z hX;have hd:=gJ _ _ hX;obtain⟨b,off,h2,_⟩:=id hd;exact⟨_,h,bP hs (v:= .pointer (aa ⟨b,off,ae⟩)) (by simp[execOp,h2]) (by grind)⟩
   .cases h
  .split at h
   case h_2=>cases h
   rename_i X hX;split at h
   case h_2=>cases h
   rename_i Y hY;exact OQ E.T h hs (gJ _ _ hX) (gJ _ _ hY)
  .grind [RN]
  .split at h
   case h_2=>cases h
   rename_i X hX;split at h
   case h_2=>cases h
   rename_i D hD;exact⟨_,h,Lo E.T hD hs (gJ _ _ hX)⟩
  .split at h
   case h_2=>cases h
   rename_i A hA;split at h
   case h_2=>cases h
   rename_i i hi;split at h
   case h_2=>cases h
   rename_i B hB;split at h
   case h_2=>cases h
   rename_i j hj;exact IQ E.deep E.T h hs (iT hi (gJ _ _ hA)) (iT hj (gJ _ _ hB))
  .split at h
   case h_2=>cases h
   rename_i X hX;exact IE E.drop E.T gJ h hs (gJ _ _ hX)
  .split at h
   case h_2=>cases h
   rename_i X hX;split at h
   case h_2=>cases h
   rename_i D hD;exact⟨_,h,Is E.T hD hs (gJ _ _ hX)⟩
  .split at h
   case h_2=>cases h
   rename_i X hX;split at h
   case h_2=>cases h
   rename_i D hD;exact⟨_,h,EL E.T hD hs (gJ _ _ hX)⟩
  .split at h
   case h_2=>cases h
   rename_i X hX;split at h
   case h_2=>cases h
   rename_i Y hY;split at h
   case h_2=>cases h
   rename_i i hi;exact It E.T h hs (gJ _ _ hX) (iT hi (gJ _ _ hY))
  .split at h
   case h_2=>cases h
   rename_i X hX;split at h
   case h_2=>cases h
   rename_i Y hY;split at h
   case h_2=>cases h
   rename_i k' i hi;exact EP E.T h hs (gJ _ _ hX) (iT hi (gJ _ _ hY))
  .grind [BT]
  .exact LS E gJ h hs
  .exact As gJ h hs
  .exact Am E.deep E.T h hs
  .split at h
   case h_2=>cases h
   rename_i M hM;split at h
   case h_2=>cases h
   rename_i X hX;exact Ca E.T h hs (gJ _ _ hM) (gJ _ _ hX)
  .split at h
   case h_2=>cases h
   rename_i X hX;exact IT E.T h hs (gJ _ _ hX)
  .grind [IU]
  .split at h
   case h_2=>cases h
   rename_i X hX;exact Pf E.T h hs (gJ _ _ hX)
  .split at h
   case h_2=>cases h
   rename_i X hX;exact Ff E.T h hs (gJ _ _ hX)
  .cases h
end
def rJ(rd:Operand->Option aF)(x:Operand):List Nat:=
 match rd x with
 |some (.val _ t)=>t.owns
 |_=>[]
def Au(rd:Operand->Option aF)(x:Operand):List Nat:=
 match rd x with
 |some (.val _ (.view o _ _ _))=>[o]
 |_=>[]
def G7(rd:Operand->Option aF):List Operand->List Nat
 |[]=>[]
 |x::xs=>rJ rd x++G7 rd xs
def tT:Operand->Bool
 | .const (.slice ae 0 0)=>af
 |_=>ah
def Ph(rd:Operand->Option aF):Op->List Nat
 | .store _ x y=>match rd x with
   |some (.elem ..)=>rJ rd y
   |_=>[]
 | .buildSlice _ _ ps=>G7 rd (ps.toList.map (·.2))
 | .binOp .eql _ x y _=>bif tT y then[]else rJ rd x++rJ rd y
 | .binOp .neq _ x y _=>bif tT y then[]else rJ rd x++rJ rd y
 | .slice _ x _ _ _=>Au rd x
 | .indexAddr _ x _=>Au rd x
 | .call c=>match c.callee,c.args.toList with
   | .builtin .append,[_,y]=>Au rd y
   |_,_=>[]
 | .mapUpdate _ _ _ y=>rJ rd y
 |_=>[]
def CB(nt:Nat):Option Nat->Bool
 |some d=>aja d nt
 |none=>af
def fnB(dst:Option Nat)(op:Op):Bool:=
 match dst with
 |some _=>af
 |none=>match op with
  | .call c=>LU c.callee
  |_=>af
open Classical in
noncomputable def Fi{α:Type}(a b:Option α):Option α:=if a=b then a else ae
def R5{α:Type}{a b:Option α}{q:α}(h:Fi a b=aa q):a=aa q:=by
 grind [Fi]
def R6{α:Type}{a b:Option α}{q:α}(h:Fi a b=aa q):b=aa q:=by
 grind [Fi]
def LW{P:Program}(T:bj P)(rd:Operand->Option aF)(ob:Nat->Option (Nat×Th)):Op->Option (Bool×Nat)
 | .binOp o t x y _=>match o with
   | .eql=>bif tT y then(match find T.und t with
     |some (.slice _)=>match rd x with
      |some X=>match vc ob X with
       |some (.read _ l)=>aa (ah,l.length)
       |some (.own _ _ _ _ l)=>aa (ah,l.length)
       |_=>ae
      |none=>ae
     |_=>ae)else ae
   | .neq=>bif tT y then(match find T.und t with
     |some (.slice _)=>match rd x with
      |some X=>match vc ob X with
       |some (.read _ l)=>aa (af,l.length)
       |some (.own _ _ _ _ l)=>aa (af,l.length)
       |_=>ae
      |none=>ae
     |_=>ae)else ae
   |_=>ae
 |_=>ae
def rK{P:Program}(E:Env P)(rd:Operand->Option aF)(objs:List (Nat×(Nat×Th)))(op:Op):List Nat:=
 match E.deep,op with
 |true, .buildSlice .. =>[]
 |_,_=>Ph rd op
noncomputable def wJ(st:State)(o:Nat):State:=
 match QM (find st.objs) st.nxt o with
 |some e=>st.apply ae e
 |none=>st
noncomputable def uJ(st:State):List Nat->State
 |[]=>st
 |o::os=>uJ (wJ st o) os
def QR:List (Nat×(Nat×Th))->Bool
 |[]=>ah
 |(_,(_, .deep _ _ _ (aa _)))::_=>af
 |_::l=>QR l
noncomputable def po(st:State):State:=
 match QR st.objs with
 |true=>uJ (uJ st (st.objs.map (·.1))) (st.objs.map (·.1))
 |false=>st
def Vi:Op->Bool
 | .call c=>Vh c.callee
 |_=>ah
def Fj(o:Nat):List (Nat×(Nat×Th))->Bool
 |[]=>ah
 |(_,(_, .deep _ _ _ (aa h)))::l=>aiJ h.o o||Fj o l
 |_::l=>Fj o l
def Pj(st:State)(x:Operand):Bool:=
 match Ip st.aG x with
 |some (.val _ (.own o))=>Fj o st.objs
 |_=>ah
def LX(st:State):Op->Bool
 | .call c=>c.args.toList.any (Pj st)
 |_=>ah
def LY:Op->Option Operand
 | .next x ah=>aa x
 |_=>ae
noncomputable def G8{R:Type}{P:Program}(E:Env P)(dst:Option Nat)(op:Op)(st:State)(k:State->Option R):Option R:=
 match gf st.objs (rK E (Ip st.aG) st.objs op)with
 |some be=>match LW E.T (Ip st.aG) (find be) op with
  |some (b,m)=>match dst with
   |some d=>if aiJ m 0=af then Fi (k (State.apply {st with objs:=be} (aa d) {dst:=ec af})) (k (State.apply {st with objs:=be} (aa d) {dst:=ec ah}))
     else k (State.apply {st with objs:=be} (aa d) {dst:=ec b})
   |none=>ae
  |none=>match LY op with
   |some x=>match dst with
    |some d=>match Ip st.aG x with
     |some X=>Ly be st.nxt X (λe=>k (State.apply {st with objs:=be} (aa d) e))
     |none=>ae
    |none=>ae
   |none=>bif fnB dst op then Pg E (Ip st.aG) be st.nxt dst op (λe=>k (State.apply {st with objs:=be} dst e))else ae
 |none=>ae
noncomputable def wK{R:Type}{P:Program}(E:Env P)(dst:Option Nat)(op:Op)(st:State)(k:State->Option R):Option R:=
 match E.deep&&Vi op&& !LX st op with
 |true=>G8 E dst op (po st) k
 |false=>G8 E dst op st k
def G9(all:Array Oper)(j:Nat):Option Nat:=(all[j]?).bind (·.dst)
def State.put(st:State)(dst:Option Nat)(d:aF):State:=
 match dst with
 |some t=>{st with aG:=(t,d)::st.aG}
 |none=>st
def wL(dst:Option Nat)(kn:List (Nat×Bool)):List (Nat×Bool):=
 match dst with
 |some d=>del [d] kn
 |none=>kn
noncomputable def runs{R:Type}{P:Program}(E:Env P)(nt:Nat)(all:Array Oper):List Oper->List (Nat×Bool)->State->(State->Option R)->Option R
 |[],_,st,k=>k st
 |o::os,kn,st,k=>bif CB nt o.dst then(match o.guard with
  |none=>wK E o.dst o.op st (λc9=>runs E nt all os (wL o.dst kn) c9 k)
  |some (j,b)=>match G9 all j with
   |none=>ae
   |some g=>bif aja g nt then(match find kn g with
    |some v=>bif (bif v then b else !b)then wK E o.dst o.op st (λc9=>runs E nt all os (wL o.dst kn) c9 k)else runs E nt all os (wL o.dst kn) (st.put o.dst .undef) k
    |none=>match find st.aG g with
     |some .undef=>runs E nt all os (wL o.dst kn) (st.put o.dst .undef) k
     |some d=>match asBool d with
      |some t=>if t=af then
        (bif b then wK E o.dst o.op (st.put (aa g) (ec af)) (λc9=>runs E nt all os (wL o.dst ((g,af)::kn)) c9 k)
          else runs E nt all os (wL o.dst ((g,af)::kn)) ((st.put (aa g) (ec af)).put o.dst .undef) k)
       else
        (bif b then runs E nt all os (wL o.dst ((g,ah)::kn)) ((st.put (aa g) (ec ah)).put o.dst .undef) k
          else wK E o.dst o.op (st.put (aa g) (ec ah)) (λc9=>runs E nt all os (wL o.dst ((g,ah)::kn)) c9 k))
      |none=>ae
     |none=>ae)else ae)else ae
section
variable {P:Program} {nt:Nat} {ops:Array Oper} {K:(Nat->Value)->World->Prop} {rest:List Oper} {R:Type}
variable {ρ:Nat->Value} {w w0:World} {H:aK} {F F0 G:Nat->Prop}
abbrev UU(G:Nat->Prop)(w0:World):Nat->Prop:=λk=>w0.heap.size<=k\/G k
def LD.lL{H':aK}{F':Nat->Prop}{w':World}{g:Nat->Prop}(hg:LD G w0 F0 w F)(he:Oc H F w H' F' w' g)(hu:∀k,g k->UU G w0 k):LD G w0 F0 w' F':=by
 have mh:=hg.ext.size;refine⟨⟨he.ext.os.trans hg.ext.os,⟨he.ext.tape.1.trans hg.ext.tape.1,ai4 hg.ext.tape.2 he.ext.tape.2⟩,he.ext.output.trans hg.ext.output,ai4 mh he.ext.size,λk hk hn=>?_⟩,λb hb=>he.le b (hg.le b hb),λb hb=>?_⟩
 .rw[he.ext.block k (by omega) λh=>?_]
  .exact hg.ext.block k hk hn
  grind
 .rcases he.grow b hb with h1|h1|h1
  .exact hg.new b h1
  all_goals grind
structure cU(G:Nat->Prop)(w0:World)(F0:Nat->Prop)(H:aK)(F:Nat->Prop)(w:World)(ρ:Nat->Value)(st:State):Prop where
 sat:Sat (UU G w0) H F w ρ st
 glob:LD G w0 F0 w F
def cG.y0{H':aK}{F':Nat->Prop}{w':World}{g:Nat->Prop}(he:Oc H F w H' F' w' g)(hF:∀b,F b->b<w.heap.size)(hg:∀k,g k->¬F k):cG H F w H' F' w':=⟨he.gN,he.step hF hg⟩
def cU.u9{st:State}{os:List Nat}{be:List (Nat×(Nat×Th))}(h:cU G w0 F0 H F w ρ st)(hf:gf st.objs os=aa be):
 ∃F',cU G w0 F0 H F' w ρ {st with objs:=be}/\cG H F w H F' w:=by
 obtain⟨F',a1,a2,a3⟩:=ou hf h.sat.ob
 have iq:Step F w F' w:=λb hb=>⟨a2 b hb,rfl⟩
 refine⟨F',⟨⟨λt d hd=>(h.sat.slot t d hd).keep (aK.le.refl H) iq,a1,h.sat.all⟩,⟨h.glob.ext,λb hb=>a2 b (h.glob.le b hb),λb hb=>?_⟩⟩,⟨aK.le.refl H,iq⟩⟩
 rcases a3 b hb with h1|h1
 .exact h.glob.new b h1
 .exact .inr (h.sat.ob.gv b h1)
def Fk{P:Program}{ρ:Nat->Value}{w:World}{o:BinOp}(q7:o= .eql\/o= .neq){t u e:TypeId}{x y:Operand}{d:Nat}{ty:TypeId}{pos:String}{aft:Array Edge}(hu:P.underlying t=aa (.slice e)){A:Option Addr}{m c:Nat}(hx:ev ρ x= .slice A m c)(hy:ev ρ y= .slice ae 0 0):
 (execOp (ev ρ) ⟨aa d, .binOp o t x y u,ty,pos,aft,ae⟩).run P w= .ok (.value (.bool (bif decide (o= .eql)then A.isNone else !A.isNone))) w:=by
 have hm:Op.maxDepth=9999+1:=rfl
 have he:(Op.equal t (.slice A m c) (.slice ae 0 0)).run P w= .ok A.isNone w:=by
  unfold Op.equal;rw[hm];unfold Op.equalIn;rw[ai0,run_underlying hu]
  cases A<;>rfl
 rcases q7 with rfl|rfl
 .simp[execOp,eqGuard,binOp,hx,hy,he]
 .simp[execOp,eqGuard,binOp,hx,hy,he]
def LZ{P:Program}(T:bj P){U:Nat->Prop}{H:aK}{F:Nat->Prop}{w:World}{ρ:Nat->Value}{n:Nat}{ob:Nat->Option (Nat×Th)}{rd:Operand->Option aF}(gJ:∀x d,rd x=aa d->aE H F w d (ev ρ x))(hs:aL U H F w ob n){op:Op}{b:Bool}{m:Nat}(h:LW T rd ob op=aa (b,m)){d:Nat}{ty:TypeId}{pos:String}{aft:Array Edge}:
 ∃r:Bool,(m≠0->r=b)/\(execOp (ev ρ) ⟨aa d,op,ty,pos,aft,ae⟩).run P w= .ok (.value (.bool r)) w:=by
 have isn:∀{y:Operand},tT y=af->ev ρ y= .slice ae 0 0:=by
  intro y hy;unfold tT at hy;split at hy
  .rfl
  .cases hy
 have key:∀{k:Lh}{v:Value},OG U H F w ob v k->∀m,(match k with| .read _ l=>l.length=m| .own _ _ _ _ l=>l.length=m|_=>False)->∃A n c,v= .slice A n c/\(m≠0->A.isNone=ah):=by
  intro k v hk m hm
  cases k with
  |read r l=>
   obtain⟨A,cap,hv,_,_,h3⟩:=hk;simp only[ajt,and_true]at hv;refine⟨A,_,cap,hv,λh0=>?_⟩;obtain⟨b,off,es,rfl,_⟩:=h3 0 (by grind);rfl
  |own o s T r l=>
   obtain⟨xs,hx,_⟩:=hk.2.2.2
   rcases hx.2 with⟨rfl,h0⟩|⟨g,o0,cap,cur,rfl,_⟩
   all_goals grind
  |nil=>exact hm.elim
  |view o s r m=>exact hm.elim
  |deep=>exact hm.elim
 unfold LW at h;split at h
 case h_2=>cases h
 rename_i o t x y u;split at h
 case h_3=>cases h
 all_goals
  obtain⟨hy,h⟩:=aV h;split at h
  case h_2=>cases h
  rename_i e hu;have hu:=T.und_ok _ _ hu;split at h
  case h_2=>cases h
  rename_i X hX;split at h
  case h_3=>cases h
  all_goals
   rename_i gW;obtain⟨rfl,rfl⟩:=Prod.mk.inj (aiC h);obtain⟨A,n',c,hv,hA⟩:=key (jr hs gW (gJ _ _ hX)) _ rfl;refine⟨_,λh0=>?_,Fk (by grind) hu hv (isn hy)⟩
   grind
def cU.wJ{st:State}(h:cU G w0 F0 H F w ρ st)(o:Nat):∃H' F',cU G w0 F0 H' F' w ρ (wJ st o)/\cG H F w H' F' w:=by
 unfold Go.Proofs.YtfeahmiobbjklaaGreatDoor.wJ;split
 .rename_i e he;obtain⟨H',F',hp⟩:=E2 h.sat.ob he;have hs:=h.sat.apply (d:=ae) hp;exact⟨H',F',⟨hs,h.glob.lL hp.lL h.sat.ob.gv⟩,cG.y0 hp.lL h.sat.ob.lt h.sat.ob.fj⟩
 .exact⟨H,F,h,cG.refl H F w⟩
def cU.uJ:{os:List Nat}->{st:State}->{H:aK}->{F:Nat->Prop}->cU G w0 F0 H F w ρ st->∃H' F',cU G w0 F0 H' F' w ρ (uJ st os)/\cG H F w H' F' w
 |[],_,H,F,h=>⟨H,F,h,cG.refl H F w⟩
 |o::os,st,H,F,h=>by
  obtain⟨H1,F1,h1,k1⟩:=h.wJ o;obtain⟨H2,F2,h2,k2⟩:=cU.uJ (os:=os) h1;exact⟨H2,F2,h2,k1.trans k2⟩
def cU.po{st:State}(h:cU G w0 F0 H F w ρ st):∃H' F',cU G w0 F0 H' F' w ρ (po st)/\cG H F w H' F' w:=by
 unfold Go.Proofs.YtfeahmiobbjklaaGreatDoor.po;split
 case h_2=>exact⟨H,F,h,cG.refl H F w⟩
 obtain⟨H1,F1,h1,k1⟩:=h.uJ (os:=st.objs.map (·.1));obtain⟨H2,F2,h2,k2⟩:=h1.uJ (os:=st.objs.map (·.1));exact⟨H2,F2,h2,k1.trans k2⟩
def CC{E:Env P}{dst:Option Nat}{op:Op}{ty:TypeId}{pos:String}{aft:Array Edge}{st:State}{k:State->Option R}{q:R}(h:G8 E dst op st k=aa q)(hd:CB nt dst=af)(hh:cU G w0 F0 H F w ρ st)
 (hk:∀c9 H' F' w' c7,k c9=aa q->cU G w0 F0 H' F' w' c7 c9->cG H F w H' F' w'->(∀t,dst≠aa t->c7 t=ρ t)->wpS P nt ops K rest c7 w'):wpS P nt ops K (⟨dst,op,ty,pos,aft,ae⟩::rest) ρ w:=by
 unfold G8 at h;split at h
 case h_2=>cases h
 rename_i be xX;obtain⟨F1,oy,QS⟩:=hh.u9 xX;split at h
 .rename_i b m hn;split at h
  case h_2=>cases h
  rename_i d;obtain⟨r,hr,bD⟩:=LZ E.T (ρ:=ρ) (d:=d) (ty:=ty) (pos:=pos) (aft:=aft) (λx d hx=>tq oy.sat.ob.gl oy.sat.slot x d hx) oy.sat.ob hn
  have hkr:k (State.apply {st with objs:=be} (aa d) {dst:=ec r})=aa q:=by
   split at h
   .cases r with
    |true=>exact R5 h
    |false=>exact R6 h
   .simp_all
  have CD:cE P (UU G w0) H F1 w ρ (find be) st.nxt ⟨aa d,op,ty,pos,aft,ae⟩ {dst:=ec r}:=bP oy.sat.ob bD (aS.ga ..)
  refine vW CD (λd' Bw=>by rw[Bw]at hd;exact hd) λv w' ⟨H',F',hp⟩=>?_
  have hs:=oy.sat.apply (d:=aa d) hp
  refine hk _ H' F' w' _ hkr ⟨hs,oy.glob.lL hp.lL oy.sat.ob.gv⟩ (QS.trans (cG.y0 hp.lL oy.sat.ob.lt oy.sat.ob.fj)) λt ht=>?_
  show Eg ρ d v t=ρ t
  grind [oO]
 split at h
 .rename_i x Y2;split at h
  case h_2=>cases h
  rename_i d;split at h
  case h_2=>cases h
  rename_i X hX
  have q7:op= .next x ah:=by
   unfold LY at Y2;split at Y2
   .grind
   .cases Y2
  subst q7;obtain⟨e,he,CD⟩:=Lz (ρ:=ρ) (d:=d) (ty:=ty) (pos:=pos) (aft:=aft) (P:=P) (U:=UU G w0) h oy.sat.ob (tq oy.sat.ob.gl oy.sat.slot _ _ hX)
  refine vW CD (λd' Bw=>by rw[Bw]at hd;exact hd) λv w' ⟨H',F',hp⟩=>?_
  have hs:=oy.sat.apply (d:=aa d) hp
  refine hk _ H' F' w' _ he ⟨hs,oy.glob.lL hp.lL oy.sat.ob.gv⟩ (QS.trans (cG.y0 hp.lL oy.sat.ob.lt oy.sat.ob.fj)) λt ht=>?_
  show Eg ρ d v t=ρ t
  grind [oO]
 obtain⟨By,h'⟩:=aV h;clear h;obtain⟨e,he,CD⟩:=LV (ρ:=ρ) (ty:=ty) (pos:=pos) (aft:=aft) E (λx d hx=>tq oy.sat.ob.gl oy.sat.slot x d hx) (λhn c hc=>by subst hn;subst hc;exact By) h' oy.sat.ob
 refine vW CD (λd Bw=>by rw[Bw]at hd;exact hd) λv w' ⟨H',F',hp⟩=>?_
 have hs:=oy.sat.apply (d:=dst) hp
 refine hk _ H' F' w' _ he ⟨hs,oy.glob.lL hp.lL oy.sat.ob.gv⟩ (QS.trans (cG.y0 hp.lL oy.sat.ob.lt oy.sat.ob.fj)) λt ht=>?_
 cases dst with
 |none=>rfl
 |some d=>
  show Eg ρ d v t=ρ t
  grind [oO]
def L1{E:Env P}{dst:Option Nat}{op:Op}{ty:TypeId}{pos:String}{aft:Array Edge}{st:State}{k:State->Option R}{q:R}(h:wK E dst op st k=aa q)(hd:CB nt dst=af)(hh:cU G w0 F0 H F w ρ st)
 (hk:∀c9 H' F' w' c7,k c9=aa q->cU G w0 F0 H' F' w' c7 c9->cG H F w H' F' w'->(∀t,dst≠aa t->c7 t=ρ t)->wpS P nt ops K rest c7 w'):wpS P nt ops K (⟨dst,op,ty,pos,aft,ae⟩::rest) ρ w:=by
 unfold wK at h;split at h
 .obtain⟨H1,F1,h1,k1⟩:=hh.po
  exact CC h hd h1 λc9 H' F' w' c7 a b c d=>hk c9 H' F' w' c7 a b (k1.trans c) d
 .exact CC h hd hh hk
def cU.put{st:State}{dst:Option Nat}{d:aF}{v:Value}(h:cU G w0 F0 H F w ρ st)(hd:aE H F w d v):cU G w0 F0 H F w (vb ρ dst v) (st.put dst d):=by
 refine⟨⟨λt q hq=>?_,?_,by cases dst<;>exact h.sat.all⟩,h.glob⟩
 .cases dst with
  |none=>exact h.sat.slot t q hq
  |some s=>
   have zZ:find ((s,d)::st.aG) t=aa q:=hq;rw[bd]at zZ
   show aE H F w q (Eg ρ s v t)
   rw[oO];by_cases e:s=t
   .grind
   .rw[aj e]at zZ;rw[aj (Ne.symm e)];exact h.sat.slot t q zZ
 .cases dst<;>exact h.sat.ob
def cU.lit{st:State}{g:Nat}{d:aF}(h:cU G w0 F0 H F w ρ st)(hd:aE H F w d (ρ g)):cU G w0 F0 H F w ρ (st.put (aa g) d):=by
 refine⟨⟨λt q hq=>?_,h.sat.ob,h.sat.all⟩,h.glob⟩;have zZ:find ((g,d)::st.aG) t=aa q:=hq;rw[bd]at zZ;split at zZ
 .grind
 .exact h.sat.slot t q zZ
def sH(ρ:Nat->Value)(kn:List (Nat×Bool)):Prop:=∀g b,find kn g=aa b->ρ g= .bool b
theorem sH.del{c7:Nat->Value}{dst:Option Nat}{kn:List (Nat×Bool)}(h:sH ρ kn)(R7:∀t,dst≠aa t->c7 t=ρ t):sH c7 (wL dst kn):=by
 intro g b hg
 cases dst with
 |none=>rw[R7 g (by simp)];exact h g b hg
 |some d=>
  obtain⟨h1,h2⟩:=iP.1 hg;rw[R7 g (λe=>h1 (by simp[aiC e]))];exact h g b h2
def sH.cons{kn:List (Nat×Bool)}{g:Nat}{b:Bool}(h:sH ρ kn)(hb:ρ g= .bool b):sH ρ ((g,b)::kn):=by
 intro g' b' hg;rw[bd]at hg;split at hg
 .grind
 .exact h g' b' hg
def qN{dst:Option Nat}{v:Value}{t:Nat}(h:dst≠aa t):vb ρ dst v t=ρ t:=by
 cases dst with
 |none=>rfl
 |some d=>
  show Eg ρ d v t=ρ t
  grind [oO]
def Av{E:Env P}{q:R}:{l:List Oper}->{kn:List (Nat×Bool)}->{st:State}->{k:State->Option R}->{H:aK}->{F:Nat->Prop}->{w:World}->{ρ:Nat->Value}->runs E nt ops l kn st k=aa q->sH ρ kn->cU G w0 F0 H F w ρ st->
 (∀c9 H' F' w' c7,k c9=aa q->cU G w0 F0 H' F' w' c7 c9->cG H F w H' F' w'->(∀t,(∀o∈l,o.dst≠aa t)->c7 t=ρ t)->K c7 w')->wpS P nt ops K l ρ w
 |[],kn,st,k,H,F,w,ρ,h,_,hh,hk=>Ov (hk st H F w ρ h hh (cG.refl H F w) λ_ _=>rfl)
 |o::l,kn,st,k,H,F,w,ρ,h,CE,hh,hk=>by
  unfold runs at h;obtain⟨hd,h'⟩:=aV h;clear h
  have Y3:∀d,o.dst=aa d->aja d nt=af:=λd e=>by rw[e]at hd;exact hd
  have on:∀{st1:State}{R8:List (Nat×Bool)},wK E o.dst o.op st1 (λc9=>runs E nt ops l (wL o.dst R8) c9 k)=aa q->sH ρ R8->cU G w0 F0 H F w ρ st1->wpS P nt ops K (⟨o.dst,o.op,o.type,o.pos,o.after,ae⟩::l) ρ w:=by
   intro st1 R8 hs L2 oy
   refine L1 hs hd oy λc9 H' F' w' c7 e1 e2 e3 e4=>?_
   refine Av e1 (L2.del e4) e2 λst2 H2 F2 w2 Y4 f1 f2 f3 f4=>?_
   exact hk st2 H2 F2 w2 Y4 f1 f2 (e3.trans f3) (by grind)
  have off:∀{st1:State}{R8:List (Nat×Bool)},runs E nt ops l (wL o.dst R8) (st1.put o.dst .undef) k=aa q->sH ρ R8->cU G w0 F0 H F w ρ st1->wpS P nt ops K l (vb ρ o.dst undef) w:=by
   intro st1 R8 hs L2 oy
   refine Av hs (L2.del λt ht=>qN ht) (oy.put rfl) λst2 H2 F2 w2 Y4 f1 f2 f3 f4=>?_
   exact hk st2 H2 F2 w2 Y4 f1 f2 f3 λt ht=>(f4 t λo' mf=>ht o' (by simp[mf])).trans (qN (ht o (by simp)))
  obtain⟨dst,op,ty,pos,aft,guard⟩:=o;simp only at h' on off Y3;split at h'
  .grind
  .rename_i j b;split at h'
   case h_1=>cases h'
   rename_i g QT;obtain⟨QU,h⟩:=aV h';clear h'
   have wOn:ρ g= .bool b->wpS P nt ops K (⟨dst,op,ty,pos,aft,ae⟩::l) ρ w->wpS P nt ops K (⟨dst,op,ty,pos,aft,aa (j,b)⟩::l) ρ w:=λhb hw=>Rr g QT QU hb hw
   have aeo:∀b',ρ g= .bool b'->b'≠b->wpS P nt ops K l (vb ρ dst undef) w->wpS P nt ops K (⟨dst,op,ty,pos,aft,aa (j,b)⟩::l) ρ w:=λb' hb dA hw=>by
    cases dst with
    |none=>exact zT g QT QU hb dA hw
    |some d=>exact Ow g QT QU hb dA (Y3 d rfl) hw
   split at h
   .rename_i v hv;have hgv:=CE g v hv
    grind
   .split at h
    .rename_i hu;have hgu:ρ g=undef:=hh.sat.slot _ _ hu
     cases dst with
     |none=>exact xN g QT QU hgu (off h CE hh)
     |some d=>exact KE g QT QU hgu (Y3 d rfl) (off h CE hh)
    .rename_i d Bw;split at h
     case h_2=>cases h
     rename_i t ht;have hgt:=oe ht (hh.sat.slot _ _ Bw);split at h
     .rename_i Pk;subst Pk;have oy:cU G w0 F0 H F w ρ (st.put (aa g) (ec af)):=hh.lit (by rw[hgt];exact aS.ga ..);have L2:=CE.cons hgt
      grind
     .rename_i Pk
      have Pk:t=ah:=by cases t<;>simp_all
      subst Pk;have oy:cU G w0 F0 H F w ρ (st.put (aa g) (ec ah)):=hh.lit (by rw[hgt];exact aS.ga ..);have L2:=CE.cons hgt
      grind
    .cases h
end
end
end Go.Proofs.YtfeahmiobbjklaaGreatDoor
section
open _root_.Bool renaming false->ah,true->af,cond_eq_ite->ai2
open _root_.Option renaming none->ae,some->aa,bind_assoc->aka,isSome_iff_exists->ajb
open _root_.Array renaming getElem?_eq_getElem->aiW,getElem?_eq_some_iff->ajc
open _root_.List renaming mem_cons->ai7,mem_singleton->aiZ
open _root_.Nat renaming beq->aiJ,blt->aja,zero_add->aje
open _root_.Option.some renaming inj->aiC
open _root_.Go.Region renaming binds->ajW
namespace Go.Proofs.YtfeahmiobbjklaaGreatDoor
open Go Go.RowKit
section
variable {P:Program} {R:Type} {ob:Nat->Option (Nat×Th)} {n:Nat} (k:ed->Option R)
def wM{rd:Operand->Option aF}{fn:Fn}{first caps:Array Operand}:mO rd fn first caps k=(mO rd fn first caps aa).bind k:=by
 unfold mO
 grind
def Aw(T:bj P){m:Nat}{e:TypeId}{D:aF}{i:Int}:qx T m e D i k=(qx T m e D i aa).bind k:=by
 unfold qx;simp only[ai2]
 repeat' first|rfl|(rw[aka];rfl)|split
def Ax(T:bj P){t:TypeId}{D:aF}{i:Int}:qD T ob t D i k=(qD T ob t D i aa).bind k:=by
 unfold qD;simp only[ai2]
 repeat' first|rfl|(rw[aka];rfl)|split
def CF(T:bj P){t:TypeId}{D:aF}{i:Int}:tt T ob t D i k=(tt T ob t D i aa).bind k:=by
 unfold tt;simp only[ai2]
 repeat' first|rfl|exact Aw k T|(rw[aka];rfl)|split
theorem Fl(T:bj P){t:TypeId}{D:aF}:yy T ob t D k=(yy T ob t D aa).bind k:=by
 unfold yy;simp only[ai2]
 repeat' first|rfl|split|grind
theorem CG(T:bj P){t:TypeId}{D V:aF}:tv T ob n t D V k=(tv T ob n t D V aa).bind k:=by
 unfold tv;simp only[ai2]
 repeat' first|rfl|split|grind|(rw[aka];congr 1;funext x;repeat' first|rfl|split)
theorem CH(T:bj P){t:TypeId}{D:aF}:rE T ob n t D k=(rE T ob n t D aa).bind k:=by
 unfold rE;simp only[ai2]
 repeat' first|rfl|split|grind
def CI(T:bj P){t:TypeId}{D:aF}:pK T ob n t D k=(pK T ob n t D aa).bind k:=by
 unfold pK
 grind [CH,Fl]
theorem Ay(T:bj P){t:TypeId}{D V:aF}:qF T ob n t D V k=(qF T ob n t D V aa).bind k:=by
 unfold qF;simp only[ai2]
 repeat' first|rfl|split|grind
def Az(T:bj P){t:TypeId}{D V:aF}:qI T ob n t D V k=(qI T ob n t D V aa).bind k:=by
 unfold qI
 grind [Ay,CG]
theorem yb{e:TypeId}{dr:DR}{ds:List aF}:pJ e dr ob n ds k=(pJ e dr ob n ds aa).bind k:=by
 grind [pJ]
def CJ(T:bj P){t:TypeId}:tw T n t k=(tw T n t aa).bind k:=by
 grind [tw]
def I4{t:TypeId}{V:aF}:Iz n t V k=(Iz n t V aa).bind k:=by
 unfold Iz
 grind
theorem wN(T:bj P){t:TypeId}{s:Bool}{a b:Int}:v8 T n t s a b k=(v8 T n t s a b aa).bind k:=by
 grind [v8]
def CK(T:bj P){b:Bool}{t:TypeId}{s:Bool}{x y:Int}:wv b T n t s x y k=(wv b T n t s x y aa).bind k:=by
 unfold wv;split
 .unfold Aj
  grind [wN]
 .exact wN k T
def AA(T:bj P){t:TypeId}{X Y:aF}:qA T ob n t X Y k=(qA T ob n t X Y aa).bind k:=by
 unfold qA;simp only[ai2]
 repeat' first|rfl|split|grind
def tU(T:bj P){rd:Operand->Option aF}{t:TypeId}{m:Nat}{ps:Array (Nat×Operand)}:kz T rd ob n t m ps k=(kz T rd ob n t m ps aa).bind k:=by
 unfold kz;simp only[ai2]
 repeat' first|rfl|split
def AB{b:Bool}(T:bj P){rd:Operand->Option aF}{t:TypeId}{m:Nat}{ps:Array (Nat×Operand)}:vD b T rd ob n t m ps k=(vD b T rd ob n t m ps aa).bind k:=by
 cases b with
 |false=>exact tU k T
 |true=>
  show qH T rd ob n t m ps k=(qH T rd ob n t m ps aa).bind k
  grind [qH,yb]
def CL(T:bj P){rd:Operand->Option aF}{t:TypeId}{ps:Array (Nat×Operand)}:tA T rd t ps k=(tA T rd t ps aa).bind k:=by
 unfold tA;simp only[ai2]
 repeat' first|rfl|split
def CM(dr:Bool)(T:bj P){rd:Operand->Option aF}{t:TypeId}{D:aF}{lo hi:Option Operand}:tB dr T rd ob n t D lo hi k=(tB dr T rd ob n t D lo hi aa).bind k:=by
 unfold tB;simp only[ai2]
 repeat' first|rfl|split|grind
def I5(T:bj P){o:BinOp}{t:TypeId}{lit:Bool}{X Y:aF}:IF T ob o t lit X Y k=(IF T ob o t lit X Y aa).bind k:=by
 unfold IF;simp only[ai2]
 repeat' first|rfl|split|grind
def vg(T:bj P){t:TypeId}{M X Y:aF}:lE T ob n t M X Y k=(lE T ob n t M X Y aa).bind k:=by
 unfold lE;simp only[ai2]
 repeat' first|rfl|split
def yc(T:bj P){t:TypeId}:ol T n t k=(ol T n t aa).bind k:=by
 unfold ol
 repeat' first|rfl|split
def AD(T:bj P){t:TypeId}{ok:Bool}{M X:aF}:qC T ob t ok M X k=(qC T ob t ok M X aa).bind k:=by
 unfold qC;simp only[ai2]
 repeat' first|rfl|split
def yd(T:bj P){t:TypeId}{X Y:aF}:ot T ob n t X Y k=(ot T ob n t X Y aa).bind k:=by
 unfold ot
 cases LC ob Y with
 |false=>exact AA k T
 |true=>
  simp only[cond_true];unfold sB;simp only[ai2]
  repeat' first|rfl|split|grind
def tV(T:bj P){t:TypeId}{M X Y:aF}:kA T ob n t M X Y k=(kA T ob n t M X Y aa).bind k:=by
 unfold kA;simp only[ai2]
 repeat' first|rfl|exact vg k _|split
def wO(b:Bool)(T:bj P){t:TypeId}:mN b T n t k=(mN b T n t aa).bind k:=by
 unfold mN;simp only[ai2]
 repeat' first|rfl|exact yc k _|split
def ye(T:bj P){t:TypeId}{ok:Bool}{M X:aF}:oo T ob n t ok M X k=(oo T ob n t ok M X aa).bind k:=by
 unfold oo;simp only[ai2]
 repeat' first|rfl|exact AD k _|split
theorem CN{sg:pj}{bs:Bs}{be:List (Nat×(Nat×Th))}{nd:List Nat}{y:dj sg.out.rows}:tS sg n bs be nd y k=(tS sg n bs be nd y aa).bind k:=by
 grind [tS]
theorem pQ{objs:List (Nat×(Nat×Th))}{f:FuncId}{ds:List aF}:{tab:List (Nat×pj)}->oR objs n f ds k tab=(oR objs n f ds aa tab).bind k
 |[]=>rfl
 |(g,sg)::tab=>by
  unfold oR;have ih:=pQ (objs:=objs) (f:=f) (ds:=ds) (tab:=tab)
  grind [CN]
def Fp{tab:List (Nat×pj)}{rd:Operand->Option aF}{objs:List (Nat×(Nat×Th))}{g:Operand}{args:List Operand}:yV tab rd objs n g args k=(yV tab rd objs n g args aa).bind k:=by
 grind [yV,pQ]
def AE(T:bj P){tab:List (Nat×pj)}{rd:Operand->Option aF}{objs:List (Nat×(Nat×Th))}{g:Operand}{name:String}{args:List Operand}:qM T tab rd objs n g name args k=(qM T tab rd objs n g name args aa).bind k:=by
 unfold qM
 repeat' first|rfl|exact pQ k|split
def CO(T:bj P){t:TypeId}{M:aF}:tI T ob n t M k=(tI T ob n t M aa).bind k:=by
 grind [tI]
def I6(T:bj P){t:TypeId}{D:aF}:I0 T t D k=(I0 T t D aa).bind k:=by
 grind [I0]
def AF(T:bj P){t:TypeId}{ok:Bool}{D:aF}:qL T t ok D k=(qL T t ok D aa).bind k:=by
 unfold qL
 grind
def AG(T:bj P){t:TypeId}{M X:aF}:qB T ob n t M X k=(qB T ob n t M X aa).bind k:=by
 grind [qB]
def Fq(E:Env P){rd:Operand->Option aF}{objs:List (Nat×(Nat×Th))}{c:Callee}{args:Array Operand}{uH:Array TypeId}:ox E rd objs n c args uH k=(ox E rd objs n c args uH aa).bind k:=by
 unfold ox;simp only[ai2]
 repeat' first|rfl|exact yd k _|exact AG k _|exact Fp k|exact AE k _|split
def L3(E:Env P){rd:Operand->Option aF}{objs:List (Nat×(Nat×Th))}{dst:Option Nat}{op:Op}:Pg E rd objs n dst op k=(Pg E rd objs n dst op aa).bind k:=by
 unfold Pg
 repeat' first|rfl|exact Az k _|exact tV k _|exact wO k _ _|exact ye k _|exact CO k _|exact I6 k _|exact AF k _|exact Fq k _|exact CJ k _|exact I4 k|exact CL k _|exact AB k _|exact CI k _|exact I5 k _|exact CK k _|exact CM k _ _|exact CF k _|exact Ax k _|exact wM k|split
end
def jB{α:Type}(ns:List Nat):List (Nat×α)->List (Nat×α)
 |[]=>[]
 |(m,a)::l=>bif oQ m ns then(m,a)::jB ns l else jB ns l
def za{α:Type}{ns:List Nat}{l:List (Nat×α)}{n:Nat}{a:α}:find (jB ns l) n=aa a↔n∈ns/\find l n=aa a:=by
 induction l with
 |nil=>simp[jB,find]
 |cons p l ih=>
  grind [jB,fQ,bd]
def tmpsOf:List Operand->List Nat
 |[]=>[]
 | .tmp t::l=>t::tmpsOf l
 |_::l=>tmpsOf l
def QV:List (Bool×Tree)->List Nat
 |[]=>[]
 |p::l=>p.2.owns++QV l
def Vj:aF->List Nat
 | .val _ t=>t.owns
 | .ptr o _ _=>[o]
 | .elem o .. =>[o]
 | .dlm o .. =>[o]
 | .tup ds=>QV ds
 | .fn _ caps=>caps.map (·.1)
 | .ifc _ d=>Vj d
 |_=>[]
def L4(aG:List (Nat×aF)):List Nat->List Nat
 |[]=>[]
 |t::l=>(match find aG t with
  |some d=>Vj d
  |none=>[])++L4 aG l
def within(objs:List (Nat×(Nat×Th))):List Nat->List Nat
 |[]=>[]
 |o::l=>(match find objs o with
  |some (_, .box _ t)=>t.owns
  |_=>[])++within objs l
def Pm(aG:List (Nat×aF))(objs:List (Nat×(Nat×Th)))(ts:List Nat):List Nat:=
 (λl=>l++within objs l) (L4 aG ts)
def zb(be:List (Nat×(Nat×Th)))(nd:List Nat)(e:ed):ed:=
 {dst:=e.dst,eat:=nd++e.eat,make:=e.make++del e.eat (pn be nd)}
section
variable {U:Nat->Prop} {H:aK} {F:Nat->Prop} {w:World} {n:Nat}
def I7{obj be:List (Nat×(Nat×Th))}{nd:List Nat}{e:ed}{v:Value}{w':World}{F1:Nat->Prop}(xX:gf obj nd=aa be)(vE:aL U H F1 w (find be) n)(Ev:∀b,F b->F1 b)(Oj:∀b,F1 b->F b\/cx H (find obj) nd b)
 (h:mz H F1 w (find be) n e v w'):mz H F w (find obj) n (zb be nd e) v w':=by
 obtain⟨H',F',hp⟩:=h
 have ke:∀k,cx H (find be) e.eat k->cx H (find obj) (nd++e.eat) k:=by
  rintro k ⟨o,ho,s,t,u,h1,h2,h3⟩
  rcases kB xX o s t h1 with h4|h4
  .exact⟨o,by simp[ho],s,t,u,h4,h2,h3⟩
  .exact(ig h4 h3).elim
 have part:∀o s t,find (e.make++del e.eat (pn be nd)) o=aa (s,t)->find e.make o=aa (s,t)\/(o∉e.eat/\o∈nd/\find be o=aa (s,t)/\fE t=af):=by
  intro o s t ho;rw[iO]at ho
  cases hm:find e.make o with
  |some x=>grind
  |none=>
   grind [iP,mU]
 refine⟨H',F',⟨hp.lL.gN,⟨hp.lL.ext.os,hp.lL.ext.tape,hp.lL.ext.output,hp.lL.ext.size,λk hk hn=>hp.lL.ext.block k hk λhh=>hn (ke k hh)⟩,λb hb=>hp.lL.le b (Ev b hb),λb hb=>?_,hp.lL.lt⟩,hp.fresh,hp.dst,⟨λo s t ho=>?_,λo o' s s' t t' v v' dA ho mf hv eR k hk kG=>?_⟩,λo ho=>?_⟩
 .rcases hp.lL.grow b hb with h1|h1|h1
  .rcases Oj b h1 with h2|⟨o,ho,rest⟩
   .exact .inl h2
   .exact .inr (.inr ⟨o,by simp[zb,ho],rest⟩)
  .grind
  .exact .inr (.inr (ke b h1))
 .rcases part o s t ho with h1|⟨h1,h2,h3,h4⟩
  .obtain⟨u,a1,a2,a3,a4,a5⟩:=hp.made.obj o s t h1;exact⟨u,a1,a2,a3,a4,λk hk=>⟨(a5 k hk).1,(a5 k hk).2.1,(a5 k hk).2.2.imp id (ke k)⟩⟩
  .obtain⟨u,hu,cL⟩:=vE.obj _ _ _ h3;have:=cL.lL vE hp.lL h3 h1 hu;exact⟨u,hp.lL.gN.val _ _ hu,this.one,this.con,this.ok,λk hk=>(ig h4 hk).elim⟩
 .rcases part o s t ho with h1|⟨_,_,_,h4⟩
  .rcases part o' s' t' mf with h2|⟨_,_,_,h4'⟩
   .exact hp.made.apart o o' s s' t t' v v' dA h1 h2 hv eR k hk kG
   .exact ig h4' kG
  .exact ig h4 hk
 .obtain⟨x,hx⟩:=ajb.1 ho
  rcases part o x.1 x.2 hx with h1|⟨_,h2,_⟩
  .exact(hp.ids o (by rw[h1];rfl)).imp (λh=>by simp[zb,h]) id
  .exact .inl (by simp[zb,h2])
end
def iy(x y:Nat×Th):Prop:=x=y\/∃T d l h h',x.2= .deep T d l h/\y.2= .deep T d l h'
def iy.symm{x y:Nat×Th}(h:iy x y):iy y x:=by
 rcases h with rfl|⟨T,d,l,h,h',h1,h2⟩
 .exact .inl rfl
 .exact .inr ⟨T,d,l,h',h,h2,h1⟩
def iy.trans{x y z:Nat×Th}(h:iy x y)(h':iy y z):iy x z:=by
 rcases h with rfl|⟨T,d,l,a,b,h1,h2⟩
 .exact h'
 .rcases h' with rfl|⟨T',d',l',a',b',h3,h4⟩
  .exact .inr ⟨T,d,l,a,b,h1,h2⟩
  .rw[h2]at h3;cases h3;exact .inr ⟨T,d,l,a,b',h1,h4⟩
structure lN where
 dst:Option Nat
 ts:List Nat
 os:List Nat
 e:ed
 ls:List Nat:=[]
 soft:List Nat:=[]
def uK:List (Nat×(Nat×Th))->List Nat
 |[]=>[]
 |(o,_)::l=>o::uK l
def lN.mut(x:lN):List Nat:=x.e.eat++uK x.e.make
def Fs:Op->Bool
 | .call c=>match c.callee with
   | .builtin .len=>af
   |_=>ah
 |_=>ah
def QW(rd:Operand->Option aF):Op->List Nat
 | .load _ x=>match rd x with
   |some (.dlm o _ _ _ _)=>[o]
   |_=>[]
 |_=>[]
def hZ(st:State)(op:Op):List Nat:=
 match op with
 | .move _=>[]
 | .assign _=>[]
 | .extract _ _=>[]
 | .fieldAddr _ _ _=>[]
 | .load _ _=>L4 st.aG (tmpsOf op.operands.toList)
 |_=>Pm st.aG st.objs (tmpsOf op.operands.toList)
noncomputable def zc{R:Type}{P:Program}(E:Env P)(dst:Option Nat)(op:Op)(gs:List Nat)(st:State)(k:ed->lN->Option R):Option R:=
 match gf (jB (hZ st op) st.objs) (rK E (Ip (jB (tmpsOf op.operands.toList) st.aG)) (jB (hZ st op) st.objs) op)with
 |some be=>bif fnB dst op then Pg E (Ip (jB (tmpsOf op.operands.toList) st.aG)) be st.nxt dst op (λe=>
   (λe'=>k e' {dst:=dst,ts:=tmpsOf op.operands.toList++gs,os:=bif Fs op then[]else hZ st op,e:=e',ls:=bif Fs op then hZ st op else[],soft:=QW (Ip (jB (tmpsOf op.operands.toList) st.aG)) op}) (zb be (rK E (Ip (jB (tmpsOf op.operands.toList) st.aG)) (jB (hZ st op) st.objs) op) e))else ae
 |none=>ae
structure QX(P:Program)(U:Nat->Prop)(o:Oper)(sl:Nat->Option aF)(ob:Nat->Option (Nat×Th))(n:Nat)(Ha:lN):Prop where
 dst:Ha.dst=o.dst
 run:∃(Y5:Nat->Option aF)(Od:Nat->Option (Nat×Th)),(∀t d,Y5 t=aa d->t∈Ha.ts/\sl t=aa d)/\(∀q x,Od q=aa x->(q∈Ha.os\/q∈Ha.ls)/\ob q=aa x)/\
  ∀(H:aK)(F:Nat->Prop)(w:World)(ρ:Nat->Value)(I8:Nat->Option (Nat×Th)),(∀q x,Od q=aa x->∃x',I8 q=aa x'/\iy x x'/\(q∈Ha.os->x'=x))->(∀t d,Y5 t=aa d->aE H F w d (ρ t))->aL U H F w I8 n->
   ∃Y6:Nat->Option (Nat×Th),(∀q x,Y6 q=aa x->I8 q=aa x)/\ct P ρ ⟨o.dst,o.op,o.type,o.pos,o.after,ae⟩ w (mz H F w Y6 n Ha.e)
 soft:∀q∈Ha.soft,q∈Ha.mut->∃x y,ob q=aa x/\find Ha.e.make q=aa y/\iy x y
def I9{ob Lc:Nat->Option (Nat×Th)}{D:aF}{k:Lh}(Um:∀q x,ob q=aa x->∃x',Lc q=aa x'/\iy x x')(h:vc ob D=aa k):∃k',vc Lc D=aa k'/\uA k'=uA k:=by
 unfold vc at h;split at h
 .cases h;exact⟨_,rfl,rfl⟩
 .cases h;exact⟨_,rfl,rfl⟩
 .rename_i o
  cases ho:ob o with
  |none=>grind
  |some x=>
   obtain⟨s,t⟩:=x;obtain⟨⟨s',t'⟩,h1,h2⟩:=Um o _ ho;rw[ho]at h
   rcases h2 with e|⟨T,d,l,a,b,e1,e2⟩
   .cases e;exact⟨k,by show(match Lc o with|some (s, .own T r l)=>_|some (_, .u9 _ r l)=>_|some (_, .fdeep _ d l)=>_|some (s, .deep T d l h)=>_|_=>_)=_;grind,rfl⟩
   .simp only at e1 e2;subst e1 e2;cases h;exact⟨.deep o s' T d l b,by show(match Lc o with|some (s, .own T r l)=>_|some (_, .u9 _ r l)=>_|some (_, .fdeep _ d l)=>_|some (s, .deep T d l h)=>_|_=>_)=_;rw[h1],rfl⟩
 .rename_i o s r m
  have hk:uA k=(m.length:Int):=by
   split at h
   .rename_i s' _ _ _ _
    cases hb:aiJ s' s<;>rw[hb]at h<;>cases h<;>rfl
   .cases h;rfl
  rw[hk]
  show∃k',(match Lc o with|some (s', .u9 ..)=>bif aiJ s' s then aa (Lh.read r m)else aa (.view o s r m)|_=>aa (.view o s r m))=aa k'/\uA k'=_
  split
  .rename_i s' _ _ _ _
   cases hb:aiJ s' s with
   |true=>exact⟨Lh.read r m,rfl,rfl⟩
   |false=>exact⟨Lh.view o s r m,rfl,rfl⟩
  .exact⟨Lh.view o s r m,rfl,rfl⟩
 .cases h
def Ja{P:Program}(T:bj P){ob Lc:Nat->Option (Nat×Th)}{t:TypeId}{D D':aF}(Um:∀q x,ob q=aa x->∃x',Lc q=aa x'/\iy x x')(h:IA T ob t D=aa D'):IA T Lc t D=aa D':=by
 unfold IA at h⊢;split at h
 .split at h
  case h_2=>cases h
  rename_i k hk;obtain⟨k',h1,h2⟩:=I9 Um hk
  grind
 all_goals grind
def Jb{P:Program}(T:bj P){ob:Nat->Option (Nat×Th)}{n:Nat}{t:TypeId}{o:Nat}{d:DR}{i:Int}{p:List Bool}{off:Nat}{e:ed}(h:pK T ob n t (.dlm o d i p off) aa=aa e)(hm:o∈e.eat++uK e.make):
 ∃x y,ob o=aa x/\find e.make o=aa y/\iy x y:=by
 unfold pK rE at h;simp only at h;split at h
 .cases h
 split at h
 case h_2=>cases h
 rename_i s T0 dr l hh ho;obtain⟨_,h⟩:=aV h;split at h
 .obtain⟨_,h⟩:=aV h;obtain⟨_,_,h⟩:=bind_some h;cases h;simp[uK]at hm
 .obtain⟨_,h⟩:=aV h;split at h
  .obtain⟨_,_,h⟩:=bind_some h;cases h;exact⟨_,(n, .deep T0 dr l _),ho,by rw[bd,al rfl], .inr ⟨T0,dr,l,ae,_,rfl,rfl⟩⟩
  .obtain⟨_,h⟩:=aV h;split at h
   .obtain⟨_,_,h⟩:=bind_some h;cases h;simp[uK]at hm
   .cases h
 .cases h
def L5{P:Program}{E:Env P}{U:Nat->Prop}{R:Type}{o:Oper}{gs:List Nat}{st:State}{k:ed->lN->Option R}{q:R}(h:zc E o.dst o.op gs st k=aa q):
 ∃e Ha,k e Ha=aa q/\Ha.e=e/\(∀g∈gs,g∈Ha.ts)/\QX P U o (find st.aG) (find st.objs) st.nxt Ha:=by
 unfold zc at h;split at h
 case h_2=>cases h
 rename_i be xX;obtain⟨By,h'⟩:=aV h;clear h;rw[L3]at h';obtain⟨e,he,hk⟩:=bind_some h'
 have Vk:∀t d,find (jB (tmpsOf o.op.operands.toList) st.aG) t=aa d->t∈tmpsOf o.op.operands.toList/\find st.aG t=aa d:=λt d ht=>za.1 ht
 have Pn:∀q x,find (jB (hZ st o.op) st.objs) q=aa x->q∈hZ st o.op/\find st.objs q=aa x:=λq x hx=>za.1 hx
 refine⟨_,_,hk,rfl,λg hg=>by simp[hg],rfl,⟨find (jB (tmpsOf o.op.operands.toList) st.aG),find (jB (hZ st o.op) st.objs),(by grind),λq x hx=>⟨?_,(Pn q x hx).2⟩,λH F w ρ I8 Um gW cM=>?_⟩,λq hq hm=>?_⟩
 .grind
 .cases hl:Fs o.op with
  |false=>
   simp only[hl,cond_false]at Um
   have iS:∀q x,find (jB (hZ st o.op) st.objs) q=aa x->I8 q=aa x:=(by grind)
   have vf:aL U H F w (find (jB (hZ st o.op) st.objs)) st.nxt:=⟨λo s t ho=>cM.obj o s t (iS _ _ ho),λo o' s s' t t' v v' dA ho mf=>cM.apart o o' s s' t t' v v' dA (iS _ _ ho) (iS _ _ mf),cM.fresh,cM.lt,cM.new,cM.gl⟩
   refine⟨_,iS,?_⟩;obtain⟨F1,vE,Ev,Oj⟩:=ou xX vf
   have iq:Step F w F1 w:=λb hb=>⟨Ev b hb,rfl⟩
   obtain⟨e',vA,hs⟩:=LV (ρ:=ρ) (ty:=o.type) (pos:=o.pos) (aft:=o.after) E (λx d hx=>tq vE.gl (λt d ht=>(gW t d ht).keep (aK.le.refl H) iq) x d hx) (λhn c hc=>by rw[hn,hc]at By;exact By) he vE;obtain rfl:=aiC vA
   exact hs.mono λv w' hp=>I7 xX vE Ev Oj hp
  |true=>
   refine⟨I8,λ_ _ h=>h,?_⟩;obtain⟨R9,Y7,oty,Y8,Y9,ogd⟩:=o;simp only at*
   cases Y7<;>try(cases hl;done)
   rename_i c;obtain⟨callee,args,uH⟩:=c
   cases callee<;>try(cases hl;done)
   rename_i b
   cases b<;>try(cases hl;done)
   cases R9 with
   |none=>cases By
   |some d=>
    have EV:rK E (Ip (jB (tmpsOf (Op.operands (.call {callee:= .builtin .len,args:=args,argTypes:=uH})).toList) st.aG)) (jB (hZ st (.call {callee:= .builtin .len,args:=args,argTypes:=uH})) st.objs) (.call {callee:= .builtin .len,args:=args,argTypes:=uH})=[]:=by unfold rK;cases E.deep<;>rfl
    rw[EV]at xX⊢;obtain rfl:=aiC xX;have L6:ox E _ _ st.nxt (.builtin .len) args uH aa=aa e:=he;unfold ox at L6;simp only at L6;split at L6
    case h_2=>cases L6
    rename_i x t ha ht;obtain rfl:=dU ha;obtain rfl:=dU ht;split at L6
    case h_2=>cases L6
    rename_i D hD;split at L6
    case h_2=>cases L6
    rename_i D' K7;cases L6;have hlen:=Ja E.T (λq x hx=>by obtain⟨x',h1,h2,_⟩:=Um q x hx;exact⟨x',h1,h2⟩) K7;exact GF E.T hlen cM (tq cM.gl gW _ _ hD)
 .obtain⟨R9,Y7,oty,Y8,Y9,ogd⟩:=o;simp only at*
  cases Y7<;>try(cases hq;done)
  rename_i t x;unfold QW at hq;simp only at hq;split at hq
  case h_2=>cases hq
  rename_i o' d0 i p off gJ;obtain rfl:=aiZ.1 hq
  have EV:rK E (Ip (jB (tmpsOf (Op.operands (.load t x)).toList) st.aG)) (jB (hZ st (.load t x)) st.objs) (.load t x)=[]:=by unfold rK;cases E.deep<;>rfl
  rw[EV]at xX hm⊢;obtain rfl:=aiC xX
  cases R9 with
  |none=>cases he
  |some d=>
   unfold Pg at he;simp only[gJ]at he
   have Jc:q∈e.eat++uK e.make:=by
    simpa[lN.mut,zb,pn,del]using hm
   obtain⟨x1,y1,h1,h2,h3⟩:=Jb E.T he Jc;refine⟨x1,y1,(Pn _ _ h1).2,?_,h3⟩
   show find (e.make++_) q=_
   rw[iO,h2];rfl
end Go.Proofs.YtfeahmiobbjklaaGreatDoor
namespace Go.Proofs.YtfeahmiobbjklaaGreatDoor
open Go Go.RowKit
def yf(acc:List Nat)(i:Nat):List Edge->Option Nat
 |[]=>aa 0
 |e::l=>match yf acc i l with
  |some m=>bif ajW .any e then(bif aja e.on i then aa (m|||2 ^ e.on|||acc.getD e.on 0)else ae)else aa m
  |none=>ae
def Jd(acc:List Nat):List Oper->Option (List Nat)
 |[]=>aa acc
 |o::l=>match yf acc acc.length o.after.toList with
  |some m=>Jd (acc++[m]) l
  |none=>ae
def nQ(d:Option Nat)(l:List Nat):Bool:=
 match d with
 |some t=>oQ t l
 |none=>ah
def CP(l l':List Nat):Bool:=l.any λo=>oQ o l'
def lN.Vm(x:lN):List Nat:=x.mut.filter λo=> !oQ o x.soft
def conflict(a b:lN):Bool:=
 nQ a.dst b.ts||nQ b.dst a.ts||nQ a.dst (b.dst.toList)||CP a.mut (b.os++b.mut)||CP a.Vm b.ls||CP (a.os++a.ls++a.mut) b.mut
def AH(ms:List Nat)(i:Nat)(x:lN):Nat->List lN->Bool
 |_,[]=>af
 |j,y::l=>(bif conflict x y then Nat.testBit (ms.getD j 0) i else af)&&AH ms i x (j+1) l
def vH(ms:List Nat):Nat->List lN->Bool
 |_,[]=>af
 |i,x::l=>AH ms i x (i+1) l&&vH ms (i+1) l
def tW(ops:List Oper)(es:List lN):Bool:=
 match Jd [] ops with
 |some ms=>vH ms 0 es
 |none=>ah
section
variable {ops:Array Oper}
def Ft(ops:Array Oper)(S:Nat->Prop):Prop:=∀i,S i->∀o,ops[i]? =aa o->∀e∈o.after,ajW .any e=af->S e.on
def AI{acc:List Nat}{i:Nat}:{l:List Edge}->{m:Nat}->yf acc i l=aa m->∀j,m.testBit j=af->∃e∈l,ajW .any e=af/\e.on<i/\(e.on=j\/(acc.getD e.on 0).testBit j=af)
 |[],m,h,j,hj=>by
  obtain rfl:=aiC h;simp at hj
 |e::l,m,h,j,hj=>by
  unfold yf at h;split at h
  case h_2=>cases h
  rename_i m0 h0
  cases hb:ajW .any e with
  |false=>
   rw[hb,cond_false]at h;obtain rfl:=aiC h;obtain⟨e',a1,a2⟩:=AI h0 j hj
   grind
  |true=>
   rw[hb,cond_true]at h
   cases aH:aja e.on i with
   |false=>grind
   |true=>
    rw[aH,cond_true]at h;obtain rfl:=aiC h;rw[Nat.testBit_or,Nat.testBit_or,Bool.or_eq_true,Bool.or_eq_true]at hj
    have aer:e.on<i:=by simpa using aH
    rcases hj with(hj|hj)|hj
    .obtain⟨e',a1,a2⟩:=AI h0 j hj
     grind
    all_goals grind
def Hb{acc:List Nat}{i:Nat}:{l:List Edge}->{m:Nat}->yf acc i l=aa m->∀e∈l,ajW .any e=af->e.on<i
 |[],m,h,e,he,_=>by cases he
 |e0::l,m,h,e,he,hb=>by
  unfold yf at h;split at h
  case h_2=>cases h
  rename_i m0 h0
  rcases ai7.1 he with rfl|he
  .rw[hb,cond_true]at h
   cases aH:aja e.on i<;>simp_all
  .exact Hb h0 e he hb
def AJ:{l:List Oper}->{acc ms:List Nat}->Jd acc l=aa ms->ms.length=acc.length+l.length/\(∀i,i<acc.length->ms.getD i 0=acc.getD i 0)/\
 ∀k o,l[k]? =aa o->∃m,yf ms (acc.length+k) o.after.toList=aa m/\ms.getD (acc.length+k) 0=m
 |[],acc,ms,h=>by
  obtain rfl:=aiC h
  grind
 |o0::l,acc,ms,h=>by
  unfold Jd at h;split at h
  case h_2=>cases h
  rename_i m hm;obtain⟨a1,a2,a3⟩:=AJ h;rw[List.length_append,List.length_singleton]at a1 a2 a3
  have Za:∀i,i<acc.length->ms.getD i 0=acc.getD i 0:=(by grind)
  have aes:∀(l:List Edge)(m:Nat),yf acc acc.length l=aa m->yf ms acc.length l=aa m:=by
   intro l
   induction l with
   |nil=>intro m h;exact h
   |cons e l ih=>
    intro m h;unfold yf at h⊢;split at h
    case h_2=>cases h
    rename_i m0 h0;rw[ih m0 h0];simp only
    cases hb:ajW .any e with
    |false=>grind
    |true=>
     rw[hb,cond_true]at h
     cases aH:aja e.on acc.length<;>simp_all
  grind
theorem L7{ms:List Nat}(h:Jd [] ops.toList=aa ms){S:Nat->Prop}(hS:Ft ops S):∀i o,ops[i]? =aa o->(∀e∈o.after,ajW .any e=af->S e.on)->∀j,(ms.getD i 0).testBit j=af->S j:=by
 obtain⟨_,_,a3⟩:=AJ h;intro i
 induction i using Nat.strongRecOn with
 |_ i ih=>
  intro o ho hd j hj;obtain⟨m,h1,h2⟩:=a3 i o (by rw[Array.getElem?_toList];exact ho);simp only[List.length_nil,aje]at h1 h2;rw[h2]at hj;obtain⟨e,he,hb,aH,h3⟩:=AI h1 j hj;have hSe:=hd e (by simpa using he) hb
  rcases h3 with rfl|h3
  .exact hSe
  .have Sa:e.on<ops.size:=by
    have:=(ajc.1 ho).1;omega
   exact ih e.on aH _ (aiW Sa) (λe' vA tj=>hS e.on hSe _ (aiW Sa) e' vA tj) j h3
end
def gK(S:Nat->Bool):Nat->List lN->(Nat->Option aF)->Nat->Option aF
 |_,[],f=>f
 |i,x::l,f=>gK S (i+1) l (λt=>bif S i&&nQ (aa t) x.dst.toList then aa x.e.dst else f t)
def gh(S:Nat->Bool):Nat->List lN->(Nat->Option (Nat×Th))->Nat->Option (Nat×Th)
 |_,[],f=>f
 |i,x::l,f=>gh S (i+1) l (λo=>bif S i then(find x.e.make o).or (bif oQ o x.e.eat then ae else f o)else f o)
theorem qO{l:List (Nat×(Nat×Th))}{o:Nat}{x:Nat×Th}(h:find l o=aa x):o∈uK l:=by
 induction l with
 |nil=>cases h
 |cons p l ih=>
  obtain⟨o',y⟩:=p;rw[bd]at h;split at h
  .rename_i e;subst e;exact List.mem_cons_self
  .exact List.mem_cons_of_mem _ (ih h)
theorem vI{d:Option Nat}{t:Nat}:nQ (aa t) d.toList=af↔d=aa t:=by
 grind [nQ,fQ]
theorem lX{S S':Nat->Bool}{t:Nat}:{l:List lN}->{i:Nat}->{f f':Nat->Option aF}->f t=f' t->(∀k x,l[k]? =aa x->x.dst=aa t->S (i+k)=S' (i+k))->gK S i l f t=gK S' i l f' t
 |[],_,_,_,hf,_=>hf
 |x::l,i,f,f',hf,h=>by
  show gK S (i+1) l _ t=gK S' (i+1) l _ t
  refine lX ?_ λk y hy hd=>by
   have:=h (k+1) y (by simpa using hy) hd
   grind
  by_cases hd:x.dst=aa t
  .have:=h 0 x rfl hd
   grind
  grind [vI]
theorem lF{S S':Nat->Bool}{o:Nat}:{l:List lN}->{i:Nat}->{f f':Nat->Option (Nat×Th)}->f o=f' o->(∀k x,l[k]? =aa x->o∈x.mut->S (i+k)=S' (i+k))->gh S i l f o=gh S' i l f' o
 |[],_,_,_,hf,_=>hf
 |x::l,i,f,f',hf,h=>by
  show gh S (i+1) l _ o=gh S' (i+1) l _ o
  refine lF ?_ λk y hy hd=>by
   have:=h (k+1) y (by simpa using hy) hd
   grind
  by_cases hd:o∈x.mut
  .have:=h 0 x rfl hd
   grind
  .have h1:find x.e.make o=ae:=by
    cases hm:find x.e.make o with
    |none=>rfl
    |some y=>grind [lN.mut,qO]
   have h2:oQ o x.e.eat=ah:=by
    cases hb:oQ o x.e.eat with
    |false=>rfl
    |true=>grind [lN.mut,fQ]
   grind
theorem oS{S:Nat->Bool}{t:Nat}:{l:List lN}->{i:Nat}->{f:Nat->Option aF}->(∀k x,l[k]? =aa x->x.dst=aa t->S (i+k)=ah)->gK S i l f t=f t
 |[],_,_,_=>rfl
 |x::l,i,f,h=>by
  show gK S (i+1) l _ t=_
  rw[oS λk y hy hd=>by
   have:=h (k+1) y (by simpa using hy) hd
   grind]
  by_cases hd:x.dst=aa t
  .have:=h 0 x rfl hd
   grind
  grind [vI]
def oz{S:Nat->Bool}{o:Nat}:{l:List lN}->{i:Nat}->{f:Nat->Option (Nat×Th)}->(∀k x,l[k]? =aa x->o∈x.mut->S (i+k)=ah)->gh S i l f o=f o
 |[],_,_,_=>rfl
 |x::l,i,f,h=>by
  show gh S (i+1) l _ o=_
  rw[oz λk y hy hd=>by
   have:=h (k+1) y (by simpa using hy) hd
   grind]
  by_cases hd:o∈x.mut
  .have:=h 0 x rfl hd
   grind
  .have h1:find x.e.make o=ae:=by
    cases hm:find x.e.make o with
    |none=>rfl
    |some y=>grind [lN.mut,qO]
   have h2:oQ o x.e.eat=ah:=by
    cases hb:oQ o x.e.eat with
    |false=>rfl
    |true=>grind [lN.mut,fQ]
   grind
def oT{S:Nat->Bool}{l l':List lN}{i:Nat}{f:Nat->Option aF}:gK S i (l++l') f=gK S (i+l.length) l' (gK S i l f):=by
 induction l generalizing i f with
 |nil=>rfl
 |cons x l ih=>
  grind [gK]
def kC{S:Nat->Bool}{l l':List lN}{i:Nat}{f:Nat->Option (Nat×Th)}:gh S i (l++l') f=gh S (i+l.length) l' (gh S i l f):=by
 induction l generalizing i f with
 |nil=>rfl
 |cons x l ih=>
  grind [gh]
end Go.Proofs.YtfeahmiobbjklaaGreatDoor
end
section
open _root_.Bool renaming false->ah,true->af,false_eq_true->aiK
open _root_.Option renaming none->ae,some->aa
open _root_.Array renaming getD_eq_getD_getElem?->ai8,getElem?_eq_getElem->aiW,getElem?_eq_some_iff->ajc
open _root_.List renaming drop_eq_getElem_cons->aiN,getElem?_append_left->ajw,getElem?_drop->ai9,getElem?_eq_getElem->aiE,getElem?_eq_some_iff->aiP,getElem_of_mem->aiV,mem_filter->aji,range->aiM,take_append_drop->ajP
open _root_.Nat renaming beq->aiJ,blt->aja,le_refl->aiH,zero_add->aje
open _root_.Option.some renaming inj->aiC
open _root_.Go.Region renaming binds->ajW,wanted->ajQ
namespace Go.Proofs.YtfeahmiobbjklaaGreatDoor
open Go Go.RowKit
def wP{ms:List Nat}{i:Nat}{x:lN}:{l:List lN}->{j:Nat}->AH ms i x j l=af->∀k y,l[k]? =aa y->conflict x y=af->(ms.getD (j+k) 0).testBit i=af
 |[],_,_,k,y,h,_=>by simp at h
 |z::l,j,hl,k,y,h,hc=>by
  obtain⟨h1,h2⟩:=cI hl
  cases k with
  |zero=>
   grind
  |succ k=>
   have:=wP h2 k y (by simpa using h) hc
   grind
def rL{ms:List Nat}:{l:List lN}->{i:Nat}->vH ms i l=af->∀a b x y,a<b->l[a]? =aa x->l[b]? =aa y->conflict x y=af->(ms.getD (i+b) 0).testBit (i+a)=af
 |[],_,_,a,b,x,y,_,h,_,_=>by simp at h
 |z::l,i,hl,a,b,x,y,yD,hx,hy,hc=>by
  obtain⟨h1,h2⟩:=cI hl
  cases a with
  |zero=>
   obtain rfl:z=x:=by simpa using hx
   cases b with
   |zero=>omega
   |succ b=>
    have:=wP h1 b y (by simpa using hy) hc
    grind
  |succ a=>
   cases b with
   |zero=>omega
   |succ b=>
    have:=rL h2 a b x y (by omega) (by simpa using hx) (by simpa using hy) hc
    grind
inductive Sb(ops:Array Oper)(nt:Nat)(ts:List Nat)(sl:Nat->Option aF):Option (Nat×Bool)->Bool->Prop
 |none:Sb ops nt ts sl ae af
 |lit {j g:Nat} {b t:Bool} {d:aF} (h1:G9 ops j=aa g) (h2:aja g nt=af) (h3:g∈ts) (h4:sl g=aa d) (h5:asBool d=aa t):Sb ops nt ts sl (aa (j,b)) (decide (t=b))
 |undef {j g:Nat} {b:Bool} (h1:G9 ops j=aa g) (h2:aja g nt=af) (h3:g∈ts) (h4:sl g=aa .undef):Sb ops nt ts sl (aa (j,b)) ah
structure Sc(P:Program)(ops:Array Oper)(nt:Nat)(U:Nat->Prop)(o:Oper)(sl:Nat->Option aF)(ob:Nat->Option (Nat×Th))(n:Nat)(x:lN):Prop where
 dst:x.dst=o.dst
 Je:CB nt o.dst=af
 on:∃b,Sb ops nt x.ts sl o.guard b/\(b=af->QX P U o sl ob n x)/\(b=ah->x.e={dst:= .undef})
section
variable {P:Program} {nt:Nat} {ops:Array Oper}
def Po{ρ:Nat->Value}{o:Oper}{w:World}{QQ:Value->World->Prop}{a:Act}{K:Act->World->Prop}{Q:Exit->Act->World->Prop}(h:ct P ρ ⟨o.dst,o.op,o.type,o.pos,o.after,ae⟩ w QQ)(hf:Fr nt a ρ)
 (hk:∀v w',QQ v w'->K (a.put o.dst v) w'):o.wp P a w K Q:=by
 unfold Oper.wp;rw[hf.eval];unfold ct at h;have e:execOp (ev ρ) o=execOp (ev ρ) ⟨o.dst,o.op,o.type,o.pos,o.after,ae⟩:=rfl;rw[e];generalize(execOp (ev ρ) ⟨o.dst,o.op,o.type,o.pos,o.after,ae⟩).run P w=r at*
 cases r with
 |halt x w'=>exact h.elim
 |ok x w'=>
  cases x<;>first
   |exact h.elim
   |skip
  case value v=>exact hk v w' h.2
  case skip=>exact hk undef w' h.2
  case enter f args=>
   refine h.mono λe xM ⟨v,he,hv⟩=>?_
   grind
def aL.sub{U:Nat->Prop}{H:aK}{F:Nat->Prop}{w:World}{ob Od:Nat->Option (Nat×Th)}{n m:Nat}(h:aL U H F w ob n)(hR:∀o x,Od o=aa x->ob o=aa x)(zY:∀k,m<=k->k<m+16->H.val k=ae/\H.con k=ae):aL U H F w Od m:=
 ⟨λo s t ho=>h.obj o s t (hR _ _ ho),λo o' s s' t t' v v' dA ho mf=>h.apart o o' s s' t t' v v' dA (hR _ _ ho) (hR _ _ mf),zY,h.lt,h.new,h.gl⟩
structure Inv(G:Nat->Prop)(w0:World)(F0:Nat->Prop)(es:List lN)(sl0:Nat->Option aF)(ob0:Nat->Option (Nat×Th))(n0:Nat)(H:aK)(F:Nat->Prop)(w:World)(ρ:Nat->Value)(S:Nat->Bool)(H':aK)(F':Nat->Prop)(w':World)(c7:Nat->Value):Prop where
 slot:∀t d,gK S 0 es sl0 t=aa d->aE H' F' w' d (c7 t)
 ob:aL (UU G w0) H' F' w' (gh S 0 es ob0) (n0+16*es.length)
 all:iR H' (n0+16*es.length)
 fresh:∀i,i<es.length->S i=ah->∀m,n0+16*i<=m->m<n0+16*i+16->H'.val m=ae/\H'.con m=ae
 glob:LD G w0 F0 w' F'
 keeps:cG H F w H' F' w'
 same:∀t,(∀x∈es,x.dst≠aa t)->c7 t=ρ t
def ins(S:Nat->Bool)(i:Nat):Nat->Bool:=λj=>bif aiJ j i then af else S j
theorem pR{S:Nat->Bool}{i:Nat}:ins S i i=af:=by simp[ins]
theorem pS{S:Nat->Bool}{i j:Nat}(h:j≠i):ins S i j=S j:=by
 grind [ins,beq_true]
section
variable {G:Nat->Prop} {w0:World} {F0:Nat->Prop} {es:List lN} {sl0:Nat->Option aF} {ob0:Nat->Option (Nat×Th)} {n0:Nat} {H:aK} {F:Nat->Prop} {w:World} {ρ:Nat->Value} {ms:List Nat}
def CQ{i:Nat}{x:lN}(h:es[i]? =aa x):es=es.take i++x::es.drop (i+1)/\(es.take i).length=i:=by
 grind [aiN,ajP]
def zd{S:Nat->Bool}{i:Nat}{x:lN}(hx:es[i]? =aa x)(Vn:∀t,x.dst=aa t->∀j y,es[j]? =aa y->y.dst=aa t->S j=af->j<i)(t:Nat):
 gK (ins S i) 0 es sl0 t=if x.dst=aa t then aa x.e.dst else gK S 0 es sl0 t:=by
 by_cases hd:x.dst=aa t
 .rw[al hd];obtain⟨e1,e2⟩:=CQ hx;rw[e1,oT,e2,aje]
  show gK (ins S i) (i+1) (es.drop (i+1)) _ t=_
  grind [oS,pS,pR,vI]
 grind [lX,pS]
def CR{S:Nat->Bool}{i:Nat}{x:lN}(hx:es[i]? =aa x)(hS:S i=ah)(Vn:∀o,o∈x.mut->∀j y,es[j]? =aa y->o∈y.mut->S j=af->j<i)(o s:Nat)(t:Th)(h:gh (ins S i) 0 es ob0 o=aa (s,t)):
 find x.e.make o=aa (s,t)\/(o∉x.e.eat/\gh S 0 es ob0 o=aa (s,t)/\find x.e.make o=ae):=by
 by_cases hd:o∈x.mut
 .obtain⟨e1,e2⟩:=CQ hx
  have late:∀S':Nat->Bool,(∀j,j≠i->S' j=S j)->∀f,gh S' (i+1) (es.drop (i+1)) f o=f o:=λS' hS' f=>oz (by grind)
  have pre:gh (ins S i) 0 (es.take i) ob0 o=gh S 0 (es.take i) ob0 o:=lF rfl λk y hy _=>by
   grind [pS]
  have all:gh S 0 es ob0 o=gh S 0 (es.take i) ob0 o:=by
   conv=>lhs;rw[e1]
   rw[kC,e2,aje]
   show gh S (i+1) (es.drop (i+1)) _ o=_
   rw[late S (λ_ _=>rfl),hS];rfl
  conv at h=>lhs;rw[e1]
  rw[kC,e2,aje]at h;change gh (ins S i) (i+1) (es.drop (i+1)) _ o=_ at h;rw[late (ins S i) (λj hj=>pS hj),pR,cond_true,pre,<-all]at h
  cases hm:find x.e.make o with
  |some y=>grind
  |none=>
   rw[hm,Option.none_or]at h
   cases he:oQ o x.e.eat with
   |true=>grind
   |false=>
    grind [fQ]
 .right
  have h1:find x.e.make o=ae:=by
   cases hm:find x.e.make o with
   |none=>rfl
   |some y=>grind [lN.mut,qO]
  grind [lN.mut,lF,pS]
theorem oA{l l':List Nat}{o:Nat}(h:o∈l)(h':o∈l'):CP l l'=af:=by
 grind [CP,fQ]
theorem wQ{i j:Nat}(h:i<=j):aja j i=ah:=by
 cases hb:aja j i with
 |false=>rfl
 |true=>have:j<i:=by simpa using hb
        omega
def Jf(_:Nat):Bool:=af
def Fu{es:List lN}{i:Nat}(hi:i<=es.length):gK (λj=>aja j i) 0 es sl0=gK Jf 0 (es.take i) sl0:=by
 funext t
 conv=>lhs;rw[<-ajP i es]
 rw[oT,oS (S:=λj=>aja j i) λk x _ _=>wQ (by simp;omega)]
 refine lX rfl λk x hx _=>?_
 have:=(aiP.1 hx).1;simp at this;simp[Jf];omega
def ze{es:List lN}{i:Nat}(hi:i<=es.length):gh (λj=>aja j i) 0 es ob0=gh Jf 0 (es.take i) ob0:=by
 funext t
 conv=>lhs;rw[<-ajP i es]
 rw[kC,oz (S:=λj=>aja j i) λk x _ _=>wQ (by simp;omega)]
 refine lF rfl λk x hx _=>?_
 have:=(aiP.1 hx).1;simp at this;simp[Jf];omega
def Jg{S:Nat->Bool}{i q:Nat}(hA:∀k y,k<i->es[k]? =aa y->q∈y.mut->S k=af\/q∈y.soft)
 (hs:∀k y,es[k]? =aa y->q∈y.soft->q∈y.mut->∃z z',gh Jf 0 (es.take k) ob0 q=aa z/\find y.e.make q=aa z'/\iy z z'):
 ∀m,m<=i->m<=es.length->∀z,gh Jf 0 (es.take m) ob0 q=aa z->∃z',gh S 0 (es.take m) ob0 q=aa z'/\iy z z':=by
 intro m
 induction m with
 |zero=>intro _ _ z hz;exact⟨z,hz, .inl rfl⟩
 |succ m ih=>
  intro hm hl z hz
  have aH:m<es.length:=by omega
  have hy:es[m]? =aa es[m]:=aiE aH
  have e1:es.take (m+1)=es.take m++[es[m]]:=by rw[List.take_add_one,hy];rfl
  have el:(es.take m).length=m:=by simp;omega
  rw[e1,kC,el,aje]at hz⊢;generalize hgy:es[m]=y at*;have ez:(find y.e.make q).or (bif oQ q y.e.eat then ae else gh Jf 0 (es.take m) ob0 q)=aa z:=hz
  show∃z',(bif S m then(find y.e.make q).or (bif oQ q y.e.eat then ae else gh S 0 (es.take m) ob0 q)else gh S 0 (es.take m) ob0 q)=aa z'/\iy z z'
  by_cases Vo:q∈y.mut
  .cases hSm:S m with
   |true=>
    rw[cond_true]
    cases Pp:find y.e.make q with
    |some x=>rw[Pp]at ez;exact⟨z,ez, .inl rfl⟩
    |none=>
     grind
   |false=>
    rw[cond_false]
    rcases hA m y (by omega) hy Vo with h|h
    .grind
    .obtain⟨x,x',h1,h2,h3⟩:=hs m y hy h Vo;rw[h2]at ez;obtain rfl:=aiC ez;obtain⟨z',h4,h5⟩:=ih (by omega) (by omega) x h1;exact⟨z',h4,h3.symm.trans h5⟩
  .have h1:find y.e.make q=ae:=by
    cases hm:find y.e.make q with
    |none=>rfl
    |some y=>grind [lN.mut,qO]
   grind
def wR(Pq:Jd [] ops.toList=aa ms)(hp:vH ms 0 es=af)(hlen:es.length=ops.size){S:Nat->Bool}(hS:Ft ops (λj=>S j=af)){i:Nat}{o:Oper}{x:lN}(ho:ops[i]? =aa o)(hx:es[i]? =aa x)(Sd:S i=ah)
 (QY:∀e∈o.after,ajW .any e=af->S e.on=af)(QZ:∀k y,es[k]? =aa y->∀q,q∈y.soft->q∈y.mut->∃z z',gh Jf 0 (es.take k) ob0 q=aa z/\find y.e.make q=aa z'/\iy z z')(q7:Sc P ops nt (UU G w0) o (gK (λj=>aja j i) 0 es sl0) (gh (λj=>aja j i) 0 es ob0) (n0+16*i) x)
 {H':aK}{F':Nat->Prop}{w':World}{c7:Nat->Value}{a:Act}(hf:Fr nt a c7)(hinv:Inv G w0 F0 es sl0 ob0 n0 H F w ρ S H' F' w' c7){K:Act->World->Prop}{Q:Exit->Act->World->Prop}
 (hk:∀Vp tX va E3 xM,Fr nt Vp tX->Inv G w0 F0 es sl0 ob0 n0 H F w ρ (ins S i) va E3 xM tX->K Vp xM):wpOp P ops Q i K a w':=by
 have Jh:i<es.length:=(aiP.1 hx).1
 have up:∀j y,es[j]? =aa y->j<i->conflict y x=af->S j=af:=λj y hy hji hc=>by
  have:=rL hp j i y x hji hy hx hc
  grind [L7]
 have down:∀j y,es[j]? =aa y->i<j->conflict x y=af->S j=af->False:=λj y hy UP hc hj=>by
  have:=rL hp i j x y UP hx hy hc;rw[aje,aje]at this
  have Fe:j<ops.size:=by have:=(aiP.1 hy).1;omega
  have h2:=L7 Pq hS j _ (aiW Fe) (λe he hb=>hS j hj _ (aiW Fe) e he hb) i this
  grind
 have Q0:∀t,x.dst=aa t->∀j y,es[j]? =aa y->y.dst=aa t->S j=af->j<i:=λt ht j y hy hyt hj=>by
  grind [conflict,nQ,fQ]
 have Q1:∀q,q∈x.mut->∀j y,es[j]? =aa y->q∈y.mut->S j=af->j<i:=λq hq j y hy Un hj=>by
  grind [conflict,oA]
 have Se:∀t,t∈x.ts->gK (λj=>aja j i) 0 es sl0 t=gK S 0 es sl0 t:=λt ht=>lX rfl λj y hy hyt=>by
  rw[aje]
  rcases Nat.lt_trichotomy j i with h|h|h
  .rw[up j y hy h (by grind [conflict,nQ,fQ])];simpa using h
  all_goals grind [wQ,conflict,nQ,fQ]
 have aeu:∀q,q∈x.os->gh (λj=>aja j i) 0 es ob0 q=gh S 0 es ob0 q:=λq hq=>lF rfl λj y hy Un=>by
  rw[aje]
  rcases Nat.lt_trichotomy j i with h|h|h
  .rw[up j y hy h (by grind [conflict,oA])];simpa using h
  .grind [wQ]
  .have:S j=ah:=by
    cases hj:S j with
    |false=>rfl
    |true=>exact(down j y hy h (by unfold conflict;rw[oA (l:=x.os++x.ls++x.mut) (l':=y.mut) (by simp[hq]) Un];simp) hj).elim
   rw[this];exact wQ (by omega)
 have aev:∀q z,q∈x.ls->gh (λj=>aja j i) 0 es ob0 q=aa z->∃z',gh S 0 es ob0 q=aa z'/\iy z z':=λq z hq hz=>by
  rw[ze (by omega)]at hz
  obtain⟨z',h1,h2⟩:=Jg (S:=S) (i:=i) (q:=q) (λk y hk hy Un=>by
   by_cases hsf:q∈y.soft
   .exact .inr hsf
   .refine .inl (up k y hy hk ?_)
    have:q∈y.Vm:=aji.2 ⟨Un,by
     cases hb:oQ q y.soft with
     |false=>rfl
     |true=>exact absurd (fQ.1 hb) hsf⟩
    unfold conflict;rw[oA this hq]
    simp) (by grind) i (aiH _) (by omega) z hz
  refine⟨z',?_,h2⟩;rw[<-h1]
  conv=>lhs;rw[<-ajP i es]
  rw[kC]
  refine oz λk y hy Un=>?_
  have hy':es[i+k]? =aa y:=by rw[<-hy,ai9]
  have el:(es.take i).length=i:=by simp;omega
  rw[el,aje]
  cases hSk:S (i+k)with
  |false=>rfl
  |true=>
   rcases Nat.eq_zero_or_pos k with rfl|hk
   .grind
   .exact(down (i+k) y hy' (by omega) (by unfold conflict;rw[oA (l:=x.os++x.ls++x.mut) (l':=y.mut) (by simp[hq]) Un];simp) hSk).elim
 obtain⟨b,hg,Zb,OI⟩:=q7.on
 have Vq:ajQ o (yielded ops a.tmps)=b:=by
  generalize hog:o.guard=gd at hg
  cases hg with
  |none=>unfold ajQ;rw[hog]
  |lit h1 h2 h3 h4 h5=>
   rename_i j g b' t d;rw[Se g h3]at h4;have hy:=oL hf h1 h2 (oe h5 (hinv.slot g _ h4));unfold ajQ
   grind
  |undef h1 h2 h3 h4=>
   rename_i j g b';rw[Se g h3]at h4;have hy:=nL hf h1 h2 (show c7 g=undef from hinv.slot g _ h4);unfold ajQ
   grind
 have tn:∀v,Fr nt (a.put o.dst v) (vb c7 o.dst v):=λv=>by
  have hb:=q7.Je
  cases hd:o.dst with
  |none=>exact hf
  |some d=>rw[hd]at hb;exact hf.put hb v
 have L8:∀t,x.dst=aa t↔o.dst=aa t:=λt=>by rw[q7.dst]
 unfold wpOp;simp only[ho,Vq]
 cases b with
 |false=>
  simp only[aiK,if_false];have he:=OI rfl;refine hk _ (vb c7 o.dst undef) H' F' w' (tn undef) ⟨λt d ht=>?_,?_,hinv.all,λk hk Ji=>?_,hinv.glob,hinv.keeps,λt ht=>?_⟩
  .rw[zd hx Q0]at ht;split at ht
   .rename_i Sf;obtain rfl:=aiC ht;rw[he]
    show vb c7 o.dst undef t=undef
    rw[(L8 t).1 Sf]
    show Eg c7 t undef t=undef
    rw[oO,al rfl]
   .rename_i Sf;rw[qN (λe=>Sf ((L8 t).2 e))];exact hinv.slot t d ht
  .refine hinv.ob.sub (λq y hq=>?_) (λm hm _=>hinv.all m hm)
   rcases CR hx Sd Q1 q y.1 y.2 hq with h1|⟨_,h2,_⟩
   .rw[he]at h1;cases h1
   .exact h2
  .by_cases e:k=i
   .grind [pR]
   .rw[pS e]at Ji;exact hinv.fresh k hk Ji
  .rw[qN (by grind)];exact hinv.same t ht
 |true=>
  simp only[if_true]
  left
  obtain⟨_,⟨Y5,Od,Vk,Pn,bD⟩,_⟩:=Zb rfl
  obtain⟨Y6,iS,bD⟩:=bD H' F' w' c7 (gh S 0 es ob0) (λq y hq=>by
   obtain⟨h1,h2⟩:=Pn q y hq;by_cases hos:q∈x.os
   .exact⟨y,by grind, .inl rfl,λ_=>rfl⟩
   grind) (λt d ht=>by
   obtain⟨h1,h2⟩:=Vk t d ht;rw[Se t h1]at h2
   exact hinv.slot t d h2) (hinv.ob.sub (λ_ _ h=>h) (hinv.fresh i Jh Sd))
  have Cy:=hinv.ob.sub iS (hinv.fresh i Jh Sd)
  refine Po bD hf λv xM ⟨va,E3,uI⟩=>?_
  .have dZ:=uI.lL.step Cy.lt Cy.fj
   have eU:iR va (n0+16*es.length):=λm hm=>by
    have h1:=hinv.all m hm;have h2:=uI.fresh m (.inr (by omega))
    grind
   refine hk _ (vb c7 o.dst v) va E3 xM (tn v) ⟨λt d ht=>?_,?_,eU,λk hk Ji m hm1 Zc=>?_,hinv.glob.lL uI.lL Cy.gv,hinv.keeps.trans ⟨uI.lL.gN,dZ⟩,λt ht=>?_⟩
   .rw[zd hx Q0]at ht;split at ht
    .rename_i Sf;obtain rfl:=aiC ht;rw[(L8 t).1 Sf]
     show aE va E3 xM _ (Eg c7 t v t)
     grind [oO,lD.dst]
    .rename_i Sf;rw[qN (λe=>Sf ((L8 t).2 e))];exact(hinv.slot t d ht).keep uI.lL.gN dZ
   .exact hinv.ob.Lb iS uI (λq s t hq=>CR hx Sd Q1 q s t hq) λm hm _=>eU m hm
   .by_cases e:k=i
    .grind [pR]
    .rw[pS e]at Ji;have h1:=hinv.fresh k hk Ji m hm1 Zc;have h2:=uI.fresh m (by omega)
     grind
   .rw[qN (by grind)];exact hinv.same t ht
end
end
end Go.Proofs.YtfeahmiobbjklaaGreatDoor
namespace Go.Proofs.YtfeahmiobbjklaaGreatDoor
open Go Go.RowKit
def tY(dst:Option Nat)(g:Nat):lN:={dst:=dst,ts:=[g],os:=[],e:={dst:= .undef}}
noncomputable def nD{R:Type}{P:Program}(E:Env P)(nt:Nat)(ops:Array Oper):List Oper->State->List lN->(State->Option R)->Option R
 |[],st,acc,k=>bif tW ops.toList acc then k st else ae
 |o::os,st,acc,k=>bif CB nt o.dst then(match o.guard with
  |none=>zc E o.dst o.op [] st (λe x=>nD E nt ops os (st.apply o.dst e) (acc++[x]) k)
  |some (j,b)=>match G9 ops j with
   |none=>ae
   |some g=>bif aja g nt then(match find st.aG g with
    |some .undef=>nD E nt ops os (st.apply o.dst {dst:= .undef}) (acc++[tY o.dst g]) k
    |some d=>match asBool d with
     |some t=>if t=af then
       (bif b then zc E o.dst o.op [g] (st.put (aa g) (ec af)) (λe x=>nD E nt ops os ((st.put (aa g) (ec af)).apply o.dst e) (acc++[x]) k)
         else nD E nt ops os ((st.put (aa g) (ec af)).apply o.dst {dst:= .undef}) (acc++[tY o.dst g]) k)
      else
       (bif b then nD E nt ops os ((st.put (aa g) (ec ah)).apply o.dst {dst:= .undef}) (acc++[tY o.dst g]) k
         else zc E o.dst o.op [g] (st.put (aa g) (ec ah)) (λe x=>nD E nt ops os ((st.put (aa g) (ec ah)).apply o.dst e) (acc++[x]) k))
     |none=>ae
    |none=>ae)else ae)else ae
section
variable {P:Program} {nt:Nat} {ops:Array Oper} {R:Type}
variable {G:Nat->Prop} {w0:World} {F0:Nat->Prop} {sl0:Nat->Option aF} {ob0:Nat->Option (Nat×Th)} {n0:Nat}
structure Lex(P:Program)(nt:Nat)(ops:Array Oper)(U:Nat->Prop)(sl0:Nat->Option aF)(ob0:Nat->Option (Nat×Th))(n0:Nat)(es:List lN)(st:State):Prop where
 slot:∀t,find st.aG t=gK Jf 0 es sl0 t
 ob:∀o,find st.objs o=gh Jf 0 es ob0 o
 nxt:st.nxt=n0+16*es.length
 ok:∀i o x,ops[i]? =aa o->es[i]? =aa x->Sc P ops nt U o (gK Jf 0 (es.take i) sl0) (gh Jf 0 (es.take i) ob0) (n0+16*i) x
def Fv{S:Nat->Bool}{es:List lN}{x:lN}{f:Nat->Option aF}{t:Nat}(h:S es.length=af):gK S 0 (es++[x]) f t=if x.dst=aa t then aa x.e.dst else gK S 0 es f t:=by
 rw[oT,aje]
 show(bif S es.length&&nQ (aa t) x.dst.toList then aa x.e.dst else gK S 0 es f t)=_
 rw[h,Bool.true_and];by_cases hd:x.dst=aa t
 all_goals grind [vI]
def Jj{S:Nat->Bool}{es:List lN}{x:lN}{f:Nat->Option (Nat×Th)}{o:Nat}(h:S es.length=af):gh S 0 (es++[x]) f o=(find x.e.make o).or (bif oQ o x.e.eat then ae else gh S 0 es f o):=by
 rw[kC,aje]
 show(bif S es.length then _ else _)=_
 rw[h];rfl
def tZ{st:State}{dst:Option Nat}{e:ed}{t:Nat}:find (st.apply dst e).aG t=if dst=aa t then aa e.dst else find st.aG t:=by
 cases dst with
 |none=>simp[State.apply]
 |some d=>
  show find ((d,e.dst)::st.aG) t=_
  grind [bd]
def vh{st:State}{dst:Option Nat}{e:ed}{o:Nat}:find (st.apply dst e).objs o=(find e.make o).or (bif oQ o e.eat then ae else find st.objs o):=by
 show find (e.make++del e.eat st.objs) o=_
 rw[iO]
 congr 1
 cases hb:oQ o e.eat with
 |true=>
  rw[cond_true]
  cases h:find (del e.eat st.objs) o with
  |none=>rfl
  |some x=>grind [fQ,iP]
 |false=>
  rw[cond_false]
  have hn:o∉e.eat:=λh=>by rw[fQ.2 h]at hb;cases hb
  cases h:find st.objs o with
  |some x=>exact iP.2 ⟨hn,h⟩
  |none=>
   cases h2:find (del e.eat st.objs) o with
   |none=>rfl
   |some x=>rw[(iP.1 h2).2]at h;cases h
def Lex.snoc{U:Nat->Prop}{es:List lN}{st:State}{x:lN}{o:Oper}(h:Lex P nt ops U sl0 ob0 n0 es st)(ho:ops[es.length]? =aa o)(hd:x.dst=o.dst)
 (np:Sc P ops nt U o (find st.aG) (find st.objs) st.nxt x):Lex P nt ops U sl0 ob0 n0 (es++[x]) (st.apply o.dst x.e):=by
 refine⟨λt=>?_,λq=>?_,?_,λi o' y mf hy=>?_⟩
 .rw[tZ,Fv rfl,hd,h.slot t]
 .rw[vh,Jj rfl,h.ob q]
 .show st.nxt+16=_
  grind [Lex.nxt]
 .rcases Nat.lt_or_ge i es.length with aH|hge
  .rw[ajw aH]at hy;rw[List.take_append_of_le_length (by omega)];exact h.ok i o' y mf hy
  .have hi:i=es.length:=by
    have:=(aiP.1 hy).1;simp at this;omega
   subst hi;simp at hy;subst hy;rw[ho]at mf;obtain rfl:=aiC mf;rw[List.take_left']
   .rw[<-funext h.slot,<-funext h.ob,<-h.nxt];exact np
   .rfl
def Lex.put{U:Nat->Prop}{es:List lN}{st:State}{g:Nat}{d:aF}(h:Lex P nt ops U sl0 ob0 n0 es st)(hg:find st.aG g=aa d):Lex P nt ops U sl0 ob0 n0 es (st.put (aa g) d):=by
 refine⟨λt=>?_,h.ob,h.nxt,h.ok⟩
 show find ((g,d)::st.aG) t=_
 rw[bd,<-h.slot t]
 grind
def Jk{d:aF}{t:Bool}(h:asBool d=aa t):d=ec t:=by
 unfold asBool at h
 grind
def CU{E:Env P}{q:R}{k:State->Option R}:{l:List Oper}->{st:State}->{es:List lN}->nD E nt ops l st es k=aa q->(∀j,l[j]? =ops[es.length+j]?)->Lex P nt ops (UU G w0) sl0 ob0 n0 es st->
 ∃my c9,k c9=aa q/\tW ops.toList my=af/\Lex P nt ops (UU G w0) sl0 ob0 n0 my c9/\my.length=es.length+l.length
 |[],st,es,h,_,hl=>by
  unfold nD at h
  grind
 |o::l,st,es,h,pE,hl=>by
  have ho:ops[es.length]? =aa o:=by simpa using(pE 0).symm
  have Vr:∀x:lN,∀j,l[j]? =ops[(es++[x]).length+j]? :=λx j=>by
   have:=pE (j+1)
   grind
  have go:∀{st1:State}{x:lN},nD E nt ops l st1 (es++[x]) k=aa q->Lex P nt ops (UU G w0) sl0 ob0 n0 (es++[x]) st1->∃my c9,k c9=aa q/\tW ops.toList my=af/\Lex P nt ops (UU G w0) sl0 ob0 n0 my c9/\my.length=es.length+(o::l).length:=by
   intro st1 x h1 h2;obtain⟨my,c9,a1,a2,a3,a4⟩:=CU h1 (Vr x) h2;refine⟨my,c9,a1,a2,a3,?_⟩;rw[a4,List.length_append,List.length_singleton,List.length_cons];omega
  unfold nD at h;obtain⟨hd,h'⟩:=aV h;clear h
  have on:∀{st1:State}{gs:List Nat},zc E o.dst o.op gs st1 (λe x=>nD E nt ops l (st1.apply o.dst e) (es++[x]) k)=aa q->Lex P nt ops (UU G w0) sl0 ob0 n0 es st1->(∀ts:List Nat,(∀g∈gs,g∈ts)->Sb ops nt ts (find st1.aG) o.guard af)->∃my c9,k c9=aa q/\tW ops.toList my=af/\Lex P nt ops (UU G w0) sl0 ob0 n0 my c9/\my.length=es.length+(o::l).length:=by
   intro st1 gs h1 h2 h3;obtain⟨e,x,a1,a2,a3,a4⟩:=L5 (U:=UU G w0) h1;subst a2;exact go a1 (h2.snoc ho a4.dst ⟨a4.dst,hd,af,h3 _ a3,λ_=>a4,λh=>by cases h⟩)
  have off:∀{st1:State}{g:Nat},nD E nt ops l (st1.apply o.dst {dst:= .undef}) (es++[tY o.dst g]) k=aa q->Lex P nt ops (UU G w0) sl0 ob0 n0 es st1->Sb ops nt [g] (find st1.aG) o.guard ah->∃my c9,k c9=aa q/\tW ops.toList my=af/\Lex P nt ops (UU G w0) sl0 ob0 n0 my c9/\my.length=es.length+(o::l).length:=by
   intro st1 g h1 h2 h3;exact go (x:=tY o.dst g) h1 (h2.snoc (x:=tY o.dst g) ho rfl ⟨rfl,hd,ah,h3,λh=>(by cases h),λ_=>rfl⟩)
  split at h'
  .rename_i Si
   exact on h' hl λts _=>by rw[Si];exact .none
  .rename_i j b Si;split at h'
   case h_1=>cases h'
   rename_i g QT;obtain⟨QU,h⟩:=aV h';clear h';split at h
   .rename_i hu;exact off h hl (by rw[Si];exact .undef QT QU (by simp) hu)
   .rename_i d gW;split at h
    case h_2=>cases h
    rename_i t ht;obtain rfl:=Jk ht
    have Vs:∀v:Bool,find (st.put (aa g) (ec v)).aG g=aa (ec v):=λv=>by
     show find ((g,ec v)::st.aG) g=_
     rw[bd,al rfl]
    have aeA:∀(v:Bool)(ts:List Nat)(r:Bool),g∈ts->r=decide (v=b)->Sb ops nt ts (find (st.put (aa g) (ec v)).aG) (aa (j,b)) r:=λv ts r hg hr=>by
     rw[hr];exact .lit QT QU hg (Vs v) rfl
    split at h
    .rename_i Pk;subst Pk;have T8:=hl.put gW
     grind
    .rename_i Pk
     have Pk:t=ah:=by cases t<;>simp_all
     subst Pk;have T8:=hl.put gW
     grind
   .cases h
def Vt(m:Nat)(listed:Array Bool):Nat:=((aiM m).filter λj=> !listed.getD j ah).length
def Hc{m i:Nat}{listed:Array Bool}(hi:i<m)(hs:listed.size=m)(h:listed.getD i ah=ah):Vt m (listed.setIfInBounds i af)+1<=Vt m listed:=by
 unfold Vt
 have iS:∀l:List Nat,(l.filter λj=> !(listed.setIfInBounds i af).getD j ah).length<=(l.filter λj=> !listed.getD j ah).length/\(i∈l->(l.filter λj=> !(listed.setIfInBounds i af).getD j ah).length+1<=(l.filter λj=> !listed.getD j ah).length):=by
  intro l
  induction l with
  |nil=>grind
  |cons j l ih=>
   by_cases hj:i=j
   .subst hj
    have e1:(listed.setIfInBounds i af).getD i ah=af:=by simp[ai8,hs,hi]
    grind
   .have e1:(listed.setIfInBounds i af).getD j ah=listed.getD j ah:=getD_set_ne ah hj
    grind
 grind
def Ps{E:Env P}{id:Nat}{q:R}{k:State->Option R}{st:State}{H:aK}{F:Nat->Prop}{w:World}{ρ:Nat->Value}{Q:Exit->(Nat->Value)->World->Prop}(hm:P.follows .mixedOrders=af)
 (h:nD E nt ops ops.toList st [] k=aa q)(hh:cU G w0 F0 H F w ρ st)
 (hk:∀c9 H' F' w' c7,k c9=aa q->cU G w0 F0 H' F' w' c7 c9->cG H F w H' F' w'->(∀t,(∀o∈ops.toList,o.dst≠aa t)->c7 t=ρ t)->Q .normal c7 w'):vq P nt (.region id ops af) Q ρ w:=by
 obtain⟨es,c9,RQ,lz,Fw,hlen⟩:=CU (G:=G) (w0:=w0) (sl0:=find st.aG) (ob0:=find st.objs) (n0:=st.nxt) h (λj=>by simp) ⟨λ_=>rfl,λ_=>rfl,by simp,λi o x _ hx=>by simp at hx⟩;simp only[List.length_nil,aje,Array.length_toList]at hlen;unfold tW at lz;split at lz
 case h_2=>cases lz
 rename_i ms Pq
 have L8:∀x∈es,∃o∈ops.toList,x.dst=o.dst:=λx hx=>by
  obtain⟨i,hi,rfl⟩:=aiV hx
  have aH:i<ops.size:=by omega
  exact⟨ops[i],by simp,(Fw.ok i ops[i] es[i] (aiW aH) (aiE hi)).dst⟩
 have QZ:∀k y,es[k]? =aa y->∀q,q∈y.soft->q∈y.mut->∃z z',gh Jf 0 (es.take k) (find st.objs) q=aa z/\find y.e.make q=aa z'/\iy z z':=λk y hy q h1 h2=>by
  have aH:k<es.length:=(aiP.1 hy).1;obtain⟨_,_,b,_,Zb,OI⟩:=Fw.ok k _ y (aiW (by omega)) hy
  cases b with
  |true=>exact(Zb rfl).soft q h1 h2
  |false=>
   grind [lN.mut,uK]
 have XL:∀i o,ops[i]? =aa o->∀e∈o.after,ajW .any e=af->e.on<i:=λi o ho e he hb=>by
  obtain⟨m,h1,_⟩:=(AJ Pq).2.2 i o (by grind);simp only[List.length_nil,aje]at h1;exact Hb h1 e (by simpa using he) hb
 intro a hf;refine wp_region_any hm ?_
 have main:∀fuel(listed:Array Bool)(a:Act)(w':World)H' F' c7,listed.size=ops.size->Vt ops.size listed<=fuel->Ft ops (λj=>listed.getD j ah=af)->Fr nt a c7->
  Inv G w0 F0 es (find st.aG) (find st.objs) st.nxt H F w ρ (λj=>listed.getD j ah) H' F' w' c7->wpAny P .any ops (λe a' w'=>∃c7,Fr nt a' c7/\Q e c7 w') fuel listed a w':=by
  have done:∀(listed:Array Bool)(a:Act)(w':World)H' F' c7,(∀i,i<ops.size->listed.getD i ah=af)->Fr nt a c7->Inv G w0 F0 es (find st.aG) (find st.objs) st.nxt H F w ρ (λj=>listed.getD j ah) H' F' w' c7->∃c7,Fr nt a c7/\Q .normal c7 w':=by
   intro listed a w' H' F' c7 eU hf hinv
   have eS:∀t,gK (λj=>listed.getD j ah) 0 es (find st.aG) t=find c9.aG t:=λt=>by
    rw[Fw.slot t]
    refine lX rfl λk x hx _=>?_
    have:=(aiP.1 hx).1;rw[aje];exact eU k (by omega)
   have eO:∀o,gh (λj=>listed.getD j ah) 0 es (find st.objs) o=find c9.objs o:=λo=>by
    rw[Fw.ob o]
    refine lF rfl λk x hx _=>?_
    have:=(aiP.1 hx).1;rw[aje];exact eU k (by omega)
   refine⟨c7,hf,hk c9 H' F' w' c7 RQ ⟨⟨λt d hd=>hinv.slot t d (by grind),?_,?_⟩,hinv.glob⟩ hinv.keeps λt ht=>hinv.same t λx hx=>?_⟩
   .have:=hinv.ob;rw[funext eO]at this;rw[Fw.nxt];exact this
   .rw[Fw.nxt];exact hinv.all
   .grind
  have Jl:∀(listed:Array Bool),listed.size=ops.size->Region.ready .any ops listed=[]->∀i,i<ops.size->listed.getD i ah=af:=by
   intro listed hs hr i
   induction i using Nat.strongRecOn with
   |_ i ih=>
    intro hi
    cases hl:listed.getD i ah with
    |true=>rfl
    |false=>
     have:i∈Region.ready .any ops listed:=mem_ready.2 ⟨by
      simp only[ai8]at hl⊢;rw[aiW (by omega)]at hl⊢
      simpa using hl,ops[i],aiW hi,(by grind)⟩
     grind
  intro fuel
  induction fuel with
  |zero=>
   intro listed a w' H' F' c7 hs hu hc hf hinv
   have eU:∀i,i<ops.size->listed.getD i ah=af:=λi hi=>by
    cases hl:listed.getD i ah with
    |true=>rfl
    |false=>
     have:=Hc hi hs hl;omega
   refine⟨?_,done listed a w' H' F' c7 eU hf hinv⟩
   cases hr:Region.ready .any ops listed with
   |nil=>rfl
   |cons i l=>
    have hi:i∈Region.ready .any ops listed:=by rw[hr];simp
    grind [Go.mem_ready]
  |succ fuel ih=>
   intro listed a w' H' F' c7 hs hu hc hf hinv;refine⟨λhr=>done listed a w' H' F' c7 (Jl listed hs hr) hf hinv,λi hi=>?_⟩;obtain⟨h1,o,ho,QY⟩:=mem_ready.1 hi;have aH:=(ajc.1 ho).1
   have Sd:listed.getD i ah=ah:=by
    simp only[ai8]at h1⊢;rw[aiW (by omega)]at h1⊢;simpa using h1
   have hx:es[i]? =aa (es[i]'(by omega)):=aiE (by omega);have q7:=Fw.ok i o _ ho hx;rw[<-Fu (by omega),<-ze (by omega)]at q7
   have Ji:(λj=>(listed.setIfInBounds i af).getD j ah)=ins (λj=>listed.getD j ah) i:=by
    funext j;by_cases e:j=i
    .subst e;rw[pR];simp[ai8,hs,aH]
    .rw[pS e];exact getD_set_ne ah (Ne.symm e)
   refine wR Pq lz hlen hc ho hx Sd QY QZ q7 hf hinv λVp tX va E3 xM Zd Ze=>?_
   refine ih _ Vp xM va E3 tX (by simp[hs]) ?_ ?_ Zd ?_
   .have:=Hc aH hs Sd;omega
   .intro j hj o' mf e he hb;by_cases ej:j=i
    .grind [Go.getD_set_true]
    .have Oh:listed.getD j ah=af:=by
      have:(listed.setIfInBounds i af).getD j ah=listed.getD j ah:=getD_set_ne ah (Ne.symm ej);rw[<-this];exact hj
     exact getD_set_true (hc j Oh o' mf e he hb)
   grind
 have hS0:∀j,(Array.replicate ops.size ah).getD j ah=ah:=λj=>by
  simp only[ai8]
  grind
 have hw:Step F w F w.drew:=Step.drew F w
 refine main ops.size _ a _ H F ρ (by simp) ?_ (λi hi=>by
  grind) hf ⟨λt d hd=>?_,?_,λm hm=>hh.sat.all m (by omega),λi hi _ m hm _=>hh.sat.all m (by omega),⟨⟨hh.glob.ext.os,⟨hh.glob.ext.tape.1,Nat.le_succ_of_le hh.glob.ext.tape.2⟩,hh.glob.ext.output,hh.glob.ext.size,hh.glob.ext.block⟩,hh.glob.le,hh.glob.new⟩,⟨aK.le.refl H,hw⟩,λ_ _=>rfl⟩
 .grind [Vt]
 .rw[oS λk x _ _=>hS0 _]at hd;exact(hh.sat.slot t d hd).keep (aK.le.refl H) hw
 .have e:gh (λj=>(Array.replicate ops.size ah).getD j ah) 0 es (find st.objs)=find st.objs:=by
   funext o
   exact oz λk x _ _=>hS0 _
  rw[e];have hb:=hh.sat.ob;refine⟨λo s t ho=>?_,hb.apart,λm hm _=>hh.sat.all m (by omega),hb.lt,hb.new,hb.gl.step (λ_ h=>⟨h,rfl⟩)⟩;obtain⟨v,hv,cL⟩:=hb.obj o s t ho;exact⟨v,hv,cL.one,cL.con,cL.ok.heap (aK.le.refl H) hw λ_ _=>rfl,cL.no,cL.lt,cL.use⟩
end
end Go.Proofs.YtfeahmiobbjklaaGreatDoor
end
section
open _root_.Bool renaming false->ah,true->af,and_eq_true->ajB
open _root_.Option renaming none->ae,some->aa,isSome_iff_exists->ajb,map_eq_some_iff->ajp
open _root_.List.cons renaming injEq->ajt
open _root_.List renaming mem_cons->ai7
open _root_.Nat renaming beq->aiJ,le_refl->aiH
open _root_.Option.some renaming inj->aiC,injEq->aiO
open _root_.Go.Sem renaming run_bind->ai0
open _root_.Sum renaming inr->ajy
open _root_.Go.Value.slice renaming injEq->ajS
namespace Go.Proofs.YtfeahmiobbjklaaGreatDoor
open Go Go.RowKit
inductive Ex where
 |normal
 |exit (id:Nat)
 |ret
 |goto (l:Nat)
def Ex.uL:Ex->Exit
 | .normal=> .normal
 | .exit id=> .exit id
 | .ret=> .ret
 | .goto l=> .goto l
def noGoto{R:Type}(k:Ex->State->Option R):Ex->State->Option R
 | .goto _,_=>ae
 |e,st=>k e st
inductive vJ where
 |nil
 |two (a b:vJ)
 |join (J:JS) (a b:vJ)
 |meet (J:JS) (a b:vJ)
 |loop (L:JS) (a:vJ)
 |loopK (L:JS) (a:vJ)
abbrev vJ.o(a:vJ):vJ:= .two .nil a
def vJ.l:vJ->vJ
 | .two a _=>a
 |_=> .nil
def vJ.r:vJ->vJ
 | .two _ b=>b
 |_=> .nil
def sI:List Oper->List Nat
 |[]=>[]
 |o::l=>match o.dst with
  |some d=>d::sI l
  |none=>sI l
def writes:Code->List Nat
 | .region _ ops _=>sI ops.toList
 | .seq a b=>writes a++writes b
 | .cond _ a b=>writes a++writes b
 | .block _ a=>writes a
 | .loop a=>writes a
 | .scope a=>writes a
 |_=>[]
def CV:List Nat->List (Nat×aF)->List (Nat×aF)
 |[],l=>l
 |t::ts,l=>(t, .dead)::CV ts l
def Q2:List (Nat×OS)->List Nat
 |[]=>[]
 |(j,_)::l=>j::Q2 l
def Hd(st:State)(J:JS):List (Nat×(Nat×Th)):=del (Q2 J.objs++J.drop) st.objs
def behind(st:State)(W:List Nat)(J:JS)(x:dj J.rows):State:=
 {aG:=(dh J.aG (dy _ x)).1++CV W st.aG,objs:=ir st.nxt J.objs (dh J.aG (dy _ x)).2++Hd st J,nxt:=J.nxt}
def Fx(st:State)(J:JS)(st1:State):Option (dj J.rows):=
 match yP st.nxt (Hd st J) J st1.aG st1.objs with
 |some (x,_)=>aa x
 |none=>ae
def L9(ob:Nat->Option (Nat×Th))(n o:Nat):Option ed:=
 match ob o with
 |some (_, .deep T d l ae)=>aa {dst:= .dead,eat:=[o],make:=[(o,(n, .own T d.row l))]}
 |_=>ae
def nE(st:State):List (Nat×OS)->State
 |[]=>st
 |(j, .own _ _)::os=>match L9 (find st.objs) st.nxt j with
  |some e=>nE (st.apply ae e) os
  |none=>nE st os
 |_::os=>nE st os
def Ma(st:State)(t o:Nat)(r:Row):Option State:=
 match find st.objs o with
 |some (_, .box _ t0)=>match gf st.objs t0.owns with
  |some be=>match find be o with
   |some (_, .box _ t1)=>match flat (find be) r t1 with
    |some x=>aa (State.apply {st with objs:=be} (aa t) {dst:= .at r x,eat:=[o]})
    |none=>ae
   |_=>ae
  |none=>ae
 |_=>ae
noncomputable def AK{R:Type}(st:State)(k:State->Option R):List (Nat×SS)->Option R
 |[]=>k st
 |(t, .at r)::ss=>match find st.aG t with
  |some (.ptr o [] 0)=>match Ma st t o r with
   |some c9=>AK c9 k ss
   |none=>ae
  |some (.dlm o d i [] 0)=>match gf st.objs [o]with
   |some be=>match find be o with
    |some (_, .fdeep _ d' l)=>bif aiJ d.low.size d'.row.size then(idx l i).bind λx=>AK {aG:=(t, .at d'.row x)::st.aG,objs:=be,nxt:=st.nxt} k ss else ae
    |_=>ae
   |none=>ae
  |_=>AK st k ss
 |_::ss=>AK st k ss
noncomputable def carry(st:State)(J:JS)(st1:State):Option (dj J.rows):=AK (nE (po st1) J.objs) (Fx st J) J.aG
def b9{J R:Type}(m:Option (J⊕R))(k:J->Option R):Option R:=m.bind λs=>match s with
 | .inl j=>k j
 | .inr r=>aa r
def rk{S R:Type}(body:S->(S->Option R)->Option R):Nat->S->Option R
 |0,_=>ae
 |n+1,s=>body s (rk body n)
def Jm{P:Program}{n:Nat}{Q:Exit->(Nat->Value)->World->Prop}{ρ:Nat->Value}{w:World}{S R:Type}{body:S->(S->Option R)->Option R}{c:Code}(I:S->(Nat->Value)->World->Prop){q:R}{N:Nat}{s:S}(hm:rk body N s=aa q)(h0:I s ρ w)
 (hb:∀(kk:S->Option R)s ρ w,I s ρ w->body s kk=aa q->vq P n c (λe c7 w'=>match e with| .normal=>∃s',kk s'=aa q/\I s' c7 w'|e=>Q e c7 w') ρ w):vq P n (.loop c) Q ρ w:=by
 intro a hf;refine wp_loop_rounds N ?_
 induction N generalizing s ρ w a with
 |zero=>cases hm
 |succ k ih=>
  rw[rounds_succ]
  refine wp_mono (hb (rk body k) s ρ w h0 hm a hf) λe a' w' ⟨c7,sd,hh⟩=>?_
  cases e with
  |normal=>
   obtain⟨s',h1,h2⟩:=hh;exact ih h1 h2 a' sd
  |_=>exact⟨c7,sd,hh⟩
noncomputable def exec{P:Program}(E:Env P)(nt N:Nat):Code->{R:Type}->vJ->State->(Ex->State->Option R)->Option R
 | .skip,_,_,st,k=>k .normal st
 | .label _,_,_,st,k=>k .normal st
 | .scope x,_,a,st,k=>exec E nt N x a.l st (noGoto k)
 | .goto l,_,_,st,k=>k (.goto l) st
 | .ret,_,_,st,k=>k .ret st
 | .exit id,_,_,st,k=>k (.exit id) st
 | .cond c x y,_,a,st,k=>match Ip st.aG c with
   |some D=>match asBool D with
    |some b=>if b=af then exec E nt N x a.l st k else exec E nt N y a.r st k
    |none=>ae
   |none=>ae
 | .region _ ops draw,_,_,st,k=>bif draw then nD E nt ops ops.toList st [] (k .normal)else runs E nt ops ops.toList [] st (k .normal)
 | .seq x y,R,a,st,k=>match a with
   | .join J a1 a2=>b9 (exec E nt N x (R:=dj J.rows⊕R) a1 st (λe c9=>match e with
       | .normal=>(carry st J c9).map .inl
       |e=>(k e c9).map .inr)) λj=>exec E nt N y a2 (behind st (writes x) J j) k
   | .meet J a1 a2=>(exec E nt N x (R:=dj J.rows) a1 st (λe c9=>match e with
       | .normal=>carry st J c9
       |_=>ae)).bind λj=>exec E nt N y a2 (behind st (writes x) J j) k
   |a=>exec E nt N x a.l st (λe c9=>match e with
     | .normal=>exec E nt N y a.r c9 k
     |e=>k e c9)
 | .block id x,R,a,st,k=>match a with
   | .join J a1 _=>b9 (exec E nt N x (R:=dj J.rows⊕R) a1 st (λe c9=>match e with
       | .normal=>(carry st J c9).map .inl
       | .exit i=>bif aiJ i id then(carry st J c9).map .inl else(k (.exit i) c9).map .inr
       |e=>(k e c9).map .inr)) λj=>k .normal (behind st (writes x) J j)
   | .meet J a1 _=>(exec E nt N x (R:=dj J.rows) a1 st (λe c9=>match e with
       | .normal=>carry st J c9
       | .exit i=>bif aiJ i id then carry st J c9 else ae
       |_=>ae)).bind λj=>k .normal (behind st (writes x) J j)
   |a=>exec E nt N x a.l st (λe c9=>match e with
     | .exit i=>bif aiJ i id then k .normal c9 else k (.exit i) c9
     |e=>k e c9)
 | .loop x,R,a,st,k=>match a with
   | .loop L a1=>match carry st L st with
     |some s0=>Loop (S:=dj L.rows) (X:=R) (λs=>exec E nt N x (R:=dj L.rows⊕R) a1 (behind st (writes x) L s) (λe c9=>match e with
       | .normal=>(carry st L c9).map .inl
       |e=>(k e c9).map .inr)) N s0
     |none=>ae
   | .loopK L a1=>match carry st L st with
     |some s0=>rk (S:=dj L.rows) (R:=R) (λs kk=>exec E nt N x (R:=R) a1 (behind st (writes x) L s) (λe c9=>match e with
       | .normal=>(carry st L c9).bind kk
       |e=>k e c9)) N s0
     |none=>ae
   |_=>ae
 |_,_,_,_,_=>ae
section
variable {P:Program} {nt N:Nat} {R:Type}
variable {ρ:Nat->Value} {w w0:World} {H:aK} {F F0 G:Nat->Prop}
def Fy{W:List Nat}{l:List (Nat×aF)}{t:Nat}{d:aF}(h:find (CV W l) t=aa d):d= .dead\/(t∉W/\find l t=aa d):=by
 induction W with
 |nil=>exact .inr ⟨by simp,h⟩
 |cons s W ih=>
  have h':find ((s,aF.dead)::CV W l) t=aa d:=h
  grind [bd]
def Jn{st st1:State}{W:List Nat}{J:JS}{x:dj J.rows}{H1:aK}{F1:Nat->Prop}{w1:World}{Ky:Nat->Value}(h:Fx st J st1=aa x)(hh:cU G w0 F0 H F w ρ st)(oy:cU G w0 F0 H1 F1 w1 Ky st1)(hk:cG H F w H1 F1 w1)
 (R7:∀t,t∉W->Ky t=ρ t):∃H2 F2,cU G w0 F0 H2 F2 w1 Ky (behind st W J x)/\cG H F w H2 F2 w1:=by
 unfold Fx at h;split at h
 case h_2=>cases h
 rename_i _ y rest hp;obtain⟨bs,be⟩:=rest;obtain rfl:=aiC h;obtain⟨F2,H2,a1,a2,a3,_,a5,_,a6,a7,a8⟩:=wE (U':=UU G w0) hp hh.sat.ob hh.sat.all hk oy.sat.ob oy.sat.slot
 have iq:Step F1 w1 F2 w1:=λb hb=>⟨a2 b hb,rfl⟩
 have cM:=a8 oy.sat.ob.new (λo s t v k _ h2 h3 h4=>by
  obtain⟨v',eR,cL⟩:=a1.obj _ _ _ h2;rw[h3]at eR;obtain rfl:=aiC eR
  exact cL.use k h4) (λo s t v k h2 h3 h4=>by
  have h5:=(iP.1 h2).2;obtain⟨v',eR,cL⟩:=hh.sat.ob.obj _ _ _ h5;rw[hk.gN.val _ _ eR]at h3;obtain rfl:=aiC h3
  exact cL.use k (by rwa [hk.gN.sub _ _ cL.con]at h4))
 refine⟨H2,F2,⟨⟨λt d hd=>?_,cM,a6⟩,⟨oy.glob.ext,λb hb=>a2 b (oy.glob.le b hb),λb hb=>?_⟩⟩,⟨a5,λb hb=>⟨a2 b (hk.step b hb).1,(hk.step b hb).2⟩⟩⟩
 .have Bw:find ((dh J.aG (dy J.rows y)).1++CV W st.aG) t=aa d:=hd;rw[iO]at Bw
  cases hm:find (dh J.aG (dy J.rows y)).1 t with
  |some d'=>
   grind
  |none=>
   rw[hm,Option.none_or]at Bw
   rcases Fy Bw with rfl|⟨h1,h2⟩
   .trivial
   .rw[R7 t h1]
    exact(hh.sat.slot t d h2).keep a5 λb hb=>⟨a2 b (hk.step b hb).1,(hk.step b hb).2⟩
 .rcases a3 b hb with h1|h1
  .exact oy.glob.new b h1
  .exact .inr (oy.sat.ob.gv b h1)
def Jo{U:Nat->Prop}{ob:Nat->Option (Nat×Th)}{n:Nat}(hs:aL U H F w ob n){o:Nat}{e:ed}(h:L9 ob n o=aa e):mz H F w ob n e undef w:=by
 unfold L9 at h;split at h
 case h_2=>cases h
 rename_i s T d l cM;obtain rfl:=aiC h;obtain⟨v,hv,cL⟩:=hs.obj _ _ _ cM
 obtain⟨lh,Ss,⟨xs,hx,QJ⟩,h2,h3,h4⟩:=(show Il F w T d.low (oN H F w d ae) v l (H.sub s)from cL.ok)
 have hn:∀k,H.sub s k->¬F k:=cL.no
 have Ev:mw 0 (λb=>F b\/∃i,i<l.length/\Ss i b) w T d.row v l:=by
  refine⟨λk hk hF=>?_,xs,?_,λi hi=>?_⟩
  .rcases hF with hF|⟨i,hi,hm⟩
   .exact hn k (h4.bU k hk) hF
   .exact h4.out i k hi hm hk
  .rw[<-d.size,<-h2];exact hx
  .have kF:i<lh.length:=by omega
   have:=kI.freeze (h3 i kF hi) (λk hk=>hn k (h4.part hi k hk)) (QJ i kF);rw[<-d.size]
   exact this.step λb hb=>(by grind)
 have hf:=hs.fresh n (aiH _) (by omega)
 have ke:∀k,H.sub s k->cx H ob [o] k:=λk hk=>⟨o,by simp,s,_,v,cM,hv,hk⟩
 refine⟨H.bG n (.own T d.row l),λb=>F b\/∃i,i<l.length/\Ss i b,⟨⟨λ_ _ h=>h,λs' t h=>?_,λs' t h=>?_⟩,⟨rfl,⟨rfl,aiH _⟩,rfl,aiH _,λ_ _ _=>rfl⟩,λ_ h=> .inl h,λb hb=>?_,λb hb=>?_⟩,λm hm=>⟨id,λh=>?_⟩,trivial,⟨λo' s' q hq=>?_,λo1 o2 s1 s2 q1 q2 u1 u2 dA g1 g2=>?_⟩,λo' h=>?_⟩
 .grind [aK.bG]
 .rfl
 .rcases hb with hb|⟨i,hi,hb⟩
  .exact .inl hb
  .exact .inr (.inr (ke b (h4.part hi b hb)))
 .rcases hb with hb|⟨i,hi,hb⟩
  .exact hs.lt b hb
  .exact cL.lt b (h4.part hi b hb)
 .grind [aK.bG]
 .obtain⟨rfl,e⟩:=fk hq;obtain⟨rfl,rfl⟩:=Prod.mk.inj e;refine⟨v,hv,cL.one,by simp[aK.bG,Th.base],Ev.2,λk hk=>⟨Ev.1 k hk,cL.lt k (h4.bU k hk), .inr (ke k (h4.bU k hk))⟩⟩
 all_goals grind [fk,ajb]
def cU.nE:(os:List (Nat×OS))->{st:State}->{H:aK}->{F:Nat->Prop}->cU G w0 F0 H F w ρ st->∃H' F',cU G w0 F0 H' F' w ρ (nE st os)/\cG H F w H' F' w
 |[],_,H,F,h=>⟨H,F,h,cG.refl H F w⟩
 |(j, .own _ _)::os,st,H,F,h=>by
  unfold Go.Proofs.YtfeahmiobbjklaaGreatDoor.nE;split
  .rename_i e he;obtain⟨H',F',hp⟩:=Jo h.sat.ob he;have hs:=h.sat.apply (d:=ae) hp;obtain⟨H2,F2,h2,k2⟩:=cU.nE os (st:=st.apply ae e) ⟨hs,h.glob.lL hp.lL h.sat.ob.gv⟩;exact⟨H2,F2,h2,(cG.y0 hp.lL h.sat.ob.lt h.sat.ob.fj).trans k2⟩
  .exact cU.nE os h
 |(_, .box ..)::os,_,_,_,h=>cU.nE os h
 |(_, .map ..)::os,_,_,_,h=>cU.nE os h
 |(_, .deep ..)::os,_,_,_,h=>cU.nE os h
 |(_, .smap ..)::os,_,_,_,h=>cU.nE os h
def cU.Ma{st c9:State}{t o:Nat}{r:Row}(h:cU G w0 F0 H F w ρ st)(gW:find st.aG t=aa (.ptr o [] 0))(hb:Ma st t o r=aa c9):∃F',cU G w0 F0 H F' w ρ c9/\cG H F w H F' w:=by
 unfold Go.Proofs.YtfeahmiobbjklaaGreatDoor.Ma at hb;split at hb
 case h_2=>cases hb
 split at hb
 case h_2=>cases hb
 rename_i be xX;obtain⟨F1,h1,k1⟩:=h.u9 xX;split at hb
 case h_2=>cases hb
 rename_i s1 T1 t1 cM;split at hb
 case h_2=>cases hb
 rename_i x hx;obtain rfl:=aiC hb;obtain⟨v,hv,cL⟩:=h1.sat.ob.obj _ _ _ cM
 obtain⟨b,es,rfl,hhp,hold⟩:=(show∃b es,v= .pointer (aa ⟨b,0,ae⟩)/\w.heap[b]? =aa (.cells es.toArray T1 (0,0))/\Holds H F1 w t1 es from cL.ok)
 obtain⟨b',eR,px⟩:=h.sat.slot t _ gW;rw[hv]at eR;simp only[aiO,Value.pointer.injEq,Addr.mk.injEq,and_true]at eR;subst eR;have tE:=gO h1.sat.ob hx hold
 have hg:cx H (find be) [o] b:=⟨o,by simp,s1,_,_,cM,hv,rfl⟩
 have iq:Step F1 w (λk=>F1 k\/k=b) w:=λk hk=>⟨.inl hk,rfl⟩
 have hp:lD H F1 w (find be) st.nxt {dst:= .at r x,eat:=[o]} (ρ t) w H (λk=>F1 k\/k=b):=
  ⟨⟨aK.le.refl H,⟨rfl,⟨rfl,aiH _⟩,rfl,aiH _,λ_ _ _=>rfl⟩,λ_ hk=> .inl hk,λk hk=>hk.elim .inl λe=> .inr (.inr (e▸hg)),λk hk=>hk.elim (h1.sat.ob.lt k) λe=>by grind⟩,λm _=>⟨id,id⟩,
    ⟨b,0,px, .inr rfl,es,tE.length,λj u hu=>by
      show w.cell? ⟨b,0+j,ae⟩=aa u
      simp[World.cell?,hhp,hu],tE.step iq⟩,⟨λ_ _ _ h=>(by cases h),λ_ _ _ _ _ _ _ _ _ h=>(by cases h)⟩,λ_ h=>(by cases h)⟩
 have hs:=h1.sat.apply (d:=aa t) hp
 have Zf:vb ρ (aa t) (ρ t)=ρ:=by
  funext u
  show Eg ρ t (ρ t) u=ρ u
  rw[oO];split
  .grind
  .rfl
 rw[Zf]at hs;exact⟨_,⟨hs,h1.glob.lL hp.lL h1.sat.ob.gv⟩,k1.trans (cG.y0 hp.lL h1.sat.ob.lt h1.sat.ob.fj)⟩
def cU.AK{R:Type}{k:State->Option R}{q:R}:(ss:List (Nat×SS))->{st:State}->{H:aK}->{F:Nat->Prop}->cU G w0 F0 H F w ρ st->AK st k ss=aa q->∃st2 H' F',k st2=aa q/\cU G w0 F0 H' F' w ρ st2/\cG H F w H' F' w
 |[],st,H,F,h,hk=>⟨st,H,F,hk,h,cG.refl H F w⟩
 |(t, .at r)::ss,st,H,F,h,hk=>by
  unfold Go.Proofs.YtfeahmiobbjklaaGreatDoor.AK at hk;split at hk
  .rename_i o gW;split at hk
   case h_2=>cases hk
   rename_i c9 hbx;obtain⟨F1,h1,k1⟩:=h.Ma gW hbx;obtain⟨st2,H2,F2,g1,g2,g3⟩:=cU.AK ss h1 hk;exact⟨st2,H2,F2,g1,g2,k1.trans g3⟩
  .rename_i o d i gW;split at hk
   case h_2=>cases hk
   rename_i be xX;obtain⟨F1,h1,k1⟩:=h.u9 xX;split at hk
   case h_2=>cases hk
   rename_i s1 T1 d' l cM;obtain⟨mh,hk⟩:=aV hk;have mh:=Nat.eq_of_beq_eq_true mh;obtain⟨x,hx,YK⟩:=bind_some hk;obtain⟨j,rfl,hj,hjx⟩:=gX hx;obtain⟨g,o0,q0,m,cap,hv,hq,px⟩:=h1.sat.slot t _ gW;obtain⟨v,eR,cL⟩:=h1.sat.ob.obj _ _ _ cM;rw[hv]at eR;obtain rfl:=aiC eR
   obtain⟨A,K0,e1,_,_,uX⟩:=(show cS F1 w (.slice d'.row) [_] l from cL.ok)
   obtain⟨b,off,es,hA,hFb,hlen,vO,tE⟩:=uX j hj;simp only[ajt,ajS,and_true]at e1;obtain⟨e1,_,_⟩:=e1;rw[<-e1]at hA;simp only[aiO,Addr.mk.injEq,and_true]at hA;obtain⟨rfl,rfl⟩:=hA
   have xO:aE H F1 w (.at d'.row x) (ρ t):=by
    have e:j=q0:=by omega
    subst e;refine⟨g,o0+j*d.low.size+0,px,hFb,es,hlen,λjj u hu=>?_,by grind⟩;rw[mh];exact vO jj u hu
   obtain⟨st2,H2,F2,g1,g2,g3⟩:=cU.AK ss (st:={aG:=(t, .at d'.row x)::st.aG,objs:=be,nxt:=st.nxt}) ⟨⟨λt' q' zZ=>by
    have zZ:find ((t,aF.at d'.row x)::st.aG) t'=aa q':=zZ;rw[bd]at zZ;by_cases e:t=t'
    .grind
    .rw[aj e]at zZ
     exact h1.sat.slot t' q' zZ,h1.sat.ob,h1.sat.all⟩,h1.glob⟩ YK
   exact⟨st2,H2,F2,g1,g2,k1.trans g3⟩
  .exact cU.AK ss h hk
 |(_, .val ..)::ss,_,_,_,h,hk=>cU.AK ss h hk
 |(_, .ptr ..)::ss,_,_,_,h,hk=>cU.AK ss h hk
 |(_, .undef)::ss,_,_,_,h,hk=>cU.AK ss h hk
 |(_, .fn ..)::ss,_,_,_,h,hk=>cU.AK ss h hk
 |(_, .ifc ..)::ss,_,_,_,h,hk=>cU.AK ss h hk
def lY{st st1:State}{W:List Nat}{J:JS}{x:dj J.rows}{H1:aK}{F1:Nat->Prop}{w1:World}{Ky:Nat->Value}(h:carry st J st1=aa x)(hh:cU G w0 F0 H F w ρ st)(oy:cU G w0 F0 H1 F1 w1 Ky st1)(hk:cG H F w H1 F1 w1)
 (R7:∀t,t∉W->Ky t=ρ t):∃H2 F2,cU G w0 F0 H2 F2 w1 Ky (behind st W J x)/\cG H F w H2 F2 w1:=by
 obtain⟨H1',F1',Zg,kG⟩:=oy.po;obtain⟨H2',F2',Zh,QG⟩:=Zg.nE J.objs;unfold carry at h;obtain⟨st2,H3',F3',h3,hh3,hk3⟩:=Zh.AK J.aG h;exact Jn h3 hh hh3 (((hk.trans kG).trans QG).trans hk3) R7
def uM{l:List Oper}{o:Oper}{t:Nat}(ho:o∈l)(hd:o.dst=aa t):t∈sI l:=by
 induction l with
 |nil=>cases ho
 |cons p l ih=>
  grind [sI]
structure Sj(G:Nat->Prop)(w0:World)(F0:Nat->Prop)(W:List Nat)(H:aK)(F:Nat->Prop)(w:World)(ρ:Nat->Value)(H':aK)(F':Nat->Prop)(w':World)(c7:Nat->Value)(c9:State):Prop where
 here:cU G w0 F0 H' F' w' c7 c9
 keeps:cG H F w H' F' w'
 same:∀t,t∉W->c7 t=ρ t
def map_inl{α β:Type}{o:Option α}{f:α->β}{r:β}(h:o.map f=aa r):∃x,o=aa x/\f x=r:=ajp.1 h
def ju{E:Env P}:(c:Code)->{R:Type}->{q:R}->{a:vJ}->{st:State}->{k:Ex->State->Option R}->{H:aK}->{F:Nat->Prop}->{w:World}->{ρ:Nat->Value}->{Q:Exit->(Nat->Value)->World->Prop}->
 exec E nt N c a st k=aa q->cU G w0 F0 H F w ρ st->
 (∀e c9 H' F' w' c7,k e c9=aa q->Sj G w0 F0 (writes c) H F w ρ H' F' w' c7 c9->Q e.uL c7 w')->vq P nt c Q ρ w
 | .skip,R,q,a,st,k,H,F,w,ρ,Q,h,hh,hk=>KF (hk .normal st H F w ρ h ⟨hh,cG.refl H F w,λ_ _=>rfl⟩)
 | .ret,R,q,a,st,k,H,F,w,ρ,Q,h,hh,hk=>Ox (hk .ret st H F w ρ h ⟨hh,cG.refl H F w,λ_ _=>rfl⟩)
 | .exit id,R,q,a,st,k,H,F,w,ρ,Q,h,hh,hk=>KG (hk (.exit id) st H F w ρ h ⟨hh,cG.refl H F w,λ_ _=>rfl⟩)
 | .cond c x y,R,q,a,st,k,H,F,w,ρ,Q,h,hh,hk=>by
   unfold exec at h;split at h
   case h_2=>cases h
   rename_i D hD;split at h
   case h_2=>cases h
   rename_i b hb;have hv:=oe hb (tq hh.sat.ob.gl hh.sat.slot _ _ hD);split at h
   .rename_i e;subst e;exact KH hv (ju x h hh λe c9 H' F' w' c7 h1 h2=>hk e c9 H' F' w' c7 h1 ⟨h2.here,h2.keeps,λt ht=>h2.same t λhm=>ht (by simp[writes,hm])⟩)
   .rename_i e
    have e:b=ah:=by cases b<;>simp_all
    subst e;exact HO hv (ju y h hh λe c9 H' F' w' c7 h1 h2=>hk e c9 H' F' w' c7 h1 ⟨h2.here,h2.keeps,λt ht=>h2.same t λhm=>ht (by simp[writes,hm])⟩)
 | .region id ops draw,R,q,a,st,k,H,F,w,ρ,Q,h,hh,hk=>by
   unfold exec at h
   cases draw with
   |true=>
    rw[cond_true]at h
    exact Ps E.mix h hh λc9 H' F' w' c7 h1 h2 h3 h4=>hk .normal c9 H' F' w' c7 h1 ⟨h2,h3,λt ht=>h4 t λo ho e=>ht (uM ho e)⟩
   |false=>
    rw[cond_false]at h
    have:=Av (K:=λρ w=>Q .normal ρ w) (ops:=ops) (nt:=nt) h (λ_ _ h=>by cases h) hh λc9 H' F' w' c7 h1 h2 h3 h4=>hk .normal c9 H' F' w' c7 h1 ⟨h2,h3,λt ht=>h4 t λo ho e=>ht (uM ho e)⟩
    have h2:=Es (id:=id) (l:=ops.toList) (P:=P) (n:=nt) (Q:=Q) (ρ:=ρ) (w:=w) (by omega);omega
 | .seq x y,R,q,a,st,k,H,F,w,ρ,Q,h,hh,hk=>by
   have fin:∀{H1:aK}{F1:Nat->Prop}{w1:World}{Ky:Nat->Value}{st1:State}{a2:vJ},exec E nt N y a2 st1 k=aa q->cU G w0 F0 H1 F1 w1 Ky st1->cG H F w H1 F1 w1->(∀t,t∉writes x->Ky t=ρ t)->vq P nt y Q Ky w1:=by
    intro H1 F1 w1 Ky st1 a2 g1 g2 g3 g4
    exact ju y g1 g2 λe c9 H' F' w' c7 h1 h2=>hk e c9 H' F' w' c7 h1 ⟨h2.here,g3.trans h2.keeps,λt ht=>(h2.same t λhm=>ht (by simp[writes,hm])).trans (g4 t λhm=>ht (by simp[writes,hm]))⟩
   have out:∀{e:Ex}{c9:State}{H':aK}{F':Nat->Prop}{w':World}{c7:Nat->Value},k e c9=aa q->Sj G w0 F0 (writes x) H F w ρ H' F' w' c7 c9->Q e.uL c7 w':=by
    intro e c9 H' F' w' c7 g1 g2;exact hk e c9 H' F' w' c7 g1 ⟨g2.here,g2.keeps,λt ht=>g2.same t λhm=>ht (by simp[writes,hm])⟩
   unfold exec at h;split at h
   .rename_i J a1 a2;unfold b9 at h;obtain⟨s,hs,h⟩:=bind_some h;refine zU (ju x hs hh λe c9 H' F' w' c7 h1 h2=>?_)
    cases e with
    |normal=>
     obtain⟨j,hj,rfl⟩:=map_inl h1;obtain⟨H2,F2,g1,g2⟩:=lY (W:=writes x) hj hh h2.here h2.keeps h2.same;exact fin h g1 g2 h2.same
    |exit id=>
     obtain⟨r,hr,rfl⟩:=map_inl h1;obtain rfl:=aiC h;exact out hr h2
    |ret=>
     obtain⟨r,hr,rfl⟩:=map_inl h1;obtain rfl:=aiC h;exact out hr h2
    |goto l=>
     obtain⟨r,hr,rfl⟩:=map_inl h1;obtain rfl:=aiC h;exact out hr h2
   .rename_i J a1 a2;obtain⟨s,hs,h⟩:=bind_some h;refine zU (ju x hs hh λe c9 H' F' w' c7 h1 h2=>?_)
    cases e with
    |normal=>
     obtain⟨H2,F2,g1,g2⟩:=lY (W:=writes x) h1 hh h2.here h2.keeps h2.same;exact fin h g1 g2 h2.same
    |exit id=>cases h1
    |ret=>cases h1
    |goto l=>cases h1
   .refine zU (ju x h hh λe c9 H' F' w' c7 h1 h2=>?_)
    cases e with
    |normal=>exact fin h1 h2.here h2.keeps h2.same
    |exit id=>exact out h1 h2
    |ret=>exact out h1 h2
    |goto l=>exact out h1 h2
 | .block id x,R,q,a,st,k,H,F,w,ρ,Q,h,hh,hk=>by
   have hw:writes (.block id x)=writes x:=rfl;rw[hw]at hk
   have Zi:∀{e:Ex}{c7:Nat->Value}{w':World},(match e with| .exit i=>if i=id then Q .normal c7 w' else Q (.exit i) c7 w'|e=>Q e.uL c7 w')->T5 id Q e.uL c7 w':=by
    intro e c7 w' g
    cases e with
    |normal=>exact g
    |ret=>exact g
    |goto l=>exact g
    |exit i=>
     by_cases e:i=id
     .subst e;simp only[al]at g;exact K5 g
     .simp only[aj e]at g;refine Ig ?_ g
      cases hb:aiJ i id<;>simp_all
   have Mc:∀{i:Nat},i≠id->aiJ i id=ah:=λ{i}e=>by
    cases hb:aiJ i id<;>simp_all
   unfold exec at h;split at h
   .rename_i J a1 a2;unfold b9 at h;obtain⟨s,hs,h⟩:=bind_some h;refine th (ju x hs hh λe c9 H' F' w' c7 h1 h2=>Zi ?_)
    have inn:(carry st J c9).map Sum.inl=aa s->Q .normal c7 w':=λh1=>by
     obtain⟨j,hj,rfl⟩:=map_inl h1;obtain⟨H2,F2,g1,g2⟩:=lY (W:=writes x) hj hh h2.here h2.keeps h2.same;exact hk .normal _ H2 F2 w' c7 h ⟨g1,g2,h2.same⟩
    have out:∀{e:Ex},(k e c9).map ajy=aa s->Q e.uL c7 w':=λ{e}h1=>by
     obtain⟨r,hr,rfl⟩:=map_inl h1
     grind
    cases e with
    |normal=>exact inn h1
    |exit i=>
     show if i=id then _ else _
     by_cases e:i=id
     .subst e;rw[al rfl];refine inn ?_;simpa using h1
     .rw[aj e];simp only[Mc e,cond_false]at h1;exact out (e:= .exit i) h1
    |ret=>grind
    |goto l=>grind
   .rename_i J a1 a2;obtain⟨s,hs,h⟩:=bind_some h;refine th (ju x hs hh λe c9 H' F' w' c7 h1 h2=>Zi ?_)
    have inn:carry st J c9=aa s->Q .normal c7 w':=λh1=>by
     obtain⟨H2,F2,g1,g2⟩:=lY (W:=writes x) h1 hh h2.here h2.keeps h2.same;exact hk .normal _ H2 F2 w' c7 h ⟨g1,g2,h2.same⟩
    cases e with
    |normal=>exact inn h1
    |exit i=>
     grind
    |ret=>cases h1
    |goto l=>cases h1
   .refine th (ju x h hh λe c9 H' F' w' c7 h1 h2=>Zi ?_)
    cases e with
    |normal=>grind
    |exit i=>
     show if i=id then _ else _
     by_cases e:i=id
     .subst e;rw[al rfl];refine hk .normal c9 H' F' w' c7 ?_ h2;simpa using h1
     .rw[aj e];simp only[Mc e,cond_false]at h1;exact hk (.exit i) c9 H' F' w' c7 h1 h2
    |ret=>grind
    |goto l=>grind
 | .loop x,R,q,a,st,k,H,F,w,ρ,Q,h,hh,hk=>by
   have hw:writes (.loop x)=writes x:=rfl;rw[hw]at hk;unfold exec at h;split at h
   case h_3=>cases h
   case h_2=>
    rename_i L a1;split at h
    case h_2=>cases h
    rename_i s0 Pa;refine Jm (λs c7 w'=>∃H' F',cU G w0 F0 H' F' w' c7 (behind st (writes x) L s)/\cG H F w H' F' w'/\∀t,t∉writes x->c7 t=ρ t) h ?_ ?_
    .obtain⟨H2,F2,g1,g2⟩:=lY (W:=writes x) Pa hh hh (cG.refl H F w) λ_ _=>rfl
     grind
    .rintro kk s c7 w' ⟨H',F',g1,g2,g3⟩ hy
     refine ju x hy g1 λe c9 va E3 xM tX h1 h2=>?_
     have sm:∀t,t∉writes x->tX t=ρ t:=λt ht=>(h2.same t ht).trans (g3 t ht)
     cases e with
     |normal=>
      obtain⟨j,hj,Ks⟩:=Option.bind_eq_some_iff.1 h1;obtain⟨H2,F2,m1,m2⟩:=lY (W:=writes x) hj hh h2.here (g2.trans h2.keeps) sm;exact⟨j,Ks,H2,F2,m1,m2,sm⟩
     |exit i=>exact hk (.exit i) c9 va E3 xM tX h1 ⟨h2.here,g2.trans h2.keeps,sm⟩
     |ret=>exact hk .ret c9 va E3 xM tX h1 ⟨h2.here,g2.trans h2.keeps,sm⟩
     |goto l=>exact hk (.goto l) c9 va E3 xM tX h1 ⟨h2.here,g2.trans h2.keeps,sm⟩
   rename_i L a1;split at h
   case h_2=>cases h
   rename_i s0 Pa;refine KI (λs c7 w'=>∃H' F',cU G w0 F0 H' F' w' c7 (behind st (writes x) L s)/\cG H F w H' F' w'/\∀t,t∉writes x->c7 t=ρ t) h ?_ ?_
   .obtain⟨H2,F2,g1,g2⟩:=lY (W:=writes x) Pa hh hh (cG.refl H F w) λ_ _=>rfl
    grind
   .rintro s c7 w' y ⟨H',F',g1,g2,g3⟩ hy
    refine ju x hy g1 λe c9 va E3 xM tX h1 h2=>?_
    have sm:∀t,t∉writes x->tX t=ρ t:=λt ht=>(h2.same t ht).trans (g3 t ht)
    have out:∀{e:Ex},e≠ .normal->(k e c9).map ajy=aa y->QD (λs c7 w'=>∃H' F',cU G w0 F0 H' F' w' c7 (behind st (writes x) L s)/\cG H F w H' F' w'/\∀t,t∉writes x->c7 t=ρ t) Q q y e.uL tX xM:=λ{e}he h1=>by
     obtain⟨r,hr,rfl⟩:=map_inl h1;refine⟨by cases e<;>simp_all[Ex.uL],λhq=>?_⟩;subst hq;exact hk e c9 va E3 xM tX hr ⟨h2.here,g2.trans h2.keeps,sm⟩
    cases e with
    |normal=>
     obtain⟨j,hj,rfl⟩:=map_inl h1;obtain⟨H2,F2,m1,m2⟩:=lY (W:=writes x) hj hh h2.here (g2.trans h2.keeps) sm;exact⟨rfl,H2,F2,m1,m2,sm⟩
    |exit i=>grind
    |ret=>grind
    |goto l=>grind
 | .label l,R,q,a,st,k,H,F,w,ρ,Q,h,hh,hk=>λact hf=>wp_label ⟨ρ,hf,hk .normal st H F w ρ h ⟨hh,cG.refl H F w,λ_ _=>rfl⟩⟩
 | .scope x,R,q,a,st,k,H,F,w,ρ,Q,h,hh,hk=>by
   have h1:=ju (Q:=λe ρ w=>match e with| .goto _=>False|e=>Q e ρ w) x (show exec E nt N x a.l st (noGoto k)=aa q from h) hh λe c9 H' F' w' c7 h1 h2=>by
    cases e with
    |goto l=>cases h1
    |_=>exact hk _ c9 H' F' w' c7 h1 h2
   intro act hf;refine wp_scope_straight (wp_mono (h1 act hf) λe a' w' ⟨c7,sd,XB⟩=>?_)
   cases e<;>first
    |exact XB.elim
    |exact⟨c7,sd,XB⟩
 | .goto l,R,q,a,st,k,H,F,w,ρ,Q,h,hh,hk=>λact hf=>wp_goto ⟨ρ,hf,hk (.goto l) st H F w ρ h ⟨hh,cG.refl H F w,λ_ _=>rfl⟩⟩
 | .rangeFunc ..,_,_,_,_,_,_,_,_,_,_,h,_,_=>by cases h
 | .refuse _,_,_,_,_,_,_,_,_,_,_,h,_,_=>by cases h
end
end Go.Proofs.YtfeahmiobbjklaaGreatDoor
namespace Go.Proofs.YtfeahmiobbjklaaGreatDoor
open Go Go.RowKit
def AL{P:Program}(T:bj P)(aG:List (Nat×aF))(objs:List (Nat×(Nat×Th)))(t:Nat)(T0:TypeId):Option aF:=
 match find T.und T0 with
 |none=>ae
 |some kk=>match find aG t with
  |some (.ptr o p off)=>match find objs o with
   |some (_, .box _ tr)=>match tr.get p with
    |some (s,ef)=>bif aiJ ef off&&mS T T0 kk s.size then aa (.val (kL kk) s)else ae
    |none=>ae
   |_=>ae
  |_=>ae
def AM{P:Program}(T:bj P)(aG:List (Nat×aF))(objs:List (Nat×(Nat×Th))):List ResultVar->Option (List aF)
 |[]=>aa []
 | .tmp t::l=>match find aG t with
   |some d=>match AM T aG objs l with
    |some ds=>aa (d::ds)
    |none=>ae
   |none=>ae
 | .cell t T0::l=>match AL T aG objs t T0 with
   |some d=>match AM T aG objs l with
    |some ds=>aa (d::ds)
    |none=>ae
   |none=>ae
noncomputable def Sk{P:Program}(T:bj P)(rs:List ResultVar)(nb:Nat)(out:JS)(st:State):Option (dj out.rows):=
 match AM T st.aG st.objs rs with
 |some ds=>AK {aG:=iV 0 ds,objs:=(po st).objs,nxt:=(po st).nxt} (λst1=>match yP nb [] out st1.aG st1.objs with
  |some (x,_)=>aa x
  |none=>ae) out.aG
 |none=>ae
def init(inn:JS)(x:dj inn.rows):State:=
 {aG:=(dh inn.aG (dy _ x)).1,objs:=ir 0 inn.objs (dh inn.aG (dy _ x)).2,nxt:=inn.nxt}
noncomputable def Vu{P:Program}(T:bj P)(rs:List ResultVar)(nb:Nat)(out:JS):Ex->State->Option (dj out.rows)
 | .exit _,_=>ae
 | .goto _,_=>ae
 |_,st=>Sk T rs nb out st
noncomputable def Sl{P:Program}(E:Env P)(nt N:Nat)(c:Code)(rs:List ResultVar)(a:vJ)(inn out:JS)(x:dj inn.rows):Option (dj out.rows):=
 exec E nt N c a (init inn x) (Vu E.T rs inn.nxt out)
section
variable {P:Program} {ρ:Nat->Value} {w:World} {H:aK} {F:Nat->Prop} {U:Nat->Prop} {n:Nat}
def CW(T:bj P){t:TypeId}{kk:Kt}(hu:find T.und t=aa kk){b off:Nat}{s:Tree}{cs:List Value}(hh:Holds H F w s cs)(hc:∀j u,cs[j]? =aa u->w.cell? ⟨b,off+j,ae⟩=aa u)
 (hz:if kL kk=af then∃r,find T.row t=aa r/\r.size=s.size else s.size=1):∃v,(loadVar t ⟨b,off,ae⟩).run P w= .ok v w/\aS H F w (kL kk) s v:=by
 obtain⟨dd,xP,xL⟩:=(T.und_ok _ _ hu).agg;have hl:=hh.length
 cases ha:kL kk with
 |true=>
  rw[al ha]at hz;obtain⟨r,hr,Oe⟩:=hz;obtain⟨ti,z,h1,_,_,h4,_⟩:=T.row_ok _ _ hr
  have Y1:(loadCells ⟨b,off,ae⟩ cs.length).run P w= .ok cs.toArray w:=
   run_loadCells_list (P:=P) w ⟨b,off,ae⟩ cs (λj v hv=>by rw[di];exact hc j v hv)
  refine⟨.agg cs.toArray,?_,cs,hh,rfl,by simp⟩
  have mh:ti.size=cs.length:=by omega
  simp[loadVar,ai0,fJ xP,xL.trans ha,sizeOf,typeInfo,h1,mh,Y1]
 |false=>
  rw[aj (by simp[ha])]at hz
  obtain⟨v,rfl⟩:∃v,cs=[v]:=by
   match cs,hl.trans hz with
   |[v],_=>grind
  refine⟨v,?_,[v],hh,rfl,λ_=>rfl⟩;have:=hc 0 v rfl;simp only[Nat.add_zero]at this;simp[loadVar,ai0,fJ xP,xL.trans ha,this,go_sem]
def Fz(T:bj P){aG:List (Nat×aF)}{objs:List (Nat×(Nat×Th))}{t:Nat}{T0:TypeId}{D:aF}(h:AL T aG objs t T0=aa D)(gW:∀t d,find aG t=aa d->aE H F w d (ρ t))(hs:aL U H F w (find objs) n):
 ∃a v,ρ t= .pointer (aa a)/\(loadVar T0 a).run P w= .ok v w/\aE H F w D v:=by
 unfold AL at h;split at h
 .cases h
 rename_i kk hu;split at h
 case h_2=>cases h
 rename_i o p off hD;split at h
 case h_2=>cases h
 rename_i s0 T1 tr cM;split at h
 case h_2=>cases h
 rename_i s ef hg;obtain⟨h1,rfl⟩:=sr h;obtain⟨h1,h3⟩:=cI h1;obtain rfl:=beq_true h1;obtain⟨b,hb,e⟩:=gW _ _ hD;obtain⟨es,hh,QK⟩:=hs.box cM hb;obtain⟨g1,g2⟩:=QK.get hg
 obtain⟨v,hv,np⟩:=CW (b:=b) (off:=ef) T hu g1 (λj u hj=>by
  grind [vZ]) (kw T h3)
 exact⟨_,v,e,hv,np⟩
def Pu(tmps:Array Value):ResultVar->Sem Value
 | .tmp t=>pure (tmps.getD t undef)
 | .cell a t=>do loadVar t (<-asAddr (tmps.getD a undef))
def AN(T:bj P){aG:List (Nat×aF)}{objs:List (Nat×(Nat×Th))}(gW:∀t d,find aG t=aa d->aE H F w d (ρ t))(hs:aL U H F w (find objs) n){tmps:Array Value}(hf:∀t,tmps.getD t undef=ρ t):
 {rs:List ResultVar}->{ds:List aF}->AM T aG objs rs=aa ds->∃vs:List Value,(rs.mapM (Pu tmps)).run P w= .ok vs w/\fP H F w ds vs
 |[],ds,h=>by obtain rfl:=aiC h;exact⟨[],by simp,rfl⟩
 | .tmp t::l,ds,h=>by
   unfold AM at h;split at h
   case h_2=>cases h
   rename_i d hd;split at h
   case h_2=>cases h
   rename_i Yn xU;obtain rfl:=aiC h;obtain⟨vs,h1,h2⟩:=AN T gW hs hf xU;refine⟨ρ t::vs,?_,ρ t,vs,rfl,gW t d hd,h2⟩
   grind [Pu,Go.Sem.run_bind,Go.Sem.run_pure,Go.Result.andThen_ok]
 | .cell t T0::l,ds,h=>by
   unfold AM at h;split at h
   case h_2=>cases h
   rename_i d hd;split at h
   case h_2=>cases h
   rename_i Yn xU;obtain rfl:=aiC h;obtain⟨vs,h1,h2⟩:=AN T gW hs hf xU;obtain⟨a,v,e1,e2,e3⟩:=Fz T hd gW hs;refine⟨v::vs,?_,v,vs,rfl,e3,h2⟩;have ha:(asAddr (.pointer (aa a))).run P w= .ok a w:=rfl
   grind [Pu,Go.Sem.run_bind,Go.Result.andThen_ok,Go.Sem.run_pure]
def FA(T:bj P){fn:Func}{rs:List ResultVar}(Oe:fn.results.toList=rs){aG:List (Nat×aF)}{objs:List (Nat×(Nat×Th))}(gW:∀t d,find aG t=aa d->aE H F w d (ρ t))(hs:aL U H F w (find objs) n){tmps:Array Value}(hf:∀t,tmps.getD t undef=ρ t)
 {ds:List aF}(h:AM T aG objs rs=aa ds):∃vs:List Value,(results fn tmps).run P w= .ok (xY vs) w/\fP H F w ds vs:=by
 obtain⟨vs,h1,h2⟩:=AN T gW hs hf h;refine⟨vs,?_,h2⟩;have e:fn.results=rs.toArray:=dU Oe;have er:results fn tmps=(fn.results.mapM (Pu tmps)>>= λvs=>pure (if h:vs.size=1 then vs[0]else Value.tuple vs)):=rfl;rw[er,e,List.mapM_toArray]
 have:∀vs:List Value,(if h:vs.toArray.size=1 then vs.toArray[0]else Value.tuple vs.toArray)=xY vs:=by
  intro vs
  match vs with
  |[]=>rfl
  |[v]=>rfl
  |a::b::l=>simp[xY]
 simp_all
def He:{l:List (Nat×SS)}->{vs:List kJ}->{k t:Nat}->{d:aF}->tR k l=af->find (dh l vs).1 t=aa d->t<k+l.length
 |[],_,_,_,_,_,h=>by cases h
 |(t0,s)::l,vs,k,t,d,hi,h=>by
  obtain⟨h1,h2⟩:=cI hi;have h':find ((t0,(eW s vs).1)::(dh l (eW s vs).2).1) t=aa d:=h;rw[bd]at h';have:=beq_true h1;rw[List.length_cons];split at h'
  .omega
  .have:=He h2 h';omega
def Vv(P:Program)(nt:Nat)(c:Code)(run:{R:Type}->State->(Ex->State->Option R)->Option R):Prop:=
 ∀{R:Type}{q:R}{st:State}{k:Ex->State->Option R}{H:aK}{F:Nat->Prop}{w:World}{ρ:Nat->Value}{G:Nat->Prop}{w0:World}{F0:Nat->Prop}{Q:Exit->(Nat->Value)->World->Prop},
  run st k=aa q->cU G w0 F0 H F w ρ st->(∀e c9 H' F' w' c7,k e c9=aa q->Sj G w0 F0 (writes c) H F w ρ H' F' w' c7 c9->Q e.uL c7 w')->vq P nt c Q ρ w
def Sm{E:Env P}{f:FuncId}{fn:Func}{c:Code}{rs:List ResultVar}{sg:pj}{run:{R:Type}->State->(Ex->State->Option R)->Option R}(hW:Vv P fn.ntmps c run)(hf:P.funcs[f]? =aa fn)(hn:(fn.name== "runtime.NumGoroutine")=ah)(hb:fn.body=aa c)(Oe:fn.results.toList=rs)
 (pE:tR 0 sg.inn.aG=af)(hlen:Nat.ble sg.inn.aG.length fn.ntmps=af)(BG:aiJ rs.length sg.out.aG.length=af)
 (By:∀x,sg.fn x=run (init sg.inn x) (Vu E.T rs sg.inn.nxt sg.out)):gZ P f sg:=by
 refine⟨⟨fn,hf,hn,by rw[hb];rfl⟩,λx y r9 args w H F G Gx gW cM eU hG=>?_⟩
 have hlen:sg.inn.aG.length<=fn.ntmps:=by simpa using hlen
 have BG:=beq_true BG
 refine(zV (R:=λv w'=>∃vs,v=xY vs/\vs.length=sg.out.aG.length/\∃H' F',Ext G w w'/\H.le H'/\(∀b,F b->F' b)/\(∀b,F' b->F b\/w.heap.size<=b\/G b)/\
  (∀t d,find (dh sg.out.aG (dy _ y)).1 t=aa d->aE H' F' w' d (vs.getD t undef))/\
  aL (λk=>w.heap.size<=k\/G k) H' F' w' (find (ir sg.inn.nxt sg.out.objs (dh sg.out.aG (dy _ y)).2)) sg.out.nxt/\iR H' sg.out.nxt) hf hb (by omega) λρ R7=>?_).mono (by grind)
 have Zj:∀t,t<args.length->ρ t=args.getD t undef:=(by grind)
 have keys:∀t d,find (dh sg.inn.aG (dy sg.inn.rows x)).1 t=aa d->aE H F w d (ρ t):=λt d hd=>by
  rw[Zj t (by have:=He pE hd;omega)]
  grind
 have hh:cU G w F H F w ρ (init sg.inn x):=⟨⟨keys,cM,eU⟩,⟨⟨rfl,⟨rfl,aiH _⟩,rfl,aiH _,λ_ _ _=>rfl⟩,λ_ h=>h,λ_ h=> .inl h⟩⟩
 refine hW ((By x).symm.trans r9) hh λe c9 H' F' w' c7 h1 h2=>?_
 have main:Sk E.T rs sg.inn.nxt sg.out c9=aa y->∀act,Fr fn.ntmps act c7->∃v,(results fn act.tmps).run P w'= .ok v w'/\∃vs,v=xY vs/\vs.length=sg.out.aG.length/\∃H' F',Ext G w w'/\H.le H'/\(∀b,F b->F' b)/\(∀b,F' b->F b\/w.heap.size<=b\/G b)/\
  (∀t d,find (dh sg.out.aG (dy _ y)).1 t=aa d->aE H' F' w' d (vs.getD t undef))/\
  aL (λk=>w.heap.size<=k\/G k) H' F' w' (find (ir sg.inn.nxt sg.out.objs (dh sg.out.aG (dy _ y)).2)) sg.out.nxt/\iR H' sg.out.nxt:=by
  intro hr act zY;unfold Sk at hr;split at hr
  case h_2=>cases hr
  rename_i ds xU;obtain⟨vs,g1,g2⟩:=FA E.T Oe h2.here.sat.slot h2.here.sat.ob zY.get xU;have hdl:=kM g2;refine⟨_,g1,vs,rfl,?_,?_⟩
  .have:∀{rs:List ResultVar}{ds:List aF},AM E.T c9.aG c9.objs rs=aa ds->ds.length=rs.length:=by
    intro rs
    induction rs with
    |nil=>intro ds h;obtain rfl:=aiC h;rfl
    |cons r l ih=>
     intro ds h
     cases r<;>unfold AM at h<;>split at h<;>try cases h
     all_goals grind
   grind
  .have Pa:aL (UU G w) H F w (find (del [] [])) sg.inn.nxt:=⟨λ_ _ _ h=>(by cases h),λ_ _ _ _ _ _ _ _ _ h=>(by cases h),cM.fresh,cM.lt,cM.new,cM.gl⟩
   obtain⟨H4,F4,h4,k4⟩:=h2.here.po;obtain⟨st1,H3,F3,hr,h3,k3⟩:=cU.AK (ρ:=λt=>vs.getD t undef) (st:={aG:=iV 0 ds,objs:=(po c9).objs,nxt:=(po c9).nxt}) sg.out.aG ⟨⟨λt d hd=>aE.keep k4.gN k4.step (by simpa using(pP g2 t d hd).2),h4.sat.ob,h4.sat.all⟩,h4.glob⟩ hr;split at hr
   case h_2=>cases hr
   rename_i _ z rest hp;obtain⟨bs,be⟩:=rest;obtain rfl:=aiC hr;obtain⟨F2,H2,a1,a2,a3,_,a5,_,a6,a7,a8⟩:=wE (U':=UU G w) (ns:=[]) (objs0:=[]) (ρ:=λt=>vs.getD t undef) hp Pa eU ((h2.keeps.trans k4).trans k3) h3.sat.ob (λt d hd=>h3.sat.slot t d hd)
   have vf:=a8 h3.sat.ob.new (λo s t v k _ m2 m3 m4=>by
    obtain⟨v',eR,cL⟩:=a1.obj _ _ _ m2;rw[m3]at eR;obtain rfl:=aiC eR
    exact cL.use k m4) (λ_ _ _ _ _ h=>by cases h)
   rw[show del [] ([]:List (Nat×(Nat×Th)))=[]from rfl,List.append_nil]at vf;refine⟨H2,F2,h3.glob.ext,a5,λb hb=>a2 b (h3.glob.le b hb),λb hb=>?_,a7,vf,a6⟩
   rcases a3 b hb with m1|m1
   .exact h3.glob.new b m1
   .exact .inr (h3.sat.ob.gv b m1)
 cases e with
 |normal=>exact main h1
 |ret=>exact main h1
 |exit id=>cases h1
 |goto l=>cases h1
def Vw{E:Env P}{f:FuncId}{fn:Func}{c:Code}{rs:List ResultVar}{N:Nat}{a:vJ}{sg:pj}(hf:P.funcs[f]? =aa fn)(hn:(fn.name== "runtime.NumGoroutine")=ah)(hb:fn.body=aa c)(Oe:fn.results.toList=rs)
 (pE:tR 0 sg.inn.aG=af)(hlen:Nat.ble sg.inn.aG.length fn.ntmps=af)(BG:aiJ rs.length sg.out.aG.length=af)
 (By:∀x,sg.fn x=Sl E fn.ntmps N c rs a sg.inn sg.out x):gZ P f sg:=
 Sm (E:=E) (run:=λst k=>exec E fn.ntmps N c a st k) (λh hh hk=>ju c h hh hk) hf hn hb Oe pE hlen BG By
structure CT(P:Program)where
 f:Nat
 sg:pj
 ok:gZ P f sg
def ck{P:Program}{f:Nat}{sg:pj}(h:gZ P f sg):CT P:=⟨f,sg,h⟩
def CT.tab{P:Program}:List (CT P)->List (Nat×pj)
 |[]=>[]
 |c::l=>(c.f,c.sg)::CT.tab l
def CT.AO{P:Program}:{l:List (CT P)}->∀p∈CT.tab l,gZ P p.1 p.2
 |[],_,h=>by cases h
 |c::l,p,h=>by
  rcases ai7.1 h with rfl|h
  .exact c.ok
  .exact CT.AO p h
def Zk(fn:Func)(sg:pj):Bool:= !(fn.name== "runtime.NumGoroutine")&&fn.body.isSome&&tR 0 sg.inn.aG&&Nat.ble sg.inn.aG.length fn.ntmps&&aiJ fn.results.toList.length sg.out.aG.length
def fw(E:Env P){f:FuncId}{fn:Func}{N:Nat}{sg:pj}(a:vJ)(hf:P.funcs[f]? =aa fn)(hc:Zk fn sg=af)
 (By:∀x,sg.fn x=Sl E fn.ntmps N (fn.body.getD .skip) fn.results.toList a sg.inn sg.out x):gZ P f sg:=by
 unfold Zk at hc;simp only[ajB,Bool.not_eq_true']at hc;obtain⟨⟨⟨⟨h1,h2⟩,h3⟩,h4⟩,h5⟩:=hc;obtain⟨c,hc⟩:=ajb.1 h2;exact Vw (E:=E) (N:=N) (a:=a) hf h1 (by rw[hc];rfl) rfl h3 h4 h5 By
@[reducible] def SS.l(r:Row):SS:= .val ah (.leaf r)
@[reducible] def SS.g(r:Row):SS:= .val af (.leaf r)
def AP{f:FuncId}{fn:Func}{sg:pj}(hf:P.funcs[f]? =aa fn)(hn:(fn.name== "runtime.NumGoroutine")=ah)(hb:fn.body.isNone=ah)(By:∀x,sg.fn x=ae):gZ P f sg:=
 ⟨⟨fn,hf,hn,hb⟩,(by grind)⟩
abbrev aA:Row:= .int .i64
def nn{α:Type}:Nat->List α->List (Nat×α)
 |_,[]=>[]
 |n,a::l=>(n,a)::nn (n+1) l
abbrev JS.j1(l:List SS)(o:List OS)(k:Nat):JS:=⟨nn 0 l,nn 0 o,[],k⟩
abbrev JS.i1(l:List SS):JS:= .j1 l [] 0
abbrev JS.w1(t:Nat)(r:Row):JS:= .j1 [.val ah (.own 0)] [.own t r] 1
abbrev u2{A B R:Type}(f:A->B->R)(x:A×B):R:=f x.1 x.2
abbrev u3{A B C R:Type}(f:A->B->C->R)(x:A×B×C):R:=f x.1 x.2.1 x.2.2
abbrev u4{A B C D R:Type}(f:A->B->C->D->R)(x:A×B×C×D):R:=f x.1 x.2.1 x.2.2.1 x.2.2.2
abbrev u5{A B C D E R:Type}(f:A->B->C->D->E->R)(x:A×B×C×D×E):R:=f x.1 x.2.1 x.2.2.1 x.2.2.2.1 x.2.2.2.2
abbrev u6{A B C D E F R:Type}(f:A->B->C->D->E->F->R)(x:A×B×C×D×E×F):R:=f x.1 x.2.1 x.2.2.1 x.2.2.2.1 x.2.2.2.2.1 x.2.2.2.2.2
inductive Tk where
 |O|T|X
 |B (i n:Nat)
 |L (i n:Nat)
 |E (n:Nat)
 |R (j:JS)
 |J (j:JS)
 |P (j:JS)
 |K (j:JS)
def dk:Nat->List Tk->(vJ->List Tk->vJ)->vJ
 |k+1, .O::l,c=>dk k l λa l=>c (.two .nil a) l
 |k+1, .T::l,c=>dk k l λa l=>dk k l λb l=>c (.two a b) l
 |_+1, .X::l,c=>c .nil l
 |_+1, .B i n::l,c=>c (.meet ⟨[(i, .l .bool)],[],[],n⟩ .nil .nil) l
 |k+1, .L i n::l,c=>dk k l λa l=>c (.loop ⟨[(i, .l aA)],[],[],n⟩ a) l
 |k+1, .E n::l,c=>dk k l λa l=>dk k l λb l=>c (.join ⟨[],[],[],n⟩ a b) l
 |k+1, .R j::l,c=>dk k l λa l=>dk k l λb l=>c (.meet j a b) l
 |k+1, .J j::l,c=>dk k l λa l=>dk k l λb l=>c (.join j a b) l
 |k+1, .P j::l,c=>dk k l λa l=>c (.loop j a) l
 |k+1, .K j::l,c=>dk k l λa l=>c (.loopK j a) l
 |_,_,c=>c .nil []
abbrev ak(l:List Tk):vJ:=dk 9999 l λa _=>a
instance{P:Program}{f:Nat}{sg:pj}:CoeOut (gZ P f sg) (CT P):=⟨ck⟩
end
end Go.Proofs.YtfeahmiobbjklaaGreatDoor
end
namespace Go.Proofs.YtfeahmiobbjklaaGreatDoor
open Go Go.RowKit
set_option maxRecDepth 100000
set_option linter.unusedSimpArgs false
set_option linter.unusedVariables false
set_option linter.defProp false
inductive FB(F:Nat->Prop)(w:World):Nat->List (Nat×SS)->List kJ->List Value->Prop where
 |nil {k:Nat}:FB F w k [] [] []
 |cons {k:Nat} {agg:Bool} {r:Row} {x:r.den} {v:Value} {ss:List (Nat×SS)} {ds:List kJ} {vs:List Value} (h:aS ⟨λ_=>ae,λ_=>ae,λ_ _=>False⟩ F w agg (.leaf r x) v) (hs:FB F w (k+1) ss ds vs):FB F w k ((k, .val agg (.leaf r))::ss) (⟨r,x⟩::ds) (v::vs)
def FB.aG{F:Nat->Prop}{w:World}{k:Nat}{ss:List (Nat×SS)}{ds:List kJ}{vs:List Value}(h:FB F w k ss ds vs):(∀t d,find (dh ss ds).1 t=aa d->k<=t/\aE ⟨λ_=>ae,λ_=>ae,λ_ _=>False⟩ F w d (vs.getD (t-k) undef))/\(dh ss ds).2=[]/\vs.length=ss.length:=by
 induction h with
 |nil=>exact⟨λ_ _ h=>(by cases h),rfl,rfl⟩
 | @cons k agg r x v ss ds vs h hs ih=>
   refine⟨λt d hf=>?_,ih.2.1,by simp[ih.2.2]⟩;have sd:find ((k,aF.val agg (bif r.beq r then Tree.leaf r x else .nil))::(dh ss ds).1) t=aa d:=hf;rw[bd]at sd;split at sd
   .rename_i e;subst e;obtain rfl:=aiC sd;rw[Row.beq_refl,Nat.sub_self];exact⟨aiH _,h⟩
   grind
def Md(F:Nat->Prop)(w:World)(k:IntKind)(x:Int):aS ⟨λ_=>ae,λ_=>ae,λ_ _=>False⟩ F w ah (.leaf (.int k) x) (.int k x):=aS.nz rfl
def pT{F:Nat->Prop}{w:World}{r:Row}{x:r.den}{es:List Value}(h:cS F w r es x):aS ⟨λ_=>ae,λ_=>ae,λ_ _=>False⟩ F w af (.leaf r x) (.agg es.toArray):=⟨es,h,rfl,by simp⟩
def Jp{P:Program}{f:FuncId}{inn:JS}{fn:dj inn.rows->Option Bool}(h:gZ P f ⟨inn,⟨[(0, .val ah (.leaf .bool))],[],[],0⟩,fn⟩){x:dj inn.rows}{y:Bool}(hy:fn x=aa y){ds:List kJ}(xU:dy inn.rows x=ds){W:World}{vs:List Value}
 (ha:FB (λb=>b<W.heap.size) W 0 inn.aG ds vs)(ho:inn.objs=[])(Sp:pG (λb=>b<W.heap.size) W):Calls P f vs.toArray W λe W'=>e= .returned (.bool y)/\Below W.heap.size W W':=by
 obtain⟨h1,h2,h3⟩:=ha.aG;subst xU
 refine(h.ok x y hy vs W ⟨λ_=>ae,λ_=>ae,λ_ _=>False⟩ (λb=>b<W.heap.size) (λ_=>False) h3 (by grind) ?_ (λ_ _=>⟨rfl,rfl⟩) (λ_ h=>h.elim)).mono λe W' ⟨us,he,Pd,H',F',a1,_,_,_,a5,_⟩=>?_
 .show aL _ _ _ W (find (ir 0 inn.objs _)) inn.nxt
  rw[ho];exact⟨λ_ _ _ h=>(by cases h),λ_ _ _ _ _ _ _ _ _ h=>(by cases h),λ_ _ _=>⟨rfl,rfl⟩,λ_ h=>h,λ_ h=> .inl h,Sp⟩
 .refine⟨?_,⟨a1.os,a1.tape.1,a1.output,a1.size,λk hk=>a1.block k hk (λh=>h)⟩⟩
  match us,Pd with
  |[u],_=>
   have:=a5 0 (ec y) rfl;have hu:u= .bool y:=aS.bool (x:=y) this;rw[he,hu];rfl
def Jq{H:Type}{enc:TypeId×Value->H}{P:Program}{W:World}{base:Nat}{spare:Nat->Bool}{held:Bool}{fuel:Nat}{t e:TypeId}{n:Nat}{k:IntKind}(ht:P.underlying t=aa (.array n e))(he:P.underlying e=aa (.int k))(hc:P.cellsOf e=1)(Zl:P.cellsOf t=n)
 {cs:List Value}{ns:List Int}{q:List MemPlace}(hd:DataW.trod enc P W base spare held fuel t cs=aa (.agg (ns.map λx=> .lit (.int k x)),q)):cs=ns.map λx=> .int k x:=by
 obtain⟨xs,m,_,hx,hl,hn,uX⟩:=DataW.trod_array ht hd;simp only[Prod.mk.injEq,DataW.agg.injEq]at hx
 have hln:ns.length=n:=by rw[<-hn,<-ajn (f:=λx:Int=>(DataW.lit (.int k x):DataW H)),hx.1,ajn]
 apply List.ext_getElem?
 intro i;by_cases hi:i<n
 .have h:=uX i hi;rw[hc,Nat.mul_one,aiE (by omega:i<xs.length)]at h;obtain⟨z,h1,h2,_⟩:=DataW.trod_int he h
  have h3:(xs.map (·.1))[i]? =aa (.lit (.int k z)):=by
   rw[List.getElem?_map,aiE (by omega:i<xs.length),h2];rfl
  rw[<-hx.1,List.getElem?_map,aiE (by omega:i<ns.length)]at h3;simp only[Option.map_some,aiO,DataW.lit.injEq,Lit.int.injEq,true_and]at h3;rw[List.getElem?_map,aiE (by omega:i<ns.length),h3]
  have h4:((cs.drop i).take 1)[0]? =aa (.int k z):=by rw[h1];rfl
  grind
 grind
def Pv{W:World}{b off:Nat}{v:Value}(h:W.cell? ⟨b,off,ae⟩=aa v):b<W.heap.size:=by
 unfold World.cell? at h
 grind
section
section
variable {P:Program} {nt N:Nat} {R:Type}
variable {ρ:Nat->Value} {w w0:World} {H:aK} {F F0 G:Nat->Prop}
end
end
end Go.Proofs.YtfeahmiobbjklaaGreatDoor
