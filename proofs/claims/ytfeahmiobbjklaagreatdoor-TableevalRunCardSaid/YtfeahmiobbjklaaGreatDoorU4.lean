/- Joined texts: Exec Draw2 Draw4 Fn Law Laid Jump. -/
import Derived.Test.YtfeahmiobbjklaaGreatDoorU3
import Derived.Scope
import Derived.Test.YtfeahmiobbjklaaGreatDoorU1
import Derived.ProofKit
import Derived.LaidMore
import Derived.OpenShut
import Derived.Stop.Joined
set_option linter.defProp false
open _root_.Bool renaming false->ag,true->af
open _root_.Option renaming none->ae,some->aa
open _root_.Array renaming toArray_toList->arL
open _root_.List.cons renaming injEq->arV
open _root_.Nat renaming beq->aqV,blt->aru,le_trans->ark,le_refl->aqU
open _root_.Option.some renaming inj->aqP,injEq->aq2
open _root_.Go.Sem renaming run_bind->arj
open _root_.List renaming getElem?_eq_getElem->aqR
namespace Go.Proofs.YtfeahmiobbjklaaGreatDoor
open Go Go.RowKit
set_option maxRecDepth 100000
set_option linter.unusedSimpArgs false
set_option linter.unusedVariables false
set_option linter.defProp false
section
structure Env(P:Program)where
 T:bz P
 tab:List (Nat×qf)
 ok:∀p∈tab,hZ P p.1 p.2
 mix:P.follows .mixedOrders=af
 deep:Bool
 drop:Bool
def DW(rd:Operand->Option aI):List Operand->Option (List (Nat×List Bool×Nat))
 |[]=>aa []
 |x::xs=>match rd x with
  |some (.ptr o p off)=>match DW rd xs with
   |some cs=>aa ((o,p,off)::cs)
   |none=>ae
  |_=>ae
def CF{H:aN}{F:Nat->Prop}{w:World}{ρ:Nat->Value}{rd:Operand->Option aI}(jo:∀x d,rd x=aa d->aH H F w d (ev ρ x)):{xs:List Operand}->{cs:List (Nat×List Bool×Nat)}->DW rd xs=aa cs->og H cs (xs.map (ev ρ))
 |[],cs,h=>by obtain rfl:=aqP h;rfl
 |x::xs,cs,h=>by
  unfold DW at h;split at h
  case h_2=>cases h
  rename_i o p off hx;split at h
  case h_2=>cases h
  rename_i yA tP;obtain rfl:=aqP h;exact⟨_,_,rfl,jo _ _ hx,CF jo tP⟩
def pS{R:Type}(rd:Operand->Option aI)(fn:Fn)(first caps:Array Operand)(k:fF->Option R):Option R:=
 match fn,first.toList with
 | .func f,[]=>match DW rd caps.toList with
   |some cs=>k {dst:= .fn f cs}
   |none=>ae
 |_,_=>ae
def DX{R:Type}{P:Program}{U:Nat->Prop}{H:aN}{F:Nat->Prop}{w:World}{ρ:Nat->Value}{ob:Nat->Option (Nat×Th)}{n d:Nat}{ty:TypeId}{pos:String}{aft:Array Edge}{rd:Operand->Option aI}(jo:∀x d,rd x=aa d->aH H F w d (ev ρ x)){fn:Fn}{first caps:Array Operand}{k:fF->Option R}{q:R}
 (h:pS rd fn first caps k=aa q)(hs:aP U H F w ob n):∃e,k e=aa q/\cX P U H F w ρ ob n ⟨aa d, .makeFunc fn first caps,ty,pos,aft,ae⟩ e:=by
 unfold pS at h;split at h
 case h_2=>cases h
 rename_i f hf;split at h
 case h_2=>cases h
 rename_i cs tP
 have Xc:first= #[]:=by rw[<-arL (xs:=first),hf]
 subst Xc
 have e:caps.map (ev ρ)=(caps.toList.map (ev ρ)).toArray:=by rw[<-List.map_toArray,arL]
 exact⟨_,h,cm hs (v:= .func (.func f) #[] (caps.toList.map (ev ρ)).toArray) (by simp[execOp,Instr.makeFunc,e]) ⟨_,rfl,CF jo tP⟩⟩
noncomputable def rv{R:Type}{P:Program}(E:Env P)(rd:Operand->Option aI)(objs:List (Nat×(Nat×Th)))(n:Nat)(callee:Callee)(args:Array Operand)(yd:Array TypeId)(k:fF->Option R):Option R:=
 match callee with
 | .builtin .len=>match args.toList,yd.toList with
   |[x],[t]=>match rd x with
    |some D=>match MQ E.T (find objs) t D with
     |some D'=>k {dst:=D'}
     |none=>ae
    |none=>ae
   |_,_=>ae
 | .builtin .append=>match args.toList,yd.toList with
   |[x,y],[t,t']=>bif aqV t t' then(match rd x with
    |some X=>match rd y with
     |some Y=>rp E.T (find objs) n t X Y k
     |none=>ae
    |none=>ae)else ae
   |_,_=>ae
 | .builtin .max=>match args.toList,yd.toList with
   |[x,y],[_,_]=>match rd x with
    |some X=>match rd y with
     |some Y=>match yZ af X Y with
      |some D=>k {dst:=D}
      |none=>ae
     |none=>ae
    |none=>ae
   |_,_=>ae
 | .builtin .min=>match args.toList,yd.toList with
   |[x,y],[_,_]=>match rd x with
    |some X=>match rd y with
     |some Y=>match yZ ag X Y with
      |some D=>k {dst:=D}
      |none=>ae
     |none=>ae
    |none=>ae
   |_,_=>ae
 | .builtin .delete=>match args.toList,yd.toList with
   |[m,x],[t,_]=>match rd m with
    |some M=>match rd x with
     |some X=>tU E.T (find objs) n t M X k
     |none=>ae
    |none=>ae
   |_,_=>ae
 | .value g=>CC E.tab rd objs n g args.toList k
 | .invoke x name=>uf E.T E.tab rd objs n x name args.toList k
 |_=>ae
noncomputable def Ud{R:Type}{P:Program}(E:Env P)(rd:Operand->Option aI)(objs:List (Nat×(Nat×Th)))(n:Nat)(dst:Option Nat)(op:Op)(k:fF->Option R):Option R:=
 match dst with
 |none=>match op with
  | .store t x y=>match rd x with
    |some X=>match rd y with
     |some Y=>ub E.T (find objs) n t X Y k
     |none=>ae
    |none=>ae
  | .call c=>rv E rd objs n c.callee c.args c.argTypes k
  | .mapUpdate t m x y=>match rd m with
    |some M=>match rd x with
     |some X=>match rd y with
      |some Y=>mH E.T (find objs) n t M X Y k
      |none=>ae
     |none=>ae
    |none=>ae
  |_=>ae
 |some _=>match op with
  | .move x=>match rd x with
    |some D=>k {dst:=D}
    |none=>ae
  | .assign x=>match rd x with
    |some D=>k {dst:=D}
    |none=>ae
  | .pick c x y=>match rd c with
    |some C=>match asBool C with
     |some b=>match(if b=af then rd x else rd y)with
      |some D=>k {dst:=D}
      |none=>ae
     |none=>ae
    |none=>ae
  | .alloc t=>xc E.T n t k
  | .box t x=>match rd x with
    |some X=>MP n t X k
    |none=>ae
  | .build t ps=>xe E.T rd t ps k
  | .buildSlice t m ps=>zd E.deep E.T rd (find objs) n t m ps k
  | .load t x=>match rd x with
    |some X=>sY E.T (find objs) n t X k
    |none=>ae
  | .nilCheck x=>match rd x with
    |some (.ptr o p off)=>k {dst:= .ptr o p off}
    |some (.elem o s r i z p off)=>k {dst:= .elem o s r i z p off}
    |some (.dlm o d i p off)=>k {dst:= .dlm o d i p off}
    |some (.at r z)=>k {dst:= .at r z}
    |_=>ae
  | .binOp o t x y _=>match rd x with
    |some X=>match rd y with
     |some Y=>MX E.T (find objs) o t (ZE y) X Y k
     |none=>ae
    |none=>ae
  | .unOp o _ x=>match rd x with
    |some X=>match eUn o X with
     |some D=>k {dst:=D}
     |none=>ae
    |none=>ae
  | .convert s t x=>match rd x with
    |some X=>match P1 E.T s t X with
     |some D=>k {dst:=D}
     |none=>ae
    |none=>ae
  | .makeSlice t a b=>match rd a with
    |some A=>match asInt A with
     |some (_,i)=>match rd b with
      |some B=>match asInt B with
       |some (_,j)=>zY E.deep E.T n t (sW a b) i j k
       |none=>ae
      |none=>ae
     |none=>ae
    |none=>ae
  | .slice t x lo hi ae=>match rd x with
    |some X=>xf E.drop E.T rd (find objs) n t X lo hi k
    |none=>ae
  | .fieldAddr t x f=>match rd x with
    |some X=>match IK E.T t f X with
     |some D=>k {dst:=D}
     |none=>ae
    |none=>ae
  | .field t x f=>match rd x with
    |some X=>match DD E.T t f X with
     |some D=>k {dst:=D}
     |none=>ae
    |none=>ae
  | .indexAddr t x y=>match rd x with
    |some X=>match rd y with
     |some Y=>match asInt Y with
      |some (_,i)=>w8 E.T (find objs) t X i k
      |none=>ae
     |none=>ae
    |none=>ae
  | .index t x y=>match rd x with
    |some X=>match rd y with
     |some Y=>match asInt Y with
      |some (_,i)=>tW E.T (find objs) t X i k
      |none=>ae
     |none=>ae
    |none=>ae
  | .extract x i=>match rd x with
    |some X=>match zP X i with
     |some D=>k {dst:=D}
     |none=>ae
    |none=>ae
  | .call c=>rv E rd objs n c.callee c.args c.argTypes k
  | .makeFunc fn first caps=>pS rd fn first caps k
  | .makeMap t ae=>pR E.deep E.T n t k
  | .lookup t m x ok=>match rd m with
    |some M=>match rd x with
     |some X=>rn E.T (find objs) n t ok M X k
     |none=>ae
    |none=>ae
  | .range t x=>match rd x with
    |some X=>xn E.T (find objs) n t X k
    |none=>ae
  | .entry x=>match rd x with
    |some X=>match I6 objs X with
     |some D=>k {dst:=D}
     |none=>ae
    |none=>ae
  | .makeInterface t x=>match rd x with
    |some X=>Nj E.T t X k
    |none=>ae
  | .typeAssert x _ t ok=>match rd x with
    |some X=>ue E.T t ok X k
    |none=>ae
  |_=>ae
section
variable {P:Program} {ρ:Nat->Value} {w w':World} {H H':aN} {F F':Nat->Prop} {U:Nat->Prop} {n:Nat} {R:Type}
variable {ty:TypeId} {pos:String} {aft:Array Edge} {dst:Option Nat} {d:Nat}
def fx{α:Type}{a:Array α}{l:List α}(h:a.toList=l):a=l.toArray:=by grind
def CG(E:Env P){rd:Operand->Option aI}(jo:∀x d,rd x=aa d->aH H F w d (ev ρ x)){objs:List (Nat×(Nat×Th))}{args:Array Operand}{yd:Array TypeId}{k:fF->Option R}{q:R}{dst:Option Nat}
 (h:rv E rd objs n (.builtin .delete) args yd k=aa q)(hs:aP U H F w (find objs) n):∃e,k e=aa q/\cX P U H F w ρ (find objs) n ⟨dst, .call {callee:= .builtin .delete,args:=args,argTypes:=yd},ty,pos,aft,ae⟩ e:=by
 unfold rv at h;simp only at h;split at h
 case h_2=>cases h
 rename_i m x t t' ha ht;obtain rfl:=fx ha;obtain rfl:=fx ht;split at h
 case h_2=>cases h
 rename_i M hM;split at h
 case h_2=>cases h
 rename_i X hX;exact IT E.T h hs (jo _ _ hM) (jo _ _ hX)
def Qv(E:Env P){rd:Operand->Option aI}(jo:∀x d,rd x=aa d->aH H F w d (ev ρ x)){objs:List (Nat×(Nat×Th))}{c:Call}{k:fF->Option R}{q:R}
 (h:rv E rd objs n c.callee c.args c.argTypes k=aa q)(hs:aP U H F w (find objs) n):∃e,k e=aa q/\cX P U H F w ρ (find objs) n ⟨aa d, .call c,ty,pos,aft,ae⟩ e:=by
 obtain⟨callee,args,yd⟩:=c;simp only at h;unfold rv at h;split at h
 .split at h
  case h_2=>cases h
  rename_i x t ha ht;obtain rfl:=fx ha;obtain rfl:=fx ht;split at h
  case h_2=>cases h
  rename_i D hD;split at h
  case h_2=>cases h
  rename_i D' Tx;exact⟨_,h,KM E.T Tx hs (jo _ _ hD)⟩
 .split at h
  case h_2=>cases h
  rename_i x y t t' ha ht;obtain rfl:=fx ha;obtain rfl:=fx ht;obtain⟨hb,h'⟩:=bi h;clear h;obtain rfl:=beq_true hb;split at h'
  case h_2=>cases h'
  rename_i X hX;split at h'
  case h_2=>cases h'
  rename_i Y hY;exact FR E.T h' hs (jo _ _ hX) (jo _ _ hY)
 .split at h
  case h_2=>cases h
  rename_i x y t t' ha ht;obtain rfl:=fx ha;obtain rfl:=fx ht
  grind [zQ]
 .split at h
  case h_2=>cases h
  rename_i x y t t' ha ht;obtain rfl:=fx ha;obtain rfl:=fx ht
  grind [zQ]
 .refine CG E jo ?_ hs;unfold rv;exact h
 .exact Ge E.ok jo h hs
 .exact Ag E.T E.ok jo h hs
 .cases h
def aae:Callee->Bool
 | .value _=>af
 | .invoke .. =>af
 |_=>ag
def Qw:Callee->Bool
 | .builtin .delete=>af
 |c=>aae c
def BC(E:Env P){rd:Operand->Option aI}(jo:∀x d,rd x=aa d->aH H F w d (ev ρ x)){objs:List (Nat×(Nat×Th))}{c:Call}{k:fF->Option R}{q:R}(hc:Qw c.callee=af)
 (h:rv E rd objs n c.callee c.args c.argTypes k=aa q)(hs:aP U H F w (find objs) n):∃e,k e=aa q/\cX P U H F w ρ (find objs) n ⟨ae, .call c,ty,pos,aft,ae⟩ e:=by
 obtain⟨callee,args,yd⟩:=c;simp only at h hc
 cases callee with
 |value g=>exact Ge E.ok jo h hs
 |invoke x name=>exact Ag E.T E.ok jo h hs
 |builtin b=>cases b<;>first|(cases hc;done)|exact CG E jo h hs
end
section
variable {P:Program} {ρ:Nat->Value} {w w':World} {H H':aN} {F F':Nat->Prop} {U:Nat->Prop} {n:Nat} {R:Type}
variable {ty:TypeId} {pos:String} {aft:Array Edge} {dst:Option Nat} {d:Nat}
def Nn{c x y:Operand}{b:Bool}{D:aI}{ob:Nat->Option (Nat×Th)}(hs:aP U H F w ob n)(hc:ev ρ c= .bool b)(hx:aH H F w D (ev ρ (if b=af then x else y))):cX P U H F w ρ ob n ⟨aa d, .pick c x y,ty,pos,aft,ae⟩ {dst:=D}:=by
 cases b with
 |true=>exact bo hs (zx hc rfl) hx
 |false=>exact bo hs (yy hc rfl) hx
def Qx(E:Env P){rd:Operand->Option aI}(jo:∀x d,rd x=aa d->aH H F w d (ev ρ x)){objs:List (Nat×(Nat×Th))}{op:Op}{k:fF->Option R}{q:R}
 (E8:dst=ae->∀c,op= .call c->Qw c.callee=af)(h:Ud E rd objs n dst op k=aa q)(hs:aP U H F w (find objs) n):∃e,k e=aa q/\cX P U H F w ρ (find objs) n ⟨dst,op,ty,pos,aft,ae⟩ e:=by
 cases dst with
 |none=>
  unfold Ud at h;simp only at h;split at h
  .split at h
   case h_2=>cases h
   rename_i X hX;split at h
   case h_2=>cases h
   rename_i Y hY;exact I2 E.T h hs (jo _ _ hX) (jo _ _ hY)
  .rename_i c;exact BC E jo (E8 rfl c rfl) h hs
  .split at h
   case h_2=>cases h
   rename_i M hM;split at h
   case h_2=>cases h
   rename_i X hX;split at h
   case h_2=>cases h
   rename_i Y hY;exact z6 E.T h hs (jo _ _ hM) (jo _ _ hX) (jo _ _ hY)
  .cases h
 |some d=>
  unfold Ud at h;simp only at h;split at h
  .grind [MY]
  .grind [FA]
  .split at h
   case h_2=>cases h
   rename_i C hC;split at h
   case h_2=>cases h
   rename_i b hb;split at h
   case h_2=>cases h
   rename_i D hD;refine⟨_,h,Nn hs (rb hb (jo _ _ hC)) ?_⟩
   grind
  .exact MO E.T h hs
  .split at h
   case h_2=>cases h
   rename_i X hX;exact TG h hs (jo _ _ hX)
  .exact MS E.T jo h hs
  .exact I3 E.deep E.T jo h hs
  .split at h
   case h_2=>cases h
   rename_i X hX;exact M9 E.T h hs (jo _ _ hX)
  .split at h
   .rename_i o p off hX;obtain⟨b,h1,h2⟩:=jo _ _ hX;exact⟨_,h,cm hs (v:= .pointer (aa ⟨b,off,ae⟩)) (by simp[execOp,h2]) ⟨b,h1,rfl⟩⟩
   .rename_i o s r i z p off hX;have hd:=jo _ _ hX;obtain⟨g,o0,q,T,m,cap,l,_,_,_,_,h2⟩:=id hd;exact⟨_,h,cm hs (v:= .pointer (aa ⟨g,o0+q*r.size+off,ae⟩)) (by simp[execOp,h2]) (by grind)⟩
   .rename_i o d i p off hX;have hd:=jo _ _ hX;obtain⟨g,o0,q,m,cap,_,_,h2⟩:=id hd;exact⟨_,h,cm hs (v:= .pointer (aa ⟨g,o0+q*d.low.size+off,ae⟩)) (by simp[execOp,h2]) (by grind)⟩
   .rename_i r z hX;have hd:=jo _ _ hX;obtain⟨b,off,h2,_⟩:=id hd;exact⟨_,h,cm hs (v:= .pointer (aa ⟨b,off,ae⟩)) (by simp[execOp,h2]) (by grind)⟩
   .cases h
  .split at h
   case h_2=>cases h
   rename_i X hX;split at h
   case h_2=>cases h
   rename_i Y hY;exact TL E.T h hs (jo _ _ hX) (jo _ _ hY)
  .grind [WV]
  .split at h
   case h_2=>cases h
   rename_i X hX;split at h
   case h_2=>cases h
   rename_i D hD;exact⟨_,h,P2 E.T hD hs (jo _ _ hX)⟩
  .split at h
   case h_2=>cases h
   rename_i A hA;split at h
   case h_2=>cases h
   rename_i i hi;split at h
   case h_2=>cases h
   rename_i B hB;split at h
   case h_2=>cases h
   rename_i j hj;exact M8 E.deep E.T h hs (kD hi (jo _ _ hA)) (kD hj (jo _ _ hB))
  .split at h
   case h_2=>cases h
   rename_i X hX;exact MW E.drop E.T jo h hs (jo _ _ hX)
  .split at h
   case h_2=>cases h
   rename_i X hX;split at h
   case h_2=>cases h
   rename_i D hD;exact⟨_,h,MJ E.T hD hs (jo _ _ hX)⟩
  .split at h
   case h_2=>cases h
   rename_i X hX;split at h
   case h_2=>cases h
   rename_i D hD;exact⟨_,h,IS E.T hD hs (jo _ _ hX)⟩
  .split at h
   case h_2=>cases h
   rename_i X hX;split at h
   case h_2=>cases h
   rename_i Y hY;split at h
   case h_2=>cases h
   rename_i i hi;exact MK E.T h hs (jo _ _ hX) (kD hi (jo _ _ hY))
  .split at h
   case h_2=>cases h
   rename_i X hX;split at h
   case h_2=>cases h
   rename_i Y hY;split at h
   case h_2=>cases h
   rename_i k' i hi;exact IW E.T h hs (jo _ _ hX) (kD hi (jo _ _ hY))
  .grind [Fz]
  .exact Qv E jo h hs
  .exact DX jo h hs
  .exact DQ E.deep E.T h hs
  .split at h
   case h_2=>cases h
   rename_i M hM;split at h
   case h_2=>cases h
   rename_i X hX;exact FN E.T h hs (jo _ _ hM) (jo _ _ hX)
  .split at h
   case h_2=>cases h
   rename_i X hX;exact Nb E.T h hs (jo _ _ hX)
  .grind [Nc]
  .split at h
   case h_2=>cases h
   rename_i X hX;exact Uc E.T h hs (jo _ _ hX)
  .split at h
   case h_2=>cases h
   rename_i X hX;exact Jj E.T h hs (jo _ _ hX)
  .cases h
end
def vi(rd:Operand->Option aI)(x:Operand):List Nat:=
 match rd x with
 |some (.val _ t)=>t.owns
 |_=>[]
def DY(rd:Operand->Option aI)(x:Operand):List Nat:=
 match rd x with
 |some (.val _ (.view o _ _ _))=>[o]
 |_=>[]
def Le(rd:Operand->Option aI):List Operand->List Nat
 |[]=>[]
 |x::xs=>vi rd x++Le rd xs
def xz:Operand->Bool
 | .const (.slice ae 0 0)=>af
 |_=>ag
def Ue(rd:Operand->Option aI):Op->List Nat
 | .store _ x y=>match rd x with
   |some (.elem ..)=>vi rd y
   |_=>[]
 | .buildSlice _ _ ps=>Le rd (ps.toList.map (·.2))
 | .binOp .eql _ x y _=>bif xz y then[]else vi rd x++vi rd y
 | .binOp .neq _ x y _=>bif xz y then[]else vi rd x++vi rd y
 | .slice _ x _ _ _=>DY rd x
 | .indexAddr _ x _=>DY rd x
 | .call c=>match c.callee,c.args.toList with
   | .builtin .append,[_,y]=>DY rd y
   |_,_=>[]
 | .mapUpdate _ _ _ y=>vi rd y
 |_=>[]
def Gg(nt:Nat):Option Nat->Bool
 |some d=>aru d nt
 |none=>af
def fnB(dst:Option Nat)(op:Op):Bool:=
 match dst with
 |some _=>af
 |none=>match op with
  | .call c=>Qw c.callee
  |_=>af
open Classical in
noncomputable def Jm{α:Type}(a b:Option α):Option α:=if a=b then a else ae
def Xd{α:Type}{a b:Option α}{q:α}(h:Jm a b=aa q):a=aa q:=by
 grind [Jm]
def Xe{α:Type}{a b:Option α}{q:α}(h:Jm a b=aa q):b=aa q:=by
 grind [Jm]
def Qy{P:Program}(T:bz P)(rd:Operand->Option aI)(ob:Nat->Option (Nat×Th)):Op->Option (Bool×Nat)
 | .binOp o t x y _=>match o with
   | .eql=>bif xz y then(match find T.und t with
     |some (.slice _)=>match rd x with
      |some X=>match yH ob X with
       |some (.read _ l)=>aa (ag,l.length)
       |some (.own _ _ _ _ l)=>aa (ag,l.length)
       |_=>ae
      |none=>ae
     |_=>ae)else ae
   | .neq=>bif xz y then(match find T.und t with
     |some (.slice _)=>match rd x with
      |some X=>match yH ob X with
       |some (.read _ l)=>aa (af,l.length)
       |some (.own _ _ _ _ l)=>aa (af,l.length)
       |_=>ae
      |none=>ae
     |_=>ae)else ae
   |_=>ae
 |_=>ae
def vj{P:Program}(E:Env P)(rd:Operand->Option aI)(objs:List (Nat×(Nat×Th)))(op:Op):List Nat:=
 match E.deep,op with
 |true, .buildSlice .. =>[]
 |_,_=>Ue rd op
noncomputable def Ah(st:State)(o:Nat):State:=
 match VS (find st.objs) st.nxt o with
 |some e=>st.apply ae e
 |none=>st
noncomputable def yf(st:State):List Nat->State
 |[]=>st
 |o::os=>yf (Ah st o) os
def VW:List (Nat×(Nat×Th))->Bool
 |[]=>ag
 |(_,(_, .deep _ _ _ (aa _)))::_=>af
 |_::l=>VW l
noncomputable def sE(st:State):State:=
 match VW st.objs with
 |true=>yf (yf st (st.objs.map (·.1))) (st.objs.map (·.1))
 |false=>st
def aaf:Op->Bool
 | .call c=>aae c.callee
 |_=>ag
def Jn(o:Nat):List (Nat×(Nat×Th))->Bool
 |[]=>ag
 |(_,(_, .deep _ _ _ (aa h)))::l=>aqV h.o o||Jn o l
 |_::l=>Jn o l
def Uf(st:State)(x:Operand):Bool:=
 match MH st.aJ x with
 |some (.val _ (.own o))=>Jn o st.objs
 |_=>ag
def Qz(st:State):Op->Bool
 | .call c=>c.args.toList.any (Uf st)
 |_=>ag
def QA:Op->Option Operand
 | .next x ag=>aa x
 |_=>ae
noncomputable def Lf{R:Type}{P:Program}(E:Env P)(dst:Option Nat)(op:Op)(st:State)(k:State->Option R):Option R:=
 match iG st.objs (vj E (MH st.aJ) st.objs op)with
 |some bq=>match Qy E.T (MH st.aJ) (find bq) op with
  |some (b,m)=>match dst with
   |some d=>if aqV m 0=af then Jm (k (State.apply {st with objs:=bq} (aa d) {dst:=fD af})) (k (State.apply {st with objs:=bq} (aa d) {dst:=fD ag}))
     else k (State.apply {st with objs:=bq} (aa d) {dst:=fD b})
   |none=>ae
  |none=>match QA op with
   |some x=>match dst with
    |some d=>match MH st.aJ x with
     |some X=>Qc bq st.nxt X (λe=>k (State.apply {st with objs:=bq} (aa d) e))
     |none=>ae
    |none=>ae
   |none=>bif fnB dst op then Ud E (MH st.aJ) bq st.nxt dst op (λe=>k (State.apply {st with objs:=bq} dst e))else ae
 |none=>ae
noncomputable def Ai{R:Type}{P:Program}(E:Env P)(dst:Option Nat)(op:Op)(st:State)(k:State->Option R):Option R:=
 match E.deep&&aaf op&& !Qz st op with
 |true=>Lf E dst op (sE st) k
 |false=>Lf E dst op st k
def Lg(all:Array Oper)(j:Nat):Option Nat:=(all[j]?).bind (·.dst)
def State.put(st:State)(dst:Option Nat)(d:aI):State:=
 match dst with
 |some t=>{st with aJ:=(t,d)::st.aJ}
 |none=>st
def Aj(dst:Option Nat)(kn:List (Nat×Bool)):List (Nat×Bool):=
 match dst with
 |some d=>del [d] kn
 |none=>kn
noncomputable def runs{R:Type}{P:Program}(E:Env P)(nt:Nat)(all:Array Oper):List Oper->List (Nat×Bool)->State->(State->Option R)->Option R
 |[],_,st,k=>k st
 |o::os,kn,st,k=>bif Gg nt o.dst then(match o.guard with
  |none=>Ai E o.dst o.op st (λdK=>runs E nt all os (Aj o.dst kn) dK k)
  |some (j,b)=>match Lg all j with
   |none=>ae
   |some g=>bif aru g nt then(match find kn g with
    |some v=>bif (bif v then b else !b)then Ai E o.dst o.op st (λdK=>runs E nt all os (Aj o.dst kn) dK k)else runs E nt all os (Aj o.dst kn) (st.put o.dst .undef) k
    |none=>match find st.aJ g with
     |some .undef=>runs E nt all os (Aj o.dst kn) (st.put o.dst .undef) k
     |some d=>match asBool d with
      |some t=>if t=af then
        (bif b then Ai E o.dst o.op (st.put (aa g) (fD af)) (λdK=>runs E nt all os (Aj o.dst ((g,af)::kn)) dK k)
          else runs E nt all os (Aj o.dst ((g,af)::kn)) ((st.put (aa g) (fD af)).put o.dst .undef) k)
       else
        (bif b then runs E nt all os (Aj o.dst ((g,ag)::kn)) ((st.put (aa g) (fD ag)).put o.dst .undef) k
          else Ai E o.dst o.op (st.put (aa g) (fD ag)) (λdK=>runs E nt all os (Aj o.dst ((g,ag)::kn)) dK k))
      |none=>ae
     |none=>ae)else ae)else ae
section
variable {P:Program} {nt:Nat} {ops:Array Oper} {K:(Nat->Value)->World->Prop} {rest:List Oper} {R:Type}
variable {ρ:Nat->Value} {w w0:World} {H:aN} {F F0 G:Nat->Prop}
abbrev UU(G:Nat->Prop)(w0:World):Nat->Prop:=λk=>w0.heap.size<=k\/G k
def Qh.oB{H':aN}{F':Nat->Prop}{w':World}{g:Nat->Prop}(hg:Qh G w0 F0 w F)(he:S7 H F w H' F' w' g)(hu:∀k,g k->UU G w0 k):Qh G w0 F0 w' F':=by
 have po:=hg.ext.size;refine⟨⟨he.ext.os.trans hg.ext.os,⟨he.ext.tape.1.trans hg.ext.tape.1,ark hg.ext.tape.2 he.ext.tape.2⟩,he.ext.output.trans hg.ext.output,ark po he.ext.size,λk hk hn=>?_⟩,λb hb=>he.le b (hg.le b hb),λb hb=>?_⟩
 .rw[he.ext.block k (by omega) λh=>?_]
  .exact hg.ext.block k hk hn
  grind
 .rcases he.grow b hb with h1|h1|h1
  .exact hg.new b h1
  all_goals grind
structure dD(G:Nat->Prop)(w0:World)(F0:Nat->Prop)(H:aN)(F:Nat->Prop)(w:World)(ρ:Nat->Value)(st:State):Prop where
 sat:Sat (UU G w0) H F w ρ st
 glob:Qh G w0 F0 w F
def cY.CH{H':aN}{F':Nat->Prop}{w':World}{g:Nat->Prop}(he:S7 H F w H' F' w' g)(hF:∀b,F b->b<w.heap.size)(hg:∀k,g k->¬F k):cY H F w H' F' w':=⟨he.jy,he.step hF hg⟩
def dD.yD{st:State}{os:List Nat}{bq:List (Nat×(Nat×Th))}(h:dD G w0 F0 H F w ρ st)(hf:iG st.objs os=aa bq):
 ∃F',dD G w0 F0 H F' w ρ {st with objs:=bq}/\cY H F w H F' w:=by
 obtain⟨F',a1,a2,a3⟩:=rq hf h.sat.ob
 have jJ:Step F w F' w:=λb hb=>⟨a2 b hb,rfl⟩
 refine⟨F',⟨⟨λt d hd=>(h.sat.slot t d hd).keep (aN.le.refl H) jJ,a1,h.sat.all⟩,⟨h.glob.ext,λb hb=>a2 b (h.glob.le b hb),λb hb=>?_⟩⟩,⟨aN.le.refl H,jJ⟩⟩
 rcases a3 b hb with h1|h1
 .exact h.glob.new b h1
 .exact .inr (h.sat.ob.iT b h1)
def Jo{P:Program}{ρ:Nat->Value}{w:World}{o:BinOp}(mR:o= .eql\/o= .neq){t u e:TypeId}{x y:Operand}{d:Nat}{ty:TypeId}{pos:String}{aft:Array Edge}(hu:P.underlying t=aa (.slice e)){A:Option Addr}{m c:Nat}(hx:ev ρ x= .slice A m c)(hy:ev ρ y= .slice ae 0 0):
 (execOp (ev ρ) ⟨aa d, .binOp o t x y u,ty,pos,aft,ae⟩).run P w= .ok (.value (.bool (bif decide (o= .eql)then A.isNone else !A.isNone))) w:=by
 have hm:Op.maxDepth=9999+1:=rfl
 have he:(Op.equal t (.slice A m c) (.slice ae 0 0)).run P w= .ok A.isNone w:=by
  unfold Op.equal;rw[hm];unfold Op.equalIn;rw[arj,run_underlying hu]
  cases A<;>rfl
 rcases mR with rfl|rfl
 .simp[execOp,eqGuard,binOp,hx,hy,he]
 .simp[execOp,eqGuard,binOp,hx,hy,he]
def QB{P:Program}(T:bz P){U:Nat->Prop}{H:aN}{F:Nat->Prop}{w:World}{ρ:Nat->Value}{n:Nat}{ob:Nat->Option (Nat×Th)}{rd:Operand->Option aI}(jo:∀x d,rd x=aa d->aH H F w d (ev ρ x))(hs:aP U H F w ob n){op:Op}{b:Bool}{m:Nat}(h:Qy T rd ob op=aa (b,m)){d:Nat}{ty:TypeId}{pos:String}{aft:Array Edge}:
 ∃r:Bool,(m≠0->r=b)/\(execOp (ev ρ) ⟨aa d,op,ty,pos,aft,ae⟩).run P w= .ok (.value (.bool r)) w:=by
 have isn:∀{y:Operand},xz y=af->ev ρ y= .slice ae 0 0:=by
  intro y hy;unfold xz at hy;split at hy
  .rfl
  .cases hy
 have key:∀{k:PR}{v:Value},TD U H F w ob v k->∀m,(match k with| .read _ l=>l.length=m| .own _ _ _ _ l=>l.length=m|_=>False)->∃A n c,v= .slice A n c/\(m≠0->A.isNone=ag):=by
  intro k v hk m hm
  cases k with
  |read r l=>
   obtain⟨A,cap,hv,_,_,h3⟩:=hk;simp only[arV,and_true]at hv;refine⟨A,_,cap,hv,λh0=>?_⟩;obtain⟨b,off,es,rfl,_⟩:=h3 0 (by grind);rfl
  |own o s T r l=>
   obtain⟨xs,hx,_⟩:=hk.2.2.2
   rcases hx.2 with⟨rfl,h0⟩|⟨g,o0,cap,cur,rfl,_⟩
   all_goals grind
  |nil=>exact hm.elim
  |view o s r m=>exact hm.elim
  |deep=>exact hm.elim
 unfold Qy at h;split at h
 case h_2=>cases h
 rename_i o t x y u;split at h
 case h_3=>cases h
 all_goals
  obtain⟨hy,h⟩:=bi h;split at h
  case h_2=>cases h
  rename_i e hu;have hu:=T.und_ok _ _ hu;split at h
  case h_2=>cases h
  rename_i X hX;split at h
  case h_3=>cases h
  all_goals
   rename_i jL;obtain⟨rfl,rfl⟩:=Prod.mk.inj (aqP h);obtain⟨A,n',c,hv,hA⟩:=key (k6 hs jL (jo _ _ hX)) _ rfl;refine⟨_,λh0=>?_,Jo (by grind) hu hv (isn hy)⟩
   grind
def dD.Ah{st:State}(h:dD G w0 F0 H F w ρ st)(o:Nat):∃H' F',dD G w0 F0 H' F' w ρ (Ah st o)/\cY H F w H' F' w:=by
 unfold Go.Proofs.YtfeahmiobbjklaaGreatDoor.Ah;split
 .rename_i e he;obtain⟨H',F',hp⟩:=I7 h.sat.ob he;have hs:=h.sat.apply (d:=ae) hp;exact⟨H',F',⟨hs,h.glob.oB hp.oB h.sat.ob.iT⟩,cY.CH hp.oB h.sat.ob.lt h.sat.ob.gG⟩
 .exact⟨H,F,h,cY.refl H F w⟩
def dD.yf:{os:List Nat}->{st:State}->{H:aN}->{F:Nat->Prop}->dD G w0 F0 H F w ρ st->∃H' F',dD G w0 F0 H' F' w ρ (yf st os)/\cY H F w H' F' w
 |[],_,H,F,h=>⟨H,F,h,cY.refl H F w⟩
 |o::os,st,H,F,h=>by
  obtain⟨H1,F1,h1,k1⟩:=h.Ah o;obtain⟨H2,F2,h2,k2⟩:=dD.yf (os:=os) h1;exact⟨H2,F2,h2,k1.trans k2⟩
def dD.sE{st:State}(h:dD G w0 F0 H F w ρ st):∃H' F',dD G w0 F0 H' F' w ρ (sE st)/\cY H F w H' F' w:=by
 unfold Go.Proofs.YtfeahmiobbjklaaGreatDoor.sE;split
 case h_2=>exact⟨H,F,h,cY.refl H F w⟩
 obtain⟨H1,F1,h1,k1⟩:=h.yf (os:=st.objs.map (·.1));obtain⟨H2,F2,h2,k2⟩:=h1.yf (os:=st.objs.map (·.1));exact⟨H2,F2,h2,k1.trans k2⟩
def Gh{E:Env P}{dst:Option Nat}{op:Op}{ty:TypeId}{pos:String}{aft:Array Edge}{st:State}{k:State->Option R}{q:R}(h:Lf E dst op st k=aa q)(hd:Gg nt dst=af)(hh:dD G w0 F0 H F w ρ st)
 (hk:∀dK H' F' w' dN,k dK=aa q->dD G w0 F0 H' F' w' dN dK->cY H F w H' F' w'->(∀t,dst≠aa t->dN t=ρ t)->wpS P nt ops K rest dN w'):wpS P nt ops K (⟨dst,op,ty,pos,aft,ae⟩::rest) ρ w:=by
 unfold Lf at h;split at h
 case h_2=>cases h
 rename_i bq By;obtain⟨F1,ry,Ug⟩:=hh.yD By;split at h
 .rename_i b m hn;split at h
  case h_2=>cases h
  rename_i d;obtain⟨r,hr,bP⟩:=QB E.T (ρ:=ρ) (d:=d) (ty:=ty) (pos:=pos) (aft:=aft) (λx d hx=>w6 ry.sat.ob.gl ry.sat.slot x d hx) ry.sat.ob hn
  have hkr:k (State.apply {st with objs:=bq} (aa d) {dst:=fD r})=aa q:=by
   split at h
   .cases r with
    |true=>exact Xd h
    |false=>exact Xe h
   .simp_all
  have Gi:cX P (UU G w0) H F1 w ρ (find bq) st.nxt ⟨aa d,op,ty,pos,aft,ae⟩ {dst:=fD r}:=cm ry.sat.ob bP (bg.iF ..)
  refine zF Gi (λd' E7=>by rw[E7]at hd;exact hd) λv w' ⟨H',F',hp⟩=>?_
  have hs:=ry.sat.apply (d:=aa d) hp
  refine hk _ H' F' w' _ hkr ⟨hs,ry.glob.oB hp.oB ry.sat.ob.iT⟩ (Ug.trans (cY.CH hp.oB ry.sat.ob.lt ry.sat.ob.gG)) λt ht=>?_
  show Iq ρ d v t=ρ t
  grind [rS]
 split at h
 .rename_i x hnx;split at h
  case h_2=>cases h
  rename_i d;split at h
  case h_2=>cases h
  rename_i X hX
  have mR:op= .next x ag:=by
   unfold QA at hnx;split at hnx
   .grind
   .cases hnx
  subst mR;obtain⟨e,he,Gi⟩:=Qd (ρ:=ρ) (d:=d) (ty:=ty) (pos:=pos) (aft:=aft) (P:=P) (U:=UU G w0) h ry.sat.ob (w6 ry.sat.ob.gl ry.sat.slot _ _ hX)
  refine zF Gi (λd' E7=>by rw[E7]at hd;exact hd) λv w' ⟨H',F',hp⟩=>?_
  have hs:=ry.sat.apply (d:=aa d) hp
  refine hk _ H' F' w' _ he ⟨hs,ry.glob.oB hp.oB ry.sat.ob.iT⟩ (Ug.trans (cY.CH hp.oB ry.sat.ob.lt ry.sat.ob.gG)) λt ht=>?_
  show Iq ρ d v t=ρ t
  grind [rS]
 obtain⟨E8,h'⟩:=bi h;clear h;obtain⟨e,he,Gi⟩:=Qx (ρ:=ρ) (ty:=ty) (pos:=pos) (aft:=aft) E (λx d hx=>w6 ry.sat.ob.gl ry.sat.slot x d hx) (λhn c hc=>by subst hn;subst hc;exact E8) h' ry.sat.ob
 refine zF Gi (λd E7=>by rw[E7]at hd;exact hd) λv w' ⟨H',F',hp⟩=>?_
 have hs:=ry.sat.apply (d:=dst) hp
 refine hk _ H' F' w' _ he ⟨hs,ry.glob.oB hp.oB ry.sat.ob.iT⟩ (Ug.trans (cY.CH hp.oB ry.sat.ob.lt ry.sat.ob.gG)) λt ht=>?_
 cases dst with
 |none=>rfl
 |some d=>
  show Iq ρ d v t=ρ t
  grind [rS]
def QC{E:Env P}{dst:Option Nat}{op:Op}{ty:TypeId}{pos:String}{aft:Array Edge}{st:State}{k:State->Option R}{q:R}(h:Ai E dst op st k=aa q)(hd:Gg nt dst=af)(hh:dD G w0 F0 H F w ρ st)
 (hk:∀dK H' F' w' dN,k dK=aa q->dD G w0 F0 H' F' w' dN dK->cY H F w H' F' w'->(∀t,dst≠aa t->dN t=ρ t)->wpS P nt ops K rest dN w'):wpS P nt ops K (⟨dst,op,ty,pos,aft,ae⟩::rest) ρ w:=by
 unfold Ai at h;split at h
 .obtain⟨H1,F1,h1,k1⟩:=hh.sE
  exact Gh h hd h1 λdK H' F' w' dN a b c d=>hk dK H' F' w' dN a b (k1.trans c) d
 .exact Gh h hd hh hk
def dD.put{st:State}{dst:Option Nat}{d:aI}{v:Value}(h:dD G w0 F0 H F w ρ st)(hd:aH H F w d v):dD G w0 F0 H F w (yF ρ dst v) (st.put dst d):=by
 refine⟨⟨λt q hq=>?_,?_,by cases dst<;>exact h.sat.all⟩,h.glob⟩
 .cases dst with
  |none=>exact h.sat.slot t q hq
  |some s=>
   have B8:find ((s,d)::st.aJ) t=aa q:=hq;rw[bp]at B8
   show aH H F w q (Iq ρ s v t)
   rw[rS];by_cases e:s=t
   .grind
   .rw[ai e]at B8;rw[ai (Ne.symm e)];exact h.sat.slot t q B8
 .cases dst<;>exact h.sat.ob
def dD.lit{st:State}{g:Nat}{d:aI}(h:dD G w0 F0 H F w ρ st)(hd:aH H F w d (ρ g)):dD G w0 F0 H F w ρ (st.put (aa g) d):=by
 refine⟨⟨λt q hq=>?_,h.sat.ob,h.sat.all⟩,h.glob⟩;have B8:find ((g,d)::st.aJ) t=aa q:=hq;rw[bp]at B8;split at B8
 .grind
 .exact h.sat.slot t q B8
def wj(ρ:Nat->Value)(kn:List (Nat×Bool)):Prop:=∀g b,find kn g=aa b->ρ g= .bool b
theorem wj.del{dN:Nat->Value}{dst:Option Nat}{kn:List (Nat×Bool)}(h:wj ρ kn)(Uh:∀t,dst≠aa t->dN t=ρ t):wj dN (Aj dst kn):=by
 intro g b hg
 cases dst with
 |none=>rw[Uh g (by simp)];exact h g b hg
 |some d=>
  obtain⟨h1,h2⟩:=kz.1 hg;rw[Uh g (λe=>h1 (by simp[aqP e]))];exact h g b h2
def wj.cons{kn:List (Nat×Bool)}{g:Nat}{b:Bool}(h:wj ρ kn)(hb:ρ g= .bool b):wj ρ ((g,b)::kn):=by
 intro g' b' hg;rw[bp]at hg;split at hg
 .grind
 .exact h g' b' hg
def ug{dst:Option Nat}{v:Value}{t:Nat}(h:dst≠aa t):yF ρ dst v t=ρ t:=by
 cases dst with
 |none=>rfl
 |some d=>
  show Iq ρ d v t=ρ t
  grind [rS]
def DZ{E:Env P}{q:R}:{l:List Oper}->{kn:List (Nat×Bool)}->{st:State}->{k:State->Option R}->{H:aN}->{F:Nat->Prop}->{w:World}->{ρ:Nat->Value}->runs E nt ops l kn st k=aa q->wj ρ kn->dD G w0 F0 H F w ρ st->
 (∀dK H' F' w' dN,k dK=aa q->dD G w0 F0 H' F' w' dN dK->cY H F w H' F' w'->(∀t,(∀o∈l,o.dst≠aa t)->dN t=ρ t)->K dN w')->wpS P nt ops K l ρ w
 |[],kn,st,k,H,F,w,ρ,h,_,hh,hk=>Tp (hk st H F w ρ h hh (cY.refl H F w) λ_ _=>rfl)
 |o::l,kn,st,k,H,F,w,ρ,h,BD,hh,hk=>by
  unfold runs at h;obtain⟨hd,h'⟩:=bi h;clear h
  have hdb:∀d,o.dst=aa d->aru d nt=af:=λd e=>by rw[e]at hd;exact hd
  have on:∀{st1:State}{Xf:List (Nat×Bool)},Ai E o.dst o.op st1 (λdK=>runs E nt ops l (Aj o.dst Xf) dK k)=aa q->wj ρ Xf->dD G w0 F0 H F w ρ st1->wpS P nt ops K (⟨o.dst,o.op,o.type,o.pos,o.after,ae⟩::l) ρ w:=by
   intro st1 Xf hs QD ry
   refine QC hs hd ry λdK H' F' w' dN e1 e2 e3 e4=>?_
   refine DZ e1 (QD.del e4) e2 λst2 H2 F2 w2 ρ2 f1 f2 f3 f4=>?_
   exact hk st2 H2 F2 w2 ρ2 f1 f2 (e3.trans f3) (by grind)
  have off:∀{st1:State}{Xf:List (Nat×Bool)},runs E nt ops l (Aj o.dst Xf) (st1.put o.dst .undef) k=aa q->wj ρ Xf->dD G w0 F0 H F w ρ st1->wpS P nt ops K l (yF ρ o.dst undef) w:=by
   intro st1 Xf hs QD ry
   refine DZ hs (QD.del λt ht=>ug ht) (ry.put rfl) λst2 H2 F2 w2 ρ2 f1 f2 f3 f4=>?_
   exact hk st2 H2 F2 w2 ρ2 f1 f2 f3 λt ht=>(f4 t λo' pq=>ht o' (by simp[pq])).trans (ug (ht o (by simp)))
  obtain⟨dst,op,ty,pos,aft,guard⟩:=o;simp only at h' on off hdb;split at h'
  .grind
  .rename_i j b;split at h'
   case h_1=>cases h'
   rename_i g VX;obtain⟨VY,h⟩:=bi h';clear h'
   have wOn:ρ g= .bool b->wpS P nt ops K (⟨dst,op,ty,pos,aft,ae⟩::l) ρ w->wpS P nt ops K (⟨dst,op,ty,pos,aft,aa (j,b)⟩::l) ρ w:=λhb hw=>WE g VX VY hb hw
   have alw:∀b',ρ g= .bool b'->b'≠b->wpS P nt ops K l (yF ρ dst undef) w->wpS P nt ops K (⟨dst,op,ty,pos,aft,aa (j,b)⟩::l) ρ w:=λb' hb eG hw=>by
    cases dst with
    |none=>exact Du g VX VY hb eG hw
    |some d=>exact Tq g VX VY hb eG (hdb d rfl) hw
   split at h
   .rename_i v hv;have hgv:=BD g v hv
    grind
   .split at h
    .rename_i hu;have hgu:ρ g=undef:=hh.sat.slot _ _ hu
     cases dst with
     |none=>exact Bp g VX VY hgu (off h BD hh)
     |some d=>exact Pb g VX VY hgu (hdb d rfl) (off h BD hh)
    .rename_i d E7;split at h
     case h_2=>cases h
     rename_i t ht;have hgt:=rb ht (hh.sat.slot _ _ E7);split at h
     .rename_i Ui;subst Ui;have ry:dD G w0 F0 H F w ρ (st.put (aa g) (fD af)):=hh.lit (by rw[hgt];exact bg.iF ..);have QD:=BD.cons hgt
      grind
     .rename_i Ui
      have Ui:t=ag:=by cases t<;>simp_all
      subst Ui;have ry:dD G w0 F0 H F w ρ (st.put (aa g) (fD ag)):=hh.lit (by rw[hgt];exact bg.iF ..);have QD:=BD.cons hgt
      grind
    .cases h
end
end
end Go.Proofs.YtfeahmiobbjklaaGreatDoor
section
open _root_.Bool renaming false->ag,true->af,cond_eq_ite->arl
open _root_.Option renaming none->ae,some->aa,bind_assoc->asG,isSome_iff_exists->arw
open _root_.Array renaming getElem?_eq_getElem->arc,getElem?_eq_some_iff->ary
open _root_.List renaming mem_cons->arx,mem_singleton->ari
open _root_.Nat renaming beq->aqV,blt->aru,zero_add->arv
open _root_.Option.some renaming inj->aqP
open _root_.Go.Region renaming binds->asn
namespace Go.Proofs.YtfeahmiobbjklaaGreatDoor
open Go Go.RowKit
section
variable {P:Program} {R:Type} {ob:Nat->Option (Nat×Th)} {n:Nat} (k:fF->Option R)
def Ak{rd:Operand->Option aI}{fn:Fn}{first caps:Array Operand}:pS rd fn first caps k=(pS rd fn first caps aa).bind k:=by
 unfold pS
 grind
def D1(T:bz P){m:Nat}{e:TypeId}{D:aI}{i:Int}:tQ T m e D i k=(tQ T m e D i aa).bind k:=by
 unfold tQ;simp only[arl]
 repeat' first|rfl|(rw[asG];rfl)|split
def D2(T:bz P){t:TypeId}{D:aI}{i:Int}:tW T ob t D i k=(tW T ob t D i aa).bind k:=by
 unfold tW;simp only[arl]
 repeat' first|rfl|(rw[asG];rfl)|split
def Gj(T:bz P){t:TypeId}{D:aI}{i:Int}:w8 T ob t D i k=(w8 T ob t D i aa).bind k:=by
 unfold w8;simp only[arl]
 repeat' first|rfl|exact D1 k T|(rw[asG];rfl)|split
theorem Jp(T:bz P){t:TypeId}{D:aI}:Cb T ob t D k=(Cb T ob t D aa).bind k:=by
 unfold Cb;simp only[arl]
 repeat' first|rfl|split|grind
theorem Gk(T:bz P){t:TypeId}{D V:aI}:w9 T ob n t D V k=(w9 T ob n t D V aa).bind k:=by
 unfold w9;simp only[arl]
 repeat' first|rfl|split|grind|(rw[asG];congr 1;funext x;repeat' first|rfl|split)
theorem Gl(T:bz P){t:TypeId}{D:aI}:vc T ob n t D k=(vc T ob n t D aa).bind k:=by
 unfold vc;simp only[arl]
 repeat' first|rfl|split|grind
def Gm(T:bz P){t:TypeId}{D:aI}:sY T ob n t D k=(sY T ob n t D aa).bind k:=by
 unfold sY
 grind [Gl,Jp]
theorem D3(T:bz P){t:TypeId}{D V:aI}:tY T ob n t D V k=(tY T ob n t D V aa).bind k:=by
 unfold tY;simp only[arl]
 repeat' first|rfl|split|grind
def D4(T:bz P){t:TypeId}{D V:aI}:ub T ob n t D V k=(ub T ob n t D V aa).bind k:=by
 unfold ub
 grind [D3,Gk]
theorem BE{e:TypeId}{dr:DR}{ds:List aI}:sX e dr ob n ds k=(sX e dr ob n ds aa).bind k:=by
 grind [sX]
def Gn(T:bz P){t:TypeId}:xc T n t k=(xc T n t aa).bind k:=by
 grind [xc]
def No{t:TypeId}{V:aI}:MP n t V k=(MP n t V aa).bind k:=by
 unfold MP
 grind
theorem Al(T:bz P){t:TypeId}{s:Bool}{a b:Int}:zK T n t s a b k=(zK T n t s a b aa).bind k:=by
 grind [zK]
def Gp(T:bz P){b:Bool}{t:TypeId}{s:Bool}{x y:Int}:zY b T n t s x y k=(zY b T n t s x y aa).bind k:=by
 unfold zY;split
 .unfold DN
  grind [Al]
 .exact Al k T
def D5(T:bz P){t:TypeId}{X Y:aI}:tT T ob n t X Y k=(tT T ob n t X Y aa).bind k:=by
 unfold tT;simp only[arl]
 repeat' first|rfl|split|grind
def xA(T:bz P){rd:Operand->Option aI}{t:TypeId}{m:Nat}{ps:Array (Nat×Operand)}:mG T rd ob n t m ps k=(mG T rd ob n t m ps aa).bind k:=by
 unfold mG;simp only[arl]
 repeat' first|rfl|split
def D6{b:Bool}(T:bz P){rd:Operand->Option aI}{t:TypeId}{m:Nat}{ps:Array (Nat×Operand)}:zd b T rd ob n t m ps k=(zd b T rd ob n t m ps aa).bind k:=by
 cases b with
 |false=>exact xA k T
 |true=>
  show ua T rd ob n t m ps k=(ua T rd ob n t m ps aa).bind k
  grind [ua,BE]
def Gq(T:bz P){rd:Operand->Option aI}{t:TypeId}{ps:Array (Nat×Operand)}:xe T rd t ps k=(xe T rd t ps aa).bind k:=by
 unfold xe;simp only[arl]
 repeat' first|rfl|split
def Gr(dr:Bool)(T:bz P){rd:Operand->Option aI}{t:TypeId}{D:aI}{lo hi:Option Operand}:xf dr T rd ob n t D lo hi k=(xf dr T rd ob n t D lo hi aa).bind k:=by
 unfold xf;simp only[arl]
 repeat' first|rfl|split|grind
def Np(T:bz P){o:BinOp}{t:TypeId}{lit:Bool}{X Y:aI}:MX T ob o t lit X Y k=(MX T ob o t lit X Y aa).bind k:=by
 unfold MX;simp only[arl]
 repeat' first|rfl|split|grind
def yJ(T:bz P){t:TypeId}{M X Y:aI}:oi T ob n t M X Y k=(oi T ob n t M X Y aa).bind k:=by
 unfold oi;simp only[arl]
 repeat' first|rfl|split
def BF(T:bz P){t:TypeId}:rk T n t k=(rk T n t aa).bind k:=by
 unfold rk
 repeat' first|rfl|split
def D7(T:bz P){t:TypeId}{ok:Bool}{M X:aI}:tV T ob t ok M X k=(tV T ob t ok M X aa).bind k:=by
 unfold tV;simp only[arl]
 repeat' first|rfl|split
def BG(T:bz P){t:TypeId}{X Y:aI}:rp T ob n t X Y k=(rp T ob n t X Y aa).bind k:=by
 unfold rp
 cases Qg ob Y with
 |false=>exact D5 k T
 |true=>
  simp only[cond_true];unfold wb;simp only[arl]
  repeat' first|rfl|split|grind
def xB(T:bz P){t:TypeId}{M X Y:aI}:mH T ob n t M X Y k=(mH T ob n t M X Y aa).bind k:=by
 unfold mH;simp only[arl]
 repeat' first|rfl|exact yJ k _|split
def Am(b:Bool)(T:bz P){t:TypeId}:pR b T n t k=(pR b T n t aa).bind k:=by
 unfold pR;simp only[arl]
 repeat' first|rfl|exact BF k _|split
def BH(T:bz P){t:TypeId}{ok:Bool}{M X:aI}:rn T ob n t ok M X k=(rn T ob n t ok M X aa).bind k:=by
 unfold rn;simp only[arl]
 repeat' first|rfl|exact D7 k _|split
theorem Gs{sg:qf}{bs:Bs}{bq:List (Nat×(Nat×Th))}{nd:List Nat}{y:dW sg.out.rows}:xy sg n bs bq nd y k=(xy sg n bs bq nd y aa).bind k:=by
 grind [xy]
theorem ta{objs:List (Nat×(Nat×Th))}{f:FuncId}{ds:List aI}:{tab:List (Nat×qf)}->rV objs n f ds k tab=(rV objs n f ds aa tab).bind k
 |[]=>rfl
 |(g,sg)::tab=>by
  unfold rV;have ih:=ta (objs:=objs) (f:=f) (ds:=ds) (tab:=tab)
  grind [Gs]
def Jq{tab:List (Nat×qf)}{rd:Operand->Option aI}{objs:List (Nat×(Nat×Th))}{g:Operand}{args:List Operand}:CC tab rd objs n g args k=(CC tab rd objs n g args aa).bind k:=by
 grind [CC,ta]
def D8(T:bz P){tab:List (Nat×qf)}{rd:Operand->Option aI}{objs:List (Nat×(Nat×Th))}{g:Operand}{name:String}{args:List Operand}:uf T tab rd objs n g name args k=(uf T tab rd objs n g name args aa).bind k:=by
 unfold uf
 repeat' first|rfl|exact ta k|split
def Gt(T:bz P){t:TypeId}{M:aI}:xn T ob n t M k=(xn T ob n t M aa).bind k:=by
 grind [xn]
def Nq(T:bz P){t:TypeId}{D:aI}:Nj T t D k=(Nj T t D aa).bind k:=by
 grind [Nj]
def D9(T:bz P){t:TypeId}{ok:Bool}{D:aI}:ue T t ok D k=(ue T t ok D aa).bind k:=by
 unfold ue
 grind
def Ea(T:bz P){t:TypeId}{M X:aI}:tU T ob n t M X k=(tU T ob n t M X aa).bind k:=by
 grind [tU]
def Jr(E:Env P){rd:Operand->Option aI}{objs:List (Nat×(Nat×Th))}{c:Callee}{args:Array Operand}{yd:Array TypeId}:rv E rd objs n c args yd k=(rv E rd objs n c args yd aa).bind k:=by
 unfold rv;simp only[arl]
 repeat' first|rfl|exact BG k _|exact Ea k _|exact Jq k|exact D8 k _|split
def QE(E:Env P){rd:Operand->Option aI}{objs:List (Nat×(Nat×Th))}{dst:Option Nat}{op:Op}:Ud E rd objs n dst op k=(Ud E rd objs n dst op aa).bind k:=by
 unfold Ud
 repeat' first|rfl|exact D4 k _|exact xB k _|exact Am k _ _|exact BH k _|exact Gt k _|exact Nq k _|exact D9 k _|exact Jr k _|exact Gn k _|exact No k|exact Gq k _|exact D6 k _|exact Gm k _|exact Np k _|exact Gp k _|exact Gr k _ _|exact Gj k _|exact D2 k _|exact Ak k|split
end
def lI{α:Type}(ns:List Nat):List (Nat×α)->List (Nat×α)
 |[]=>[]
 |(m,a)::l=>bif rU m ns then(m,a)::lI ns l else lI ns l
def CI{α:Type}{ns:List Nat}{l:List (Nat×α)}{n:Nat}{a:α}:find (lI ns l) n=aa a↔n∈ns/\find l n=aa a:=by
 induction l with
 |nil=>simp[lI,find]
 |cons p l ih=>
  grind [lI,iq,bp]
def tmpsOf:List Operand->List Nat
 |[]=>[]
 | .tmp t::l=>t::tmpsOf l
 |_::l=>tmpsOf l
def VZ:List (Bool×Tree)->List Nat
 |[]=>[]
 |p::l=>p.2.owns++VZ l
def aag:aI->List Nat
 | .val _ t=>t.owns
 | .ptr o _ _=>[o]
 | .elem o .. =>[o]
 | .dlm o .. =>[o]
 | .tup ds=>VZ ds
 | .fn _ caps=>caps.map (·.1)
 | .ifc _ d=>aag d
 |_=>[]
def QF(aJ:List (Nat×aI)):List Nat->List Nat
 |[]=>[]
 |t::l=>(match find aJ t with
  |some d=>aag d
  |none=>[])++QF aJ l
def within(objs:List (Nat×(Nat×Th))):List Nat->List Nat
 |[]=>[]
 |o::l=>(match find objs o with
  |some (_, .box _ t)=>t.owns
  |_=>[])++within objs l
def Uj(aJ:List (Nat×aI))(objs:List (Nat×(Nat×Th)))(ts:List Nat):List Nat:=
 (λl=>l++within objs l) (QF aJ ts)
def CJ(bq:List (Nat×(Nat×Th)))(nd:List Nat)(e:fF):fF:=
 {dst:=e.dst,eat:=nd++e.eat,make:=e.make++del e.eat (sD bq nd)}
section
variable {U:Nat->Prop} {H:aN} {F:Nat->Prop} {w:World} {n:Nat}
def Nr{obj bq:List (Nat×(Nat×Th))}{nd:List Nat}{e:fF}{v:Value}{w':World}{F1:Nat->Prop}(By:iG obj nd=aa bq)(ze:aP U H F1 w (find bq) n)(Fi:∀b,F b->F1 b)(Te:∀b,F1 b->F b\/cT H (find obj) nd b)
 (h:pB H F1 w (find bq) n e v w'):pB H F w (find obj) n (CJ bq nd e) v w':=by
 obtain⟨H',F',hp⟩:=h
 have mv:∀k,cT H (find bq) e.eat k->cT H (find obj) (nd++e.eat) k:=by
  rintro k ⟨o,ho,s,t,u,h1,h2,h3⟩
  rcases mI By o s t h1 with h4|h4
  .exact⟨o,by simp[ho],s,t,u,h4,h2,h3⟩
  .exact(jS h4 h3).elim
 have part:∀o s t,find (e.make++del e.eat (sD bq nd)) o=aa (s,t)->find e.make o=aa (s,t)\/(o∉e.eat/\o∈nd/\find bq o=aa (s,t)/\gX t=af):=by
  intro o s t ho;rw[kw]at ho
  cases hm:find e.make o with
  |some x=>grind
  |none=>
   grind [kz,pZ]
 refine⟨H',F',⟨hp.oB.jy,⟨hp.oB.ext.os,hp.oB.ext.tape,hp.oB.ext.output,hp.oB.ext.size,λk hk hn=>hp.oB.ext.block k hk λhh=>hn (mv k hh)⟩,λb hb=>hp.oB.le b (Fi b hb),λb hb=>?_,hp.oB.lt⟩,hp.fresh,hp.dst,⟨λo s t ho=>?_,λo o' s s' t t' v v' eG ho pq hv ga k hk jn=>?_⟩,λo ho=>?_⟩
 .rcases hp.oB.grow b hb with h1|h1|h1
  .rcases Te b h1 with h2|⟨o,ho,rest⟩
   .exact .inl h2
   .exact .inr (.inr ⟨o,by simp[CJ,ho],rest⟩)
  .grind
  .exact .inr (.inr (mv b h1))
 .rcases part o s t ho with h1|⟨h1,h2,h3,h4⟩
  .obtain⟨u,a1,a2,a3,a4,a5⟩:=hp.made.obj o s t h1;exact⟨u,a1,a2,a3,a4,λk hk=>⟨(a5 k hk).1,(a5 k hk).2.1,(a5 k hk).2.2.imp id (mv k)⟩⟩
  .obtain⟨u,hu,dC⟩:=ze.obj _ _ _ h3;have:=dC.oB ze hp.oB h3 h1 hu;exact⟨u,hp.oB.jy.val _ _ hu,this.one,this.con,this.ok,λk hk=>(jS h4 hk).elim⟩
 .rcases part o s t ho with h1|⟨_,_,_,h4⟩
  .rcases part o' s' t' pq with h2|⟨_,_,_,h4'⟩
   .exact hp.made.apart o o' s s' t t' v v' eG h1 h2 hv ga k hk jn
   .exact jS h4' jn
  .exact jS h4 hk
 .obtain⟨x,hx⟩:=arw.1 ho
  rcases part o x.1 x.2 hx with h1|⟨_,h2,_⟩
  .exact(hp.ids o (by rw[h1];rfl)).imp (λh=>by simp[CJ,h]) id
  .exact .inl (by simp[CJ,h2])
end
def jY(x y:Nat×Th):Prop:=x=y\/∃T d l h h',x.2= .deep T d l h/\y.2= .deep T d l h'
def jY.symm{x y:Nat×Th}(h:jY x y):jY y x:=by
 rcases h with rfl|⟨T,d,l,h,h',h1,h2⟩
 .exact .inl rfl
 .exact .inr ⟨T,d,l,h',h,h2,h1⟩
def jY.trans{x y z:Nat×Th}(h:jY x y)(h':jY y z):jY x z:=by
 rcases h with rfl|⟨T,d,l,a,b,h1,h2⟩
 .exact h'
 .rcases h' with rfl|⟨T',d',l',a',b',h3,h4⟩
  .exact .inr ⟨T,d,l,a,b,h1,h2⟩
  .rw[h2]at h3;cases h3;exact .inr ⟨T,d,l,a,b',h1,h4⟩
structure oD where
 dst:Option Nat
 ts:List Nat
 os:List Nat
 e:fF
 ls:List Nat:=[]
 soft:List Nat:=[]
def yg:List (Nat×(Nat×Th))->List Nat
 |[]=>[]
 |(o,_)::l=>o::yg l
def oD.mut(x:oD):List Nat:=x.e.eat++yg x.e.make
def Js:Op->Bool
 | .call c=>match c.callee with
   | .builtin .len=>af
   |_=>ag
 |_=>ag
def V0(rd:Operand->Option aI):Op->List Nat
 | .load _ x=>match rd x with
   |some (.dlm o _ _ _ _)=>[o]
   |_=>[]
 |_=>[]
def jM(st:State)(op:Op):List Nat:=
 match op with
 | .move _=>[]
 | .assign _=>[]
 | .extract _ _=>[]
 | .fieldAddr _ _ _=>[]
 | .load _ _=>QF st.aJ (tmpsOf op.operands.toList)
 |_=>Uj st.aJ st.objs (tmpsOf op.operands.toList)
noncomputable def CK{R:Type}{P:Program}(E:Env P)(dst:Option Nat)(op:Op)(gs:List Nat)(st:State)(k:fF->oD->Option R):Option R:=
 match iG (lI (jM st op) st.objs) (vj E (MH (lI (tmpsOf op.operands.toList) st.aJ)) (lI (jM st op) st.objs) op)with
 |some bq=>bif fnB dst op then Ud E (MH (lI (tmpsOf op.operands.toList) st.aJ)) bq st.nxt dst op (λe=>
   (λe'=>k e' {dst:=dst,ts:=tmpsOf op.operands.toList++gs,os:=bif Js op then[]else jM st op,e:=e',ls:=bif Js op then jM st op else[],soft:=V0 (MH (lI (tmpsOf op.operands.toList) st.aJ)) op}) (CJ bq (vj E (MH (lI (tmpsOf op.operands.toList) st.aJ)) (lI (jM st op) st.objs) op) e))else ae
 |none=>ae
structure V2(P:Program)(U:Nat->Prop)(o:Oper)(sl:Nat->Option aI)(ob:Nat->Option (Nat×Th))(n:Nat)(Lh:oD):Prop where
 dst:Lh.dst=o.dst
 run:∃(slR:Nat->Option aI)(S8:Nat->Option (Nat×Th)),(∀t d,slR t=aa d->t∈Lh.ts/\sl t=aa d)/\(∀q x,S8 q=aa x->(q∈Lh.os\/q∈Lh.ls)/\ob q=aa x)/\
  ∀(H:aN)(F:Nat->Prop)(w:World)(ρ:Nat->Value)(Ns:Nat->Option (Nat×Th)),(∀q x,S8 q=aa x->∃x',Ns q=aa x'/\jY x x'/\(q∈Lh.os->x'=x))->(∀t d,slR t=aa d->aH H F w d (ρ t))->aP U H F w Ns n->
   ∃ob2:Nat->Option (Nat×Th),(∀q x,ob2 q=aa x->Ns q=aa x)/\cP P ρ ⟨o.dst,o.op,o.type,o.pos,o.after,ae⟩ w (pB H F w ob2 n Lh.e)
 soft:∀q∈Lh.soft,q∈Lh.mut->∃x y,ob q=aa x/\find Lh.e.make q=aa y/\jY x y
def Nt{ob PM:Nat->Option (Nat×Th)}{D:aI}{k:PR}(Zj:∀q x,ob q=aa x->∃x',PM q=aa x'/\jY x x')(h:yH ob D=aa k):∃k',yH PM D=aa k'/\xW k'=xW k:=by
 unfold yH at h;split at h
 .cases h;exact⟨_,rfl,rfl⟩
 .cases h;exact⟨_,rfl,rfl⟩
 .rename_i o
  cases ho:ob o with
  |none=>grind
  |some x=>
   obtain⟨s,t⟩:=x;obtain⟨⟨s',t'⟩,h1,h2⟩:=Zj o _ ho;rw[ho]at h
   rcases h2 with e|⟨T,d,l,a,b,e1,e2⟩
   .cases e;exact⟨k,by show(match PM o with|some (s, .own T r l)=>_|some (_, .yD _ r l)=>_|some (_, .fdeep _ d l)=>_|some (s, .deep T d l h)=>_|_=>_)=_;grind,rfl⟩
   .simp only at e1 e2;subst e1 e2;cases h;exact⟨.deep o s' T d l b,by show(match PM o with|some (s, .own T r l)=>_|some (_, .yD _ r l)=>_|some (_, .fdeep _ d l)=>_|some (s, .deep T d l h)=>_|_=>_)=_;rw[h1],rfl⟩
 .rename_i o s r m
  have hk:xW k=(m.length:Int):=by
   split at h
   .rename_i s' _ _ _ _
    cases hb:aqV s' s<;>rw[hb]at h<;>cases h<;>rfl
   .cases h;rfl
  rw[hk]
  show∃k',(match PM o with|some (s', .yD ..)=>bif aqV s' s then aa (PR.read r m)else aa (.view o s r m)|_=>aa (.view o s r m))=aa k'/\xW k'=_
  split
  .rename_i s' _ _ _ _
   cases hb:aqV s' s with
   |true=>exact⟨PR.read r m,rfl,rfl⟩
   |false=>exact⟨PR.view o s r m,rfl,rfl⟩
  .exact⟨PR.view o s r m,rfl,rfl⟩
 .cases h
def Nu{P:Program}(T:bz P){ob PM:Nat->Option (Nat×Th)}{t:TypeId}{D D':aI}(Zj:∀q x,ob q=aa x->∃x',PM q=aa x'/\jY x x')(h:MQ T ob t D=aa D'):MQ T PM t D=aa D':=by
 unfold MQ at h⊢;split at h
 .split at h
  case h_2=>cases h
  rename_i k hk;obtain⟨k',h1,h2⟩:=Nt Zj hk
  grind
 all_goals grind
def Nv{P:Program}(T:bz P){ob:Nat->Option (Nat×Th)}{n:Nat}{t:TypeId}{o:Nat}{d:DR}{i:Int}{p:List Bool}{off:Nat}{e:fF}(h:sY T ob n t (.dlm o d i p off) aa=aa e)(hm:o∈e.eat++yg e.make):
 ∃x y,ob o=aa x/\find e.make o=aa y/\jY x y:=by
 unfold sY vc at h;simp only at h;split at h
 .cases h
 split at h
 case h_2=>cases h
 rename_i s T0 dr l hh ho;obtain⟨_,h⟩:=bi h;split at h
 .obtain⟨_,h⟩:=bi h;obtain⟨_,_,h⟩:=bind_some h;cases h;simp[yg]at hm
 .obtain⟨_,h⟩:=bi h;split at h
  .obtain⟨_,_,h⟩:=bind_some h;cases h;exact⟨_,(n, .deep T0 dr l _),ho,by rw[bp,aj rfl], .inr ⟨T0,dr,l,ae,_,rfl,rfl⟩⟩
  .obtain⟨_,h⟩:=bi h;split at h
   .obtain⟨_,_,h⟩:=bind_some h;cases h;simp[yg]at hm
   .cases h
 .cases h
def QG{P:Program}{E:Env P}{U:Nat->Prop}{R:Type}{o:Oper}{gs:List Nat}{st:State}{k:fF->oD->Option R}{q:R}(h:CK E o.dst o.op gs st k=aa q):
 ∃e Lh,k e Lh=aa q/\Lh.e=e/\(∀g∈gs,g∈Lh.ts)/\V2 P U o (find st.aJ) (find st.objs) st.nxt Lh:=by
 unfold CK at h;split at h
 case h_2=>cases h
 rename_i bq By;obtain⟨E8,h'⟩:=bi h;clear h;rw[QE]at h';obtain⟨e,he,hk⟩:=bind_some h'
 have aah:∀t d,find (lI (tmpsOf o.op.operands.toList) st.aJ) t=aa d->t∈tmpsOf o.op.operands.toList/\find st.aJ t=aa d:=λt d ht=>CI.1 ht
 have Uk:∀q x,find (lI (jM st o.op) st.objs) q=aa x->q∈jM st o.op/\find st.objs q=aa x:=λq x hx=>CI.1 hx
 refine⟨_,_,hk,rfl,λg hg=>by simp[hg],rfl,⟨find (lI (tmpsOf o.op.operands.toList) st.aJ),find (lI (jM st o.op) st.objs),(by grind),λq x hx=>⟨?_,(Uk q x hx).2⟩,λH F w ρ Ns Zj jL de=>?_⟩,λq hq hm=>?_⟩
 .grind
 .cases hl:Js o.op with
  |false=>
   simp only[hl,cond_false]at Zj
   have kC:∀q x,find (lI (jM st o.op) st.objs) q=aa x->Ns q=aa x:=(by grind)
   have yI:aP U H F w (find (lI (jM st o.op) st.objs)) st.nxt:=⟨λo s t ho=>de.obj o s t (kC _ _ ho),λo o' s s' t t' v v' eG ho pq=>de.apart o o' s s' t t' v v' eG (kC _ _ ho) (kC _ _ pq),de.fresh,de.lt,de.new,de.gl⟩
   refine⟨_,kC,?_⟩;obtain⟨F1,ze,Fi,Te⟩:=rq By yI
   have jJ:Step F w F1 w:=λb hb=>⟨Fi b hb,rfl⟩
   obtain⟨e',za,hs⟩:=Qx (ρ:=ρ) (ty:=o.type) (pos:=o.pos) (aft:=o.after) E (λx d hx=>w6 ze.gl (λt d ht=>(jL t d ht).keep (aN.le.refl H) jJ) x d hx) (λhn c hc=>by rw[hn,hc]at E8;exact E8) he ze;obtain rfl:=aqP za
   exact hs.mono λv w' hp=>Nr By ze Fi Te hp
  |true=>
   refine⟨Ns,λ_ _ h=>h,?_⟩;obtain⟨Xg,oop,oty,aes,aet,ogd⟩:=o;simp only at*
   cases oop<;>try(cases hl;done)
   rename_i c;obtain⟨callee,args,yd⟩:=c
   cases callee<;>try(cases hl;done)
   rename_i b
   cases b<;>try(cases hl;done)
   cases Xg with
   |none=>cases E8
   |some d=>
    have M6:vj E (MH (lI (tmpsOf (Op.operands (.call {callee:= .builtin .len,args:=args,argTypes:=yd})).toList) st.aJ)) (lI (jM st (.call {callee:= .builtin .len,args:=args,argTypes:=yd})) st.objs) (.call {callee:= .builtin .len,args:=args,argTypes:=yd})=[]:=by unfold vj;cases E.deep<;>rfl
    rw[M6]at By⊢;obtain rfl:=aqP By;have QH:rv E _ _ st.nxt (.builtin .len) args yd aa=aa e:=he;unfold rv at QH;simp only at QH;split at QH
    case h_2=>cases QH
    rename_i x t ha ht;obtain rfl:=fx ha;obtain rfl:=fx ht;split at QH
    case h_2=>cases QH
    rename_i D hD;split at QH
    case h_2=>cases QH
    rename_i D' Tx;cases QH;have hlen:=Nu E.T (λq x hx=>by obtain⟨x',h1,h2,_⟩:=Zj q x hx;exact⟨x',h1,h2⟩) Tx;exact KM E.T hlen de (w6 de.gl jL _ _ hD)
 .obtain⟨Xg,oop,oty,aes,aet,ogd⟩:=o;simp only at*
  cases oop<;>try(cases hq;done)
  rename_i t x;unfold V0 at hq;simp only at hq;split at hq
  case h_2=>cases hq
  rename_i o' d0 i p off jo;obtain rfl:=ari.1 hq
  have M6:vj E (MH (lI (tmpsOf (Op.operands (.load t x)).toList) st.aJ)) (lI (jM st (.load t x)) st.objs) (.load t x)=[]:=by unfold vj;cases E.deep<;>rfl
  rw[M6]at By hm⊢;obtain rfl:=aqP By
  cases Xg with
  |none=>cases he
  |some d=>
   unfold Ud at he;simp only[jo]at he
   have Xh:q∈e.eat++yg e.make:=by
    simpa[oD.mut,CJ,sD,del]using hm
   obtain⟨x1,y1,h1,h2,h3⟩:=Nv E.T he Xh;refine⟨x1,y1,(Uk _ _ h1).2,?_,h3⟩
   show find (e.make++_) q=_
   rw[kw,h2];rfl
end Go.Proofs.YtfeahmiobbjklaaGreatDoor
namespace Go.Proofs.YtfeahmiobbjklaaGreatDoor
open Go Go.RowKit
def BI(acc:List Nat)(i:Nat):List Edge->Option Nat
 |[]=>aa 0
 |e::l=>match BI acc i l with
  |some m=>bif asn .any e then(bif aru e.on i then aa (m|||2 ^ e.on|||acc.getD e.on 0)else ae)else aa m
  |none=>ae
def Nw(acc:List Nat):List Oper->Option (List Nat)
 |[]=>aa acc
 |o::l=>match BI acc acc.length o.after.toList with
  |some m=>Nw (acc++[m]) l
  |none=>ae
def qU(d:Option Nat)(l:List Nat):Bool:=
 match d with
 |some t=>rU t l
 |none=>ag
def Gu(l l':List Nat):Bool:=l.any λo=>rU o l'
def oD.aai(x:oD):List Nat:=x.mut.filter λo=> !rU o x.soft
def conflict(a b:oD):Bool:=
 qU a.dst b.ts||qU b.dst a.ts||qU a.dst (b.dst.toList)||Gu a.mut (b.os++b.mut)||Gu a.aai b.ls||Gu (a.os++a.ls++a.mut) b.mut
def Eb(ms:List Nat)(i:Nat)(x:oD):Nat->List oD->Bool
 |_,[]=>af
 |j,y::l=>(bif conflict x y then Nat.testBit (ms.getD j 0) i else af)&&Eb ms i x (j+1) l
def zh(ms:List Nat):Nat->List oD->Bool
 |_,[]=>af
 |i,x::l=>Eb ms i x (i+1) l&&zh ms (i+1) l
def xC(ops:List Oper)(es:List oD):Bool:=
 match Nw [] ops with
 |some ms=>zh ms 0 es
 |none=>ag
section
variable {ops:Array Oper}
def Jt(ops:Array Oper)(S:Nat->Prop):Prop:=∀i,S i->∀o,ops[i]? =aa o->∀e∈o.after,asn .any e=af->S e.on
def Ec{acc:List Nat}{i:Nat}:{l:List Edge}->{m:Nat}->BI acc i l=aa m->∀j,m.testBit j=af->∃e∈l,asn .any e=af/\e.on<i/\(e.on=j\/(acc.getD e.on 0).testBit j=af)
 |[],m,h,j,hj=>by
  obtain rfl:=aqP h;simp at hj
 |e::l,m,h,j,hj=>by
  unfold BI at h;split at h
  case h_2=>cases h
  rename_i m0 h0
  cases hb:asn .any e with
  |false=>
   rw[hb,cond_false]at h;obtain rfl:=aqP h;obtain⟨e',a1,a2⟩:=Ec h0 j hj
   grind
  |true=>
   rw[hb,cond_true]at h
   cases aF:aru e.on i with
   |false=>grind
   |true=>
    rw[aF,cond_true]at h;obtain rfl:=aqP h;rw[Nat.testBit_or,Nat.testBit_or,Bool.or_eq_true,Bool.or_eq_true]at hj
    have alz:e.on<i:=by simpa using aF
    rcases hj with(hj|hj)|hj
    .obtain⟨e',a1,a2⟩:=Ec h0 j hj
     grind
    all_goals grind
def Li{acc:List Nat}{i:Nat}:{l:List Edge}->{m:Nat}->BI acc i l=aa m->∀e∈l,asn .any e=af->e.on<i
 |[],m,h,e,he,_=>by cases he
 |e0::l,m,h,e,he,hb=>by
  unfold BI at h;split at h
  case h_2=>cases h
  rename_i m0 h0
  rcases arx.1 he with rfl|he
  .rw[hb,cond_true]at h
   cases aF:aru e.on i<;>simp_all
  .exact Li h0 e he hb
def Ed:{l:List Oper}->{acc ms:List Nat}->Nw acc l=aa ms->ms.length=acc.length+l.length/\(∀i,i<acc.length->ms.getD i 0=acc.getD i 0)/\
 ∀k o,l[k]? =aa o->∃m,BI ms (acc.length+k) o.after.toList=aa m/\ms.getD (acc.length+k) 0=m
 |[],acc,ms,h=>by
  obtain rfl:=aqP h
  grind
 |o0::l,acc,ms,h=>by
  unfold Nw at h;split at h
  case h_2=>cases h
  rename_i m hm;obtain⟨a1,a2,a3⟩:=Ed h;rw[List.length_append,List.length_singleton]at a1 a2 a3
  have aeu:∀i,i<acc.length->ms.getD i 0=acc.getD i 0:=(by grind)
  have alA:∀(l:List Edge)(m:Nat),BI acc acc.length l=aa m->BI ms acc.length l=aa m:=by
   intro l
   induction l with
   |nil=>intro m h;exact h
   |cons e l ih=>
    intro m h;unfold BI at h⊢;split at h
    case h_2=>cases h
    rename_i m0 h0;rw[ih m0 h0];simp only
    cases hb:asn .any e with
    |false=>grind
    |true=>
     rw[hb,cond_true]at h
     cases aF:aru e.on acc.length<;>simp_all
  grind
theorem QI{ms:List Nat}(h:Nw [] ops.toList=aa ms){S:Nat->Prop}(hS:Jt ops S):∀i o,ops[i]? =aa o->(∀e∈o.after,asn .any e=af->S e.on)->∀j,(ms.getD i 0).testBit j=af->S j:=by
 obtain⟨_,_,a3⟩:=Ed h;intro i
 induction i using Nat.strongRecOn with
 |_ i ih=>
  intro o ho hd j hj;obtain⟨m,h1,h2⟩:=a3 i o (by rw[Array.getElem?_toList];exact ho);simp only[List.length_nil,arv]at h1 h2;rw[h2]at hj;obtain⟨e,he,hb,aF,h3⟩:=Ec h1 j hj;have hSe:=hd e (by simpa using he) hb
  rcases h3 with rfl|h3
  .exact hSe
  .have Xi:e.on<ops.size:=by
    have:=(ary.1 ho).1;omega
   exact ih e.on aF _ (arc Xi) (λe' za u0=>hS e.on hSe _ (arc Xi) e' za u0) j h3
end
def jq(S:Nat->Bool):Nat->List oD->(Nat->Option aI)->Nat->Option aI
 |_,[],f=>f
 |i,x::l,f=>jq S (i+1) l (λt=>bif S i&&qU (aa t) x.dst.toList then aa x.e.dst else f t)
def iH(S:Nat->Bool):Nat->List oD->(Nat->Option (Nat×Th))->Nat->Option (Nat×Th)
 |_,[],f=>f
 |i,x::l,f=>iH S (i+1) l (λo=>bif S i then(find x.e.make o).or (bif rU o x.e.eat then ae else f o)else f o)
theorem uh{l:List (Nat×(Nat×Th))}{o:Nat}{x:Nat×Th}(h:find l o=aa x):o∈yg l:=by
 induction l with
 |nil=>cases h
 |cons p l ih=>
  obtain⟨o',y⟩:=p;rw[bp]at h;split at h
  .rename_i e;subst e;exact List.mem_cons_self
  .exact List.mem_cons_of_mem _ (ih h)
theorem zi{d:Option Nat}{t:Nat}:qU (aa t) d.toList=af↔d=aa t:=by
 grind [qU,iq]
theorem oW{S S':Nat->Bool}{t:Nat}:{l:List oD}->{i:Nat}->{f f':Nat->Option aI}->f t=f' t->(∀k x,l[k]? =aa x->x.dst=aa t->S (i+k)=S' (i+k))->jq S i l f t=jq S' i l f' t
 |[],_,_,_,hf,_=>hf
 |x::l,i,f,f',hf,h=>by
  show jq S (i+1) l _ t=jq S' (i+1) l _ t
  refine oW ?_ λk y hy hd=>by
   have:=h (k+1) y (by simpa using hy) hd
   grind
  by_cases hd:x.dst=aa t
  .have:=h 0 x rfl hd
   grind
  grind [zi]
theorem oj{S S':Nat->Bool}{o:Nat}:{l:List oD}->{i:Nat}->{f f':Nat->Option (Nat×Th)}->f o=f' o->(∀k x,l[k]? =aa x->o∈x.mut->S (i+k)=S' (i+k))->iH S i l f o=iH S' i l f' o
 |[],_,_,_,hf,_=>hf
 |x::l,i,f,f',hf,h=>by
  show iH S (i+1) l _ o=iH S' (i+1) l _ o
  refine oj ?_ λk y hy hd=>by
   have:=h (k+1) y (by simpa using hy) hd
   grind
  by_cases hd:o∈x.mut
  .have:=h 0 x rfl hd
   grind
  .have h1:find x.e.make o=ae:=by
    cases hm:find x.e.make o with
    |none=>rfl
    |some y=>grind [oD.mut,uh]
   have h2:rU o x.e.eat=ag:=by
    cases hb:rU o x.e.eat with
    |false=>rfl
    |true=>grind [oD.mut,iq]
   grind
theorem rW{S:Nat->Bool}{t:Nat}:{l:List oD}->{i:Nat}->{f:Nat->Option aI}->(∀k x,l[k]? =aa x->x.dst=aa t->S (i+k)=ag)->jq S i l f t=f t
 |[],_,_,_=>rfl
 |x::l,i,f,h=>by
  show jq S (i+1) l _ t=_
  rw[rW λk y hy hd=>by
   have:=h (k+1) y (by simpa using hy) hd
   grind]
  by_cases hd:x.dst=aa t
  .have:=h 0 x rfl hd
   grind
  grind [zi]
def rz{S:Nat->Bool}{o:Nat}:{l:List oD}->{i:Nat}->{f:Nat->Option (Nat×Th)}->(∀k x,l[k]? =aa x->o∈x.mut->S (i+k)=ag)->iH S i l f o=f o
 |[],_,_,_=>rfl
 |x::l,i,f,h=>by
  show iH S (i+1) l _ o=_
  rw[rz λk y hy hd=>by
   have:=h (k+1) y (by simpa using hy) hd
   grind]
  by_cases hd:o∈x.mut
  .have:=h 0 x rfl hd
   grind
  .have h1:find x.e.make o=ae:=by
    cases hm:find x.e.make o with
    |none=>rfl
    |some y=>grind [oD.mut,uh]
   have h2:rU o x.e.eat=ag:=by
    cases hb:rU o x.e.eat with
    |false=>rfl
    |true=>grind [oD.mut,iq]
   grind
def rX{S:Nat->Bool}{l l':List oD}{i:Nat}{f:Nat->Option aI}:jq S i (l++l') f=jq S (i+l.length) l' (jq S i l f):=by
 induction l generalizing i f with
 |nil=>rfl
 |cons x l ih=>
  grind [jq]
def mJ{S:Nat->Bool}{l l':List oD}{i:Nat}{f:Nat->Option (Nat×Th)}:iH S i (l++l') f=iH S (i+l.length) l' (iH S i l f):=by
 induction l generalizing i f with
 |nil=>rfl
 |cons x l ih=>
  grind [iH]
end Go.Proofs.YtfeahmiobbjklaaGreatDoor
end
section
open _root_.Bool renaming false->ag,true->af,false_eq_true->aqT
open _root_.Option renaming none->ae,some->aa
open _root_.Array renaming getD_eq_getD_getElem?->arq,getElem?_eq_getElem->arc,getElem?_eq_some_iff->ary
open _root_.List renaming drop_eq_getElem_cons->aqZ,getElem?_drop->ars,getElem?_eq_getElem->aqR,getElem?_eq_some_iff->aq9,getElem_of_mem->aq6,mem_filter->arK,range->aq0,take_append_drop->asc
open _root_.Nat renaming beq->aqV,blt->aru,le_refl->aqU,zero_add->arv
open _root_.Option.some renaming inj->aqP
open _root_.Go.Region renaming binds->asn,wanted->ase
namespace Go.Proofs.YtfeahmiobbjklaaGreatDoor
open Go Go.RowKit
def An{ms:List Nat}{i:Nat}{x:oD}:{l:List oD}->{j:Nat}->Eb ms i x j l=af->∀k y,l[k]? =aa y->conflict x y=af->(ms.getD (j+k) 0).testBit i=af
 |[],_,_,k,y,h,_=>by simp at h
 |z::l,j,hl,k,y,h,hc=>by
  obtain⟨h1,h2⟩:=c7 hl
  cases k with
  |zero=>
   grind
  |succ k=>
   have:=An h2 k y (by simpa using h) hc
   grind
def vl{ms:List Nat}:{l:List oD}->{i:Nat}->zh ms i l=af->∀a b x y,a<b->l[a]? =aa x->l[b]? =aa y->conflict x y=af->(ms.getD (i+b) 0).testBit (i+a)=af
 |[],_,_,a,b,x,y,_,h,_,_=>by simp at h
 |z::l,i,hl,a,b,x,y,PZ,hx,hy,hc=>by
  obtain⟨h1,h2⟩:=c7 hl
  cases a with
  |zero=>
   obtain rfl:z=x:=by simpa using hx
   cases b with
   |zero=>omega
   |succ b=>
    have:=An h1 b y (by simpa using hy) hc
    grind
  |succ a=>
   cases b with
   |zero=>omega
   |succ b=>
    have:=vl h2 a b x y (by omega) (by simpa using hx) (by simpa using hy) hc
    grind
inductive Xj(ops:Array Oper)(nt:Nat)(ts:List Nat)(sl:Nat->Option aI):Option (Nat×Bool)->Bool->Prop
 |none:Xj ops nt ts sl ae af
 |lit {j g:Nat} {b t:Bool} {d:aI} (h1:Lg ops j=aa g) (h2:aru g nt=af) (h3:g∈ts) (h4:sl g=aa d) (h5:asBool d=aa t):Xj ops nt ts sl (aa (j,b)) (decide (t=b))
 |undef {j g:Nat} {b:Bool} (h1:Lg ops j=aa g) (h2:aru g nt=af) (h3:g∈ts) (h4:sl g=aa .undef):Xj ops nt ts sl (aa (j,b)) ag
structure Xk(P:Program)(ops:Array Oper)(nt:Nat)(U:Nat->Prop)(o:Oper)(sl:Nat->Option aI)(ob:Nat->Option (Nat×Th))(n:Nat)(x:oD):Prop where
 dst:x.dst=o.dst
 Ju:Gg nt o.dst=af
 on:∃b,Xj ops nt x.ts sl o.guard b/\(b=af->V2 P U o sl ob n x)/\(b=ag->x.e={dst:= .undef})
section
variable {P:Program} {nt:Nat} {ops:Array Oper}
def Ul{ρ:Nat->Value}{o:Oper}{w:World}{QQ:Value->World->Prop}{a:Act}{K:Act->World->Prop}{Q:Exit->Act->World->Prop}(h:cP P ρ ⟨o.dst,o.op,o.type,o.pos,o.after,ae⟩ w QQ)(hf:Fr nt a ρ)
 (hk:∀v w',QQ v w'->K (a.put o.dst v) w'):o.wp P a w K Q:=by
 unfold Oper.wp;rw[hf.eval];unfold cP at h;have e:execOp (ev ρ) o=execOp (ev ρ) ⟨o.dst,o.op,o.type,o.pos,o.after,ae⟩:=rfl;rw[e];generalize(execOp (ev ρ) ⟨o.dst,o.op,o.type,o.pos,o.after,ae⟩).run P w=r at*
 cases r with
 |halt x w'=>exact h.elim
 |ok x w'=>
  cases x<;>first
   |exact h.elim
   |skip
  case value v=>exact hk v w' h.2
  case skip=>exact hk undef w' h.2
  case enter f args=>
   refine h.mono λe Bn ⟨v,he,hv⟩=>?_
   grind
def aP.sub{U:Nat->Prop}{H:aN}{F:Nat->Prop}{w:World}{ob S8:Nat->Option (Nat×Th)}{n m:Nat}(h:aP U H F w ob n)(hR:∀o x,S8 o=aa x->ob o=aa x)(DA:∀k,m<=k->k<m+16->H.val k=ae/\H.con k=ae):aP U H F w S8 m:=
 ⟨λo s t ho=>h.obj o s t (hR _ _ ho),λo o' s s' t t' v v' eG ho pq=>h.apart o o' s s' t t' v v' eG (hR _ _ ho) (hR _ _ pq),DA,h.lt,h.new,h.gl⟩
structure Inv(G:Nat->Prop)(w0:World)(F0:Nat->Prop)(es:List oD)(sl0:Nat->Option aI)(ob0:Nat->Option (Nat×Th))(n0:Nat)(H:aN)(F:Nat->Prop)(w:World)(ρ:Nat->Value)(S:Nat->Bool)(H':aN)(F':Nat->Prop)(w':World)(dN:Nat->Value):Prop where
 slot:∀t d,jq S 0 es sl0 t=aa d->aH H' F' w' d (dN t)
 ob:aP (UU G w0) H' F' w' (iH S 0 es ob0) (n0+16*es.length)
 all:kB H' (n0+16*es.length)
 fresh:∀i,i<es.length->S i=ag->∀m,n0+16*i<=m->m<n0+16*i+16->H'.val m=ae/\H'.con m=ae
 glob:Qh G w0 F0 w' F'
 keeps:cY H F w H' F' w'
 same:∀t,(∀x∈es,x.dst≠aa t)->dN t=ρ t
def ins(S:Nat->Bool)(i:Nat):Nat->Bool:=λj=>bif aqV j i then af else S j
theorem tc{S:Nat->Bool}{i:Nat}:ins S i i=af:=by simp[ins]
theorem td{S:Nat->Bool}{i j:Nat}(h:j≠i):ins S i j=S j:=by
 grind [ins,beq_true]
section
variable {G:Nat->Prop} {w0:World} {F0:Nat->Prop} {es:List oD} {sl0:Nat->Option aI} {ob0:Nat->Option (Nat×Th)} {n0:Nat} {H:aN} {F:Nat->Prop} {w:World} {ρ:Nat->Value} {ms:List Nat}
def Gv{i:Nat}{x:oD}(h:es[i]? =aa x):es=es.take i++x::es.drop (i+1)/\(es.take i).length=i:=by
 grind [aqZ,asc]
def CL{S:Nat->Bool}{i:Nat}{x:oD}(hx:es[i]? =aa x)(aaj:∀t,x.dst=aa t->∀j y,es[j]? =aa y->y.dst=aa t->S j=af->j<i)(t:Nat):
 jq (ins S i) 0 es sl0 t=if x.dst=aa t then aa x.e.dst else jq S 0 es sl0 t:=by
 by_cases hd:x.dst=aa t
 .rw[aj hd];obtain⟨e1,e2⟩:=Gv hx;rw[e1,rX,e2,arv]
  show jq (ins S i) (i+1) (es.drop (i+1)) _ t=_
  grind [rW,td,tc,zi]
 grind [oW,td]
def Gw{S:Nat->Bool}{i:Nat}{x:oD}(hx:es[i]? =aa x)(hS:S i=ag)(aaj:∀o,o∈x.mut->∀j y,es[j]? =aa y->o∈y.mut->S j=af->j<i)(o s:Nat)(t:Th)(h:iH (ins S i) 0 es ob0 o=aa (s,t)):
 find x.e.make o=aa (s,t)\/(o∉x.e.eat/\iH S 0 es ob0 o=aa (s,t)/\find x.e.make o=ae):=by
 by_cases hd:o∈x.mut
 .obtain⟨e1,e2⟩:=Gv hx
  have late:∀S':Nat->Bool,(∀j,j≠i->S' j=S j)->∀f,iH S' (i+1) (es.drop (i+1)) f o=f o:=λS' hS' f=>rz (by grind)
  have pre:iH (ins S i) 0 (es.take i) ob0 o=iH S 0 (es.take i) ob0 o:=oj rfl λk y hy _=>by
   grind [td]
  have all:iH S 0 es ob0 o=iH S 0 (es.take i) ob0 o:=by
   conv=>lhs;rw[e1]
   rw[mJ,e2,arv]
   show iH S (i+1) (es.drop (i+1)) _ o=_
   rw[late S (λ_ _=>rfl),hS];rfl
  conv at h=>lhs;rw[e1]
  rw[mJ,e2,arv]at h;change iH (ins S i) (i+1) (es.drop (i+1)) _ o=_ at h;rw[late (ins S i) (λj hj=>td hj),tc,cond_true,pre,<-all]at h
  cases hm:find x.e.make o with
  |some y=>grind
  |none=>
   rw[hm,Option.none_or]at h
   cases he:rU o x.e.eat with
   |true=>grind
   |false=>
    grind [iq]
 .right
  have h1:find x.e.make o=ae:=by
   cases hm:find x.e.make o with
   |none=>rfl
   |some y=>grind [oD.mut,uh]
  grind [oD.mut,oj,td]
theorem rA{l l':List Nat}{o:Nat}(h:o∈l)(h':o∈l'):Gu l l'=af:=by
 grind [Gu,iq]
theorem Ao{i j:Nat}(h:i<=j):aru j i=ag:=by
 cases hb:aru j i with
 |false=>rfl
 |true=>have:j<i:=by simpa using hb
        omega
def Nx(_:Nat):Bool:=af
def Jv{es:List oD}{i:Nat}(hi:i<=es.length):jq (λj=>aru j i) 0 es sl0=jq Nx 0 (es.take i) sl0:=by
 funext t
 conv=>lhs;rw[<-asc i es]
 rw[rX,rW (S:=λj=>aru j i) λk x _ _=>Ao (by simp;omega)]
 refine oW rfl λk x hx _=>?_
 have:=(aq9.1 hx).1;simp at this;simp[Nx];omega
def CM{es:List oD}{i:Nat}(hi:i<=es.length):iH (λj=>aru j i) 0 es ob0=iH Nx 0 (es.take i) ob0:=by
 funext t
 conv=>lhs;rw[<-asc i es]
 rw[mJ,rz (S:=λj=>aru j i) λk x _ _=>Ao (by simp;omega)]
 refine oj rfl λk x hx _=>?_
 have:=(aq9.1 hx).1;simp at this;simp[Nx];omega
def Ny{S:Nat->Bool}{i q:Nat}(hA:∀k y,k<i->es[k]? =aa y->q∈y.mut->S k=af\/q∈y.soft)
 (hs:∀k y,es[k]? =aa y->q∈y.soft->q∈y.mut->∃z z',iH Nx 0 (es.take k) ob0 q=aa z/\find y.e.make q=aa z'/\jY z z'):
 ∀m,m<=i->m<=es.length->∀z,iH Nx 0 (es.take m) ob0 q=aa z->∃z',iH S 0 (es.take m) ob0 q=aa z'/\jY z z':=by
 intro m
 induction m with
 |zero=>intro _ _ z hz;exact⟨z,hz, .inl rfl⟩
 |succ m ih=>
  intro hm hl z hz
  have aF:m<es.length:=by omega
  have hy:es[m]? =aa es[m]:=aqR aF
  have e1:es.take (m+1)=es.take m++[es[m]]:=by rw[List.take_add_one,hy];rfl
  have el:(es.take m).length=m:=by simp;omega
  rw[e1,mJ,el,arv]at hz⊢;generalize hgy:es[m]=y at*;have ez:(find y.e.make q).or (bif rU q y.e.eat then ae else iH Nx 0 (es.take m) ob0 q)=aa z:=hz
  show∃z',(bif S m then(find y.e.make q).or (bif rU q y.e.eat then ae else iH S 0 (es.take m) ob0 q)else iH S 0 (es.take m) ob0 q)=aa z'/\jY z z'
  by_cases aak:q∈y.mut
  .cases hSm:S m with
   |true=>
    rw[cond_true]
    cases QJ:find y.e.make q with
    |some x=>rw[QJ]at ez;exact⟨z,ez, .inl rfl⟩
    |none=>
     grind
   |false=>
    rw[cond_false]
    rcases hA m y (by omega) hy aak with h|h
    .grind
    .obtain⟨x,x',h1,h2,h3⟩:=hs m y hy h aak;rw[h2]at ez;obtain rfl:=aqP ez;obtain⟨z',h4,h5⟩:=ih (by omega) (by omega) x h1;exact⟨z',h4,h3.symm.trans h5⟩
  .have h1:find y.e.make q=ae:=by
    cases hm:find y.e.make q with
    |none=>rfl
    |some y=>grind [oD.mut,uh]
   grind
def Ap(Nz:Nw [] ops.toList=aa ms)(hp:zh ms 0 es=af)(hlen:es.length=ops.size){S:Nat->Bool}(hS:Jt ops (λj=>S j=af)){i:Nat}{o:Oper}{x:oD}(ho:ops[i]? =aa o)(hx:es[i]? =aa x)(Xl:S i=ag)
 (V3:∀e∈o.after,asn .any e=af->S e.on=af)(V4:∀k y,es[k]? =aa y->∀q,q∈y.soft->q∈y.mut->∃z z',iH Nx 0 (es.take k) ob0 q=aa z/\find y.e.make q=aa z'/\jY z z')(mR:Xk P ops nt (UU G w0) o (jq (λj=>aru j i) 0 es sl0) (iH (λj=>aru j i) 0 es ob0) (n0+16*i) x)
 {H':aN}{F':Nat->Prop}{w':World}{dN:Nat->Value}{a:Act}(hf:Fr nt a dN)(hinv:Inv G w0 F0 es sl0 ob0 n0 H F w ρ S H' F' w' dN){K:Act->World->Prop}{Q:Exit->Act->World->Prop}
 (hk:∀a'' xD yE I8 Bn,Fr nt a'' xD->Inv G w0 F0 es sl0 ob0 n0 H F w ρ (ins S i) yE I8 Bn xD->K a'' Bn):wpOp P ops Q i K a w':=by
 have NA:i<es.length:=(aq9.1 hx).1
 have up:∀j y,es[j]? =aa y->j<i->conflict y x=af->S j=af:=λj y hy hji hc=>by
  have:=vl hp j i y x hji hy hx hc
  grind [QI]
 have down:∀j y,es[j]? =aa y->i<j->conflict x y=af->S j=af->False:=λj y hy ZO hc hj=>by
  have:=vl hp i j x y ZO hx hy hc;rw[arv,arv]at this
  have Ji:j<ops.size:=by have:=(aq9.1 hy).1;omega
  have h2:=QI Nz hS j _ (arc Ji) (λe he hb=>hS j hj _ (arc Ji) e he hb) i this
  grind
 have V5:∀t,x.dst=aa t->∀j y,es[j]? =aa y->y.dst=aa t->S j=af->j<i:=λt ht j y hy hyt hj=>by
  grind [conflict,qU,iq]
 have V6:∀q,q∈x.mut->∀j y,es[j]? =aa y->q∈y.mut->S j=af->j<i:=λq hq j y hy Zk hj=>by
  grind [conflict,rA]
 have Xm:∀t,t∈x.ts->jq (λj=>aru j i) 0 es sl0 t=jq S 0 es sl0 t:=λt ht=>oW rfl λj y hy hyt=>by
  rw[arv]
  rcases Nat.lt_trichotomy j i with h|h|h
  .rw[up j y hy h (by grind [conflict,qU,iq])];simpa using h
  all_goals grind [Ao,conflict,qU,iq]
 have alC:∀q,q∈x.os->iH (λj=>aru j i) 0 es ob0 q=iH S 0 es ob0 q:=λq hq=>oj rfl λj y hy Zk=>by
  rw[arv]
  rcases Nat.lt_trichotomy j i with h|h|h
  .rw[up j y hy h (by grind [conflict,rA])];simpa using h
  .grind [Ao]
  .have:S j=ag:=by
    cases hj:S j with
    |false=>rfl
    |true=>exact(down j y hy h (by unfold conflict;rw[rA (l:=x.os++x.ls++x.mut) (l':=y.mut) (by simp[hq]) Zk];simp) hj).elim
   rw[this];exact Ao (by omega)
 have alD:∀q z,q∈x.ls->iH (λj=>aru j i) 0 es ob0 q=aa z->∃z',iH S 0 es ob0 q=aa z'/\jY z z':=λq z hq hz=>by
  rw[CM (by omega)]at hz
  obtain⟨z',h1,h2⟩:=Ny (S:=S) (i:=i) (q:=q) (λk y hk hy Zk=>by
   by_cases hsf:q∈y.soft
   .exact .inr hsf
   .refine .inl (up k y hy hk ?_)
    have:q∈y.aai:=arK.2 ⟨Zk,by
     cases hb:rU q y.soft with
     |false=>rfl
     |true=>exact absurd (iq.1 hb) hsf⟩
    unfold conflict;rw[rA this hq]
    simp) (by grind) i (aqU _) (by omega) z hz
  refine⟨z',?_,h2⟩;rw[<-h1]
  conv=>lhs;rw[<-asc i es]
  rw[mJ]
  refine rz λk y hy Zk=>?_
  have hy':es[i+k]? =aa y:=by rw[<-hy,ars]
  have el:(es.take i).length=i:=by simp;omega
  rw[el,arv]
  cases hSk:S (i+k)with
  |false=>rfl
  |true=>
   rcases Nat.eq_zero_or_pos k with rfl|hk
   .grind
   .exact(down (i+k) y hy' (by omega) (by unfold conflict;rw[rA (l:=x.os++x.ls++x.mut) (l':=y.mut) (by simp[hq]) Zk];simp) hSk).elim
 obtain⟨b,hg,hon,TF⟩:=mR.on
 have aam:ase o (yielded ops a.tmps)=b:=by
  generalize hog:o.guard=gd at hg
  cases hg with
  |none=>unfold ase;rw[hog]
  |lit h1 h2 h3 h4 h5=>
   rename_i j g b' t d;rw[Xm g h3]at h4;have hy:=rP hf h1 h2 (rb h5 (hinv.slot g _ h4));unfold ase
   grind
  |undef h1 h2 h3 h4=>
   rename_i j g b';rw[Xm g h3]at h4;have hy:=qQ hf h1 h2 (show dN g=undef from hinv.slot g _ h4);unfold ase
   grind
 have w5:∀v,Fr nt (a.put o.dst v) (yF dN o.dst v):=λv=>by
  have hb:=mR.Ju
  cases hd:o.dst with
  |none=>exact hf
  |some d=>rw[hd]at hb;exact hf.put hb v
 have QK:∀t,x.dst=aa t↔o.dst=aa t:=λt=>by rw[mR.dst]
 unfold wpOp;simp only[ho,aam]
 cases b with
 |false=>
  simp only[aqT,if_false];have he:=TF rfl;refine hk _ (yF dN o.dst undef) H' F' w' (w5 undef) ⟨λt d ht=>?_,?_,hinv.all,λk hk NB=>?_,hinv.glob,hinv.keeps,λt ht=>?_⟩
  .rw[CL hx V5]at ht;split at ht
   .rename_i Xn;obtain rfl:=aqP ht;rw[he]
    show yF dN o.dst undef t=undef
    rw[(QK t).1 Xn]
    show Iq dN t undef t=undef
    rw[rS,aj rfl]
   .rename_i Xn;rw[ug (λe=>Xn ((QK t).2 e))];exact hinv.slot t d ht
  .refine hinv.ob.sub (λq y hq=>?_) (λm hm _=>hinv.all m hm)
   rcases Gw hx Xl V6 q y.1 y.2 hq with h1|⟨_,h2,_⟩
   .rw[he]at h1;cases h1
   .exact h2
  .by_cases e:k=i
   .grind [tc]
   .rw[td e]at NB;exact hinv.fresh k hk NB
  .rw[ug (by grind)];exact hinv.same t ht
 |true=>
  simp only[if_true]
  left
  obtain⟨_,⟨slR,S8,aah,Uk,bP⟩,_⟩:=hon rfl
  obtain⟨ob2,kC,bP⟩:=bP H' F' w' dN (iH S 0 es ob0) (λq y hq=>by
   obtain⟨h1,h2⟩:=Uk q y hq;by_cases hos:q∈x.os
   .exact⟨y,by grind, .inl rfl,λ_=>rfl⟩
   grind) (λt d ht=>by
   obtain⟨h1,h2⟩:=aah t d ht;rw[Xm t h1]at h2
   exact hinv.slot t d h2) (hinv.ob.sub (λ_ _ h=>h) (hinv.fresh i NA Xl))
  have Gd:=hinv.ob.sub kC (hinv.fresh i NA Xl)
  refine Ul bP hf λv Bn ⟨yE,I8,ye⟩=>?_
  .have fC:=ye.oB.step Gd.lt Gd.gG
   have gZ:kB yE (n0+16*es.length):=λm hm=>by
    have h1:=hinv.all m hm;have h2:=ye.fresh m (.inr (by omega))
    grind
   refine hk _ (yF dN o.dst v) yE I8 Bn (w5 v) ⟨λt d ht=>?_,?_,gZ,λk hk NB m hm1 hm2=>?_,hinv.glob.oB ye.oB Gd.iT,hinv.keeps.trans ⟨ye.oB.jy,fC⟩,λt ht=>?_⟩
   .rw[CL hx V5]at ht;split at ht
    .rename_i Xn;obtain rfl:=aqP ht;rw[(QK t).1 Xn]
     show aH yE I8 Bn _ (Iq dN t v t)
     grind [rS,oh.dst]
    .rename_i Xn;rw[ug (λe=>Xn ((QK t).2 e))];exact(hinv.slot t d ht).keep ye.oB.jy fC
   .exact hinv.ob.PL kC ye (λq s t hq=>Gw hx Xl V6 q s t hq) λm hm _=>gZ m hm
   .by_cases e:k=i
    .grind [tc]
    .rw[td e]at NB;have h1:=hinv.fresh k hk NB m hm1 hm2;have h2:=ye.fresh m (by omega)
     grind
   .rw[ug (by grind)];exact hinv.same t ht
end
end
end Go.Proofs.YtfeahmiobbjklaaGreatDoor
namespace Go.Proofs.YtfeahmiobbjklaaGreatDoor
open Go Go.RowKit
def xE(dst:Option Nat)(g:Nat):oD:={dst:=dst,ts:=[g],os:=[],e:={dst:= .undef}}
noncomputable def qt{R:Type}{P:Program}(E:Env P)(nt:Nat)(ops:Array Oper):List Oper->State->List oD->(State->Option R)->Option R
 |[],st,acc,k=>bif xC ops.toList acc then k st else ae
 |o::os,st,acc,k=>bif Gg nt o.dst then(match o.guard with
  |none=>CK E o.dst o.op [] st (λe x=>qt E nt ops os (st.apply o.dst e) (acc++[x]) k)
  |some (j,b)=>match Lg ops j with
   |none=>ae
   |some g=>bif aru g nt then(match find st.aJ g with
    |some .undef=>qt E nt ops os (st.apply o.dst {dst:= .undef}) (acc++[xE o.dst g]) k
    |some d=>match asBool d with
     |some t=>if t=af then
       (bif b then CK E o.dst o.op [g] (st.put (aa g) (fD af)) (λe x=>qt E nt ops os ((st.put (aa g) (fD af)).apply o.dst e) (acc++[x]) k)
         else qt E nt ops os ((st.put (aa g) (fD af)).apply o.dst {dst:= .undef}) (acc++[xE o.dst g]) k)
      else
       (bif b then qt E nt ops os ((st.put (aa g) (fD ag)).apply o.dst {dst:= .undef}) (acc++[xE o.dst g]) k
         else CK E o.dst o.op [g] (st.put (aa g) (fD ag)) (λe x=>qt E nt ops os ((st.put (aa g) (fD ag)).apply o.dst e) (acc++[x]) k))
     |none=>ae
    |none=>ae)else ae)else ae
section
variable {P:Program} {nt:Nat} {ops:Array Oper} {R:Type}
variable {G:Nat->Prop} {w0:World} {F0:Nat->Prop} {sl0:Nat->Option aI} {ob0:Nat->Option (Nat×Th)} {n0:Nat}
structure Lex(P:Program)(nt:Nat)(ops:Array Oper)(U:Nat->Prop)(sl0:Nat->Option aI)(ob0:Nat->Option (Nat×Th))(n0:Nat)(es:List oD)(st:State):Prop where
 slot:∀t,find st.aJ t=jq Nx 0 es sl0 t
 ob:∀o,find st.objs o=iH Nx 0 es ob0 o
 nxt:st.nxt=n0+16*es.length
 ok:∀i o x,ops[i]? =aa o->es[i]? =aa x->Xk P ops nt U o (jq Nx 0 (es.take i) sl0) (iH Nx 0 (es.take i) ob0) (n0+16*i) x
def Jw{S:Nat->Bool}{es:List oD}{x:oD}{f:Nat->Option aI}{t:Nat}(h:S es.length=af):jq S 0 (es++[x]) f t=if x.dst=aa t then aa x.e.dst else jq S 0 es f t:=by
 rw[rX,arv]
 show(bif S es.length&&qU (aa t) x.dst.toList then aa x.e.dst else jq S 0 es f t)=_
 rw[h,Bool.true_and];by_cases hd:x.dst=aa t
 all_goals grind [zi]
def NC{S:Nat->Bool}{es:List oD}{x:oD}{f:Nat->Option (Nat×Th)}{o:Nat}(h:S es.length=af):iH S 0 (es++[x]) f o=(find x.e.make o).or (bif rU o x.e.eat then ae else iH S 0 es f o):=by
 rw[mJ,arv]
 show(bif S es.length then _ else _)=_
 rw[h];rfl
def xF{st:State}{dst:Option Nat}{e:fF}{t:Nat}:find (st.apply dst e).aJ t=if dst=aa t then aa e.dst else find st.aJ t:=by
 cases dst with
 |none=>simp[State.apply]
 |some d=>
  show find ((d,e.dst)::st.aJ) t=_
  grind [bp]
def yK{st:State}{dst:Option Nat}{e:fF}{o:Nat}:find (st.apply dst e).objs o=(find e.make o).or (bif rU o e.eat then ae else find st.objs o):=by
 show find (e.make++del e.eat st.objs) o=_
 rw[kw]
 congr 1
 cases hb:rU o e.eat with
 |true=>
  rw[cond_true]
  cases h:find (del e.eat st.objs) o with
  |none=>rfl
  |some x=>grind [iq,kz]
 |false=>
  rw[cond_false]
  have hn:o∉e.eat:=λh=>by rw[iq.2 h]at hb;cases hb
  cases h:find st.objs o with
  |some x=>exact kz.2 ⟨hn,h⟩
  |none=>
   cases h2:find (del e.eat st.objs) o with
   |none=>rfl
   |some x=>rw[(kz.1 h2).2]at h;cases h
def Lex.snoc{U:Nat->Prop}{es:List oD}{st:State}{x:oD}{o:Oper}(h:Lex P nt ops U sl0 ob0 n0 es st)(ho:ops[es.length]? =aa o)(hd:x.dst=o.dst)
 (qk:Xk P ops nt U o (find st.aJ) (find st.objs) st.nxt x):Lex P nt ops U sl0 ob0 n0 (es++[x]) (st.apply o.dst x.e):=by
 refine⟨λt=>?_,λq=>?_,?_,λi o' y pq hy=>?_⟩
 .rw[xF,Jw rfl,hd,h.slot t]
 .rw[yK,NC rfl,h.ob q]
 .show st.nxt+16=_
  grind [Lex.nxt]
 .rcases Nat.lt_or_ge i es.length with aF|hge
  .rw[List.getElem?_append_left aF]at hy;rw[List.take_append_of_le_length (by omega)];exact h.ok i o' y pq hy
  .have hi:i=es.length:=by
    have:=(aq9.1 hy).1;simp at this;omega
   subst hi;simp at hy;subst hy;rw[ho]at pq;obtain rfl:=aqP pq;rw[List.take_left']
   .rw[<-funext h.slot,<-funext h.ob,<-h.nxt];exact qk
   .rfl
def Lex.put{U:Nat->Prop}{es:List oD}{st:State}{g:Nat}{d:aI}(h:Lex P nt ops U sl0 ob0 n0 es st)(hg:find st.aJ g=aa d):Lex P nt ops U sl0 ob0 n0 es (st.put (aa g) d):=by
 refine⟨λt=>?_,h.ob,h.nxt,h.ok⟩
 show find ((g,d)::st.aJ) t=_
 rw[bp,<-h.slot t]
 grind
def ND{d:aI}{t:Bool}(h:asBool d=aa t):d=fD t:=by
 unfold asBool at h
 grind
def Gx{E:Env P}{q:R}{k:State->Option R}:{l:List Oper}->{st:State}->{es:List oD}->qt E nt ops l st es k=aa q->(∀j,l[j]? =ops[es.length+j]?)->Lex P nt ops (UU G w0) sl0 ob0 n0 es st->
 ∃pA dK,k dK=aa q/\xC ops.toList pA=af/\Lex P nt ops (UU G w0) sl0 ob0 n0 pA dK/\pA.length=es.length+l.length
 |[],st,es,h,_,hl=>by
  unfold qt at h
  grind
 |o::l,st,es,h,sS,hl=>by
  have ho:ops[es.length]? =aa o:=by simpa using(sS 0).symm
  have aan:∀x:oD,∀j,l[j]? =ops[(es++[x]).length+j]? :=λx j=>by
   have:=sS (j+1)
   grind
  have go:∀{st1:State}{x:oD},qt E nt ops l st1 (es++[x]) k=aa q->Lex P nt ops (UU G w0) sl0 ob0 n0 (es++[x]) st1->∃pA dK,k dK=aa q/\xC ops.toList pA=af/\Lex P nt ops (UU G w0) sl0 ob0 n0 pA dK/\pA.length=es.length+(o::l).length:=by
   intro st1 x h1 h2;obtain⟨pA,dK,a1,a2,a3,a4⟩:=Gx h1 (aan x) h2;refine⟨pA,dK,a1,a2,a3,?_⟩;rw[a4,List.length_append,List.length_singleton,List.length_cons];omega
  unfold qt at h;obtain⟨hd,h'⟩:=bi h;clear h
  have on:∀{st1:State}{gs:List Nat},CK E o.dst o.op gs st1 (λe x=>qt E nt ops l (st1.apply o.dst e) (es++[x]) k)=aa q->Lex P nt ops (UU G w0) sl0 ob0 n0 es st1->(∀ts:List Nat,(∀g∈gs,g∈ts)->Xj ops nt ts (find st1.aJ) o.guard af)->∃pA dK,k dK=aa q/\xC ops.toList pA=af/\Lex P nt ops (UU G w0) sl0 ob0 n0 pA dK/\pA.length=es.length+(o::l).length:=by
   intro st1 gs h1 h2 h3;obtain⟨e,x,a1,a2,a3,a4⟩:=QG (U:=UU G w0) h1;subst a2;exact go a1 (h2.snoc ho a4.dst ⟨a4.dst,hd,af,h3 _ a3,λ_=>a4,λh=>by cases h⟩)
  have off:∀{st1:State}{g:Nat},qt E nt ops l (st1.apply o.dst {dst:= .undef}) (es++[xE o.dst g]) k=aa q->Lex P nt ops (UU G w0) sl0 ob0 n0 es st1->Xj ops nt [g] (find st1.aJ) o.guard ag->∃pA dK,k dK=aa q/\xC ops.toList pA=af/\Lex P nt ops (UU G w0) sl0 ob0 n0 pA dK/\pA.length=es.length+(o::l).length:=by
   intro st1 g h1 h2 h3;exact go (x:=xE o.dst g) h1 (h2.snoc (x:=xE o.dst g) ho rfl ⟨rfl,hd,ag,h3,λh=>(by cases h),λ_=>rfl⟩)
  split at h'
  .rename_i Xo
   exact on h' hl λts _=>by rw[Xo];exact .none
  .rename_i j b Xo;split at h'
   case h_1=>cases h'
   rename_i g VX;obtain⟨VY,h⟩:=bi h';clear h';split at h
   .rename_i hu;exact off h hl (by rw[Xo];exact .undef VX VY (by simp) hu)
   .rename_i d jL;split at h
    case h_2=>cases h
    rename_i t ht;obtain rfl:=ND ht
    have aao:∀v:Bool,find (st.put (aa g) (fD v)).aJ g=aa (fD v):=λv=>by
     show find ((g,fD v)::st.aJ) g=_
     rw[bp,aj rfl]
    have alI:∀(v:Bool)(ts:List Nat)(r:Bool),g∈ts->r=decide (v=b)->Xj ops nt ts (find (st.put (aa g) (fD v)).aJ) (aa (j,b)) r:=λv ts r hg hr=>by
     rw[hr];exact .lit VX VY hg (aao v) rfl
    split at h
    .rename_i Ui;subst Ui;have Y1:=hl.put jL
     grind
    .rename_i Ui
     have Ui:t=ag:=by cases t<;>simp_all
     subst Ui;have Y1:=hl.put jL
     grind
   .cases h
def unl(m:Nat)(listed:Array Bool):Nat:=((aq0 m).filter λj=> !listed.getD j ag).length
def Lj{m i:Nat}{listed:Array Bool}(hi:i<m)(hs:listed.size=m)(h:listed.getD i ag=ag):unl m (listed.setIfInBounds i af)+1<=unl m listed:=by
 unfold unl
 have kC:∀l:List Nat,(l.filter λj=> !(listed.setIfInBounds i af).getD j ag).length<=(l.filter λj=> !listed.getD j ag).length/\(i∈l->(l.filter λj=> !(listed.setIfInBounds i af).getD j ag).length+1<=(l.filter λj=> !listed.getD j ag).length):=by
  intro l
  induction l with
  |nil=>grind
  |cons j l ih=>
   by_cases hj:i=j
   .subst hj
    have e1:(listed.setIfInBounds i af).getD i ag=af:=by simp[arq,hs,hi]
    grind
   .have e1:(listed.setIfInBounds i af).getD j ag=listed.getD j ag:=getD_set_ne ag hj
    grind
 grind
def Um{E:Env P}{id:Nat}{q:R}{k:State->Option R}{st:State}{H:aN}{F:Nat->Prop}{w:World}{ρ:Nat->Value}{Q:Exit->(Nat->Value)->World->Prop}(hm:P.follows .mixedOrders=af)
 (h:qt E nt ops ops.toList st [] k=aa q)(hh:dD G w0 F0 H F w ρ st)
 (hk:∀dK H' F' w' dN,k dK=aa q->dD G w0 F0 H' F' w' dN dK->cY H F w H' F' w'->(∀t,(∀o∈ops.toList,o.dst≠aa t)->dN t=ρ t)->Q .normal dN w'):yU P nt (.region id ops af) Q ρ w:=by
 obtain⟨es,dK,WY,od,Jx,hlen⟩:=Gx (G:=G) (w0:=w0) (sl0:=find st.aJ) (ob0:=find st.objs) (n0:=st.nxt) h (λj=>by simp) ⟨λ_=>rfl,λ_=>rfl,by simp,λi o x _ hx=>by simp at hx⟩;simp only[List.length_nil,arv,Array.length_toList]at hlen;unfold xC at od;split at od
 case h_2=>cases od
 rename_i ms Nz
 have QK:∀x∈es,∃o∈ops.toList,x.dst=o.dst:=λx hx=>by
  obtain⟨i,hi,rfl⟩:=aq6 hx
  have aF:i<ops.size:=by omega
  exact⟨ops[i],by simp,(Jx.ok i ops[i] es[i] (arc aF) (aqR hi)).dst⟩
 have V4:∀k y,es[k]? =aa y->∀q,q∈y.soft->q∈y.mut->∃z z',iH Nx 0 (es.take k) (find st.objs) q=aa z/\find y.e.make q=aa z'/\jY z z':=λk y hy q h1 h2=>by
  have aF:k<es.length:=(aq9.1 hy).1;obtain⟨_,_,b,_,hon,TF⟩:=Jx.ok k _ y (arc (by omega)) hy
  cases b with
  |true=>exact(hon rfl).soft q h1 h2
  |false=>
   grind [oD.mut,yg]
 have adg:∀i o,ops[i]? =aa o->∀e∈o.after,asn .any e=af->e.on<i:=λi o ho e he hb=>by
  obtain⟨m,h1,_⟩:=(Ed Nz).2.2 i o (by grind);simp only[List.length_nil,arv]at h1;exact Li h1 e (by simpa using he) hb
 intro a hf;refine wp_region_any hm ?_
 have main:∀fuel(listed:Array Bool)(a:Act)(w':World)H' F' dN,listed.size=ops.size->unl ops.size listed<=fuel->Jt ops (λj=>listed.getD j ag=af)->Fr nt a dN->
  Inv G w0 F0 es (find st.aJ) (find st.objs) st.nxt H F w ρ (λj=>listed.getD j ag) H' F' w' dN->wpAny P .any ops (λe a' w'=>∃dN,Fr nt a' dN/\Q e dN w') fuel listed a w':=by
  have done:∀(listed:Array Bool)(a:Act)(w':World)H' F' dN,(∀i,i<ops.size->listed.getD i ag=af)->Fr nt a dN->Inv G w0 F0 es (find st.aJ) (find st.objs) st.nxt H F w ρ (λj=>listed.getD j ag) H' F' w' dN->∃dN,Fr nt a dN/\Q .normal dN w':=by
   intro listed a w' H' F' dN gZ hf hinv
   have eS:∀t,jq (λj=>listed.getD j ag) 0 es (find st.aJ) t=find dK.aJ t:=λt=>by
    rw[Jx.slot t]
    refine oW rfl λk x hx _=>?_
    have:=(aq9.1 hx).1;rw[arv];exact gZ k (by omega)
   have eO:∀o,iH (λj=>listed.getD j ag) 0 es (find st.objs) o=find dK.objs o:=λo=>by
    rw[Jx.ob o]
    refine oj rfl λk x hx _=>?_
    have:=(aq9.1 hx).1;rw[arv];exact gZ k (by omega)
   refine⟨dN,hf,hk dK H' F' w' dN WY ⟨⟨λt d hd=>hinv.slot t d (by grind),?_,?_⟩,hinv.glob⟩ hinv.keeps λt ht=>hinv.same t λx hx=>?_⟩
   .have:=hinv.ob;rw[funext eO]at this;rw[Jx.nxt];exact this
   .rw[Jx.nxt];exact hinv.all
   .grind
  have NE:∀(listed:Array Bool),listed.size=ops.size->Region.ready .any ops listed=[]->∀i,i<ops.size->listed.getD i ag=af:=by
   intro listed hs hr i
   induction i using Nat.strongRecOn with
   |_ i ih=>
    intro hi
    cases hl:listed.getD i ag with
    |true=>rfl
    |false=>
     have:i∈Region.ready .any ops listed:=mem_ready.2 ⟨by
      simp only[arq]at hl⊢;rw[arc (by omega)]at hl⊢
      simpa using hl,ops[i],arc hi,(by grind)⟩
     grind
  intro fuel
  induction fuel with
  |zero=>
   intro listed a w' H' F' dN hs hu hc hf hinv
   have gZ:∀i,i<ops.size->listed.getD i ag=af:=λi hi=>by
    cases hl:listed.getD i ag with
    |true=>rfl
    |false=>
     have:=Lj hi hs hl;omega
   refine⟨?_,done listed a w' H' F' dN gZ hf hinv⟩
   cases hr:Region.ready .any ops listed with
   |nil=>rfl
   |cons i l=>
    have hi:i∈Region.ready .any ops listed:=by rw[hr];simp
    grind [Go.mem_ready]
  |succ fuel ih=>
   intro listed a w' H' F' dN hs hu hc hf hinv;refine⟨λhr=>done listed a w' H' F' dN (NE listed hs hr) hf hinv,λi hi=>?_⟩;obtain⟨h1,o,ho,V3⟩:=mem_ready.1 hi;have aF:=(ary.1 ho).1
   have Xl:listed.getD i ag=ag:=by
    simp only[arq]at h1⊢;rw[arc (by omega)]at h1⊢;simpa using h1
   have hx:es[i]? =aa (es[i]'(by omega)):=aqR (by omega);have mR:=Jx.ok i o _ ho hx;rw[<-Jv (by omega),<-CM (by omega)]at mR
   have NB:(λj=>(listed.setIfInBounds i af).getD j ag)=ins (λj=>listed.getD j ag) i:=by
    funext j;by_cases e:j=i
    .subst e;rw[tc];simp[arq,hs,aF]
    .rw[td e];exact getD_set_ne ag (Ne.symm e)
   refine Ap Nz od hlen hc ho hx Xl V3 V4 mR hf hinv λa'' xD yE I8 Bn aew aex=>?_
   refine ih _ a'' Bn yE I8 xD (by simp[hs]) ?_ ?_ aew ?_
   .have:=Lj aF hs Xl;omega
   .intro j hj o' pq e he hb;by_cases ej:j=i
    .grind [Go.getD_set_true]
    .have TO:listed.getD j ag=af:=by
      have:(listed.setIfInBounds i af).getD j ag=listed.getD j ag:=getD_set_ne ag (Ne.symm ej);rw[<-this];exact hj
     exact getD_set_true (hc j TO o' pq e he hb)
   grind
 have hS0:∀j,(Array.replicate ops.size ag).getD j ag=ag:=λj=>by
  simp only[arq]
  grind
 have hw:Step F w F w.drew:=Step.drew F w
 refine main ops.size _ a _ H F ρ (by simp) ?_ (λi hi=>by
  grind) hf ⟨λt d hd=>?_,?_,λm hm=>hh.sat.all m (by omega),λi hi _ m hm _=>hh.sat.all m (by omega),⟨⟨hh.glob.ext.os,⟨hh.glob.ext.tape.1,Nat.le_succ_of_le hh.glob.ext.tape.2⟩,hh.glob.ext.output,hh.glob.ext.size,hh.glob.ext.block⟩,hh.glob.le,hh.glob.new⟩,⟨aN.le.refl H,hw⟩,λ_ _=>rfl⟩
 .grind [unl]
 .rw[rW λk x _ _=>hS0 _]at hd;exact(hh.sat.slot t d hd).keep (aN.le.refl H) hw
 .have e:iH (λj=>(Array.replicate ops.size ag).getD j ag) 0 es (find st.objs)=find st.objs:=by
   funext o
   exact rz λk x _ _=>hS0 _
  rw[e];have hb:=hh.sat.ob;refine⟨λo s t ho=>?_,hb.apart,λm hm _=>hh.sat.all m (by omega),hb.lt,hb.new,hb.gl.step (λ_ h=>⟨h,rfl⟩)⟩;obtain⟨v,hv,dC⟩:=hb.obj o s t ho;exact⟨v,hv,dC.one,dC.con,dC.ok.heap (aN.le.refl H) hw λ_ _=>rfl,dC.no,dC.lt,dC.use⟩
end
end Go.Proofs.YtfeahmiobbjklaaGreatDoor
end
section
open _root_.Bool renaming false->ag,true->af,and_eq_true->arY
open _root_.Option renaming none->ae,some->aa,isSome_iff_exists->arw
open _root_.List.cons renaming injEq->arV
open _root_.List renaming mem_cons->arx
open _root_.Nat renaming beq->aqV,le_refl->aqU
open _root_.Option.some renaming inj->aqP,injEq->aq2
open _root_.Go.Sem renaming run_bind->arj
open _root_.Sum renaming inr->arM
open _root_.Go.Value.slice renaming injEq->asf
namespace Go.Proofs.YtfeahmiobbjklaaGreatDoor
open Go Go.RowKit
inductive Ex where
 |normal
 |exit (id:Nat)
 |ret
 |goto (l:Nat)
def Ex.yh:Ex->Exit
 | .normal=> .normal
 | .exit id=> .exit id
 | .ret=> .ret
 | .goto l=> .goto l
def noGoto{R:Type}(k:Ex->State->Option R):Ex->State->Option R
 | .goto _,_=>ae
 |e,st=>k e st
inductive zj where
 |nil
 |two (a b:zj)
 |join (J:JS) (a b:zj)
 |meet (J:JS) (a b:zj)
 |loop (L:JS) (a:zj)
 |loopK (L:JS) (a:zj)
abbrev zj.o(a:zj):zj:= .two .nil a
def zj.l:zj->zj
 | .two a _=>a
 |_=> .nil
def zj.r:zj->zj
 | .two _ b=>b
 |_=> .nil
def wk:List Oper->List Nat
 |[]=>[]
 |o::l=>match o.dst with
  |some d=>d::wk l
  |none=>wk l
def writes:Code->List Nat
 | .region _ ops _=>wk ops.toList
 | .seq a b=>writes a++writes b
 | .cond _ a b=>writes a++writes b
 | .block _ a=>writes a
 | .loop a=>writes a
 | .scope a=>writes a
 |_=>[]
def Gy:List Nat->List (Nat×aI)->List (Nat×aI)
 |[],l=>l
 |t::ts,l=>(t, .dead)::Gy ts l
def V7:List (Nat×OS)->List Nat
 |[]=>[]
 |(j,_)::l=>j::V7 l
def Lk(st:State)(J:JS):List (Nat×(Nat×Th)):=del (V7 J.objs++J.drop) st.objs
def behind(st:State)(W:List Nat)(J:JS)(x:dW J.rows):State:=
 {aJ:=(dU J.aJ (eD _ x)).1++Gy W st.aJ,objs:=jW st.nxt J.objs (dU J.aJ (eD _ x)).2++Lk st J,nxt:=J.nxt}
def Jy(st:State)(J:JS)(st1:State):Option (dW J.rows):=
 match Cw st.nxt (Lk st J) J st1.aJ st1.objs with
 |some (x,_)=>aa x
 |none=>ae
def QL(ob:Nat->Option (Nat×Th))(n o:Nat):Option fF:=
 match ob o with
 |some (_, .deep T d l ae)=>aa {dst:= .dead,eat:=[o],make:=[(o,(n, .own T d.row l))]}
 |_=>ae
def qv(st:State):List (Nat×OS)->State
 |[]=>st
 |(j, .own _ _)::os=>match QL (find st.objs) st.nxt j with
  |some e=>qv (st.apply ae e) os
  |none=>qv st os
 |_::os=>qv st os
def QM(st:State)(t o:Nat)(r:Row):Option State:=
 match find st.objs o with
 |some (_, .box _ t0)=>match iG st.objs t0.owns with
  |some bq=>match find bq o with
   |some (_, .box _ t1)=>match flat (find bq) r t1 with
    |some x=>aa (State.apply {st with objs:=bq} (aa t) {dst:= .at r x,eat:=[o]})
    |none=>ae
   |_=>ae
  |none=>ae
 |_=>ae
noncomputable def Ee{R:Type}(st:State)(k:State->Option R):List (Nat×SS)->Option R
 |[]=>k st
 |(t, .at r)::ss=>match find st.aJ t with
  |some (.ptr o [] 0)=>match QM st t o r with
   |some dK=>Ee dK k ss
   |none=>ae
  |some (.dlm o d i [] 0)=>match iG st.objs [o]with
   |some bq=>match find bq o with
    |some (_, .fdeep _ d' l)=>bif aqV d.low.size d'.row.size then(idx l i).bind λx=>Ee {aJ:=(t, .at d'.row x)::st.aJ,objs:=bq,nxt:=st.nxt} k ss else ae
    |_=>ae
   |none=>ae
  |_=>Ee st k ss
 |_::ss=>Ee st k ss
noncomputable def carry(st:State)(J:JS)(st1:State):Option (dW J.rows):=Ee (qv (sE st1) J.objs) (Jy st J) J.aJ
def bS{J R:Type}(m:Option (J⊕R))(k:J->Option R):Option R:=m.bind λs=>match s with
 | .inl j=>k j
 | .inr r=>aa r
def uQ{S R:Type}(body:S->(S->Option R)->Option R):Nat->S->Option R
 |0,_=>ae
 |n+1,s=>body s (uQ body n)
def NF{P:Program}{n:Nat}{Q:Exit->(Nat->Value)->World->Prop}{ρ:Nat->Value}{w:World}{S R:Type}{body:S->(S->Option R)->Option R}{c:Code}(I:S->(Nat->Value)->World->Prop){q:R}{N:Nat}{s:S}(hm:uQ body N s=aa q)(h0:I s ρ w)
 (hb:∀(kk:S->Option R)s ρ w,I s ρ w->body s kk=aa q->yU P n c (λe dN w'=>match e with| .normal=>∃s',kk s'=aa q/\I s' dN w'|e=>Q e dN w') ρ w):yU P n (.loop c) Q ρ w:=by
 intro a hf;refine wp_loop_rounds N ?_
 induction N generalizing s ρ w a with
 |zero=>cases hm
 |succ k ih=>
  rw[rounds_succ]
  refine wp_mono (hb (uQ body k) s ρ w h0 hm a hf) λe a' w' ⟨dN,vO,hh⟩=>?_
  cases e with
  |normal=>
   obtain⟨s',h1,h2⟩:=hh;exact ih h1 h2 a' vO
  |_=>exact⟨dN,vO,hh⟩
noncomputable def exec{P:Program}(E:Env P)(nt N:Nat):Code->{R:Type}->zj->State->(Ex->State->Option R)->Option R
 | .skip,_,_,st,k=>k .normal st
 | .label _,_,_,st,k=>k .normal st
 | .scope x,_,a,st,k=>exec E nt N x a.l st (noGoto k)
 | .goto l,_,_,st,k=>k (.goto l) st
 | .ret,_,_,st,k=>k .ret st
 | .exit id,_,_,st,k=>k (.exit id) st
 | .cond c x y,_,a,st,k=>match MH st.aJ c with
   |some D=>match asBool D with
    |some b=>if b=af then exec E nt N x a.l st k else exec E nt N y a.r st k
    |none=>ae
   |none=>ae
 | .region _ ops draw,_,_,st,k=>bif draw then qt E nt ops ops.toList st [] (k .normal)else runs E nt ops ops.toList [] st (k .normal)
 | .seq x y,R,a,st,k=>match a with
   | .join J a1 a2=>bS (exec E nt N x (R:=dW J.rows⊕R) a1 st (λe dK=>match e with
       | .normal=>(carry st J dK).map .inl
       |e=>(k e dK).map .inr)) λj=>exec E nt N y a2 (behind st (writes x) J j) k
   | .meet J a1 a2=>(exec E nt N x (R:=dW J.rows) a1 st (λe dK=>match e with
       | .normal=>carry st J dK
       |_=>ae)).bind λj=>exec E nt N y a2 (behind st (writes x) J j) k
   |a=>exec E nt N x a.l st (λe dK=>match e with
     | .normal=>exec E nt N y a.r dK k
     |e=>k e dK)
 | .block id x,R,a,st,k=>match a with
   | .join J a1 _=>bS (exec E nt N x (R:=dW J.rows⊕R) a1 st (λe dK=>match e with
       | .normal=>(carry st J dK).map .inl
       | .exit i=>bif aqV i id then(carry st J dK).map .inl else(k (.exit i) dK).map .inr
       |e=>(k e dK).map .inr)) λj=>k .normal (behind st (writes x) J j)
   | .meet J a1 _=>(exec E nt N x (R:=dW J.rows) a1 st (λe dK=>match e with
       | .normal=>carry st J dK
       | .exit i=>bif aqV i id then carry st J dK else ae
       |_=>ae)).bind λj=>k .normal (behind st (writes x) J j)
   |a=>exec E nt N x a.l st (λe dK=>match e with
     | .exit i=>bif aqV i id then k .normal dK else k (.exit i) dK
     |e=>k e dK)
 | .loop x,R,a,st,k=>match a with
   | .loop L a1=>match carry st L st with
     |some s0=>Loop (S:=dW L.rows) (X:=R) (λs=>exec E nt N x (R:=dW L.rows⊕R) a1 (behind st (writes x) L s) (λe dK=>match e with
       | .normal=>(carry st L dK).map .inl
       |e=>(k e dK).map .inr)) N s0
     |none=>ae
   | .loopK L a1=>match carry st L st with
     |some s0=>uQ (S:=dW L.rows) (R:=R) (λs kk=>exec E nt N x (R:=R) a1 (behind st (writes x) L s) (λe dK=>match e with
       | .normal=>(carry st L dK).bind kk
       |e=>k e dK)) N s0
     |none=>ae
   |_=>ae
 |_,_,_,_,_=>ae
section
variable {P:Program} {nt N:Nat} {R:Type}
variable {ρ:Nat->Value} {w w0:World} {H:aN} {F F0 G:Nat->Prop}
def Jz{W:List Nat}{l:List (Nat×aI)}{t:Nat}{d:aI}(h:find (Gy W l) t=aa d):d= .dead\/(t∉W/\find l t=aa d):=by
 induction W with
 |nil=>exact .inr ⟨by simp,h⟩
 |cons s W ih=>
  have h':find ((s,aI.dead)::Gy W l) t=aa d:=h
  grind [bp]
def NG{st st1:State}{W:List Nat}{J:JS}{x:dW J.rows}{H1:aN}{F1:Nat->Prop}{w1:World}{OX:Nat->Value}(h:Jy st J st1=aa x)(hh:dD G w0 F0 H F w ρ st)(ry:dD G w0 F0 H1 F1 w1 OX st1)(hk:cY H F w H1 F1 w1)
 (Uh:∀t,t∉W->OX t=ρ t):∃H2 F2,dD G w0 F0 H2 F2 w1 OX (behind st W J x)/\cY H F w H2 F2 w1:=by
 unfold Jy at h;split at h
 case h_2=>cases h
 rename_i _ y rest hp;obtain⟨bs,bq⟩:=rest;obtain rfl:=aqP h;obtain⟨F2,H2,a1,a2,a3,_,a5,_,a6,a7,a8⟩:=Ac (U':=UU G w0) hp hh.sat.ob hh.sat.all hk ry.sat.ob ry.sat.slot
 have jJ:Step F1 w1 F2 w1:=λb hb=>⟨a2 b hb,rfl⟩
 have de:=a8 ry.sat.ob.new (λo s t v k _ h2 h3 h4=>by
  obtain⟨v',ga,dC⟩:=a1.obj _ _ _ h2;rw[h3]at ga;obtain rfl:=aqP ga
  exact dC.use k h4) (λo s t v k h2 h3 h4=>by
  have h5:=(kz.1 h2).2;obtain⟨v',ga,dC⟩:=hh.sat.ob.obj _ _ _ h5;rw[hk.jy.val _ _ ga]at h3;obtain rfl:=aqP h3
  exact dC.use k (by rwa [hk.jy.sub _ _ dC.con]at h4))
 refine⟨H2,F2,⟨⟨λt d hd=>?_,de,a6⟩,⟨ry.glob.ext,λb hb=>a2 b (ry.glob.le b hb),λb hb=>?_⟩⟩,⟨a5,λb hb=>⟨a2 b (hk.step b hb).1,(hk.step b hb).2⟩⟩⟩
 .have E7:find ((dU J.aJ (eD J.rows y)).1++Gy W st.aJ) t=aa d:=hd;rw[kw]at E7
  cases hm:find (dU J.aJ (eD J.rows y)).1 t with
  |some d'=>
   grind
  |none=>
   rw[hm,Option.none_or]at E7
   rcases Jz E7 with rfl|⟨h1,h2⟩
   .trivial
   .rw[Uh t h1]
    exact(hh.sat.slot t d h2).keep a5 λb hb=>⟨a2 b (hk.step b hb).1,(hk.step b hb).2⟩
 .rcases a3 b hb with h1|h1
  .exact ry.glob.new b h1
  .exact .inr (ry.sat.ob.iT b h1)
def NH{U:Nat->Prop}{ob:Nat->Option (Nat×Th)}{n:Nat}(hs:aP U H F w ob n){o:Nat}{e:fF}(h:QL ob n o=aa e):pB H F w ob n e undef w:=by
 unfold QL at h;split at h
 case h_2=>cases h
 rename_i s T d l de;obtain rfl:=aqP h;obtain⟨v,hv,dC⟩:=hs.obj _ _ _ de
 obtain⟨lh,Ss,⟨xs,hx,VN⟩,h2,h3,h4⟩:=(show MF F w T d.low (rR H F w d ae) v l (H.sub s)from dC.ok)
 have hn:∀k,H.sub s k->¬F k:=dC.no
 have Fi:pz 0 (λb=>F b\/∃i,i<l.length/\Ss i b) w T d.row v l:=by
  refine⟨λk hk hF=>?_,xs,?_,λi hi=>?_⟩
  .rcases hF with hF|⟨i,hi,hm⟩
   .exact hn k (h4.cx k hk) hF
   .exact h4.out i k hi hm hk
  .rw[<-d.size,<-h2];exact hx
  .have mO:i<lh.length:=by omega
   have:=mP.freeze (h3 i mO hi) (λk hk=>hn k (h4.part hi k hk)) (VN i mO);rw[<-d.size]
   exact this.step λb hb=>(by grind)
 have hf:=hs.fresh n (aqU _) (by omega)
 have mv:∀k,H.sub s k->cT H ob [o] k:=λk hk=>⟨o,by simp,s,_,v,de,hv,hk⟩
 refine⟨H.bR n (.own T d.row l),λb=>F b\/∃i,i<l.length/\Ss i b,⟨⟨λ_ _ h=>h,λs' t h=>?_,λs' t h=>?_⟩,⟨rfl,⟨rfl,aqU _⟩,rfl,aqU _,λ_ _ _=>rfl⟩,λ_ h=> .inl h,λb hb=>?_,λb hb=>?_⟩,λm hm=>⟨id,λh=>?_⟩,trivial,⟨λo' s' q hq=>?_,λo1 o2 s1 s2 q1 q2 u1 u2 eG g1 g2=>?_⟩,λo' h=>?_⟩
 .grind [aN.bR]
 .rfl
 .rcases hb with hb|⟨i,hi,hb⟩
  .exact .inl hb
  .exact .inr (.inr (mv b (h4.part hi b hb)))
 .rcases hb with hb|⟨i,hi,hb⟩
  .exact hs.lt b hb
  .exact dC.lt b (h4.part hi b hb)
 .grind [aN.bR]
 .obtain⟨rfl,e⟩:=gH hq;obtain⟨rfl,rfl⟩:=Prod.mk.inj e;refine⟨v,hv,dC.one,by simp[aN.bR,Th.base],Fi.2,λk hk=>⟨Fi.1 k hk,dC.lt k (h4.cx k hk), .inr (mv k (h4.cx k hk))⟩⟩
 all_goals grind [gH,arw]
def dD.qv:(os:List (Nat×OS))->{st:State}->{H:aN}->{F:Nat->Prop}->dD G w0 F0 H F w ρ st->∃H' F',dD G w0 F0 H' F' w ρ (qv st os)/\cY H F w H' F' w
 |[],_,H,F,h=>⟨H,F,h,cY.refl H F w⟩
 |(j, .own _ _)::os,st,H,F,h=>by
  unfold Go.Proofs.YtfeahmiobbjklaaGreatDoor.qv;split
  .rename_i e he;obtain⟨H',F',hp⟩:=NH h.sat.ob he;have hs:=h.sat.apply (d:=ae) hp;obtain⟨H2,F2,h2,k2⟩:=dD.qv os (st:=st.apply ae e) ⟨hs,h.glob.oB hp.oB h.sat.ob.iT⟩;exact⟨H2,F2,h2,(cY.CH hp.oB h.sat.ob.lt h.sat.ob.gG).trans k2⟩
  .exact dD.qv os h
 |(_, .box ..)::os,_,_,_,h=>dD.qv os h
 |(_, .map ..)::os,_,_,_,h=>dD.qv os h
 |(_, .deep ..)::os,_,_,_,h=>dD.qv os h
 |(_, .smap ..)::os,_,_,_,h=>dD.qv os h
def dD.QM{st dK:State}{t o:Nat}{r:Row}(h:dD G w0 F0 H F w ρ st)(jL:find st.aJ t=aa (.ptr o [] 0))(hb:QM st t o r=aa dK):∃F',dD G w0 F0 H F' w ρ dK/\cY H F w H F' w:=by
 unfold Go.Proofs.YtfeahmiobbjklaaGreatDoor.QM at hb;split at hb
 case h_2=>cases hb
 split at hb
 case h_2=>cases hb
 rename_i bq By;obtain⟨F1,h1,k1⟩:=h.yD By;split at hb
 case h_2=>cases hb
 rename_i s1 T1 t1 de;split at hb
 case h_2=>cases hb
 rename_i x hx;obtain rfl:=aqP hb;obtain⟨v,hv,dC⟩:=h1.sat.ob.obj _ _ _ de
 obtain⟨b,es,rfl,hhp,hold⟩:=(show∃b es,v= .pointer (aa ⟨b,0,ae⟩)/\w.heap[b]? =aa (.cells es.toArray T1 (0,0))/\Holds H F1 w t1 es from dC.ok)
 obtain⟨b',ga,sH⟩:=h.sat.slot t _ jL;rw[hv]at ga;simp only[aq2,Value.pointer.injEq,Addr.mk.injEq,and_true]at ga;subst ga;have xi:=jz h1.sat.ob hx hold
 have hg:cT H (find bq) [o] b:=⟨o,by simp,s1,_,_,de,hv,rfl⟩
 have jJ:Step F1 w (λk=>F1 k\/k=b) w:=λk hk=>⟨.inl hk,rfl⟩
 have hp:oh H F1 w (find bq) st.nxt {dst:= .at r x,eat:=[o]} (ρ t) w H (λk=>F1 k\/k=b):=
  ⟨⟨aN.le.refl H,⟨rfl,⟨rfl,aqU _⟩,rfl,aqU _,λ_ _ _=>rfl⟩,λ_ hk=> .inl hk,λk hk=>hk.elim .inl λe=> .inr (.inr (e▸hg)),λk hk=>hk.elim (h1.sat.ob.lt k) λe=>by grind⟩,λm _=>⟨id,id⟩,
    ⟨b,0,sH, .inr rfl,es,xi.length,λj u hu=>by
      show w.cell? ⟨b,0+j,ae⟩=aa u
      simp[World.cell?,hhp,hu],xi.step jJ⟩,⟨λ_ _ _ h=>(by cases h),λ_ _ _ _ _ _ _ _ _ h=>(by cases h)⟩,λ_ h=>(by cases h)⟩
 have hs:=h1.sat.apply (d:=aa t) hp
 have hup:yF ρ (aa t) (ρ t)=ρ:=by
  funext u
  show Iq ρ t (ρ t) u=ρ u
  rw[rS];split
  .grind
  .rfl
 rw[hup]at hs;exact⟨_,⟨hs,h1.glob.oB hp.oB h1.sat.ob.iT⟩,k1.trans (cY.CH hp.oB h1.sat.ob.lt h1.sat.ob.gG)⟩
def dD.Ee{R:Type}{k:State->Option R}{q:R}:(ss:List (Nat×SS))->{st:State}->{H:aN}->{F:Nat->Prop}->dD G w0 F0 H F w ρ st->Ee st k ss=aa q->∃st2 H' F',k st2=aa q/\dD G w0 F0 H' F' w ρ st2/\cY H F w H' F' w
 |[],st,H,F,h,hk=>⟨st,H,F,hk,h,cY.refl H F w⟩
 |(t, .at r)::ss,st,H,F,h,hk=>by
  unfold Go.Proofs.YtfeahmiobbjklaaGreatDoor.Ee at hk;split at hk
  .rename_i o jL;split at hk
   case h_2=>cases hk
   rename_i dK hbx;obtain⟨F1,h1,k1⟩:=h.QM jL hbx;obtain⟨st2,H2,F2,g1,g2,g3⟩:=dD.Ee ss h1 hk;exact⟨st2,H2,F2,g1,g2,k1.trans g3⟩
  .rename_i o d i jL;split at hk
   case h_2=>cases hk
   rename_i bq By;obtain⟨F1,h1,k1⟩:=h.yD By;split at hk
   case h_2=>cases hk
   rename_i s1 T1 d' l de;obtain⟨po,hk⟩:=bi hk;have po:=Nat.eq_of_beq_eq_true po;obtain⟨x,hx,hkx⟩:=bind_some hk;obtain⟨j,rfl,hj,hjx⟩:=jI hx;obtain⟨g,o0,q0,m,cap,hv,hq,sH⟩:=h1.sat.slot t _ jL;obtain⟨v,ga,dC⟩:=h1.sat.ob.obj _ _ _ de;rw[hv]at ga;obtain rfl:=aqP ga
   obtain⟨A,PC,e1,_,_,yx⟩:=(show dy F1 w (.slice d'.row) [_] l from dC.ok)
   obtain⟨b,off,es,hA,hFb,hlen,zw,xi⟩:=yx j hj;simp only[arV,asf,and_true]at e1;obtain⟨e1,_,_⟩:=e1;rw[<-e1]at hA;simp only[aq2,Addr.mk.injEq,and_true]at hA;obtain⟨rfl,rfl⟩:=hA
   have Bq:aH H F1 w (.at d'.row x) (ρ t):=by
    have e:j=q0:=by omega
    subst e;refine⟨g,o0+j*d.low.size+0,sH,hFb,es,hlen,λjj u hu=>?_,by grind⟩;rw[po];exact zw jj u hu
   obtain⟨st2,H2,F2,g1,g2,g3⟩:=dD.Ee ss (st:={aJ:=(t, .at d'.row x)::st.aJ,objs:=bq,nxt:=st.nxt}) ⟨⟨λt' q' B8=>by
    have B8:find ((t,aI.at d'.row x)::st.aJ) t'=aa q':=B8;rw[bp]at B8;by_cases e:t=t'
    .grind
    .rw[ai e]at B8
     exact h1.sat.slot t' q' B8,h1.sat.ob,h1.sat.all⟩,h1.glob⟩ hkx
   exact⟨st2,H2,F2,g1,g2,k1.trans g3⟩
  .exact dD.Ee ss h hk
 |(_, .val ..)::ss,_,_,_,h,hk=>dD.Ee ss h hk
 |(_, .ptr ..)::ss,_,_,_,h,hk=>dD.Ee ss h hk
 |(_, .undef)::ss,_,_,_,h,hk=>dD.Ee ss h hk
 |(_, .fn ..)::ss,_,_,_,h,hk=>dD.Ee ss h hk
 |(_, .ifc ..)::ss,_,_,_,h,hk=>dD.Ee ss h hk
def oX{st st1:State}{W:List Nat}{J:JS}{x:dW J.rows}{H1:aN}{F1:Nat->Prop}{w1:World}{OX:Nat->Value}(h:carry st J st1=aa x)(hh:dD G w0 F0 H F w ρ st)(ry:dD G w0 F0 H1 F1 w1 OX st1)(hk:cY H F w H1 F1 w1)
 (Uh:∀t,t∉W->OX t=ρ t):∃H2 F2,dD G w0 F0 H2 F2 w1 OX (behind st W J x)/\cY H F w H2 F2 w1:=by
 obtain⟨H1',F1',aez,jn⟩:=ry.sE;obtain⟨H2',F2',aeA,VK⟩:=aez.qv J.objs;unfold carry at h;obtain⟨st2,H3',F3',h3,hh3,hk3⟩:=aeA.Ee J.aJ h;exact NG h3 hh hh3 (((hk.trans jn).trans VK).trans hk3) Uh
def yi{l:List Oper}{o:Oper}{t:Nat}(ho:o∈l)(hd:o.dst=aa t):t∈wk l:=by
 induction l with
 |nil=>cases ho
 |cons p l ih=>
  grind [wk]
structure Xp(G:Nat->Prop)(w0:World)(F0:Nat->Prop)(W:List Nat)(H:aN)(F:Nat->Prop)(w:World)(ρ:Nat->Value)(H':aN)(F':Nat->Prop)(w':World)(dN:Nat->Value)(dK:State):Prop where
 here:dD G w0 F0 H' F' w' dN dK
 keeps:cY H F w H' F' w'
 same:∀t,t∉W->dN t=ρ t
def map_inl{α β:Type}{o:Option α}{f:α->β}{r:β}(h:o.map f=aa r):∃x,o=aa x/\f x=r:=Option.map_eq_some_iff.1 h
def k8{E:Env P}:(c:Code)->{R:Type}->{q:R}->{a:zj}->{st:State}->{k:Ex->State->Option R}->{H:aN}->{F:Nat->Prop}->{w:World}->{ρ:Nat->Value}->{Q:Exit->(Nat->Value)->World->Prop}->
 exec E nt N c a st k=aa q->dD G w0 F0 H F w ρ st->
 (∀e dK H' F' w' dN,k e dK=aa q->Xp G w0 F0 (writes c) H F w ρ H' F' w' dN dK->Q e.yh dN w')->yU P nt c Q ρ w
 | .skip,R,q,a,st,k,H,F,w,ρ,Q,h,hh,hk=>Pd (hk .normal st H F w ρ h ⟨hh,cY.refl H F w,λ_ _=>rfl⟩)
 | .ret,R,q,a,st,k,H,F,w,ρ,Q,h,hh,hk=>Tt (hk .ret st H F w ρ h ⟨hh,cY.refl H F w,λ_ _=>rfl⟩)
 | .exit id,R,q,a,st,k,H,F,w,ρ,Q,h,hh,hk=>Pe (hk (.exit id) st H F w ρ h ⟨hh,cY.refl H F w,λ_ _=>rfl⟩)
 | .cond c x y,R,q,a,st,k,H,F,w,ρ,Q,h,hh,hk=>by
   unfold exec at h;split at h
   case h_2=>cases h
   rename_i D hD;split at h
   case h_2=>cases h
   rename_i b hb;have hv:=rb hb (w6 hh.sat.ob.gl hh.sat.slot _ _ hD);split at h
   .rename_i e;subst e;exact Pf hv (k8 x h hh λe dK H' F' w' dN h1 h2=>hk e dK H' F' w' dN h1 ⟨h2.here,h2.keeps,λt ht=>h2.same t λhm=>ht (by simp[writes,hm])⟩)
   .rename_i e
    have e:b=ag:=by cases b<;>simp_all
    subst e;exact Mh hv (k8 y h hh λe dK H' F' w' dN h1 h2=>hk e dK H' F' w' dN h1 ⟨h2.here,h2.keeps,λt ht=>h2.same t λhm=>ht (by simp[writes,hm])⟩)
 | .region id ops draw,R,q,a,st,k,H,F,w,ρ,Q,h,hh,hk=>by
   unfold exec at h
   cases draw with
   |true=>
    rw[cond_true]at h
    exact Um E.mix h hh λdK H' F' w' dN h1 h2 h3 h4=>hk .normal dK H' F' w' dN h1 ⟨h2,h3,λt ht=>h4 t λo ho e=>ht (yi ho e)⟩
   |false=>
    rw[cond_false]at h
    have:=DZ (K:=λρ w=>Q .normal ρ w) (ops:=ops) (nt:=nt) h (λ_ _ h=>by cases h) hh λdK H' F' w' dN h1 h2 h3 h4=>hk .normal dK H' F' w' dN h1 ⟨h2,h3,λt ht=>h4 t λo ho e=>ht (yi ho e)⟩
    have h2:=IB (id:=id) (l:=ops.toList) (P:=P) (n:=nt) (Q:=Q) (ρ:=ρ) (w:=w) (by omega);omega
 | .seq x y,R,q,a,st,k,H,F,w,ρ,Q,h,hh,hk=>by
   have fin:∀{H1:aN}{F1:Nat->Prop}{w1:World}{OX:Nat->Value}{st1:State}{a2:zj},exec E nt N y a2 st1 k=aa q->dD G w0 F0 H1 F1 w1 OX st1->cY H F w H1 F1 w1->(∀t,t∉writes x->OX t=ρ t)->yU P nt y Q OX w1:=by
    intro H1 F1 w1 OX st1 a2 g1 g2 g3 g4
    exact k8 y g1 g2 λe dK H' F' w' dN h1 h2=>hk e dK H' F' w' dN h1 ⟨h2.here,g3.trans h2.keeps,λt ht=>(h2.same t λhm=>ht (by simp[writes,hm])).trans (g4 t λhm=>ht (by simp[writes,hm]))⟩
   have out:∀{e:Ex}{dK:State}{H':aN}{F':Nat->Prop}{w':World}{dN:Nat->Value},k e dK=aa q->Xp G w0 F0 (writes x) H F w ρ H' F' w' dN dK->Q e.yh dN w':=by
    intro e dK H' F' w' dN g1 g2;exact hk e dK H' F' w' dN g1 ⟨g2.here,g2.keeps,λt ht=>g2.same t λhm=>ht (by simp[writes,hm])⟩
   unfold exec at h;split at h
   .rename_i J a1 a2;unfold bS at h;obtain⟨s,hs,h⟩:=bind_some h;refine Dv (k8 x hs hh λe dK H' F' w' dN h1 h2=>?_)
    cases e with
    |normal=>
     obtain⟨j,hj,rfl⟩:=map_inl h1;obtain⟨H2,F2,g1,g2⟩:=oX (W:=writes x) hj hh h2.here h2.keeps h2.same;exact fin h g1 g2 h2.same
    |exit id=>
     obtain⟨r,hr,rfl⟩:=map_inl h1;obtain rfl:=aqP h;exact out hr h2
    |ret=>
     obtain⟨r,hr,rfl⟩:=map_inl h1;obtain rfl:=aqP h;exact out hr h2
    |goto l=>
     obtain⟨r,hr,rfl⟩:=map_inl h1;obtain rfl:=aqP h;exact out hr h2
   .rename_i J a1 a2;obtain⟨s,hs,h⟩:=bind_some h;refine Dv (k8 x hs hh λe dK H' F' w' dN h1 h2=>?_)
    cases e with
    |normal=>
     obtain⟨H2,F2,g1,g2⟩:=oX (W:=writes x) h1 hh h2.here h2.keeps h2.same;exact fin h g1 g2 h2.same
    |exit id=>cases h1
    |ret=>cases h1
    |goto l=>cases h1
   .refine Dv (k8 x h hh λe dK H' F' w' dN h1 h2=>?_)
    cases e with
    |normal=>exact fin h1 h2.here h2.keeps h2.same
    |exit id=>exact out h1 h2
    |ret=>exact out h1 h2
    |goto l=>exact out h1 h2
 | .block id x,R,q,a,st,k,H,F,w,ρ,Q,h,hh,hk=>by
   have hw:writes (.block id x)=writes x:=rfl;rw[hw]at hk
   have toB:∀{e:Ex}{dN:Nat->Value}{w':World},(match e with| .exit i=>if i=id then Q .normal dN w' else Q (.exit i) dN w'|e=>Q e.yh dN w')->Y0 id Q e.yh dN w':=by
    intro e dN w' g
    cases e with
    |normal=>exact g
    |ret=>exact g
    |goto l=>exact g
    |exit i=>
     by_cases e:i=id
     .subst e;simp only[aj]at g;exact PG g
     .simp only[ai e]at g;refine MA ?_ g
      cases hb:aqV i id<;>simp_all
   have QN:∀{i:Nat},i≠id->aqV i id=ag:=λ{i}e=>by
    cases hb:aqV i id<;>simp_all
   unfold exec at h;split at h
   .rename_i J a1 a2;unfold bS at h;obtain⟨s,hs,h⟩:=bind_some h;refine wZ (k8 x hs hh λe dK H' F' w' dN h1 h2=>toB ?_)
    have inn:(carry st J dK).map Sum.inl=aa s->Q .normal dN w':=λh1=>by
     obtain⟨j,hj,rfl⟩:=map_inl h1;obtain⟨H2,F2,g1,g2⟩:=oX (W:=writes x) hj hh h2.here h2.keeps h2.same;exact hk .normal _ H2 F2 w' dN h ⟨g1,g2,h2.same⟩
    have out:∀{e:Ex},(k e dK).map arM=aa s->Q e.yh dN w':=λ{e}h1=>by
     obtain⟨r,hr,rfl⟩:=map_inl h1
     grind
    cases e with
    |normal=>exact inn h1
    |exit i=>
     show if i=id then _ else _
     by_cases e:i=id
     .subst e;rw[aj rfl];refine inn ?_;simpa using h1
     .rw[ai e];simp only[QN e,cond_false]at h1;exact out (e:= .exit i) h1
    |ret=>grind
    |goto l=>grind
   .rename_i J a1 a2;obtain⟨s,hs,h⟩:=bind_some h;refine wZ (k8 x hs hh λe dK H' F' w' dN h1 h2=>toB ?_)
    have inn:carry st J dK=aa s->Q .normal dN w':=λh1=>by
     obtain⟨H2,F2,g1,g2⟩:=oX (W:=writes x) h1 hh h2.here h2.keeps h2.same;exact hk .normal _ H2 F2 w' dN h ⟨g1,g2,h2.same⟩
    cases e with
    |normal=>exact inn h1
    |exit i=>
     grind
    |ret=>cases h1
    |goto l=>cases h1
   .refine wZ (k8 x h hh λe dK H' F' w' dN h1 h2=>toB ?_)
    cases e with
    |normal=>grind
    |exit i=>
     show if i=id then _ else _
     by_cases e:i=id
     .subst e;rw[aj rfl];refine hk .normal dK H' F' w' dN ?_ h2;simpa using h1
     .rw[ai e];simp only[QN e,cond_false]at h1;exact hk (.exit i) dK H' F' w' dN h1 h2
    |ret=>grind
    |goto l=>grind
 | .loop x,R,q,a,st,k,H,F,w,ρ,Q,h,hh,hk=>by
   have hw:writes (.loop x)=writes x:=rfl;rw[hw]at hk;unfold exec at h;split at h
   case h_3=>cases h
   case h_2=>
    rename_i L a1;split at h
    case h_2=>cases h
    rename_i s0 T8;refine NF (λs dN w'=>∃H' F',dD G w0 F0 H' F' w' dN (behind st (writes x) L s)/\cY H F w H' F' w'/\∀t,t∉writes x->dN t=ρ t) h ?_ ?_
    .obtain⟨H2,F2,g1,g2⟩:=oX (W:=writes x) T8 hh hh (cY.refl H F w) λ_ _=>rfl
     grind
    .rintro kk s dN w' ⟨H',F',g1,g2,g3⟩ hy
     refine k8 x hy g1 λe dK yE I8 Bn xD h1 h2=>?_
     have sm:∀t,t∉writes x->xD t=ρ t:=λt ht=>(h2.same t ht).trans (g3 t ht)
     cases e with
     |normal=>
      obtain⟨j,hj,OT⟩:=Option.bind_eq_some_iff.1 h1;obtain⟨H2,F2,m1,m2⟩:=oX (W:=writes x) hj hh h2.here (g2.trans h2.keeps) sm;exact⟨j,OT,H2,F2,m1,m2,sm⟩
     |exit i=>exact hk (.exit i) dK yE I8 Bn xD h1 ⟨h2.here,g2.trans h2.keeps,sm⟩
     |ret=>exact hk .ret dK yE I8 Bn xD h1 ⟨h2.here,g2.trans h2.keeps,sm⟩
     |goto l=>exact hk (.goto l) dK yE I8 Bn xD h1 ⟨h2.here,g2.trans h2.keeps,sm⟩
   rename_i L a1;split at h
   case h_2=>cases h
   rename_i s0 T8;refine Pg (λs dN w'=>∃H' F',dD G w0 F0 H' F' w' dN (behind st (writes x) L s)/\cY H F w H' F' w'/\∀t,t∉writes x->dN t=ρ t) h ?_ ?_
   .obtain⟨H2,F2,g1,g2⟩:=oX (W:=writes x) T8 hh hh (cY.refl H F w) λ_ _=>rfl
    grind
   .rintro s dN w' y ⟨H',F',g1,g2,g3⟩ hy
    refine k8 x hy g1 λe dK yE I8 Bn xD h1 h2=>?_
    have sm:∀t,t∉writes x->xD t=ρ t:=λt ht=>(h2.same t ht).trans (g3 t ht)
    have out:∀{e:Ex},e≠ .normal->(k e dK).map arM=aa y->VG (λs dN w'=>∃H' F',dD G w0 F0 H' F' w' dN (behind st (writes x) L s)/\cY H F w H' F' w'/\∀t,t∉writes x->dN t=ρ t) Q q y e.yh xD Bn:=λ{e}he h1=>by
     obtain⟨r,hr,rfl⟩:=map_inl h1;refine⟨by cases e<;>simp_all[Ex.yh],λhq=>?_⟩;subst hq;exact hk e dK yE I8 Bn xD hr ⟨h2.here,g2.trans h2.keeps,sm⟩
    cases e with
    |normal=>
     obtain⟨j,hj,rfl⟩:=map_inl h1;obtain⟨H2,F2,m1,m2⟩:=oX (W:=writes x) hj hh h2.here (g2.trans h2.keeps) sm;exact⟨rfl,H2,F2,m1,m2,sm⟩
    |exit i=>grind
    |ret=>grind
    |goto l=>grind
 | .label l,R,q,a,st,k,H,F,w,ρ,Q,h,hh,hk=>λact hf=>wp_label ⟨ρ,hf,hk .normal st H F w ρ h ⟨hh,cY.refl H F w,λ_ _=>rfl⟩⟩
 | .scope x,R,q,a,st,k,H,F,w,ρ,Q,h,hh,hk=>by
   have h1:=k8 (Q:=λe ρ w=>match e with| .goto _=>False|e=>Q e ρ w) x (show exec E nt N x a.l st (noGoto k)=aa q from h) hh λe dK H' F' w' dN h1 h2=>by
    cases e with
    |goto l=>cases h1
    |_=>exact hk _ dK H' F' w' dN h1 h2
   intro act hf;refine wp_scope_straight (wp_mono (h1 act hf) λe a' w' ⟨dN,vO,hh'⟩=>?_)
   cases e<;>first
    |exact hh'.elim
    |exact⟨dN,vO,hh'⟩
 | .goto l,R,q,a,st,k,H,F,w,ρ,Q,h,hh,hk=>λact hf=>wp_goto ⟨ρ,hf,hk (.goto l) st H F w ρ h ⟨hh,cY.refl H F w,λ_ _=>rfl⟩⟩
 | .rangeFunc ..,_,_,_,_,_,_,_,_,_,_,h,_,_=>by cases h
 | .refuse _,_,_,_,_,_,_,_,_,_,_,h,_,_=>by cases h
end
end Go.Proofs.YtfeahmiobbjklaaGreatDoor
namespace Go.Proofs.YtfeahmiobbjklaaGreatDoor
open Go Go.RowKit
def Ef{P:Program}(T:bz P)(aJ:List (Nat×aI))(objs:List (Nat×(Nat×Th)))(t:Nat)(T0:TypeId):Option aI:=
 match find T.und T0 with
 |none=>ae
 |some kk=>match find aJ t with
  |some (.ptr o p off)=>match find objs o with
   |some (_, .box _ tr)=>match tr.get p with
    |some (s,fJ)=>bif aqV fJ off&&pX T T0 kk s.size then aa (.val (mT kk) s)else ae
    |none=>ae
   |_=>ae
  |_=>ae
def Eg{P:Program}(T:bz P)(aJ:List (Nat×aI))(objs:List (Nat×(Nat×Th))):List ResultVar->Option (List aI)
 |[]=>aa []
 | .tmp t::l=>match find aJ t with
   |some d=>match Eg T aJ objs l with
    |some ds=>aa (d::ds)
    |none=>ae
   |none=>ae
 | .cell t T0::l=>match Ef T aJ objs t T0 with
   |some d=>match Eg T aJ objs l with
    |some ds=>aa (d::ds)
    |none=>ae
   |none=>ae
noncomputable def Xq{P:Program}(T:bz P)(rs:List ResultVar)(nb:Nat)(out:JS)(st:State):Option (dW out.rows):=
 match Eg T st.aJ st.objs rs with
 |some ds=>Ee {aJ:=kF 0 ds,objs:=(sE st).objs,nxt:=(sE st).nxt} (λst1=>match Cw nb [] out st1.aJ st1.objs with
  |some (x,_)=>aa x
  |none=>ae) out.aJ
 |none=>ae
def init(inn:JS)(x:dW inn.rows):State:=
 {aJ:=(dU inn.aJ (eD _ x)).1,objs:=jW 0 inn.objs (dU inn.aJ (eD _ x)).2,nxt:=inn.nxt}
noncomputable def aaq{P:Program}(T:bz P)(rs:List ResultVar)(nb:Nat)(out:JS):Ex->State->Option (dW out.rows)
 | .exit _,_=>ae
 | .goto _,_=>ae
 |_,st=>Xq T rs nb out st
noncomputable def Xr{P:Program}(E:Env P)(nt N:Nat)(c:Code)(rs:List ResultVar)(a:zj)(inn out:JS)(x:dW inn.rows):Option (dW out.rows):=
 exec E nt N c a (init inn x) (aaq E.T rs inn.nxt out)
section
variable {P:Program} {ρ:Nat->Value} {w:World} {H:aN} {F:Nat->Prop} {U:Nat->Prop} {n:Nat}
def Gz(T:bz P){t:TypeId}{kk:OU}(hu:find T.und t=aa kk){b off:Nat}{s:Tree}{cs:List Value}(hh:Holds H F w s cs)(hc:∀j u,cs[j]? =aa u->w.cell? ⟨b,off+j,ae⟩=aa u)
 (hz:if mT kk=af then∃r,find T.row t=aa r/\r.size=s.size else s.size=1):∃v,(loadVar t ⟨b,off,ae⟩).run P w= .ok v w/\bg H F w (mT kk) s v:=by
 obtain⟨dd,yB,yC⟩:=(T.und_ok _ _ hu).agg;have hl:=hh.length
 cases ha:mT kk with
 |true=>
  rw[aj ha]at hz;obtain⟨r,hr,Ta⟩:=hz;obtain⟨ti,z,h1,_,_,h4,_⟩:=T.row_ok _ _ hr
  have hlc:(loadCells ⟨b,off,ae⟩ cs.length).run P w= .ok cs.toArray w:=
   run_loadCells_list (P:=P) w ⟨b,off,ae⟩ cs (λj v hv=>by rw[dV];exact hc j v hv)
  refine⟨.agg cs.toArray,?_,cs,hh,rfl,by simp⟩
  have po:ti.size=cs.length:=by omega
  simp[loadVar,arj,ic yB,yC.trans ha,sizeOf,typeInfo,h1,po,hlc]
 |false=>
  rw[ai (by simp[ha])]at hz
  obtain⟨v,rfl⟩:∃v,cs=[v]:=by
   match cs,hl.trans hz with
   |[v],_=>grind
  refine⟨v,?_,[v],hh,rfl,λ_=>rfl⟩;have:=hc 0 v rfl;simp only[Nat.add_zero]at this;simp[loadVar,arj,ic yB,yC.trans ha,this,go_sem]
def JA(T:bz P){aJ:List (Nat×aI)}{objs:List (Nat×(Nat×Th))}{t:Nat}{T0:TypeId}{D:aI}(h:Ef T aJ objs t T0=aa D)(jL:∀t d,find aJ t=aa d->aH H F w d (ρ t))(hs:aP U H F w (find objs) n):
 ∃a v,ρ t= .pointer (aa a)/\(loadVar T0 a).run P w= .ok v w/\aH H F w D v:=by
 unfold Ef at h;split at h
 .cases h
 rename_i kk hu;split at h
 case h_2=>cases h
 rename_i o p off hD;split at h
 case h_2=>cases h
 rename_i s0 T1 tr de;split at h
 case h_2=>cases h
 rename_i s fJ hg;obtain⟨h1,rfl⟩:=vV h;obtain⟨h1,h3⟩:=c7 h1;obtain rfl:=beq_true h1;obtain⟨b,hb,e⟩:=jL _ _ hD;obtain⟨es,hh,VO⟩:=hs.box de hb;obtain⟨g1,g2⟩:=VO.get hg
 obtain⟨v,hv,qk⟩:=Gz (b:=b) (off:=fJ) T hu g1 (λj u hj=>by
  grind [zI]) (mF T h3)
 exact⟨_,v,e,hv,qk⟩
def Un(tmps:Array Value):ResultVar->Sem Value
 | .tmp t=>pure (tmps.getD t undef)
 | .cell a t=>do loadVar t (<-asAddr (tmps.getD a undef))
def Eh(T:bz P){aJ:List (Nat×aI)}{objs:List (Nat×(Nat×Th))}(jL:∀t d,find aJ t=aa d->aH H F w d (ρ t))(hs:aP U H F w (find objs) n){tmps:Array Value}(hf:∀t,tmps.getD t undef=ρ t):
 {rs:List ResultVar}->{ds:List aI}->Eg T aJ objs rs=aa ds->∃vs:List Value,(rs.mapM (Un tmps)).run P w= .ok vs w/\il H F w ds vs
 |[],ds,h=>by obtain rfl:=aqP h;exact⟨[],by simp,rfl⟩
 | .tmp t::l,ds,h=>by
   unfold Eg at h;split at h
   case h_2=>cases h
   rename_i d hd;split at h
   case h_2=>cases h
   rename_i ds' Bv;obtain rfl:=aqP h;obtain⟨vs,h1,h2⟩:=Eh T jL hs hf Bv;refine⟨ρ t::vs,?_,ρ t,vs,rfl,jL t d hd,h2⟩
   grind [Un,Go.Sem.run_bind,Go.Sem.run_pure,Go.Result.andThen_ok]
 | .cell t T0::l,ds,h=>by
   unfold Eg at h;split at h
   case h_2=>cases h
   rename_i d hd;split at h
   case h_2=>cases h
   rename_i ds' Bv;obtain rfl:=aqP h;obtain⟨vs,h1,h2⟩:=Eh T jL hs hf Bv;obtain⟨a,v,e1,e2,e3⟩:=JA T hd jL hs;refine⟨v::vs,?_,v,vs,rfl,e3,h2⟩;have ha:(asAddr (.pointer (aa a))).run P w= .ok a w:=rfl
   grind [Un,Go.Sem.run_bind,Go.Result.andThen_ok,Go.Sem.run_pure]
def JB(T:bz P){fn:Func}{rs:List ResultVar}(Ta:fn.results.toList=rs){aJ:List (Nat×aI)}{objs:List (Nat×(Nat×Th))}(jL:∀t d,find aJ t=aa d->aH H F w d (ρ t))(hs:aP U H F w (find objs) n){tmps:Array Value}(hf:∀t,tmps.getD t undef=ρ t)
 {ds:List aI}(h:Eg T aJ objs rs=aa ds):∃vs:List Value,(results fn tmps).run P w= .ok (Bz vs) w/\il H F w ds vs:=by
 obtain⟨vs,h1,h2⟩:=Eh T jL hs hf h;refine⟨vs,?_,h2⟩;have e:fn.results=rs.toArray:=fx Ta;have er:results fn tmps=(fn.results.mapM (Un tmps)>>= λvs=>pure (if h:vs.size=1 then vs[0]else Value.tuple vs)):=rfl;rw[er,e,List.mapM_toArray]
 have:∀vs:List Value,(if h:vs.toArray.size=1 then vs.toArray[0]else Value.tuple vs.toArray)=Bz vs:=by
  intro vs
  match vs with
  |[]=>rfl
  |[v]=>rfl
  |a::b::l=>simp[Bz]
 simp_all
def Ll:{l:List (Nat×SS)}->{vs:List mQ}->{k t:Nat}->{d:aI}->xx k l=af->find (dU l vs).1 t=aa d->t<k+l.length
 |[],_,_,_,_,_,h=>by cases h
 |(t0,s)::l,vs,k,t,d,hi,h=>by
  obtain⟨h1,h2⟩:=c7 hi;have h':find ((t0,(gj s vs).1)::(dU l (gj s vs).2).1) t=aa d:=h;rw[bp]at h';have:=beq_true h1;rw[List.length_cons];split at h'
  .omega
  .have:=Ll h2 h';omega
def aar(P:Program)(nt:Nat)(c:Code)(run:{R:Type}->State->(Ex->State->Option R)->Option R):Prop:=
 ∀{R:Type}{q:R}{st:State}{k:Ex->State->Option R}{H:aN}{F:Nat->Prop}{w:World}{ρ:Nat->Value}{G:Nat->Prop}{w0:World}{F0:Nat->Prop}{Q:Exit->(Nat->Value)->World->Prop},
  run st k=aa q->dD G w0 F0 H F w ρ st->(∀e dK H' F' w' dN,k e dK=aa q->Xp G w0 F0 (writes c) H F w ρ H' F' w' dN dK->Q e.yh dN w')->yU P nt c Q ρ w
def Xs{E:Env P}{f:FuncId}{fn:Func}{c:Code}{rs:List ResultVar}{sg:qf}{run:{R:Type}->State->(Ex->State->Option R)->Option R}(hW:aar P fn.ntmps c run)(hf:P.funcs[f]? =aa fn)(hn:(fn.name== "runtime.NumGoroutine")=ag)(hb:fn.body=aa c)(Ta:fn.results.toList=rs)
 (sS:xx 0 sg.inn.aJ=af)(hlen:Nat.ble sg.inn.aJ.length fn.ntmps=af)(Fh:aqV rs.length sg.out.aJ.length=af)
 (E8:∀x,sg.fn x=run (init sg.inn x) (aaq E.T rs sg.inn.nxt sg.out)):hZ P f sg:=by
 refine⟨⟨fn,hf,hn,by rw[hb];rfl⟩,λx y vJ args w H F G KE jL de gZ hG=>?_⟩
 have hlen:sg.inn.aJ.length<=fn.ntmps:=by simpa using hlen
 have Fh:=beq_true Fh
 refine(Dw (R:=λv w'=>∃vs,v=Bz vs/\vs.length=sg.out.aJ.length/\∃H' F',Ext G w w'/\H.le H'/\(∀b,F b->F' b)/\(∀b,F' b->F b\/w.heap.size<=b\/G b)/\
  (∀t d,find (dU sg.out.aJ (eD _ y)).1 t=aa d->aH H' F' w' d (vs.getD t undef))/\
  aP (λk=>w.heap.size<=k\/G k) H' F' w' (find (jW sg.inn.nxt sg.out.objs (dU sg.out.aJ (eD _ y)).2)) sg.out.nxt/\kB H' sg.out.nxt) hf hb (by omega) λρ Uh=>?_).mono (by grind)
 have aeC:∀t,t<args.length->ρ t=args.getD t undef:=(by grind)
 have keys:∀t d,find (dU sg.inn.aJ (eD sg.inn.rows x)).1 t=aa d->aH H F w d (ρ t):=λt d hd=>by
  rw[aeC t (by have:=Ll sS hd;omega)]
  grind
 have hh:dD G w F H F w ρ (init sg.inn x):=⟨⟨keys,de,gZ⟩,⟨⟨rfl,⟨rfl,aqU _⟩,rfl,aqU _,λ_ _ _=>rfl⟩,λ_ h=>h,λ_ h=> .inl h⟩⟩
 refine hW ((E8 x).symm.trans vJ) hh λe dK H' F' w' dN h1 h2=>?_
 have main:Xq E.T rs sg.inn.nxt sg.out dK=aa y->∀act,Fr fn.ntmps act dN->∃v,(results fn act.tmps).run P w'= .ok v w'/\∃vs,v=Bz vs/\vs.length=sg.out.aJ.length/\∃H' F',Ext G w w'/\H.le H'/\(∀b,F b->F' b)/\(∀b,F' b->F b\/w.heap.size<=b\/G b)/\
  (∀t d,find (dU sg.out.aJ (eD _ y)).1 t=aa d->aH H' F' w' d (vs.getD t undef))/\
  aP (λk=>w.heap.size<=k\/G k) H' F' w' (find (jW sg.inn.nxt sg.out.objs (dU sg.out.aJ (eD _ y)).2)) sg.out.nxt/\kB H' sg.out.nxt:=by
  intro hr act DA;unfold Xq at hr;split at hr
  case h_2=>cases hr
  rename_i ds Bv;obtain⟨vs,g1,g2⟩:=JB E.T Ta h2.here.sat.slot h2.here.sat.ob DA.get Bv;have hdl:=mU g2;refine⟨_,g1,vs,rfl,?_,?_⟩
  .have:∀{rs:List ResultVar}{ds:List aI},Eg E.T dK.aJ dK.objs rs=aa ds->ds.length=rs.length:=by
    intro rs
    induction rs with
    |nil=>intro ds h;obtain rfl:=aqP h;rfl
    |cons r l ih=>
     intro ds h
     cases r<;>unfold Eg at h<;>split at h<;>try cases h
     all_goals grind
   grind
  .have T8:aP (UU G w) H F w (find (del [] [])) sg.inn.nxt:=⟨λ_ _ _ h=>(by cases h),λ_ _ _ _ _ _ _ _ _ h=>(by cases h),de.fresh,de.lt,de.new,de.gl⟩
   obtain⟨H4,F4,h4,k4⟩:=h2.here.sE;obtain⟨st1,H3,F3,hr,h3,k3⟩:=dD.Ee (ρ:=λt=>vs.getD t undef) (st:={aJ:=kF 0 ds,objs:=(sE dK).objs,nxt:=(sE dK).nxt}) sg.out.aJ ⟨⟨λt d hd=>aH.keep k4.jy k4.step (by simpa using(s9 g2 t d hd).2),h4.sat.ob,h4.sat.all⟩,h4.glob⟩ hr;split at hr
   case h_2=>cases hr
   rename_i _ z rest hp;obtain⟨bs,bq⟩:=rest;obtain rfl:=aqP hr;obtain⟨F2,H2,a1,a2,a3,_,a5,_,a6,a7,a8⟩:=Ac (U':=UU G w) (ns:=[]) (objs0:=[]) (ρ:=λt=>vs.getD t undef) hp T8 gZ ((h2.keeps.trans k4).trans k3) h3.sat.ob (λt d hd=>h3.sat.slot t d hd)
   have yI:=a8 h3.sat.ob.new (λo s t v k _ m2 m3 m4=>by
    obtain⟨v',ga,dC⟩:=a1.obj _ _ _ m2;rw[m3]at ga;obtain rfl:=aqP ga
    exact dC.use k m4) (λ_ _ _ _ _ h=>by cases h)
   rw[show del [] ([]:List (Nat×(Nat×Th)))=[]from rfl,List.append_nil]at yI;refine⟨H2,F2,h3.glob.ext,a5,λb hb=>a2 b (h3.glob.le b hb),λb hb=>?_,a7,yI,a6⟩
   rcases a3 b hb with m1|m1
   .exact h3.glob.new b m1
   .exact .inr (h3.sat.ob.iT b m1)
 cases e with
 |normal=>exact main h1
 |ret=>exact main h1
 |exit id=>cases h1
 |goto l=>cases h1
def aas{E:Env P}{f:FuncId}{fn:Func}{c:Code}{rs:List ResultVar}{N:Nat}{a:zj}{sg:qf}(hf:P.funcs[f]? =aa fn)(hn:(fn.name== "runtime.NumGoroutine")=ag)(hb:fn.body=aa c)(Ta:fn.results.toList=rs)
 (sS:xx 0 sg.inn.aJ=af)(hlen:Nat.ble sg.inn.aJ.length fn.ntmps=af)(Fh:aqV rs.length sg.out.aJ.length=af)
 (E8:∀x,sg.fn x=Xr E fn.ntmps N c rs a sg.inn sg.out x):hZ P f sg:=
 Xs (E:=E) (run:=λst k=>exec E fn.ntmps N c a st k) (λh hh hk=>k8 c h hh hk) hf hn hb Ta sS hlen Fh E8
structure CT(P:Program)where
 f:Nat
 sg:qf
 ok:hZ P f sg
def ck{P:Program}{f:Nat}{sg:qf}(h:hZ P f sg):CT P:=⟨f,sg,h⟩
def CT.tab{P:Program}:List (CT P)->List (Nat×qf)
 |[]=>[]
 |c::l=>(c.f,c.sg)::CT.tab l
def CT.Ei{P:Program}:{l:List (CT P)}->∀p∈CT.tab l,hZ P p.1 p.2
 |[],_,h=>by cases h
 |c::l,p,h=>by
  rcases arx.1 h with rfl|h
  .exact c.ok
  .exact CT.Ei p h
def fwB(fn:Func)(sg:qf):Bool:= !(fn.name== "runtime.NumGoroutine")&&fn.body.isSome&&xx 0 sg.inn.aJ&&Nat.ble sg.inn.aJ.length fn.ntmps&&aqV fn.results.toList.length sg.out.aJ.length
def fw(E:Env P){f:FuncId}{fn:Func}{N:Nat}{sg:qf}(a:zj)(hf:P.funcs[f]? =aa fn)(hc:fwB fn sg=af)
 (E8:∀x,sg.fn x=Xr E fn.ntmps N (fn.body.getD .skip) fn.results.toList a sg.inn sg.out x):hZ P f sg:=by
 unfold fwB at hc;simp only[arY,Bool.not_eq_true']at hc;obtain⟨⟨⟨⟨h1,h2⟩,h3⟩,h4⟩,h5⟩:=hc;obtain⟨c,hc⟩:=arw.1 h2;exact aas (E:=E) (N:=N) (a:=a) hf h1 (by rw[hc];rfl) rfl h3 h4 h5 E8
@[reducible] def SS.l(r:Row):SS:= .val ag (.leaf r)
@[reducible] def SS.g(r:Row):SS:= .val af (.leaf r)
def qw{f:FuncId}{fn:Func}{sg:qf}(hf:P.funcs[f]? =aa fn)(hn:(fn.name== "runtime.NumGoroutine")=ag)(hb:fn.body.isNone=ag)(E8:∀x,sg.fn x=ae):hZ P f sg:=
 ⟨⟨fn,hf,hn,hb⟩,(by grind)⟩
abbrev az:Row:= .int .i64
def nn{α:Type}:Nat->List α->List (Nat×α)
 |_,[]=>[]
 |n,a::l=>(n,a)::nn (n+1) l
abbrev JS.j1(l:List SS)(o:List OS)(k:Nat):JS:=⟨nn 0 l,nn 0 o,[],k⟩
abbrev JS.i1(l:List SS):JS:= .j1 l [] 0
abbrev JS.w1(t:Nat)(r:Row):JS:= .j1 [.val ag (.own 0)] [.own t r] 1
abbrev u2{A B R:Type}(f:A->B->R)(x:A×B):R:=f x.1 x.2
abbrev u3{A B C R:Type}(f:A->B->C->R)(x:A×B×C):R:=f x.1 x.2.1 x.2.2
abbrev u4{A B C D R:Type}(f:A->B->C->D->R)(x:A×B×C×D):R:=f x.1 x.2.1 x.2.2.1 x.2.2.2
abbrev u5{A B C D E R:Type}(f:A->B->C->D->E->R)(x:A×B×C×D×E):R:=f x.1 x.2.1 x.2.2.1 x.2.2.2.1 x.2.2.2.2
abbrev u6{A B C D E F R:Type}(f:A->B->C->D->E->F->R)(x:A×B×C×D×E×F):R:=f x.1 x.2.1 x.2.2.1 x.2.2.2.1 x.2.2.2.2.1 x.2.2.2.2.2
inductive Tk where
 |O|T|X
 |B (i n:Nat)
 |L (i n:Nat)
 |E (n:Nat)
 |R (j:JS)
 |J (j:JS)
 |P (j:JS)
 |K (j:JS)
def dk:Nat->List Tk->(zj->List Tk->zj)->zj
 |k+1, .O::l,c=>dk k l λa l=>c (.two .nil a) l
 |k+1, .T::l,c=>dk k l λa l=>dk k l λb l=>c (.two a b) l
 |_+1, .X::l,c=>c .nil l
 |_+1, .B i n::l,c=>c (.meet ⟨[(i, .l .bool)],[],[],n⟩ .nil .nil) l
 |k+1, .L i n::l,c=>dk k l λa l=>c (.loop ⟨[(i, .l az)],[],[],n⟩ a) l
 |k+1, .E n::l,c=>dk k l λa l=>dk k l λb l=>c (.join ⟨[],[],[],n⟩ a b) l
 |k+1, .R j::l,c=>dk k l λa l=>dk k l λb l=>c (.meet j a b) l
 |k+1, .J j::l,c=>dk k l λa l=>dk k l λb l=>c (.join j a b) l
 |k+1, .P j::l,c=>dk k l λa l=>c (.loop j a) l
 |k+1, .K j::l,c=>dk k l λa l=>c (.loopK j a) l
 |_,_,c=>c .nil []
abbrev ak(l:List Tk):zj:=dk 9999 l λa _=>a
instance{P:Program}{f:Nat}{sg:qf}:CoeOut (hZ P f sg) (CT P):=⟨ck⟩
end
end Go.Proofs.YtfeahmiobbjklaaGreatDoor
end
namespace Go.Proofs.YtfeahmiobbjklaaGreatDoor
open Go Go.RowKit
set_option maxRecDepth 100000
set_option linter.unusedSimpArgs false
set_option linter.unusedVariables false
set_option linter.defProp false
inductive JC(F:Nat->Prop)(w:World):Nat->List (Nat×SS)->List mQ->List Value->Prop where
 |nil {k:Nat}:JC F w k [] [] []
 |cons {k:Nat} {agg:Bool} {r:Row} {x:r.den} {v:Value} {ss:List (Nat×SS)} {ds:List mQ} {vs:List Value} (h:bg ⟨λ_=>ae,λ_=>ae,λ_ _=>False⟩ F w agg (.leaf r x) v) (hs:JC F w (k+1) ss ds vs):JC F w k ((k, .val agg (.leaf r))::ss) (⟨r,x⟩::ds) (v::vs)
def JC.aJ{F:Nat->Prop}{w:World}{k:Nat}{ss:List (Nat×SS)}{ds:List mQ}{vs:List Value}(h:JC F w k ss ds vs):(∀t d,find (dU ss ds).1 t=aa d->k<=t/\aH ⟨λ_=>ae,λ_=>ae,λ_ _=>False⟩ F w d (vs.getD (t-k) undef))/\(dU ss ds).2=[]/\vs.length=ss.length:=by
 induction h with
 |nil=>exact⟨λ_ _ h=>(by cases h),rfl,rfl⟩
 | @cons k agg r x v ss ds vs h hs ih=>
   refine⟨λt d hf=>?_,ih.2.1,by simp[ih.2.2]⟩;have vO:find ((k,aI.val agg (bif r.beq r then Tree.leaf r x else .nil))::(dU ss ds).1) t=aa d:=hf;rw[bp]at vO;split at vO
   .rename_i e;subst e;obtain rfl:=aqP vO;rw[Row.beq_refl,Nat.sub_self];exact⟨aqU _,h⟩
   grind
def QO(F:Nat->Prop)(w:World)(k:IntKind)(x:Int):bg ⟨λ_=>ae,λ_=>ae,λ_ _=>False⟩ F w ag (.leaf (.int k) x) (.int k x):=bg.qm rfl
def tf{F:Nat->Prop}{w:World}{r:Row}{x:r.den}{es:List Value}(h:dy F w r es x):bg ⟨λ_=>ae,λ_=>ae,λ_ _=>False⟩ F w af (.leaf r x) (.agg es.toArray):=⟨es,h,rfl,by simp⟩
def NI{P:Program}{f:FuncId}{inn:JS}{fn:dW inn.rows->Option Bool}(h:hZ P f ⟨inn,⟨[(0, .val ag (.leaf .bool))],[],[],0⟩,fn⟩){x:dW inn.rows}{y:Bool}(hy:fn x=aa y){ds:List mQ}(Bv:eD inn.rows x=ds){W:World}{vs:List Value}
 (ha:JC (λb=>b<W.heap.size) W 0 inn.aJ ds vs)(ho:inn.objs=[])(Xt:sU (λb=>b<W.heap.size) W):Calls P f vs.toArray W λe W'=>e= .returned (.bool y)/\Below W.heap.size W W':=by
 obtain⟨h1,h2,h3⟩:=ha.aJ;subst Bv
 refine(h.ok x y hy vs W ⟨λ_=>ae,λ_=>ae,λ_ _=>False⟩ (λb=>b<W.heap.size) (λ_=>False) h3 (by grind) ?_ (λ_ _=>⟨rfl,rfl⟩) (λ_ h=>h.elim)).mono λe W' ⟨us,he,Ua,H',F',a1,_,_,_,a5,_⟩=>?_
 .show aP _ _ _ W (find (jW 0 inn.objs _)) inn.nxt
  rw[ho];exact⟨λ_ _ _ h=>(by cases h),λ_ _ _ _ _ _ _ _ _ h=>(by cases h),λ_ _ _=>⟨rfl,rfl⟩,λ_ h=>h,λ_ h=> .inl h,Xt⟩
 .refine⟨?_,⟨a1.os,a1.tape.1,a1.output,a1.size,λk hk=>a1.block k hk (λh=>h)⟩⟩
  match us,Ua with
  |[u],_=>
   have:=a5 0 (fD y) rfl;have hu:u= .bool y:=bg.bool (x:=y) this;rw[he,hu];rfl
def NJ{H:Type}{enc:TypeId×Value->H}{P:Program}{W:World}{base:Nat}{spare:Nat->Bool}{held:Bool}{fuel:Nat}{t e:TypeId}{n:Nat}{k:IntKind}(ht:P.underlying t=aa (.array n e))(he:P.underlying e=aa (.int k))(hc:P.cellsOf e=1)(hct:P.cellsOf t=n)
 {cs:List Value}{ns:List Int}{q:List MemPlace}(hd:DataW.trod enc P W base spare held fuel t cs=aa (.agg (ns.map λx=> .lit (.int k x)),q)):cs=ns.map λx=> .int k x:=by
 obtain⟨xs,m,_,hx,hl,hn,yx⟩:=DataW.trod_array ht hd;simp only[Prod.mk.injEq,DataW.agg.injEq]at hx
 have hln:ns.length=n:=by rw[<-hn,<-List.length_map (f:=λx:Int=>(DataW.lit (.int k x):DataW H)),hx.1,List.length_map]
 apply List.ext_getElem?
 intro i;by_cases hi:i<n
 .have h:=yx i hi;rw[hc,Nat.mul_one,aqR (by omega:i<xs.length)]at h;obtain⟨z,h1,h2,_⟩:=DataW.trod_int he h
  have h3:(xs.map (·.1))[i]? =aa (.lit (.int k z)):=by
   rw[List.getElem?_map,aqR (by omega:i<xs.length),h2];rfl
  rw[<-hx.1,List.getElem?_map,aqR (by omega:i<ns.length)]at h3;simp only[Option.map_some,aq2,DataW.lit.injEq,Lit.int.injEq,true_and]at h3;rw[List.getElem?_map,aqR (by omega:i<ns.length),h3]
  have h4:((cs.drop i).take 1)[0]? =aa (.int k z):=by rw[h1];rfl
  grind
 grind
def Uo{W:World}{b off:Nat}{v:Value}(h:W.cell? ⟨b,off,ae⟩=aa v):b<W.heap.size:=by
 unfold World.cell? at h
 grind
section
section
variable {P:Program} {nt N:Nat} {R:Type}
variable {ρ:Nat->Value} {w w0:World} {H:aN} {F F0 G:Nat->Prop}
end
end
end Go.Proofs.YtfeahmiobbjklaaGreatDoor
