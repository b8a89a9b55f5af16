/- Joined texts: Exec Draw2 Draw4 Fn Law Laid Jump. -/
import Derived.Test.YtfeahmiobbjklaaGreatDoorU3
import Derived.Scope
import Derived.Test.YtfeahmiobbjklaaGreatDoorU1
import Derived.ProofKit
import Derived.LaidMore
import Derived.OpenShut
import Derived.Stop.Joined
set_option linter.defProp false
open _root_.Bool renaming false->ag,true->af
open _root_.Option renaming none->ae,some->aa
open _root_.Array renaming toArray_toList->ahj
open _root_.List.cons renaming injEq->aht
open _root_.Nat renaming beq->agC,blt->ag4,le_trans->agW,le_refl->agB
open _root_.Option.some renaming inj->agx,injEq->agH
open _root_.Go.Sem renaming run_bind->agU
open _root_.List renaming getElem?_eq_getElem->agz
namespace Go.Proofs.YtfeahmiobbjklaaGreatDoor
open Go Go.RowKit
set_option maxRecDepth 100000
set_option linter.unusedSimpArgs false
set_option linter.unusedVariables false
set_option linter.defProp false
section
structure Env(P:Program)where
 T:be P
 tab:List (Nat×oH)
 ok:∀p∈tab,gD P p.1 p.2
 mix:P.follows .mixedOrders=af
 deep:Bool
 drop:Bool
def zv(rd:Operand->Option aD):List Operand->Option (List (Nat×List Bool×Nat))
 |[]=>aa []
 |x::xs=>match rd x with
  |some (.ptr o p off)=>match zv rd xs with
   |some cs=>aa ((o,p,off)::cs)
   |none=>ae
  |_=>ae
def yh{H:aI}{F:Nat->Prop}{w:World}{ρ:Nat->Value}{rd:Operand->Option aD}(gf:∀x d,rd x=aa d->aC H F w d (ev ρ x)):{xs:List Operand}->{cs:List (Nat×List Bool×Nat)}->zv rd xs=aa cs->kX H cs (xs.map (ev ρ))
 |[],cs,h=>by obtain rfl:=agx h;rfl
 |x::xs,cs,h=>by
  unfold zv at h;split at h
  case h_2=>cases h
  rename_i o p off hx;split at h
  case h_2=>cases h
  rename_i uj pP;obtain rfl:=agx h;exact⟨_,_,rfl,gf _ _ hx,yh gf pP⟩
def mc{R:Type}(rd:Operand->Option aD)(fn:Fn)(first caps:Array Operand)(k:dL->Option R):Option R:=
 match fn,first.toList with
 | .func f,[]=>match zv rd caps.toList with
   |some cs=>k {dst:= .fn f cs}
   |none=>ae
 |_,_=>ae
def zw{R:Type}{P:Program}{U:Nat->Prop}{H:aI}{F:Nat->Prop}{w:World}{ρ:Nat->Value}{ob:Nat->Option (Nat×Th)}{n d:Nat}{ty:TypeId}{pos:String}{aft:Array Edge}{rd:Operand->Option aD}(gf:∀x d,rd x=aa d->aC H F w d (ev ρ x)){fn:Fn}{first caps:Array Operand}{k:dL->Option R}{q:R}
 (h:mc rd fn first caps k=aa q)(hs:aJ U H F w ob n):∃e,k e=aa q/\cr P U H F w ρ ob n ⟨aa d, .makeFunc fn first caps,ty,pos,aft,ae⟩ e:=by
 unfold mc at h;split at h
 case h_2=>cases h
 rename_i f hf;split at h
 case h_2=>cases h
 rename_i cs pP
 have Qe:first= #[]:=by rw[<-ahj (xs:=first),hf]
 subst Qe
 have e:caps.map (ev ρ)=(caps.toList.map (ev ρ)).toArray:=by rw[<-List.map_toArray,ahj]
 exact⟨_,h,bM hs (v:= .func (.func f) #[] (caps.toList.map (ev ρ)).toArray) (by simp[execOp,Instr.makeFunc,e]) ⟨_,rfl,yh gf pP⟩⟩
noncomputable def nO{R:Type}{P:Program}(E:Env P)(rd:Operand->Option aD)(objs:List (Nat×(Nat×Th)))(n:Nat)(callee:Callee)(args:Array Operand)(tQ:Array TypeId)(k:dL->Option R):Option R:=
 match callee with
 | .builtin .len=>match args.toList,tQ.toList with
   |[x],[t]=>match rd x with
    |some D=>match He E.T (find objs) t D with
     |some D'=>k {dst:=D'}
     |none=>ae
    |none=>ae
   |_,_=>ae
 | .builtin .append=>match args.toList,tQ.toList with
   |[x,y],[t,t']=>bif agC t t' then(match rd x with
    |some X=>match rd y with
     |some Y=>nK E.T (find objs) n t X Y k
     |none=>ae
    |none=>ae)else ae
   |_,_=>ae
 | .builtin .max=>match args.toList,tQ.toList with
   |[x,y],[_,_]=>match rd x with
    |some X=>match rd y with
     |some Y=>match uR af X Y with
      |some D=>k {dst:=D}
      |none=>ae
     |none=>ae
    |none=>ae
   |_,_=>ae
 | .builtin .min=>match args.toList,tQ.toList with
   |[x,y],[_,_]=>match rd x with
    |some X=>match rd y with
     |some Y=>match uR ag X Y with
      |some D=>k {dst:=D}
      |none=>ae
     |none=>ae
    |none=>ae
   |_,_=>ae
 | .builtin .delete=>match args.toList,tQ.toList with
   |[m,x],[t,_]=>match rd m with
    |some M=>match rd x with
     |some X=>pU E.T (find objs) n t M X k
     |none=>ae
    |none=>ae
   |_,_=>ae
 | .value g=>ye E.tab rd objs n g args.toList k
 | .invoke x name=>p8 E.T E.tab rd objs n x name args.toList k
 |_=>ae
noncomputable def Nw{R:Type}{P:Program}(E:Env P)(rd:Operand->Option aD)(objs:List (Nat×(Nat×Th)))(n:Nat)(dst:Option Nat)(op:Op)(k:dL->Option R):Option R:=
 match dst with
 |none=>match op with
  | .store t x y=>match rd x with
    |some X=>match rd y with
     |some Y=>p4 E.T (find objs) n t X Y k
     |none=>ae
    |none=>ae
  | .call c=>nO E rd objs n c.callee c.args c.argTypes k
  | .mapUpdate t m x y=>match rd m with
    |some M=>match rd x with
     |some X=>match rd y with
      |some Y=>jV E.T (find objs) n t M X Y k
      |none=>ae
     |none=>ae
    |none=>ae
  |_=>ae
 |some _=>match op with
  | .move x=>match rd x with
    |some D=>k {dst:=D}
    |none=>ae
  | .assign x=>match rd x with
    |some D=>k {dst:=D}
    |none=>ae
  | .pick c x y=>match rd c with
    |some C=>match asBool C with
     |some b=>match(if b=af then rd x else rd y)with
      |some D=>k {dst:=D}
      |none=>ae
     |none=>ae
    |none=>ae
  | .alloc t=>sI E.T n t k
  | .box t x=>match rd x with
    |some X=>Hd n t X k
    |none=>ae
  | .build t ps=>sK E.T rd t ps k
  | .buildSlice t m ps=>uU E.deep E.T rd (find objs) n t m ps k
  | .load t x=>match rd x with
    |some X=>o4 E.T (find objs) n t X k
    |none=>ae
  | .nilCheck x=>match rd x with
    |some (.ptr o p off)=>k {dst:= .ptr o p off}
    |some (.elem o s r i z p off)=>k {dst:= .elem o s r i z p off}
    |some (.dlm o d i p off)=>k {dst:= .dlm o d i p off}
    |some (.at r z)=>k {dst:= .at r z}
    |_=>ae
  | .binOp o t x y _=>match rd x with
    |some X=>match rd y with
     |some Y=>Hj E.T (find objs) o t (Sw y) X Y k
     |none=>ae
    |none=>ae
  | .unOp o _ x=>match rd x with
    |some X=>match Wq o X with
     |some D=>k {dst:=D}
     |none=>ae
    |none=>ae
  | .convert s t x=>match rd x with
    |some X=>match J6 E.T s t X with
     |some D=>k {dst:=D}
     |none=>ae
    |none=>ae
  | .makeSlice t a b=>match rd a with
    |some A=>match asInt A with
     |some (_,i)=>match rd b with
      |some B=>match asInt B with
       |some (_,j)=>vJ E.deep E.T n t (oZ a b) i j k
       |none=>ae
      |none=>ae
     |none=>ae
    |none=>ae
  | .slice t x lo hi ae=>match rd x with
    |some X=>sL E.drop E.T rd (find objs) n t X lo hi k
    |none=>ae
  | .fieldAddr t x f=>match rd x with
    |some X=>match DG E.T t f X with
     |some D=>k {dst:=D}
     |none=>ae
    |none=>ae
  | .field t x f=>match rd x with
    |some X=>match zb E.T t f X with
     |some D=>k {dst:=D}
     |none=>ae
    |none=>ae
  | .indexAddr t x y=>match rd x with
    |some X=>match rd y with
     |some Y=>match asInt Y with
      |some (_,i)=>sG E.T (find objs) t X i k
      |none=>ae
     |none=>ae
    |none=>ae
  | .index t x y=>match rd x with
    |some X=>match rd y with
     |some Y=>match asInt Y with
      |some (_,i)=>pW E.T (find objs) t X i k
      |none=>ae
     |none=>ae
    |none=>ae
  | .extract x i=>match rd x with
    |some X=>match vA X i with
     |some D=>k {dst:=D}
     |none=>ae
    |none=>ae
  | .call c=>nO E rd objs n c.callee c.args c.argTypes k
  | .makeFunc fn first caps=>mc rd fn first caps k
  | .makeMap t ae=>mb E.deep E.T n t k
  | .lookup t m x ok=>match rd m with
    |some M=>match rd x with
     |some X=>nJ E.T (find objs) n t ok M X k
     |none=>ae
    |none=>ae
  | .range t x=>match rd x with
    |some X=>sT E.T (find objs) n t X k
    |none=>ae
  | .entry x=>match rd x with
    |some X=>match D5 objs X with
     |some D=>k {dst:=D}
     |none=>ae
    |none=>ae
  | .makeInterface t x=>match rd x with
    |some X=>HE E.T t X k
    |none=>ae
  | .typeAssert x _ t ok=>match rd x with
    |some X=>p7 E.T t ok X k
    |none=>ae
  |_=>ae
section
variable {P:Program} {ρ:Nat->Value} {w w':World} {H H':aI} {F F':Nat->Prop} {U:Nat->Prop} {n:Nat} {R:Type}
variable {ty:TypeId} {pos:String} {aft:Array Edge} {dst:Option Nat} {d:Nat}
def dE{α:Type}{a:Array α}{l:List α}(h:a.toList=l):a=l.toArray:=by grind
def yi(E:Env P){rd:Operand->Option aD}(gf:∀x d,rd x=aa d->aC H F w d (ev ρ x)){objs:List (Nat×(Nat×Th))}{args:Array Operand}{tQ:Array TypeId}{k:dL->Option R}{q:R}{dst:Option Nat}
 (h:nO E rd objs n (.builtin .delete) args tQ k=aa q)(hs:aJ U H F w (find objs) n):∃e,k e=aa q/\cr P U H F w ρ (find objs) n ⟨dst, .call {callee:= .builtin .delete,args:=args,argTypes:=tQ},ty,pos,aft,ae⟩ e:=by
 unfold nO at h;simp only at h;split at h
 case h_2=>cases h
 rename_i m x t t' ha ht;obtain rfl:=dE ha;obtain rfl:=dE ht;split at h
 case h_2=>cases h
 rename_i M hM;split at h
 case h_2=>cases h
 rename_i X hX;exact DO E.T h hs (gf _ _ hM) (gf _ _ hX)
def Kz(E:Env P){rd:Operand->Option aD}(gf:∀x d,rd x=aa d->aC H F w d (ev ρ x)){objs:List (Nat×(Nat×Th))}{c:Call}{k:dL->Option R}{q:R}
 (h:nO E rd objs n c.callee c.args c.argTypes k=aa q)(hs:aJ U H F w (find objs) n):∃e,k e=aa q/\cr P U H F w ρ (find objs) n ⟨aa d, .call c,ty,pos,aft,ae⟩ e:=by
 obtain⟨callee,args,tQ⟩:=c;simp only at h;unfold nO at h;split at h
 .split at h
  case h_2=>cases h
  rename_i x t ha ht;obtain rfl:=dE ha;obtain rfl:=dE ht;split at h
  case h_2=>cases h
  rename_i D hD;split at h
  case h_2=>cases h
  rename_i D' MU;exact⟨_,h,FA E.T MU hs (gf _ _ hD)⟩
 .split at h
  case h_2=>cases h
  rename_i x y t t' ha ht;obtain rfl:=dE ha;obtain rfl:=dE ht;obtain⟨hb,h'⟩:=aQ h;clear h;obtain rfl:=beq_true hb;split at h'
  case h_2=>cases h'
  rename_i X hX;split at h'
  case h_2=>cases h'
  rename_i Y hY;exact Bn E.T h' hs (gf _ _ hX) (gf _ _ hY)
 .split at h
  case h_2=>cases h
  rename_i x y t t' ha ht;obtain rfl:=dE ha;obtain rfl:=dE ht
  grind [vB]
 .split at h
  case h_2=>cases h
  rename_i x y t t' ha ht;obtain rfl:=dE ha;obtain rfl:=dE ht
  grind [vB]
 .refine yi E gf ?_ hs;unfold nO;exact h
 .exact BF E.ok gf h hs
 .exact vU E.T E.ok gf h hs
 .cases h
def Tc:Callee->Bool
 | .value _=>af
 | .invoke .. =>af
 |_=>ag
def KA:Callee->Bool
 | .builtin .delete=>af
 |c=>Tc c
def xi(E:Env P){rd:Operand->Option aD}(gf:∀x d,rd x=aa d->aC H F w d (ev ρ x)){objs:List (Nat×(Nat×Th))}{c:Call}{k:dL->Option R}{q:R}(hc:KA c.callee=af)
 (h:nO E rd objs n c.callee c.args c.argTypes k=aa q)(hs:aJ U H F w (find objs) n):∃e,k e=aa q/\cr P U H F w ρ (find objs) n ⟨ae, .call c,ty,pos,aft,ae⟩ e:=by
 obtain⟨callee,args,tQ⟩:=c;simp only at h hc
 cases callee with
 |value g=>exact BF E.ok gf h hs
 |invoke x name=>exact vU E.T E.ok gf h hs
 |builtin b=>cases b<;>first|(cases hc;done)|exact yi E gf h hs
end
section
variable {P:Program} {ρ:Nat->Value} {w w':World} {H H':aI} {F F':Nat->Prop} {U:Nat->Prop} {n:Nat} {R:Type}
variable {ty:TypeId} {pos:String} {aft:Array Edge} {dst:Option Nat} {d:Nat}
def HH{c x y:Operand}{b:Bool}{D:aD}{ob:Nat->Option (Nat×Th)}(hs:aJ U H F w ob n)(hc:ev ρ c= .bool b)(hx:aC H F w D (ev ρ (if b=af then x else y))):cr P U H F w ρ ob n ⟨aa d, .pick c x y,ty,pos,aft,ae⟩ {dst:=D}:=by
 cases b with
 |true=>exact aV hs (vg hc rfl) hx
 |false=>exact aV hs (uh hc rfl) hx
def KB(E:Env P){rd:Operand->Option aD}(gf:∀x d,rd x=aa d->aC H F w d (ev ρ x)){objs:List (Nat×(Nat×Th))}{op:Op}{k:dL->Option R}{q:R}
 (AH:dst=ae->∀c,op= .call c->KA c.callee=af)(h:Nw E rd objs n dst op k=aa q)(hs:aJ U H F w (find objs) n):∃e,k e=aa q/\cr P U H F w ρ (find objs) n ⟨dst,op,ty,pos,aft,ae⟩ e:=by
 cases dst with
 |none=>
  unfold Nw at h;simp only at h;split at h
  .split at h
   case h_2=>cases h
   rename_i X hX;split at h
   case h_2=>cases h
   rename_i Y hY;exact DZ E.T h hs (gf _ _ hX) (gf _ _ hY)
  .rename_i c;exact xi E gf (AH rfl c rfl) h hs
  .split at h
   case h_2=>cases h
   rename_i M hM;split at h
   case h_2=>cases h
   rename_i X hX;split at h
   case h_2=>cases h
   rename_i Y hY;exact vL E.T h hs (gf _ _ hM) (gf _ _ hX) (gf _ _ hY)
  .cases h
 |some d=>
  unfold Nw at h;simp only at h;split at h
  .grind [Hk]
  .grind [A5]
  .split at h
   case h_2=>cases h
   rename_i C hC;split at h
   case h_2=>cases h
   rename_i b hb;split at h
   case h_2=>cases h
   rename_i D hD;refine⟨_,h,HH hs (nB hb (gf _ _ hC)) ?_⟩
   grind
  .exact Hc E.T h hs
  .split at h
   case h_2=>cases h
   rename_i X hX;exact M2 h hs (gf _ _ hX)
  .exact Hf E.T gf h hs
  .exact D2 E.deep E.T gf h hs
  .split at h
   case h_2=>cases h
   rename_i X hX;exact Hv E.T h hs (gf _ _ hX)
  .split at h
   .rename_i o p off hX;obtain⟨b,h1,h2⟩:=gf _ _ hX;exact⟨_,h,bM hs (v:= .pointer (aa ⟨b,off,ae⟩)) (by simp[execOp,h2]) ⟨b,h1,rfl⟩⟩
   .rename_i o s r i z p off hX;have hd:=gf _ _ hX;obtain⟨g,o0,q,T,m,cap,l,_,_,_,_,h2⟩:=id hd;exact⟨_,h,bM hs (v:= .pointer (aa ⟨g,o0+q*r.size+off,ae⟩)) (by simp[execOp,h2]) (by grind)⟩
   .rename_i o d i p off hX;have hd:=gf _ _ hX;obtain⟨g,o0,q,m,cap,_,_,h2⟩:=id hd;exact⟨_,h,bM hs (v:= .pointer (aa ⟨g,o0+q*d.low.size+off,ae⟩)) (by simp[execOp,h2]) (by grind)⟩
   .rename_i r z hX;have hd:=gf _ _ hX;obtain⟨b,off,h2,_⟩:=id hd;exact⟨_,h,bM hs (v:= .pointer (aa ⟨b,off,ae⟩)) (by simp[execOp,h2]) (by grind)⟩
   .cases h
  .split at h
   case h_2=>cases h
   rename_i X hX;split at h
   case h_2=>cases h
   rename_i Y hY;exact M8 E.T h hs (gf _ _ hX) (gf _ _ hY)
  .grind [PZ]
  .split at h
   case h_2=>cases h
   rename_i X hX;split at h
   case h_2=>cases h
   rename_i D hD;exact⟨_,h,J7 E.T hD hs (gf _ _ hX)⟩
  .split at h
   case h_2=>cases h
   rename_i A hA;split at h
   case h_2=>cases h
   rename_i i hi;split at h
   case h_2=>cases h
   rename_i B hB;split at h
   case h_2=>cases h
   rename_i j hj;exact Hu E.deep E.T h hs (iB hi (gf _ _ hA)) (iB hj (gf _ _ hB))
  .split at h
   case h_2=>cases h
   rename_i X hX;exact Hi E.drop E.T gf h hs (gf _ _ hX)
  .split at h
   case h_2=>cases h
   rename_i X hX;split at h
   case h_2=>cases h
   rename_i D hD;exact⟨_,h,G7 E.T hD hs (gf _ _ hX)⟩
  .split at h
   case h_2=>cases h
   rename_i X hX;split at h
   case h_2=>cases h
   rename_i D hD;exact⟨_,h,DN E.T hD hs (gf _ _ hX)⟩
  .split at h
   case h_2=>cases h
   rename_i X hX;split at h
   case h_2=>cases h
   rename_i Y hY;split at h
   case h_2=>cases h
   rename_i i hi;exact G8 E.T h hs (gf _ _ hX) (iB hi (gf _ _ hY))
  .split at h
   case h_2=>cases h
   rename_i X hX;split at h
   case h_2=>cases h
   rename_i Y hY;split at h
   case h_2=>cases h
   rename_i k' i hi;exact DS E.T h hs (gf _ _ hX) (iB hi (gf _ _ hY))
  .grind [A4]
  .exact Kz E gf h hs
  .exact zw gf h hs
  .exact zp E.deep E.T h hs
  .split at h
   case h_2=>cases h
   rename_i M hM;split at h
   case h_2=>cases h
   rename_i X hX;exact Bj E.T h hs (gf _ _ hM) (gf _ _ hX)
  .split at h
   case h_2=>cases h
   rename_i X hX;exact Hx E.T h hs (gf _ _ hX)
  .grind [Hy]
  .split at h
   case h_2=>cases h
   rename_i X hX;exact Nv E.T h hs (gf _ _ hX)
  .split at h
   case h_2=>cases h
   rename_i X hX;exact Ei E.T h hs (gf _ _ hX)
  .cases h
end
def qT(rd:Operand->Option aD)(x:Operand):List Nat:=
 match rd x with
 |some (.val _ t)=>t.owns
 |_=>[]
def zx(rd:Operand->Option aD)(x:Operand):List Nat:=
 match rd x with
 |some (.val _ (.view o _ _ _))=>[o]
 |_=>[]
def F7(rd:Operand->Option aD):List Operand->List Nat
 |[]=>[]
 |x::xs=>qT rd x++F7 rd xs
def ta:Operand->Bool
 | .const (.slice ae 0 0)=>af
 |_=>ag
def Nx(rd:Operand->Option aD):Op->List Nat
 | .store _ x y=>match rd x with
   |some (.elem ..)=>qT rd y
   |_=>[]
 | .buildSlice _ _ ps=>F7 rd (ps.toList.map (·.2))
 | .binOp .eql _ x y _=>bif ta y then[]else qT rd x++qT rd y
 | .binOp .neq _ x y _=>bif ta y then[]else qT rd x++qT rd y
 | .slice _ x _ _ _=>zx rd x
 | .indexAddr _ x _=>zx rd x
 | .call c=>match c.callee,c.args.toList with
   | .builtin .append,[_,y]=>zx rd y
   |_,_=>[]
 | .mapUpdate _ _ _ y=>qT rd y
 |_=>[]
def BH(nt:Nat):Option Nat->Bool
 |some d=>ag4 d nt
 |none=>af
def fnB(dst:Option Nat)(op:Op):Bool:=
 match dst with
 |some _=>af
 |none=>match op with
  | .call c=>KA c.callee
  |_=>af
open Classical in
noncomputable def El{α:Type}(a b:Option α):Option α:=if a=b then a else ae
def Qf{α:Type}{a b:Option α}{q:α}(h:El a b=aa q):a=aa q:=by
 grind [El]
def Qg{α:Type}{a b:Option α}{q:α}(h:El a b=aa q):b=aa q:=by
 grind [El]
def KC{P:Program}(T:be P)(rd:Operand->Option aD)(ob:Nat->Option (Nat×Th)):Op->Option (Bool×Nat)
 | .binOp o t x y _=>match o with
   | .eql=>bif ta y then(match find T.und t with
     |some (.slice _)=>match rd x with
      |some X=>match ur ob X with
       |some (.read _ l)=>aa (ag,l.length)
       |some (.own _ _ _ _ l)=>aa (ag,l.length)
       |_=>ae
      |none=>ae
     |_=>ae)else ae
   | .neq=>bif ta y then(match find T.und t with
     |some (.slice _)=>match rd x with
      |some X=>match ur ob X with
       |some (.read _ l)=>aa (af,l.length)
       |some (.own _ _ _ _ l)=>aa (af,l.length)
       |_=>ae
      |none=>ae
     |_=>ae)else ae
   |_=>ae
 |_=>ae
def qU{P:Program}(E:Env P)(rd:Operand->Option aD)(objs:List (Nat×(Nat×Th)))(op:Op):List Nat:=
 match E.deep,op with
 |true, .buildSlice .. =>[]
 |_,_=>Nx rd op
noncomputable def vV(st:State)(o:Nat):State:=
 match OW (find st.objs) st.nxt o with
 |some e=>st.apply ae e
 |none=>st
noncomputable def tS(st:State):List Nat->State
 |[]=>st
 |o::os=>tS (vV st o) os
def O0:List (Nat×(Nat×Th))->Bool
 |[]=>ag
 |(_,(_, .deep _ _ _ (aa _)))::_=>af
 |_::l=>O0 l
noncomputable def oK(st:State):State:=
 match O0 st.objs with
 |true=>tS (tS st (st.objs.map (·.1))) (st.objs.map (·.1))
 |false=>st
def Td:Op->Bool
 | .call c=>Tc c.callee
 |_=>ag
def Em(o:Nat):List (Nat×(Nat×Th))->Bool
 |[]=>ag
 |(_,(_, .deep _ _ _ (aa h)))::l=>agC h.o o||Em o l
 |_::l=>Em o l
def Ny(st:State)(x:Operand):Bool:=
 match G4 st.aF x with
 |some (.val _ (.own o))=>Em o st.objs
 |_=>ag
def KD(st:State):Op->Bool
 | .call c=>c.args.toList.any (Ny st)
 |_=>ag
def KE:Op->Option Operand
 | .next x ag=>aa x
 |_=>ae
noncomputable def F8{R:Type}{P:Program}(E:Env P)(dst:Option Nat)(op:Op)(st:State)(k:State->Option R):Option R:=
 match fH st.objs (qU E (G4 st.aF) st.objs op)with
 |some aZ=>match KC E.T (G4 st.aF) (find aZ) op with
  |some (b,m)=>match dst with
   |some d=>if agC m 0=af then El (k (State.apply {st with objs:=aZ} (aa d) {dst:=dK af})) (k (State.apply {st with objs:=aZ} (aa d) {dst:=dK ag}))
     else k (State.apply {st with objs:=aZ} (aa d) {dst:=dK b})
   |none=>ae
  |none=>match KE op with
   |some x=>match dst with
    |some d=>match G4 st.aF x with
     |some X=>Kg aZ st.nxt X (λe=>k (State.apply {st with objs:=aZ} (aa d) e))
     |none=>ae
    |none=>ae
   |none=>bif fnB dst op then Nw E (G4 st.aF) aZ st.nxt dst op (λe=>k (State.apply {st with objs:=aZ} dst e))else ae
 |none=>ae
noncomputable def vW{R:Type}{P:Program}(E:Env P)(dst:Option Nat)(op:Op)(st:State)(k:State->Option R):Option R:=
 match E.deep&&Td op&& !KD st op with
 |true=>F8 E dst op (oK st) k
 |false=>F8 E dst op st k
def F9(all:Array Oper)(j:Nat):Option Nat:=(all[j]?).bind (·.dst)
def State.put(st:State)(dst:Option Nat)(d:aD):State:=
 match dst with
 |some t=>{st with aF:=(t,d)::st.aF}
 |none=>st
def vX(dst:Option Nat)(kn:List (Nat×Bool)):List (Nat×Bool):=
 match dst with
 |some d=>del [d] kn
 |none=>kn
noncomputable def runs{R:Type}{P:Program}(E:Env P)(nt:Nat)(all:Array Oper):List Oper->List (Nat×Bool)->State->(State->Option R)->Option R
 |[],_,st,k=>k st
 |o::os,kn,st,k=>bif BH nt o.dst then(match o.guard with
  |none=>vW E o.dst o.op st (λcO=>runs E nt all os (vX o.dst kn) cO k)
  |some (j,b)=>match F9 all j with
   |none=>ae
   |some g=>bif ag4 g nt then(match find kn g with
    |some v=>bif (bif v then b else !b)then vW E o.dst o.op st (λcO=>runs E nt all os (vX o.dst kn) cO k)else runs E nt all os (vX o.dst kn) (st.put o.dst .undef) k
    |none=>match find st.aF g with
     |some .undef=>runs E nt all os (vX o.dst kn) (st.put o.dst .undef) k
     |some d=>match asBool d with
      |some t=>if t=af then
        (bif b then vW E o.dst o.op (st.put (aa g) (dK af)) (λcO=>runs E nt all os (vX o.dst ((g,af)::kn)) cO k)
          else runs E nt all os (vX o.dst ((g,af)::kn)) ((st.put (aa g) (dK af)).put o.dst .undef) k)
       else
        (bif b then runs E nt all os (vX o.dst ((g,ag)::kn)) ((st.put (aa g) (dK ag)).put o.dst .undef) k
          else vW E o.dst o.op (st.put (aa g) (dK ag)) (λcO=>runs E nt all os (vX o.dst ((g,ag)::kn)) cO k))
      |none=>ae
     |none=>ae)else ae)else ae
section
variable {P:Program} {nt:Nat} {ops:Array Oper} {K:(Nat->Value)->World->Prop} {rest:List Oper} {R:Type}
variable {ρ:Nat->Value} {w w0:World} {H:aI} {F F0 G:Nat->Prop}
abbrev UU(G:Nat->Prop)(w0:World):Nat->Prop:=λk=>w0.heap.size<=k\/G k
def Kl.lc{H':aI}{F':Nat->Prop}{w':World}{g:Nat->Prop}(hg:Kl G w0 F0 w F)(he:My H F w H' F' w' g)(hu:∀k,g k->UU G w0 k):Kl G w0 F0 w' F':=by
 have lJ:=hg.ext.size;refine⟨⟨he.ext.os.trans hg.ext.os,⟨he.ext.tape.1.trans hg.ext.tape.1,agW hg.ext.tape.2 he.ext.tape.2⟩,he.ext.output.trans hg.ext.output,agW lJ he.ext.size,λk hk hn=>?_⟩,λb hb=>he.le b (hg.le b hb),λb hb=>?_⟩
 .rw[he.ext.block k (by omega) λh=>?_]
  .exact hg.ext.block k hk hn
  grind
 .rcases he.grow b hb with h1|h1|h1
  .exact hg.new b h1
  all_goals grind
structure cH(G:Nat->Prop)(w0:World)(F0:Nat->Prop)(H:aI)(F:Nat->Prop)(w:World)(ρ:Nat->Value)(st:State):Prop where
 sat:Sat (UU G w0) H F w ρ st
 glob:Kl G w0 F0 w F
def cu.yj{H':aI}{F':Nat->Prop}{w':World}{g:Nat->Prop}(he:My H F w H' F' w' g)(hF:∀b,F b->b<w.heap.size)(hg:∀k,g k->¬F k):cu H F w H' F' w':=⟨he.gm,he.step hF hg⟩
def cH.um{st:State}{os:List Nat}{aZ:List (Nat×(Nat×Th))}(h:cH G w0 F0 H F w ρ st)(hf:fH st.objs os=aa aZ):
 ∃F',cH G w0 F0 H F' w ρ {st with objs:=aZ}/\cu H F w H F' w:=by
 obtain⟨F',a1,a2,a3⟩:=nL hf h.sat.ob
 have gM:Step F w F' w:=λb hb=>⟨a2 b hb,rfl⟩
 refine⟨F',⟨⟨λt d hd=>(h.sat.slot t d hd).keep (aI.le.refl H) gM,a1,h.sat.all⟩,⟨h.glob.ext,λb hb=>a2 b (h.glob.le b hb),λb hb=>?_⟩⟩,⟨aI.le.refl H,gM⟩⟩
 rcases a3 b hb with h1|h1
 .exact h.glob.new b h1
 .exact .inr (h.sat.ob.fR b h1)
def Eo{P:Program}{ρ:Nat->Value}{w:World}{o:BinOp}(sz:o= .eql\/o= .neq){t u e:TypeId}{x y:Operand}{d:Nat}{ty:TypeId}{pos:String}{aft:Array Edge}(hu:P.underlying t=aa (.slice e)){A:Option Addr}{m c:Nat}(hx:ev ρ x= .slice A m c)(hy:ev ρ y= .slice ae 0 0):
 (execOp (ev ρ) ⟨aa d, .binOp o t x y u,ty,pos,aft,ae⟩).run P w= .ok (.value (.bool (bif decide (o= .eql)then A.isNone else !A.isNone))) w:=by
 have hm:Op.maxDepth=9999+1:=rfl
 have he:(Op.equal t (.slice A m c) (.slice ae 0 0)).run P w= .ok A.isNone w:=by
  unfold Op.equal;rw[hm];unfold Op.equalIn;rw[agU,run_underlying hu]
  cases A<;>rfl
 rcases sz with rfl|rfl
 .simp[execOp,eqGuard,binOp,hx,hy,he]
 .simp[execOp,eqGuard,binOp,hx,hy,he]
def KF{P:Program}(T:be P){U:Nat->Prop}{H:aI}{F:Nat->Prop}{w:World}{ρ:Nat->Value}{n:Nat}{ob:Nat->Option (Nat×Th)}{rd:Operand->Option aD}(gf:∀x d,rd x=aa d->aC H F w d (ev ρ x))(hs:aJ U H F w ob n){op:Op}{b:Bool}{m:Nat}(h:KC T rd ob op=aa (b,m)){d:Nat}{ty:TypeId}{pos:String}{aft:Array Edge}:
 ∃r:Bool,(m≠0->r=b)/\(execOp (ev ρ) ⟨aa d,op,ty,pos,aft,ae⟩).run P w= .ok (.value (.bool r)) w:=by
 have isn:∀{y:Operand},ta y=af->ev ρ y= .slice ae 0 0:=by
  intro y hy;unfold ta at hy;split at hy
  .rfl
  .cases hy
 have key:∀{k:J0}{v:Value},MZ U H F w ob v k->∀m,(match k with| .read _ l=>l.length=m| .own _ _ _ _ l=>l.length=m|_=>False)->∃A n c,v= .slice A n c/\(m≠0->A.isNone=ag):=by
  intro k v hk m hm
  cases k with
  |read r l=>
   obtain⟨A,cap,hv,_,_,h3⟩:=hk;simp only[aht,and_true]at hv;refine⟨A,_,cap,hv,λh0=>?_⟩;obtain⟨b,off,es,rfl,_⟩:=h3 0 (by grind);rfl
  |own o s T r l=>
   obtain⟨xs,hx,_⟩:=hk.2.2.2
   rcases hx.2 with⟨rfl,h0⟩|⟨g,o0,cap,cur,rfl,_⟩
   all_goals grind
  |nil=>exact hm.elim
  |view o s r m=>exact hm.elim
  |deep=>exact hm.elim
 unfold KC at h;split at h
 case h_2=>cases h
 rename_i o t x y u;split at h
 case h_3=>cases h
 all_goals
  obtain⟨hy,h⟩:=aQ h;split at h
  case h_2=>cases h
  rename_i e hu;have hu:=T.und_ok _ _ hu;split at h
  case h_2=>cases h
  rename_i X hX;split at h
  case h_3=>cases h
  all_goals
   rename_i gN;obtain⟨rfl,rfl⟩:=Prod.mk.inj (agx h);obtain⟨A,n',c,hv,hA⟩:=key (iS hs gN (gf _ _ hX)) _ rfl;refine⟨_,λh0=>?_,Eo (by grind) hu hv (isn hy)⟩
   grind
def cH.vV{st:State}(h:cH G w0 F0 H F w ρ st)(o:Nat):∃H' F',cH G w0 F0 H' F' w ρ (vV st o)/\cu H F w H' F' w:=by
 unfold Go.Proofs.YtfeahmiobbjklaaGreatDoor.vV;split
 .rename_i e he;obtain⟨H',F',hp⟩:=D6 h.sat.ob he;have hs:=h.sat.apply (d:=ae) hp;exact⟨H',F',⟨hs,h.glob.lc hp.lc h.sat.ob.fR⟩,cu.yj hp.lc h.sat.ob.lt h.sat.ob.eQ⟩
 .exact⟨H,F,h,cu.refl H F w⟩
def cH.tS:{os:List Nat}->{st:State}->{H:aI}->{F:Nat->Prop}->cH G w0 F0 H F w ρ st->∃H' F',cH G w0 F0 H' F' w ρ (tS st os)/\cu H F w H' F' w
 |[],_,H,F,h=>⟨H,F,h,cu.refl H F w⟩
 |o::os,st,H,F,h=>by
  obtain⟨H1,F1,h1,k1⟩:=h.vV o;obtain⟨H2,F2,h2,k2⟩:=cH.tS (os:=os) h1;exact⟨H2,F2,h2,k1.trans k2⟩
def cH.oK{st:State}(h:cH G w0 F0 H F w ρ st):∃H' F',cH G w0 F0 H' F' w ρ (oK st)/\cu H F w H' F' w:=by
 unfold Go.Proofs.YtfeahmiobbjklaaGreatDoor.oK;split
 case h_2=>exact⟨H,F,h,cu.refl H F w⟩
 obtain⟨H1,F1,h1,k1⟩:=h.tS (os:=st.objs.map (·.1));obtain⟨H2,F2,h2,k2⟩:=h1.tS (os:=st.objs.map (·.1));exact⟨H2,F2,h2,k1.trans k2⟩
def BI{E:Env P}{dst:Option Nat}{op:Op}{ty:TypeId}{pos:String}{aft:Array Edge}{st:State}{k:State->Option R}{q:R}(h:F8 E dst op st k=aa q)(hd:BH nt dst=af)(hh:cH G w0 F0 H F w ρ st)
 (hk:∀cO H' F' w' cN,k cO=aa q->cH G w0 F0 H' F' w' cN cO->cu H F w H' F' w'->(∀t,dst≠aa t->cN t=ρ t)->wpS P nt ops K rest cN w'):wpS P nt ops K (⟨dst,op,ty,pos,aft,ae⟩::rest) ρ w:=by
 unfold F8 at h;split at h
 case h_2=>cases h
 rename_i aZ xf;obtain⟨F1,nP,Qh⟩:=hh.um xf;split at h
 .rename_i b m hn;split at h
  case h_2=>cases h
  rename_i d;obtain⟨r,hr,bz⟩:=KF E.T (ρ:=ρ) (d:=d) (ty:=ty) (pos:=pos) (aft:=aft) (λx d hx=>sF nP.sat.ob.gl nP.sat.slot x d hx) nP.sat.ob hn
  have hkr:k (State.apply {st with objs:=aZ} (aa d) {dst:=dK r})=aa q:=by
   split at h
   .cases r with
    |true=>exact Qf h
    |false=>exact Qg h
   .simp_all
  have BJ:cr P (UU G w0) H F1 w ρ (find aZ) st.nxt ⟨aa d,op,ty,pos,aft,ae⟩ {dst:=dK r}:=bM nP.sat.ob bz (aO.fG ..)
  refine vo BJ (λd' AF=>by rw[AF]at hd;exact hd) λv w' ⟨H',F',hp⟩=>?_
  have hs:=nP.sat.apply (d:=aa d) hp
  refine hk _ H' F' w' _ hkr ⟨hs,nP.glob.lc hp.lc nP.sat.ob.fR⟩ (Qh.trans (cu.yj hp.lc nP.sat.ob.lt nP.sat.ob.eQ)) λt ht=>?_
  show Dg ρ d v t=ρ t
  grind [oa]
 split at h
 .rename_i x WW;split at h
  case h_2=>cases h
  rename_i d;split at h
  case h_2=>cases h
  rename_i X hX
  have sz:op= .next x ag:=by
   unfold KE at WW;split at WW
   .grind
   .cases WW
  subst sz;obtain⟨e,he,BJ⟩:=Kh (ρ:=ρ) (d:=d) (ty:=ty) (pos:=pos) (aft:=aft) (P:=P) (U:=UU G w0) h nP.sat.ob (sF nP.sat.ob.gl nP.sat.slot _ _ hX)
  refine vo BJ (λd' AF=>by rw[AF]at hd;exact hd) λv w' ⟨H',F',hp⟩=>?_
  have hs:=nP.sat.apply (d:=aa d) hp
  refine hk _ H' F' w' _ he ⟨hs,nP.glob.lc hp.lc nP.sat.ob.fR⟩ (Qh.trans (cu.yj hp.lc nP.sat.ob.lt nP.sat.ob.eQ)) λt ht=>?_
  show Dg ρ d v t=ρ t
  grind [oa]
 obtain⟨AH,h'⟩:=aQ h;clear h;obtain⟨e,he,BJ⟩:=KB (ρ:=ρ) (ty:=ty) (pos:=pos) (aft:=aft) E (λx d hx=>sF nP.sat.ob.gl nP.sat.slot x d hx) (λhn c hc=>by subst hn;subst hc;exact AH) h' nP.sat.ob
 refine vo BJ (λd AF=>by rw[AF]at hd;exact hd) λv w' ⟨H',F',hp⟩=>?_
 have hs:=nP.sat.apply (d:=dst) hp
 refine hk _ H' F' w' _ he ⟨hs,nP.glob.lc hp.lc nP.sat.ob.fR⟩ (Qh.trans (cu.yj hp.lc nP.sat.ob.lt nP.sat.ob.eQ)) λt ht=>?_
 cases dst with
 |none=>rfl
 |some d=>
  show Dg ρ d v t=ρ t
  grind [oa]
def KG{E:Env P}{dst:Option Nat}{op:Op}{ty:TypeId}{pos:String}{aft:Array Edge}{st:State}{k:State->Option R}{q:R}(h:vW E dst op st k=aa q)(hd:BH nt dst=af)(hh:cH G w0 F0 H F w ρ st)
 (hk:∀cO H' F' w' cN,k cO=aa q->cH G w0 F0 H' F' w' cN cO->cu H F w H' F' w'->(∀t,dst≠aa t->cN t=ρ t)->wpS P nt ops K rest cN w'):wpS P nt ops K (⟨dst,op,ty,pos,aft,ae⟩::rest) ρ w:=by
 unfold vW at h;split at h
 .obtain⟨H1,F1,h1,k1⟩:=hh.oK
  exact BI h hd h1 λcO H' F' w' cN a b c d=>hk cO H' F' w' cN a b (k1.trans c) d
 .exact BI h hd hh hk
def cH.put{st:State}{dst:Option Nat}{d:aD}{v:Value}(h:cH G w0 F0 H F w ρ st)(hd:aC H F w d v):cH G w0 F0 H F w (uq ρ dst v) (st.put dst d):=by
 refine⟨⟨λt q hq=>?_,?_,by cases dst<;>exact h.sat.all⟩,h.glob⟩
 .cases dst with
  |none=>exact h.sat.slot t q hq
  |some s=>
   have AP:find ((s,d)::st.aF) t=aa q:=hq;rw[aY]at AP
   show aC H F w q (Dg ρ s v t)
   rw[oa];by_cases e:s=t
   .grind
   .rw[ai e]at AP;rw[ai (Ne.symm e)];exact h.sat.slot t q AP
 .cases dst<;>exact h.sat.ob
def cH.lit{st:State}{g:Nat}{d:aD}(h:cH G w0 F0 H F w ρ st)(hd:aC H F w d (ρ g)):cH G w0 F0 H F w ρ (st.put (aa g) d):=by
 refine⟨⟨λt q hq=>?_,h.sat.ob,h.sat.all⟩,h.glob⟩;have AP:find ((g,d)::st.aF) t=aa q:=hq;rw[aY]at AP;split at AP
 .grind
 .exact h.sat.slot t q AP
def rT(ρ:Nat->Value)(kn:List (Nat×Bool)):Prop:=∀g b,find kn g=aa b->ρ g= .bool b
theorem rT.del{cN:Nat->Value}{dst:Option Nat}{kn:List (Nat×Bool)}(h:rT ρ kn)(Qi:∀t,dst≠aa t->cN t=ρ t):rT cN (vX dst kn):=by
 intro g b hg
 cases dst with
 |none=>rw[Qi g (by simp)];exact h g b hg
 |some d=>
  obtain⟨h1,h2⟩:=iu.1 hg;rw[Qi g (λe=>h1 (by simp[agx e]))];exact h g b h2
def rT.cons{kn:List (Nat×Bool)}{g:Nat}{b:Bool}(h:rT ρ kn)(hb:ρ g= .bool b):rT ρ ((g,b)::kn):=by
 intro g' b' hg;rw[aY]at hg;split at hg
 .grind
 .exact h g' b' hg
def p9{dst:Option Nat}{v:Value}{t:Nat}(h:dst≠aa t):uq ρ dst v t=ρ t:=by
 cases dst with
 |none=>rfl
 |some d=>
  show Dg ρ d v t=ρ t
  grind [oa]
def zy{E:Env P}{q:R}:{l:List Oper}->{kn:List (Nat×Bool)}->{st:State}->{k:State->Option R}->{H:aI}->{F:Nat->Prop}->{w:World}->{ρ:Nat->Value}->runs E nt ops l kn st k=aa q->rT ρ kn->cH G w0 F0 H F w ρ st->
 (∀cO H' F' w' cN,k cO=aa q->cH G w0 F0 H' F' w' cN cO->cu H F w H' F' w'->(∀t,(∀o∈l,o.dst≠aa t)->cN t=ρ t)->K cN w')->wpS P nt ops K l ρ w
 |[],kn,st,k,H,F,w,ρ,h,_,hh,hk=>MN (hk st H F w ρ h hh (cu.refl H F w) λ_ _=>rfl)
 |o::l,kn,st,k,H,F,w,ρ,h,BK,hh,hk=>by
  unfold runs at h;obtain⟨hd,h'⟩:=aQ h;clear h
  have WX:∀d,o.dst=aa d->ag4 d nt=af:=λd e=>by rw[e]at hd;exact hd
  have on:∀{st1:State}{Qj:List (Nat×Bool)},vW E o.dst o.op st1 (λcO=>runs E nt ops l (vX o.dst Qj) cO k)=aa q->rT ρ Qj->cH G w0 F0 H F w ρ st1->wpS P nt ops K (⟨o.dst,o.op,o.type,o.pos,o.after,ae⟩::l) ρ w:=by
   intro st1 Qj hs KH nP
   refine KG hs hd nP λcO H' F' w' cN e1 e2 e3 e4=>?_
   refine zy e1 (KH.del e4) e2 λst2 H2 F2 w2 WY f1 f2 f3 f4=>?_
   exact hk st2 H2 F2 w2 WY f1 f2 (e3.trans f3) (by grind)
  have off:∀{st1:State}{Qj:List (Nat×Bool)},runs E nt ops l (vX o.dst Qj) (st1.put o.dst .undef) k=aa q->rT ρ Qj->cH G w0 F0 H F w ρ st1->wpS P nt ops K l (uq ρ o.dst undef) w:=by
   intro st1 Qj hs KH nP
   refine zy hs (KH.del λt ht=>p9 ht) (nP.put rfl) λst2 H2 F2 w2 WY f1 f2 f3 f4=>?_
   exact hk st2 H2 F2 w2 WY f1 f2 f3 λt ht=>(f4 t λo' lI=>ht o' (by simp[lI])).trans (p9 (ht o (by simp)))
  obtain⟨dst,op,ty,pos,aft,guard⟩:=o;simp only at h' on off WX;split at h'
  .grind
  .rename_i j b;split at h'
   case h_1=>cases h'
   rename_i g O1;obtain⟨O2,h⟩:=aQ h';clear h'
   have wOn:ρ g= .bool b->wpS P nt ops K (⟨dst,op,ty,pos,aft,ae⟩::l) ρ w->wpS P nt ops K (⟨dst,op,ty,pos,aft,aa (j,b)⟩::l) ρ w:=λhb hw=>PG g O1 O2 hb hw
   have acb:∀b',ρ g= .bool b'->b'≠b->wpS P nt ops K l (uq ρ dst undef) w->wpS P nt ops K (⟨dst,op,ty,pos,aft,aa (j,b)⟩::l) ρ w:=λb' hb du hw=>by
    cases dst with
    |none=>exact yT g O1 O2 hb du hw
    |some d=>exact MO g O1 O2 hb du (WX d rfl) hw
   split at h
   .rename_i v hv;have hgv:=BK g v hv
    grind
   .split at h
    .rename_i hu;have hgu:ρ g=undef:=hh.sat.slot _ _ hu
     cases dst with
     |none=>exact w4 g O1 O2 hgu (off h BK hh)
     |some d=>exact Jp g O1 O2 hgu (WX d rfl) (off h BK hh)
    .rename_i d AF;split at h
     case h_2=>cases h
     rename_i t ht;have hgt:=nB ht (hh.sat.slot _ _ AF);split at h
     .rename_i Nz;subst Nz;have nP:cH G w0 F0 H F w ρ (st.put (aa g) (dK af)):=hh.lit (by rw[hgt];exact aO.fG ..);have KH:=BK.cons hgt
      grind
     .rename_i Nz
      have Nz:t=ag:=by cases t<;>simp_all
      subst Nz;have nP:cH G w0 F0 H F w ρ (st.put (aa g) (dK ag)):=hh.lit (by rw[hgt];exact aO.fG ..);have KH:=BK.cons hgt
      grind
    .cases h
end
end
end Go.Proofs.YtfeahmiobbjklaaGreatDoor
section
open _root_.Bool renaming false->ag,true->af,cond_eq_ite->agX
open _root_.Option renaming none->ae,some->aa,bind_assoc->ah3,isSome_iff_exists->ag5
open _root_.Array renaming getElem?_eq_getElem->agQ,getElem?_eq_some_iff->ag6
open _root_.List renaming mem_cons->agY,mem_singleton->agZ
open _root_.Nat renaming beq->agC,blt->ag4,zero_add->ag8
open _root_.Option.some renaming inj->agx
open _root_.Go.Region renaming binds->ahO
namespace Go.Proofs.YtfeahmiobbjklaaGreatDoor
open Go Go.RowKit
section
variable {P:Program} {R:Type} {ob:Nat->Option (Nat×Th)} {n:Nat} (k:dL->Option R)
def vY{rd:Operand->Option aD}{fn:Fn}{first caps:Array Operand}:mc rd fn first caps k=(mc rd fn first caps aa).bind k:=by
 unfold mc
 grind
def zA(T:be P){m:Nat}{e:TypeId}{D:aD}{i:Int}:pQ T m e D i k=(pQ T m e D i aa).bind k:=by
 unfold pQ;simp only[agX]
 repeat' first|rfl|(rw[ah3];rfl)|split
def zB(T:be P){t:TypeId}{D:aD}{i:Int}:pW T ob t D i k=(pW T ob t D i aa).bind k:=by
 unfold pW;simp only[agX]
 repeat' first|rfl|(rw[ah3];rfl)|split
def BL(T:be P){t:TypeId}{D:aD}{i:Int}:sG T ob t D i k=(sG T ob t D i aa).bind k:=by
 unfold sG;simp only[agX]
 repeat' first|rfl|exact zA k T|(rw[ah3];rfl)|split
theorem Ep(T:be P){t:TypeId}{D:aD}:xI T ob t D k=(xI T ob t D aa).bind k:=by
 unfold xI;simp only[agX]
 repeat' first|rfl|split|grind
theorem BM(T:be P){t:TypeId}{D V:aD}:sH T ob n t D V k=(sH T ob n t D V aa).bind k:=by
 unfold sH;simp only[agX]
 repeat' first|rfl|split|grind|(rw[ah3];congr 1;funext x;repeat' first|rfl|split)
theorem BN(T:be P){t:TypeId}{D:aD}:qO T ob n t D k=(qO T ob n t D aa).bind k:=by
 unfold qO;simp only[agX]
 repeat' first|rfl|split|grind
def BO(T:be P){t:TypeId}{D:aD}:o4 T ob n t D k=(o4 T ob n t D aa).bind k:=by
 unfold o4
 grind [BN,Ep]
theorem zC(T:be P){t:TypeId}{D V:aD}:pY T ob n t D V k=(pY T ob n t D V aa).bind k:=by
 unfold pY;simp only[agX]
 repeat' first|rfl|split|grind
def zD(T:be P){t:TypeId}{D V:aD}:p4 T ob n t D V k=(p4 T ob n t D V aa).bind k:=by
 unfold p4
 grind [zC,BM]
theorem xj{e:TypeId}{dr:DR}{ds:List aD}:o3 e dr ob n ds k=(o3 e dr ob n ds aa).bind k:=by
 grind [o3]
def BP(T:be P){t:TypeId}:sI T n t k=(sI T n t aa).bind k:=by
 grind [sI]
def HI{t:TypeId}{V:aD}:Hd n t V k=(Hd n t V aa).bind k:=by
 unfold Hd
 grind
theorem vZ(T:be P){t:TypeId}{s:Bool}{a b:Int}:vv T n t s a b k=(vv T n t s a b aa).bind k:=by
 grind [vv]
def BQ(T:be P){b:Bool}{t:TypeId}{s:Bool}{x y:Int}:vJ b T n t s x y k=(vJ b T n t s x y aa).bind k:=by
 unfold vJ;split
 .unfold zk
  grind [vZ]
 .exact vZ k T
def zE(T:be P){t:TypeId}{X Y:aD}:pT T ob n t X Y k=(pT T ob n t X Y aa).bind k:=by
 unfold pT;simp only[agX]
 repeat' first|rfl|split|grind
def tc(T:be P){rd:Operand->Option aD}{t:TypeId}{m:Nat}{ps:Array (Nat×Operand)}:jU T rd ob n t m ps k=(jU T rd ob n t m ps aa).bind k:=by
 unfold jU;simp only[agX]
 repeat' first|rfl|split
def zF{b:Bool}(T:be P){rd:Operand->Option aD}{t:TypeId}{m:Nat}{ps:Array (Nat×Operand)}:uU b T rd ob n t m ps k=(uU b T rd ob n t m ps aa).bind k:=by
 cases b with
 |false=>exact tc k T
 |true=>
  show p3 T rd ob n t m ps k=(p3 T rd ob n t m ps aa).bind k
  grind [p3,xj]
def BR(T:be P){rd:Operand->Option aD}{t:TypeId}{ps:Array (Nat×Operand)}:sK T rd t ps k=(sK T rd t ps aa).bind k:=by
 unfold sK;simp only[agX]
 repeat' first|rfl|split
def BS(dr:Bool)(T:be P){rd:Operand->Option aD}{t:TypeId}{D:aD}{lo hi:Option Operand}:sL dr T rd ob n t D lo hi k=(sL dr T rd ob n t D lo hi aa).bind k:=by
 unfold sL;simp only[agX]
 repeat' first|rfl|split|grind
def HJ(T:be P){o:BinOp}{t:TypeId}{lit:Bool}{X Y:aD}:Hj T ob o t lit X Y k=(Hj T ob o t lit X Y aa).bind k:=by
 unfold Hj;simp only[agX]
 repeat' first|rfl|split|grind
def ux(T:be P){t:TypeId}{M X Y:aD}:kZ T ob n t M X Y k=(kZ T ob n t M X Y aa).bind k:=by
 unfold kZ;simp only[agX]
 repeat' first|rfl|split
def xk(T:be P){t:TypeId}:nG T n t k=(nG T n t aa).bind k:=by
 unfold nG
 repeat' first|rfl|split
def zG(T:be P){t:TypeId}{ok:Bool}{M X:aD}:pV T ob t ok M X k=(pV T ob t ok M X aa).bind k:=by
 unfold pV;simp only[agX]
 repeat' first|rfl|split
def xl(T:be P){t:TypeId}{X Y:aD}:nK T ob n t X Y k=(nK T ob n t X Y aa).bind k:=by
 unfold nK
 cases Kk ob Y with
 |false=>exact zE k T
 |true=>
  simp only[cond_true];unfold rN;simp only[agX]
  repeat' first|rfl|split|grind
def td(T:be P){t:TypeId}{M X Y:aD}:jV T ob n t M X Y k=(jV T ob n t M X Y aa).bind k:=by
 unfold jV;simp only[agX]
 repeat' first|rfl|exact ux k _|split
def v7(b:Bool)(T:be P){t:TypeId}:mb b T n t k=(mb b T n t aa).bind k:=by
 unfold mb;simp only[agX]
 repeat' first|rfl|exact xk k _|split
def xm(T:be P){t:TypeId}{ok:Bool}{M X:aD}:nJ T ob n t ok M X k=(nJ T ob n t ok M X aa).bind k:=by
 unfold nJ;simp only[agX]
 repeat' first|rfl|exact zG k _|split
theorem BT{sg:oH}{bs:Bs}{aZ:List (Nat×(Nat×Th))}{nd:List Nat}{y:cW sg.out.rows}:s9 sg n bs aZ nd y k=(s9 sg n bs aZ nd y aa).bind k:=by
 grind [s9]
theorem o9{objs:List (Nat×(Nat×Th))}{f:FuncId}{ds:List aD}:{tab:List (Nat×oH)}->og objs n f ds k tab=(og objs n f ds aa tab).bind k
 |[]=>rfl
 |(g,sg)::tab=>by
  unfold og;have ih:=o9 (objs:=objs) (f:=f) (ds:=ds) (tab:=tab)
  grind [BT]
def Er{tab:List (Nat×oH)}{rd:Operand->Option aD}{objs:List (Nat×(Nat×Th))}{g:Operand}{args:List Operand}:ye tab rd objs n g args k=(ye tab rd objs n g args aa).bind k:=by
 grind [ye,o9]
def zH(T:be P){tab:List (Nat×oH)}{rd:Operand->Option aD}{objs:List (Nat×(Nat×Th))}{g:Operand}{name:String}{args:List Operand}:p8 T tab rd objs n g name args k=(p8 T tab rd objs n g name args aa).bind k:=by
 unfold p8
 repeat' first|rfl|exact o9 k|split
def BU(T:be P){t:TypeId}{M:aD}:sT T ob n t M k=(sT T ob n t M aa).bind k:=by
 grind [sT]
def HK(T:be P){t:TypeId}{D:aD}:HE T t D k=(HE T t D aa).bind k:=by
 grind [HE]
def zI(T:be P){t:TypeId}{ok:Bool}{D:aD}:p7 T t ok D k=(p7 T t ok D aa).bind k:=by
 unfold p7
 grind
def zJ(T:be P){t:TypeId}{M X:aD}:pU T ob n t M X k=(pU T ob n t M X aa).bind k:=by
 grind [pU]
def Es(E:Env P){rd:Operand->Option aD}{objs:List (Nat×(Nat×Th))}{c:Callee}{args:Array Operand}{tQ:Array TypeId}:nO E rd objs n c args tQ k=(nO E rd objs n c args tQ aa).bind k:=by
 unfold nO;simp only[agX]
 repeat' first|rfl|exact xl k _|exact zJ k _|exact Er k|exact zH k _|split
def KI(E:Env P){rd:Operand->Option aD}{objs:List (Nat×(Nat×Th))}{dst:Option Nat}{op:Op}:Nw E rd objs n dst op k=(Nw E rd objs n dst op aa).bind k:=by
 unfold Nw
 repeat' first|rfl|exact zD k _|exact td k _|exact v7 k _ _|exact xm k _|exact BU k _|exact HK k _|exact zI k _|exact Es k _|exact BP k _|exact HI k|exact BR k _|exact zF k _|exact BO k _|exact HJ k _|exact BQ k _|exact BS k _ _|exact BL k _|exact zB k _|exact vY k|split
end
def je{α:Type}(ns:List Nat):List (Nat×α)->List (Nat×α)
 |[]=>[]
 |(m,a)::l=>bif oe m ns then(m,a)::je ns l else je ns l
def yk{α:Type}{ns:List Nat}{l:List (Nat×α)}{n:Nat}{a:α}:find (je ns l) n=aa a↔n∈ns/\find l n=aa a:=by
 induction l with
 |nil=>simp[je,find]
 |cons p l ih=>
  grind [je,fy,aY]
def tmpsOf:List Operand->List Nat
 |[]=>[]
 | .tmp t::l=>t::tmpsOf l
 |_::l=>tmpsOf l
def O4:List (Bool×Tree)->List Nat
 |[]=>[]
 |p::l=>p.2.owns++O4 l
def Te:aD->List Nat
 | .val _ t=>t.owns
 | .ptr o _ _=>[o]
 | .elem o .. =>[o]
 | .dlm o .. =>[o]
 | .tup ds=>O4 ds
 | .fn _ caps=>caps.map (·.1)
 | .ifc _ d=>Te d
 |_=>[]
def KJ(aF:List (Nat×aD)):List Nat->List Nat
 |[]=>[]
 |t::l=>(match find aF t with
  |some d=>Te d
  |none=>[])++KJ aF l
def within(objs:List (Nat×(Nat×Th))):List Nat->List Nat
 |[]=>[]
 |o::l=>(match find objs o with
  |some (_, .box _ t)=>t.owns
  |_=>[])++within objs l
def NA(aF:List (Nat×aD))(objs:List (Nat×(Nat×Th)))(ts:List Nat):List Nat:=
 (λl=>l++within objs l) (KJ aF ts)
def yl(aZ:List (Nat×(Nat×Th)))(nd:List Nat)(e:dL):dL:=
 {dst:=e.dst,eat:=nd++e.eat,make:=e.make++del e.eat (oJ aZ nd)}
section
variable {U:Nat->Prop} {H:aI} {F:Nat->Prop} {w:World} {n:Nat}
def HL{obj aZ:List (Nat×(Nat×Th))}{nd:List Nat}{e:dL}{v:Value}{w':World}{F1:Nat->Prop}(xf:fH obj nd=aa aZ)(uV:aJ U H F1 w (find aZ) n)(Dx:∀b,F b->F1 b)(ME:∀b,F1 b->F b\/cn H (find obj) nd b)
 (h:lQ H F1 w (find aZ) n e v w'):lQ H F w (find obj) n (yl aZ nd e) v w':=by
 obtain⟨H',F',hp⟩:=h
 have jI:∀k,cn H (find aZ) e.eat k->cn H (find obj) (nd++e.eat) k:=by
  rintro k ⟨o,ho,s,t,u,h1,h2,h3⟩
  rcases jW xf o s t h1 with h4|h4
  .exact⟨o,by simp[ho],s,t,u,h4,h2,h3⟩
  .exact(gI h4 h3).elim
 have part:∀o s t,find (e.make++del e.eat (oJ aZ nd)) o=aa (s,t)->find e.make o=aa (s,t)\/(o∉e.eat/\o∈nd/\find aZ o=aa (s,t)/\fe t=af):=by
  intro o s t ho;rw[ir]at ho
  cases hm:find e.make o with
  |some x=>grind
  |none=>
   grind [iu,ml]
 refine⟨H',F',⟨hp.lc.gm,⟨hp.lc.ext.os,hp.lc.ext.tape,hp.lc.ext.output,hp.lc.ext.size,λk hk hn=>hp.lc.ext.block k hk λhh=>hn (jI k hh)⟩,λb hb=>hp.lc.le b (Dx b hb),λb hb=>?_,hp.lc.lt⟩,hp.fresh,hp.dst,⟨λo s t ho=>?_,λo o' s s' t t' v v' du ho lI hv ey k hk lf=>?_⟩,λo ho=>?_⟩
 .rcases hp.lc.grow b hb with h1|h1|h1
  .rcases ME b h1 with h2|⟨o,ho,rest⟩
   .exact .inl h2
   .exact .inr (.inr ⟨o,by simp[yl,ho],rest⟩)
  .grind
  .exact .inr (.inr (jI b h1))
 .rcases part o s t ho with h1|⟨h1,h2,h3,h4⟩
  .obtain⟨u,a1,a2,a3,a4,a5⟩:=hp.made.obj o s t h1;exact⟨u,a1,a2,a3,a4,λk hk=>⟨(a5 k hk).1,(a5 k hk).2.1,(a5 k hk).2.2.imp id (jI k)⟩⟩
  .obtain⟨u,hu,cG⟩:=uV.obj _ _ _ h3;have:=cG.lc uV hp.lc h3 h1 hu;exact⟨u,hp.lc.gm.val _ _ hu,this.one,this.con,this.ok,λk hk=>(gI h4 hk).elim⟩
 .rcases part o s t ho with h1|⟨_,_,_,h4⟩
  .rcases part o' s' t' lI with h2|⟨_,_,_,h4'⟩
   .exact hp.made.apart o o' s s' t t' v v' du h1 h2 hv ey k hk lf
   .exact gI h4' lf
  .exact gI h4 hk
 .obtain⟨x,hx⟩:=ag5.1 ho
  rcases part o x.1 x.2 hx with h1|⟨_,h2,_⟩
  .exact(hp.ids o (by rw[h1];rfl)).imp (λh=>by simp[yl,h]) id
  .exact .inl (by simp[yl,h2])
end
def gQ(x y:Nat×Th):Prop:=x=y\/∃T d l h h',x.2= .deep T d l h/\y.2= .deep T d l h'
def gQ.symm{x y:Nat×Th}(h:gQ x y):gQ y x:=by
 rcases h with rfl|⟨T,d,l,h,h',h1,h2⟩
 .exact .inl rfl
 .exact .inr ⟨T,d,l,h',h,h2,h1⟩
def gQ.trans{x y z:Nat×Th}(h:gQ x y)(h':gQ y z):gQ x z:=by
 rcases h with rfl|⟨T,d,l,a,b,h1,h2⟩
 .exact h'
 .rcases h' with rfl|⟨T',d',l',a',b',h3,h4⟩
  .exact .inr ⟨T,d,l,a,b,h1,h2⟩
  .rw[h2]at h3;cases h3;exact .inr ⟨T,d,l,a,b',h1,h4⟩
structure lj where
 dst:Option Nat
 ts:List Nat
 os:List Nat
 e:dL
 ls:List Nat:=[]
 soft:List Nat:=[]
def tT:List (Nat×(Nat×Th))->List Nat
 |[]=>[]
 |(o,_)::l=>o::tT l
def lj.mut(x:lj):List Nat:=x.e.eat++tT x.e.make
def Et:Op->Bool
 | .call c=>match c.callee with
   | .builtin .len=>af
   |_=>ag
 |_=>ag
def O5(rd:Operand->Option aD):Op->List Nat
 | .load _ x=>match rd x with
   |some (.dlm o _ _ _ _)=>[o]
   |_=>[]
 |_=>[]
def gE(st:State)(op:Op):List Nat:=
 match op with
 | .move _=>[]
 | .assign _=>[]
 | .extract _ _=>[]
 | .fieldAddr _ _ _=>[]
 | .load _ _=>KJ st.aF (tmpsOf op.operands.toList)
 |_=>NA st.aF st.objs (tmpsOf op.operands.toList)
noncomputable def ym{R:Type}{P:Program}(E:Env P)(dst:Option Nat)(op:Op)(gs:List Nat)(st:State)(k:dL->lj->Option R):Option R:=
 match fH (je (gE st op) st.objs) (qU E (G4 (je (tmpsOf op.operands.toList) st.aF)) (je (gE st op) st.objs) op)with
 |some aZ=>bif fnB dst op then Nw E (G4 (je (tmpsOf op.operands.toList) st.aF)) aZ st.nxt dst op (λe=>
   (λe'=>k e' {dst:=dst,ts:=tmpsOf op.operands.toList++gs,os:=bif Et op then[]else gE st op,e:=e',ls:=bif Et op then gE st op else[],soft:=O5 (G4 (je (tmpsOf op.operands.toList) st.aF)) op}) (yl aZ (qU E (G4 (je (tmpsOf op.operands.toList) st.aF)) (je (gE st op) st.objs) op) e))else ae
 |none=>ae
structure O6(P:Program)(U:Nat->Prop)(o:Oper)(sl:Nat->Option aD)(ob:Nat->Option (Nat×Th))(n:Nat)(Ga:lj):Prop where
 dst:Ga.dst=o.dst
 run:∃(WZ:Nat->Option aD)(Mz:Nat->Option (Nat×Th)),(∀t d,WZ t=aa d->t∈Ga.ts/\sl t=aa d)/\(∀q x,Mz q=aa x->(q∈Ga.os\/q∈Ga.ls)/\ob q=aa x)/\
  ∀(H:aI)(F:Nat->Prop)(w:World)(ρ:Nat->Value)(HM:Nat->Option (Nat×Th)),(∀q x,Mz q=aa x->∃x',HM q=aa x'/\gQ x x'/\(q∈Ga.os->x'=x))->(∀t d,WZ t=aa d->aC H F w d (ρ t))->aJ U H F w HM n->
   ∃W0:Nat->Option (Nat×Th),(∀q x,W0 q=aa x->HM q=aa x)/\b9 P ρ ⟨o.dst,o.op,o.type,o.pos,o.after,ae⟩ w (lQ H F w W0 n Ga.e)
 soft:∀q∈Ga.soft,q∈Ga.mut->∃x y,ob q=aa x/\find Ga.e.make q=aa y/\gQ x y
def HN{ob JV:Nat->Option (Nat×Th)}{D:aD}{k:J0}(Sg:∀q x,ob q=aa x->∃x',JV q=aa x'/\gQ x x')(h:ur ob D=aa k):∃k',ur JV D=aa k'/\tJ k'=tJ k:=by
 unfold ur at h;split at h
 .cases h;exact⟨_,rfl,rfl⟩
 .cases h;exact⟨_,rfl,rfl⟩
 .rename_i o
  cases ho:ob o with
  |none=>grind
  |some x=>
   obtain⟨s,t⟩:=x;obtain⟨⟨s',t'⟩,h1,h2⟩:=Sg o _ ho;rw[ho]at h
   rcases h2 with e|⟨T,d,l,a,b,e1,e2⟩
   .cases e;exact⟨k,by show(match JV o with|some (s, .own T r l)=>_|some (_, .um _ r l)=>_|some (_, .fdeep _ d l)=>_|some (s, .deep T d l h)=>_|_=>_)=_;grind,rfl⟩
   .simp only at e1 e2;subst e1 e2;cases h;exact⟨.deep o s' T d l b,by show(match JV o with|some (s, .own T r l)=>_|some (_, .um _ r l)=>_|some (_, .fdeep _ d l)=>_|some (s, .deep T d l h)=>_|_=>_)=_;rw[h1],rfl⟩
 .rename_i o s r m
  have hk:tJ k=(m.length:Int):=by
   split at h
   .rename_i s' _ _ _ _
    cases hb:agC s' s<;>rw[hb]at h<;>cases h<;>rfl
   .cases h;rfl
  rw[hk]
  show∃k',(match JV o with|some (s', .um ..)=>bif agC s' s then aa (J0.read r m)else aa (.view o s r m)|_=>aa (.view o s r m))=aa k'/\tJ k'=_
  split
  .rename_i s' _ _ _ _
   cases hb:agC s' s with
   |true=>exact⟨J0.read r m,rfl,rfl⟩
   |false=>exact⟨J0.view o s r m,rfl,rfl⟩
  .exact⟨J0.view o s r m,rfl,rfl⟩
 .cases h
def HO{P:Program}(T:be P){ob JV:Nat->Option (Nat×Th)}{t:TypeId}{D D':aD}(Sg:∀q x,ob q=aa x->∃x',JV q=aa x'/\gQ x x')(h:He T ob t D=aa D'):He T JV t D=aa D':=by
 unfold He at h⊢;split at h
 .split at h
  case h_2=>cases h
  rename_i k hk;obtain⟨k',h1,h2⟩:=HN Sg hk
  grind
 all_goals grind
def HP{P:Program}(T:be P){ob:Nat->Option (Nat×Th)}{n:Nat}{t:TypeId}{o:Nat}{d:DR}{i:Int}{p:List Bool}{off:Nat}{e:dL}(h:o4 T ob n t (.dlm o d i p off) aa=aa e)(hm:o∈e.eat++tT e.make):
 ∃x y,ob o=aa x/\find e.make o=aa y/\gQ x y:=by
 unfold o4 qO at h;simp only at h;split at h
 .cases h
 split at h
 case h_2=>cases h
 rename_i s T0 dr l hh ho;obtain⟨_,h⟩:=aQ h;split at h
 .obtain⟨_,h⟩:=aQ h;obtain⟨_,_,h⟩:=bind_some h;cases h;simp[tT]at hm
 .obtain⟨_,h⟩:=aQ h;split at h
  .obtain⟨_,_,h⟩:=bind_some h;cases h;exact⟨_,(n, .deep T0 dr l _),ho,by rw[aY,aj rfl], .inr ⟨T0,dr,l,ae,_,rfl,rfl⟩⟩
  .obtain⟨_,h⟩:=aQ h;split at h
   .obtain⟨_,_,h⟩:=bind_some h;cases h;simp[tT]at hm
   .cases h
 .cases h
def KL{P:Program}{E:Env P}{U:Nat->Prop}{R:Type}{o:Oper}{gs:List Nat}{st:State}{k:dL->lj->Option R}{q:R}(h:ym E o.dst o.op gs st k=aa q):
 ∃e Ga,k e Ga=aa q/\Ga.e=e/\(∀g∈gs,g∈Ga.ts)/\O6 P U o (find st.aF) (find st.objs) st.nxt Ga:=by
 unfold ym at h;split at h
 case h_2=>cases h
 rename_i aZ xf;obtain⟨AH,h'⟩:=aQ h;clear h;rw[KI]at h';obtain⟨e,he,hk⟩:=bind_some h'
 have Tf:∀t d,find (je (tmpsOf o.op.operands.toList) st.aF) t=aa d->t∈tmpsOf o.op.operands.toList/\find st.aF t=aa d:=λt d ht=>yk.1 ht
 have NB:∀q x,find (je (gE st o.op) st.objs) q=aa x->q∈gE st o.op/\find st.objs q=aa x:=λq x hx=>yk.1 hx
 refine⟨_,_,hk,rfl,λg hg=>by simp[hg],rfl,⟨find (je (tmpsOf o.op.operands.toList) st.aF),find (je (gE st o.op) st.objs),(by grind),λq x hx=>⟨?_,(NB q x hx).2⟩,λH F w ρ HM Sg gN cz=>?_⟩,λq hq hm=>?_⟩
 .grind
 .cases hl:Et o.op with
  |false=>
   simp only[hl,cond_false]at Sg
   have iA:∀q x,find (je (gE st o.op) st.objs) q=aa x->HM q=aa x:=(by grind)
   have uw:aJ U H F w (find (je (gE st o.op) st.objs)) st.nxt:=⟨λo s t ho=>cz.obj o s t (iA _ _ ho),λo o' s s' t t' v v' du ho lI=>cz.apart o o' s s' t t' v v' du (iA _ _ ho) (iA _ _ lI),cz.fresh,cz.lt,cz.new,cz.gl⟩
   refine⟨_,iA,?_⟩;obtain⟨F1,uV,Dx,ME⟩:=nL xf uw
   have gM:Step F w F1 w:=λb hb=>⟨Dx b hb,rfl⟩
   obtain⟨e',sN,hs⟩:=KB (ρ:=ρ) (ty:=o.type) (pos:=o.pos) (aft:=o.after) E (λx d hx=>sF uV.gl (λt d ht=>(gN t d ht).keep (aI.le.refl H) gM) x d hx) (λhn c hc=>by rw[hn,hc]at AH;exact AH) he uV;obtain rfl:=agx sN
   exact hs.mono λv w' hp=>HL xf uV Dx ME hp
  |true=>
   refine⟨HM,λ_ _ h=>h,?_⟩;obtain⟨Qk,W1,oty,W2,W3,ogd⟩:=o;simp only at*
   cases W1<;>try(cases hl;done)
   rename_i c;obtain⟨callee,args,tQ⟩:=c
   cases callee<;>try(cases hl;done)
   rename_i b
   cases b<;>try(cases hl;done)
   cases Qk with
   |none=>cases AH
   |some d=>
    have Hs:qU E (G4 (je (tmpsOf (Op.operands (.call {callee:= .builtin .len,args:=args,argTypes:=tQ})).toList) st.aF)) (je (gE st (.call {callee:= .builtin .len,args:=args,argTypes:=tQ})) st.objs) (.call {callee:= .builtin .len,args:=args,argTypes:=tQ})=[]:=by unfold qU;cases E.deep<;>rfl
    rw[Hs]at xf⊢;obtain rfl:=agx xf;have KM:nO E _ _ st.nxt (.builtin .len) args tQ aa=aa e:=he;unfold nO at KM;simp only at KM;split at KM
    case h_2=>cases KM
    rename_i x t ha ht;obtain rfl:=dE ha;obtain rfl:=dE ht;split at KM
    case h_2=>cases KM
    rename_i D hD;split at KM
    case h_2=>cases KM
    rename_i D' MU;cases KM;have hlen:=HO E.T (λq x hx=>by obtain⟨x',h1,h2,_⟩:=Sg q x hx;exact⟨x',h1,h2⟩) MU;exact FA E.T hlen cz (sF cz.gl gN _ _ hD)
 .obtain⟨Qk,W1,oty,W2,W3,ogd⟩:=o;simp only at*
  cases W1<;>try(cases hq;done)
  rename_i t x;unfold O5 at hq;simp only at hq;split at hq
  case h_2=>cases hq
  rename_i o' d0 i p off gf;obtain rfl:=agZ.1 hq
  have Hs:qU E (G4 (je (tmpsOf (Op.operands (.load t x)).toList) st.aF)) (je (gE st (.load t x)) st.objs) (.load t x)=[]:=by unfold qU;cases E.deep<;>rfl
  rw[Hs]at xf hm⊢;obtain rfl:=agx xf
  cases Qk with
  |none=>cases he
  |some d=>
   unfold Nw at he;simp only[gf]at he
   have Ql:q∈e.eat++tT e.make:=by
    simpa[lj.mut,yl,oJ,del]using hm
   obtain⟨x1,y1,h1,h2,h3⟩:=HP E.T he Ql;refine⟨x1,y1,(NB _ _ h1).2,?_,h3⟩
   show find (e.make++_) q=_
   rw[ir,h2];rfl
end Go.Proofs.YtfeahmiobbjklaaGreatDoor
namespace Go.Proofs.YtfeahmiobbjklaaGreatDoor
open Go Go.RowKit
def xn(acc:List Nat)(i:Nat):List Edge->Option Nat
 |[]=>aa 0
 |e::l=>match xn acc i l with
  |some m=>bif ahO .any e then(bif ag4 e.on i then aa (m|||2 ^ e.on|||acc.getD e.on 0)else ae)else aa m
  |none=>ae
def HQ(acc:List Nat):List Oper->Option (List Nat)
 |[]=>aa acc
 |o::l=>match xn acc acc.length o.after.toList with
  |some m=>HQ (acc++[m]) l
  |none=>ae
def nh(d:Option Nat)(l:List Nat):Bool:=
 match d with
 |some t=>oe t l
 |none=>ag
def BV(l l':List Nat):Bool:=l.any λo=>oe o l'
def lj.Tg(x:lj):List Nat:=x.mut.filter λo=> !oe o x.soft
def conflict(a b:lj):Bool:=
 nh a.dst b.ts||nh b.dst a.ts||nh a.dst (b.dst.toList)||BV a.mut (b.os++b.mut)||BV a.Tg b.ls||BV (a.os++a.ls++a.mut) b.mut
def zK(ms:List Nat)(i:Nat)(x:lj):Nat->List lj->Bool
 |_,[]=>af
 |j,y::l=>(bif conflict x y then Nat.testBit (ms.getD j 0) i else af)&&zK ms i x (j+1) l
def uY(ms:List Nat):Nat->List lj->Bool
 |_,[]=>af
 |i,x::l=>zK ms i x (i+1) l&&uY ms (i+1) l
def tf(ops:List Oper)(es:List lj):Bool:=
 match HQ [] ops with
 |some ms=>uY ms 0 es
 |none=>ag
section
variable {ops:Array Oper}
def Eu(ops:Array Oper)(S:Nat->Prop):Prop:=∀i,S i->∀o,ops[i]? =aa o->∀e∈o.after,ahO .any e=af->S e.on
def zL{acc:List Nat}{i:Nat}:{l:List Edge}->{m:Nat}->xn acc i l=aa m->∀j,m.testBit j=af->∃e∈l,ahO .any e=af/\e.on<i/\(e.on=j\/(acc.getD e.on 0).testBit j=af)
 |[],m,h,j,hj=>by
  obtain rfl:=agx h;simp at hj
 |e::l,m,h,j,hj=>by
  unfold xn at h;split at h
  case h_2=>cases h
  rename_i m0 h0
  cases hb:ahO .any e with
  |false=>
   rw[hb,cond_false]at h;obtain rfl:=agx h;obtain⟨e',a1,a2⟩:=zL h0 j hj
   grind
  |true=>
   rw[hb,cond_true]at h
   cases aH:ag4 e.on i with
   |false=>grind
   |true=>
    rw[aH,cond_true]at h;obtain rfl:=agx h;rw[Nat.testBit_or,Nat.testBit_or,Bool.or_eq_true,Bool.or_eq_true]at hj
    have acf:e.on<i:=by simpa using aH
    rcases hj with(hj|hj)|hj
    .obtain⟨e',a1,a2⟩:=zL h0 j hj
     grind
    all_goals grind
def Gb{acc:List Nat}{i:Nat}:{l:List Edge}->{m:Nat}->xn acc i l=aa m->∀e∈l,ahO .any e=af->e.on<i
 |[],m,h,e,he,_=>by cases he
 |e0::l,m,h,e,he,hb=>by
  unfold xn at h;split at h
  case h_2=>cases h
  rename_i m0 h0
  rcases agY.1 he with rfl|he
  .rw[hb,cond_true]at h
   cases aH:ag4 e.on i<;>simp_all
  .exact Gb h0 e he hb
def zM:{l:List Oper}->{acc ms:List Nat}->HQ acc l=aa ms->ms.length=acc.length+l.length/\(∀i,i<acc.length->ms.getD i 0=acc.getD i 0)/\
 ∀k o,l[k]? =aa o->∃m,xn ms (acc.length+k) o.after.toList=aa m/\ms.getD (acc.length+k) 0=m
 |[],acc,ms,h=>by
  obtain rfl:=agx h
  grind
 |o0::l,acc,ms,h=>by
  unfold HQ at h;split at h
  case h_2=>cases h
  rename_i m hm;obtain⟨a1,a2,a3⟩:=zM h;rw[List.length_append,List.length_singleton]at a1 a2 a3
  have W4:∀i,i<acc.length->ms.getD i 0=acc.getD i 0:=(by grind)
  have acg:∀(l:List Edge)(m:Nat),xn acc acc.length l=aa m->xn ms acc.length l=aa m:=by
   intro l
   induction l with
   |nil=>intro m h;exact h
   |cons e l ih=>
    intro m h;unfold xn at h⊢;split at h
    case h_2=>cases h
    rename_i m0 h0;rw[ih m0 h0];simp only
    cases hb:ahO .any e with
    |false=>grind
    |true=>
     rw[hb,cond_true]at h
     cases aH:ag4 e.on acc.length<;>simp_all
  grind
theorem KN{ms:List Nat}(h:HQ [] ops.toList=aa ms){S:Nat->Prop}(hS:Eu ops S):∀i o,ops[i]? =aa o->(∀e∈o.after,ahO .any e=af->S e.on)->∀j,(ms.getD i 0).testBit j=af->S j:=by
 obtain⟨_,_,a3⟩:=zM h;intro i
 induction i using Nat.strongRecOn with
 |_ i ih=>
  intro o ho hd j hj;obtain⟨m,h1,h2⟩:=a3 i o (by rw[Array.getElem?_toList];exact ho);simp only[List.length_nil,ag8]at h1 h2;rw[h2]at hj;obtain⟨e,he,hb,aH,h3⟩:=zL h1 j hj;have hSe:=hd e (by simpa using he) hb
  rcases h3 with rfl|h3
  .exact hSe
  .have Qm:e.on<ops.size:=by
    have:=(ag6.1 ho).1;omega
   exact ih e.on aH _ (agQ Qm) (λe' sN sC=>hS e.on hSe _ (agQ Qm) e' sN sC) j h3
end
def gh(S:Nat->Bool):Nat->List lj->(Nat->Option aD)->Nat->Option aD
 |_,[],f=>f
 |i,x::l,f=>gh S (i+1) l (λt=>bif S i&&nh (aa t) x.dst.toList then aa x.e.dst else f t)
def fI(S:Nat->Bool):Nat->List lj->(Nat->Option (Nat×Th))->Nat->Option (Nat×Th)
 |_,[],f=>f
 |i,x::l,f=>fI S (i+1) l (λo=>bif S i then(find x.e.make o).or (bif oe o x.e.eat then ae else f o)else f o)
theorem qa{l:List (Nat×(Nat×Th))}{o:Nat}{x:Nat×Th}(h:find l o=aa x):o∈tT l:=by
 induction l with
 |nil=>cases h
 |cons p l ih=>
  obtain⟨o',y⟩:=p;rw[aY]at h;split at h
  .rename_i e;subst e;exact List.mem_cons_self
  .exact List.mem_cons_of_mem _ (ih h)
theorem uZ{d:Option Nat}{t:Nat}:nh (aa t) d.toList=af↔d=aa t:=by
 grind [nh,fy]
theorem lz{S S':Nat->Bool}{t:Nat}:{l:List lj}->{i:Nat}->{f f':Nat->Option aD}->f t=f' t->(∀k x,l[k]? =aa x->x.dst=aa t->S (i+k)=S' (i+k))->gh S i l f t=gh S' i l f' t
 |[],_,_,_,hf,_=>hf
 |x::l,i,f,f',hf,h=>by
  show gh S (i+1) l _ t=gh S' (i+1) l _ t
  refine lz ?_ λk y hy hd=>by
   have:=h (k+1) y (by simpa using hy) hd
   grind
  by_cases hd:x.dst=aa t
  .have:=h 0 x rfl hd
   grind
  grind [uZ]
theorem k6{S S':Nat->Bool}{o:Nat}:{l:List lj}->{i:Nat}->{f f':Nat->Option (Nat×Th)}->f o=f' o->(∀k x,l[k]? =aa x->o∈x.mut->S (i+k)=S' (i+k))->fI S i l f o=fI S' i l f' o
 |[],_,_,_,hf,_=>hf
 |x::l,i,f,f',hf,h=>by
  show fI S (i+1) l _ o=fI S' (i+1) l _ o
  refine k6 ?_ λk y hy hd=>by
   have:=h (k+1) y (by simpa using hy) hd
   grind
  by_cases hd:o∈x.mut
  .have:=h 0 x rfl hd
   grind
  .have h1:find x.e.make o=ae:=by
    cases hm:find x.e.make o with
    |none=>rfl
    |some y=>grind [lj.mut,qa]
   have h2:oe o x.e.eat=ag:=by
    cases hb:oe o x.e.eat with
    |false=>rfl
    |true=>grind [lj.mut,fy]
   grind
theorem oh{S:Nat->Bool}{t:Nat}:{l:List lj}->{i:Nat}->{f:Nat->Option aD}->(∀k x,l[k]? =aa x->x.dst=aa t->S (i+k)=ag)->gh S i l f t=f t
 |[],_,_,_=>rfl
 |x::l,i,f,h=>by
  show gh S (i+1) l _ t=_
  rw[oh λk y hy hd=>by
   have:=h (k+1) y (by simpa using hy) hd
   grind]
  by_cases hd:x.dst=aa t
  .have:=h 0 x rfl hd
   grind
  grind [uZ]
def nQ{S:Nat->Bool}{o:Nat}:{l:List lj}->{i:Nat}->{f:Nat->Option (Nat×Th)}->(∀k x,l[k]? =aa x->o∈x.mut->S (i+k)=ag)->fI S i l f o=f o
 |[],_,_,_=>rfl
 |x::l,i,f,h=>by
  show fI S (i+1) l _ o=_
  rw[nQ λk y hy hd=>by
   have:=h (k+1) y (by simpa using hy) hd
   grind]
  by_cases hd:o∈x.mut
  .have:=h 0 x rfl hd
   grind
  .have h1:find x.e.make o=ae:=by
    cases hm:find x.e.make o with
    |none=>rfl
    |some y=>grind [lj.mut,qa]
   have h2:oe o x.e.eat=ag:=by
    cases hb:oe o x.e.eat with
    |false=>rfl
    |true=>grind [lj.mut,fy]
   grind
def oi{S:Nat->Bool}{l l':List lj}{i:Nat}{f:Nat->Option aD}:gh S i (l++l') f=gh S (i+l.length) l' (gh S i l f):=by
 induction l generalizing i f with
 |nil=>rfl
 |cons x l ih=>
  grind [gh]
def jX{S:Nat->Bool}{l l':List lj}{i:Nat}{f:Nat->Option (Nat×Th)}:fI S i (l++l') f=fI S (i+l.length) l' (fI S i l f):=by
 induction l generalizing i f with
 |nil=>rfl
 |cons x l ih=>
  grind [fI]
end Go.Proofs.YtfeahmiobbjklaaGreatDoor
end
section
open _root_.Bool renaming false->ag,true->af,false_eq_true->agK
open _root_.Option renaming none->ae,some->aa
open _root_.Array renaming getD_eq_getD_getElem?->ag2,getElem?_eq_getElem->agQ,getElem?_eq_some_iff->ag6
open _root_.List renaming drop_eq_getElem_cons->agJ,getElem?_drop->ag3,getElem?_eq_getElem->agz,getElem?_eq_some_iff->agL,getElem_of_mem->agS,mem_filter->ahi,range->agG,take_append_drop->ahH
open _root_.Nat renaming beq->agC,blt->ag4,le_refl->agB,zero_add->ag8
open _root_.Option.some renaming inj->agx
open _root_.Go.Region renaming binds->ahO,wanted->ahI
namespace Go.Proofs.YtfeahmiobbjklaaGreatDoor
open Go Go.RowKit
def v8{ms:List Nat}{i:Nat}{x:lj}:{l:List lj}->{j:Nat}->zK ms i x j l=af->∀k y,l[k]? =aa y->conflict x y=af->(ms.getD (j+k) 0).testBit i=af
 |[],_,_,k,y,h,_=>by simp at h
 |z::l,j,hl,k,y,h,hc=>by
  obtain⟨h1,h2⟩:=cx hl
  cases k with
  |zero=>
   grind
  |succ k=>
   have:=v8 h2 k y (by simpa using h) hc
   grind
def qV{ms:List Nat}:{l:List lj}->{i:Nat}->uY ms i l=af->∀a b x y,a<b->l[a]? =aa x->l[b]? =aa y->conflict x y=af->(ms.getD (i+b) 0).testBit (i+a)=af
 |[],_,_,a,b,x,y,_,h,_,_=>by simp at h
 |z::l,i,hl,a,b,x,y,R3,hx,hy,hc=>by
  obtain⟨h1,h2⟩:=cx hl
  cases a with
  |zero=>
   obtain rfl:z=x:=by simpa using hx
   cases b with
   |zero=>omega
   |succ b=>
    have:=v8 h1 b y (by simpa using hy) hc
    grind
  |succ a=>
   cases b with
   |zero=>omega
   |succ b=>
    have:=qV h2 a b x y (by omega) (by simpa using hx) (by simpa using hy) hc
    grind
inductive Qn(ops:Array Oper)(nt:Nat)(ts:List Nat)(sl:Nat->Option aD):Option (Nat×Bool)->Bool->Prop
 |none:Qn ops nt ts sl ae af
 |lit {j g:Nat} {b t:Bool} {d:aD} (h1:F9 ops j=aa g) (h2:ag4 g nt=af) (h3:g∈ts) (h4:sl g=aa d) (h5:asBool d=aa t):Qn ops nt ts sl (aa (j,b)) (decide (t=b))
 |undef {j g:Nat} {b:Bool} (h1:F9 ops j=aa g) (h2:ag4 g nt=af) (h3:g∈ts) (h4:sl g=aa .undef):Qn ops nt ts sl (aa (j,b)) ag
structure Qo(P:Program)(ops:Array Oper)(nt:Nat)(U:Nat->Prop)(o:Oper)(sl:Nat->Option aD)(ob:Nat->Option (Nat×Th))(n:Nat)(x:lj):Prop where
 dst:x.dst=o.dst
 HR:BH nt o.dst=af
 on:∃b,Qn ops nt x.ts sl o.guard b/\(b=af->O6 P U o sl ob n x)/\(b=ag->x.e={dst:= .undef})
section
variable {P:Program} {nt:Nat} {ops:Array Oper}
def NC{ρ:Nat->Value}{o:Oper}{w:World}{QQ:Value->World->Prop}{a:Act}{K:Act->World->Prop}{Q:Exit->Act->World->Prop}(h:b9 P ρ ⟨o.dst,o.op,o.type,o.pos,o.after,ae⟩ w QQ)(hf:Fr nt a ρ)
 (hk:∀v w',QQ v w'->K (a.put o.dst v) w'):o.wp P a w K Q:=by
 unfold Oper.wp;rw[hf.eval];unfold b9 at h;have e:execOp (ev ρ) o=execOp (ev ρ) ⟨o.dst,o.op,o.type,o.pos,o.after,ae⟩:=rfl;rw[e];generalize(execOp (ev ρ) ⟨o.dst,o.op,o.type,o.pos,o.after,ae⟩).run P w=r at*
 cases r with
 |halt x w'=>exact h.elim
 |ok x w'=>
  cases x<;>first
   |exact h.elim
   |skip
  case value v=>exact hk v w' h.2
  case skip=>exact hk undef w' h.2
  case enter f args=>
   refine h.mono λe wY ⟨v,he,hv⟩=>?_
   grind
def aJ.sub{U:Nat->Prop}{H:aI}{F:Nat->Prop}{w:World}{ob Mz:Nat->Option (Nat×Th)}{n m:Nat}(h:aJ U H F w ob n)(hR:∀o x,Mz o=aa x->ob o=aa x)(yY:∀k,m<=k->k<m+16->H.val k=ae/\H.con k=ae):aJ U H F w Mz m:=
 ⟨λo s t ho=>h.obj o s t (hR _ _ ho),λo o' s s' t t' v v' du ho lI=>h.apart o o' s s' t t' v v' du (hR _ _ ho) (hR _ _ lI),yY,h.lt,h.new,h.gl⟩
structure Inv(G:Nat->Prop)(w0:World)(F0:Nat->Prop)(es:List lj)(sl0:Nat->Option aD)(ob0:Nat->Option (Nat×Th))(n0:Nat)(H:aI)(F:Nat->Prop)(w:World)(ρ:Nat->Value)(S:Nat->Bool)(H':aI)(F':Nat->Prop)(w':World)(cN:Nat->Value):Prop where
 slot:∀t d,gh S 0 es sl0 t=aa d->aC H' F' w' d (cN t)
 ob:aJ (UU G w0) H' F' w' (fI S 0 es ob0) (n0+16*es.length)
 all:iz H' (n0+16*es.length)
 fresh:∀i,i<es.length->S i=ag->∀m,n0+16*i<=m->m<n0+16*i+16->H'.val m=ae/\H'.con m=ae
 glob:Kl G w0 F0 w' F'
 keeps:cu H F w H' F' w'
 same:∀t,(∀x∈es,x.dst≠aa t)->cN t=ρ t
def ins(S:Nat->Bool)(i:Nat):Nat->Bool:=λj=>bif agC j i then af else S j
theorem pb{S:Nat->Bool}{i:Nat}:ins S i i=af:=by simp[ins]
theorem pc{S:Nat->Bool}{i j:Nat}(h:j≠i):ins S i j=S j:=by
 grind [ins,beq_true]
section
variable {G:Nat->Prop} {w0:World} {F0:Nat->Prop} {es:List lj} {sl0:Nat->Option aD} {ob0:Nat->Option (Nat×Th)} {n0:Nat} {H:aI} {F:Nat->Prop} {w:World} {ρ:Nat->Value} {ms:List Nat}
def BW{i:Nat}{x:lj}(h:es[i]? =aa x):es=es.take i++x::es.drop (i+1)/\(es.take i).length=i:=by
 grind [agJ,ahH]
def yo{S:Nat->Bool}{i:Nat}{x:lj}(hx:es[i]? =aa x)(Ti:∀t,x.dst=aa t->∀j y,es[j]? =aa y->y.dst=aa t->S j=af->j<i)(t:Nat):
 gh (ins S i) 0 es sl0 t=if x.dst=aa t then aa x.e.dst else gh S 0 es sl0 t:=by
 by_cases hd:x.dst=aa t
 .rw[aj hd];obtain⟨e1,e2⟩:=BW hx;rw[e1,oi,e2,ag8]
  show gh (ins S i) (i+1) (es.drop (i+1)) _ t=_
  grind [oh,pc,pb,uZ]
 grind [lz,pc]
def BX{S:Nat->Bool}{i:Nat}{x:lj}(hx:es[i]? =aa x)(hS:S i=ag)(Ti:∀o,o∈x.mut->∀j y,es[j]? =aa y->o∈y.mut->S j=af->j<i)(o s:Nat)(t:Th)(h:fI (ins S i) 0 es ob0 o=aa (s,t)):
 find x.e.make o=aa (s,t)\/(o∉x.e.eat/\fI S 0 es ob0 o=aa (s,t)/\find x.e.make o=ae):=by
 by_cases hd:o∈x.mut
 .obtain⟨e1,e2⟩:=BW hx
  have late:∀S':Nat->Bool,(∀j,j≠i->S' j=S j)->∀f,fI S' (i+1) (es.drop (i+1)) f o=f o:=λS' hS' f=>nQ (by grind)
  have pre:fI (ins S i) 0 (es.take i) ob0 o=fI S 0 (es.take i) ob0 o:=k6 rfl λk y hy _=>by
   grind [pc]
  have all:fI S 0 es ob0 o=fI S 0 (es.take i) ob0 o:=by
   conv=>lhs;rw[e1]
   rw[jX,e2,ag8]
   show fI S (i+1) (es.drop (i+1)) _ o=_
   rw[late S (λ_ _=>rfl),hS];rfl
  conv at h=>lhs;rw[e1]
  rw[jX,e2,ag8]at h;change fI (ins S i) (i+1) (es.drop (i+1)) _ o=_ at h;rw[late (ins S i) (λj hj=>pc hj),pb,cond_true,pre,<-all]at h
  cases hm:find x.e.make o with
  |some y=>grind
  |none=>
   rw[hm,Option.none_or]at h
   cases he:oe o x.e.eat with
   |true=>grind
   |false=>
    grind [fy]
 .right
  have h1:find x.e.make o=ae:=by
   cases hm:find x.e.make o with
   |none=>rfl
   |some y=>grind [lj.mut,qa]
  grind [lj.mut,k6,pc]
theorem nR{l l':List Nat}{o:Nat}(h:o∈l)(h':o∈l'):BV l l'=af:=by
 grind [BV,fy]
theorem wa{i j:Nat}(h:i<=j):ag4 j i=ag:=by
 cases hb:ag4 j i with
 |false=>rfl
 |true=>have:j<i:=by simpa using hb
        omega
def HS(_:Nat):Bool:=af
def Ev{es:List lj}{i:Nat}(hi:i<=es.length):gh (λj=>ag4 j i) 0 es sl0=gh HS 0 (es.take i) sl0:=by
 funext t
 conv=>lhs;rw[<-ahH i es]
 rw[oi,oh (S:=λj=>ag4 j i) λk x _ _=>wa (by simp;omega)]
 refine lz rfl λk x hx _=>?_
 have:=(agL.1 hx).1;simp at this;simp[HS];omega
def yp{es:List lj}{i:Nat}(hi:i<=es.length):fI (λj=>ag4 j i) 0 es ob0=fI HS 0 (es.take i) ob0:=by
 funext t
 conv=>lhs;rw[<-ahH i es]
 rw[jX,nQ (S:=λj=>ag4 j i) λk x _ _=>wa (by simp;omega)]
 refine k6 rfl λk x hx _=>?_
 have:=(agL.1 hx).1;simp at this;simp[HS];omega
def HT{S:Nat->Bool}{i q:Nat}(hA:∀k y,k<i->es[k]? =aa y->q∈y.mut->S k=af\/q∈y.soft)
 (hs:∀k y,es[k]? =aa y->q∈y.soft->q∈y.mut->∃z z',fI HS 0 (es.take k) ob0 q=aa z/\find y.e.make q=aa z'/\gQ z z'):
 ∀m,m<=i->m<=es.length->∀z,fI HS 0 (es.take m) ob0 q=aa z->∃z',fI S 0 (es.take m) ob0 q=aa z'/\gQ z z':=by
 intro m
 induction m with
 |zero=>intro _ _ z hz;exact⟨z,hz, .inl rfl⟩
 |succ m ih=>
  intro hm hl z hz
  have aH:m<es.length:=by omega
  have hy:es[m]? =aa es[m]:=agz aH
  have e1:es.take (m+1)=es.take m++[es[m]]:=by rw[List.take_add_one,hy];rfl
  have el:(es.take m).length=m:=by simp;omega
  rw[e1,jX,el,ag8]at hz⊢;generalize hgy:es[m]=y at*;have ez:(find y.e.make q).or (bif oe q y.e.eat then ae else fI HS 0 (es.take m) ob0 q)=aa z:=hz
  show∃z',(bif S m then(find y.e.make q).or (bif oe q y.e.eat then ae else fI S 0 (es.take m) ob0 q)else fI S 0 (es.take m) ob0 q)=aa z'/\gQ z z'
  by_cases Tj:q∈y.mut
  .cases hSm:S m with
   |true=>
    rw[cond_true]
    cases ND:find y.e.make q with
    |some x=>rw[ND]at ez;exact⟨z,ez, .inl rfl⟩
    |none=>
     grind
   |false=>
    rw[cond_false]
    rcases hA m y (by omega) hy Tj with h|h
    .grind
    .obtain⟨x,x',h1,h2,h3⟩:=hs m y hy h Tj;rw[h2]at ez;obtain rfl:=agx ez;obtain⟨z',h4,h5⟩:=ih (by omega) (by omega) x h1;exact⟨z',h4,h3.symm.trans h5⟩
  .have h1:find y.e.make q=ae:=by
    cases hm:find y.e.make q with
    |none=>rfl
    |some y=>grind [lj.mut,qa]
   grind
def wb(NE:HQ [] ops.toList=aa ms)(hp:uY ms 0 es=af)(hlen:es.length=ops.size){S:Nat->Bool}(hS:Eu ops (λj=>S j=af)){i:Nat}{o:Oper}{x:lj}(ho:ops[i]? =aa o)(hx:es[i]? =aa x)(Qp:S i=ag)
 (O7:∀e∈o.after,ahO .any e=af->S e.on=af)(O8:∀k y,es[k]? =aa y->∀q,q∈y.soft->q∈y.mut->∃z z',fI HS 0 (es.take k) ob0 q=aa z/\find y.e.make q=aa z'/\gQ z z')(sz:Qo P ops nt (UU G w0) o (gh (λj=>ag4 j i) 0 es sl0) (fI (λj=>ag4 j i) 0 es ob0) (n0+16*i) x)
 {H':aI}{F':Nat->Prop}{w':World}{cN:Nat->Value}{a:Act}(hf:Fr nt a cN)(hinv:Inv G w0 F0 es sl0 ob0 n0 H F w ρ S H' F' w' cN){K:Act->World->Prop}{Q:Exit->Act->World->Prop}
 (hk:∀Tl tg uo D7 wY,Fr nt Tl tg->Inv G w0 F0 es sl0 ob0 n0 H F w ρ (ins S i) uo D7 wY tg->K Tl wY):wpOp P ops Q i K a w':=by
 have HU:i<es.length:=(agL.1 hx).1
 have up:∀j y,es[j]? =aa y->j<i->conflict y x=af->S j=af:=λj y hy hji hc=>by
  have:=qV hp j i y x hji hy hx hc
  grind [KN]
 have down:∀j y,es[j]? =aa y->i<j->conflict x y=af->S j=af->False:=λj y hy SH hc hj=>by
  have:=qV hp i j x y SH hx hy hc;rw[ag8,ag8]at this
  have Eh:j<ops.size:=by have:=(agL.1 hy).1;omega
  have h2:=KN NE hS j _ (agQ Eh) (λe he hb=>hS j hj _ (agQ Eh) e he hb) i this
  grind
 have Pa:∀t,x.dst=aa t->∀j y,es[j]? =aa y->y.dst=aa t->S j=af->j<i:=λt ht j y hy hyt hj=>by
  grind [conflict,nh,fy]
 have Pb:∀q,q∈x.mut->∀j y,es[j]? =aa y->q∈y.mut->S j=af->j<i:=λq hq j y hy Si hj=>by
  grind [conflict,nR]
 have Qq:∀t,t∈x.ts->gh (λj=>ag4 j i) 0 es sl0 t=gh S 0 es sl0 t:=λt ht=>lz rfl λj y hy hyt=>by
  rw[ag8]
  rcases Nat.lt_trichotomy j i with h|h|h
  .rw[up j y hy h (by grind [conflict,nh,fy])];simpa using h
  all_goals grind [wa,conflict,nh,fy]
 have aci:∀q,q∈x.os->fI (λj=>ag4 j i) 0 es ob0 q=fI S 0 es ob0 q:=λq hq=>k6 rfl λj y hy Si=>by
  rw[ag8]
  rcases Nat.lt_trichotomy j i with h|h|h
  .rw[up j y hy h (by grind [conflict,nR])];simpa using h
  .grind [wa]
  .have:S j=ag:=by
    cases hj:S j with
    |false=>rfl
    |true=>exact(down j y hy h (by unfold conflict;rw[nR (l:=x.os++x.ls++x.mut) (l':=y.mut) (by simp[hq]) Si];simp) hj).elim
   rw[this];exact wa (by omega)
 have acj:∀q z,q∈x.ls->fI (λj=>ag4 j i) 0 es ob0 q=aa z->∃z',fI S 0 es ob0 q=aa z'/\gQ z z':=λq z hq hz=>by
  rw[yp (by omega)]at hz
  obtain⟨z',h1,h2⟩:=HT (S:=S) (i:=i) (q:=q) (λk y hk hy Si=>by
   by_cases hsf:q∈y.soft
   .exact .inr hsf
   .refine .inl (up k y hy hk ?_)
    have:q∈y.Tg:=ahi.2 ⟨Si,by
     cases hb:oe q y.soft with
     |false=>rfl
     |true=>exact absurd (fy.1 hb) hsf⟩
    unfold conflict;rw[nR this hq]
    simp) (by grind) i (agB _) (by omega) z hz
  refine⟨z',?_,h2⟩;rw[<-h1]
  conv=>lhs;rw[<-ahH i es]
  rw[jX]
  refine nQ λk y hy Si=>?_
  have hy':es[i+k]? =aa y:=by rw[<-hy,ag3]
  have el:(es.take i).length=i:=by simp;omega
  rw[el,ag8]
  cases hSk:S (i+k)with
  |false=>rfl
  |true=>
   rcases Nat.eq_zero_or_pos k with rfl|hk
   .grind
   .exact(down (i+k) y hy' (by omega) (by unfold conflict;rw[nR (l:=x.os++x.ls++x.mut) (l':=y.mut) (by simp[hq]) Si];simp) hSk).elim
 obtain⟨b,hg,W6,M1⟩:=sz.on
 have Tm:ahI o (yielded ops a.tmps)=b:=by
  generalize hog:o.guard=gd at hg
  cases hg with
  |none=>unfold ahI;rw[hog]
  |lit h1 h2 h3 h4 h5=>
   rename_i j g b' t d;rw[Qq g h3]at h4;have hy:=nY hf h1 h2 (nB h5 (hinv.slot g _ h4));unfold ahI
   grind
  |undef h1 h2 h3 h4=>
   rename_i j g b';rw[Qq g h3]at h4;have hy:=mZ hf h1 h2 (show cN g=undef from hinv.slot g _ h4);unfold ahI
   grind
 have sE:∀v,Fr nt (a.put o.dst v) (uq cN o.dst v):=λv=>by
  have hb:=sz.HR
  cases hd:o.dst with
  |none=>exact hf
  |some d=>rw[hd]at hb;exact hf.put hb v
 have KO:∀t,x.dst=aa t↔o.dst=aa t:=λt=>by rw[sz.dst]
 unfold wpOp;simp only[ho,Tm]
 cases b with
 |false=>
  simp only[agK,if_false];have he:=M1 rfl;refine hk _ (uq cN o.dst undef) H' F' w' (sE undef) ⟨λt d ht=>?_,?_,hinv.all,λk hk HV=>?_,hinv.glob,hinv.keeps,λt ht=>?_⟩
  .rw[yo hx Pa]at ht;split at ht
   .rename_i Qr;obtain rfl:=agx ht;rw[he]
    show uq cN o.dst undef t=undef
    rw[(KO t).1 Qr]
    show Dg cN t undef t=undef
    rw[oa,aj rfl]
   .rename_i Qr;rw[p9 (λe=>Qr ((KO t).2 e))];exact hinv.slot t d ht
  .refine hinv.ob.sub (λq y hq=>?_) (λm hm _=>hinv.all m hm)
   rcases BX hx Qp Pb q y.1 y.2 hq with h1|⟨_,h2,_⟩
   .rw[he]at h1;cases h1
   .exact h2
  .by_cases e:k=i
   .grind [pb]
   .rw[pc e]at HV;exact hinv.fresh k hk HV
  .rw[p9 (by grind)];exact hinv.same t ht
 |true=>
  simp only[if_true]
  left
  obtain⟨_,⟨WZ,Mz,Tf,NB,bz⟩,_⟩:=W6 rfl
  obtain⟨W0,iA,bz⟩:=bz H' F' w' cN (fI S 0 es ob0) (λq y hq=>by
   obtain⟨h1,h2⟩:=NB q y hq;by_cases hos:q∈x.os
   .exact⟨y,by grind, .inl rfl,λ_=>rfl⟩
   grind) (λt d ht=>by
   obtain⟨h1,h2⟩:=Tf t d ht;rw[Qq t h1]at h2
   exact hinv.slot t d h2) (hinv.ob.sub (λ_ _ h=>h) (hinv.fresh i HU Qp))
  have BE:=hinv.ob.sub iA (hinv.fresh i HU Qp)
  refine NC bz hf λv wY ⟨uo,D7,tR⟩=>?_
  .have dJ:=tR.lc.step BE.lt BE.eQ
   have fh:iz uo (n0+16*es.length):=λm hm=>by
    have h1:=hinv.all m hm;have h2:=tR.fresh m (.inr (by omega))
    grind
   refine hk _ (uq cN o.dst v) uo D7 wY (sE v) ⟨λt d ht=>?_,?_,fh,λk hk HV m hm1 W7=>?_,hinv.glob.lc tR.lc BE.fR,hinv.keeps.trans ⟨tR.lc.gm,dJ⟩,λt ht=>?_⟩
   .rw[yo hx Pa]at ht;split at ht
    .rename_i Qr;obtain rfl:=agx ht;rw[(KO t).1 Qr]
     show aC uo D7 wY _ (Dg cN t v t)
     grind [oa,kY.dst]
    .rename_i Qr;rw[p9 (λe=>Qr ((KO t).2 e))];exact(hinv.slot t d ht).keep tR.lc.gm dJ
   .exact hinv.ob.JU iA tR (λq s t hq=>BX hx Qp Pb q s t hq) λm hm _=>fh m hm
   .by_cases e:k=i
    .grind [pb]
    .rw[pc e]at HV;have h1:=hinv.fresh k hk HV m hm1 W7;have h2:=tR.fresh m (by omega)
     grind
   .rw[p9 (by grind)];exact hinv.same t ht
end
end
end Go.Proofs.YtfeahmiobbjklaaGreatDoor
namespace Go.Proofs.YtfeahmiobbjklaaGreatDoor
open Go Go.RowKit
def th(dst:Option Nat)(g:Nat):lj:={dst:=dst,ts:=[g],os:=[],e:={dst:= .undef}}
noncomputable def mM{R:Type}{P:Program}(E:Env P)(nt:Nat)(ops:Array Oper):List Oper->State->List lj->(State->Option R)->Option R
 |[],st,acc,k=>bif tf ops.toList acc then k st else ae
 |o::os,st,acc,k=>bif BH nt o.dst then(match o.guard with
  |none=>ym E o.dst o.op [] st (λe x=>mM E nt ops os (st.apply o.dst e) (acc++[x]) k)
  |some (j,b)=>match F9 ops j with
   |none=>ae
   |some g=>bif ag4 g nt then(match find st.aF g with
    |some .undef=>mM E nt ops os (st.apply o.dst {dst:= .undef}) (acc++[th o.dst g]) k
    |some d=>match asBool d with
     |some t=>if t=af then
       (bif b then ym E o.dst o.op [g] (st.put (aa g) (dK af)) (λe x=>mM E nt ops os ((st.put (aa g) (dK af)).apply o.dst e) (acc++[x]) k)
         else mM E nt ops os ((st.put (aa g) (dK af)).apply o.dst {dst:= .undef}) (acc++[th o.dst g]) k)
      else
       (bif b then mM E nt ops os ((st.put (aa g) (dK ag)).apply o.dst {dst:= .undef}) (acc++[th o.dst g]) k
         else ym E o.dst o.op [g] (st.put (aa g) (dK ag)) (λe x=>mM E nt ops os ((st.put (aa g) (dK ag)).apply o.dst e) (acc++[x]) k))
     |none=>ae
    |none=>ae)else ae)else ae
section
variable {P:Program} {nt:Nat} {ops:Array Oper} {R:Type}
variable {G:Nat->Prop} {w0:World} {F0:Nat->Prop} {sl0:Nat->Option aD} {ob0:Nat->Option (Nat×Th)} {n0:Nat}
structure Lex(P:Program)(nt:Nat)(ops:Array Oper)(U:Nat->Prop)(sl0:Nat->Option aD)(ob0:Nat->Option (Nat×Th))(n0:Nat)(es:List lj)(st:State):Prop where
 slot:∀t,find st.aF t=gh HS 0 es sl0 t
 ob:∀o,find st.objs o=fI HS 0 es ob0 o
 nxt:st.nxt=n0+16*es.length
 ok:∀i o x,ops[i]? =aa o->es[i]? =aa x->Qo P ops nt U o (gh HS 0 (es.take i) sl0) (fI HS 0 (es.take i) ob0) (n0+16*i) x
def Ew{S:Nat->Bool}{es:List lj}{x:lj}{f:Nat->Option aD}{t:Nat}(h:S es.length=af):gh S 0 (es++[x]) f t=if x.dst=aa t then aa x.e.dst else gh S 0 es f t:=by
 rw[oi,ag8]
 show(bif S es.length&&nh (aa t) x.dst.toList then aa x.e.dst else gh S 0 es f t)=_
 rw[h,Bool.true_and];by_cases hd:x.dst=aa t
 all_goals grind [uZ]
def HW{S:Nat->Bool}{es:List lj}{x:lj}{f:Nat->Option (Nat×Th)}{o:Nat}(h:S es.length=af):fI S 0 (es++[x]) f o=(find x.e.make o).or (bif oe o x.e.eat then ae else fI S 0 es f o):=by
 rw[jX,ag8]
 show(bif S es.length then _ else _)=_
 rw[h];rfl
def tj{st:State}{dst:Option Nat}{e:dL}{t:Nat}:find (st.apply dst e).aF t=if dst=aa t then aa e.dst else find st.aF t:=by
 cases dst with
 |none=>simp[State.apply]
 |some d=>
  show find ((d,e.dst)::st.aF) t=_
  grind [aY]
def uy{st:State}{dst:Option Nat}{e:dL}{o:Nat}:find (st.apply dst e).objs o=(find e.make o).or (bif oe o e.eat then ae else find st.objs o):=by
 show find (e.make++del e.eat st.objs) o=_
 rw[ir]
 congr 1
 cases hb:oe o e.eat with
 |true=>
  rw[cond_true]
  cases h:find (del e.eat st.objs) o with
  |none=>rfl
  |some x=>grind [fy,iu]
 |false=>
  rw[cond_false]
  have hn:o∉e.eat:=λh=>by rw[fy.2 h]at hb;cases hb
  cases h:find st.objs o with
  |some x=>exact iu.2 ⟨hn,h⟩
  |none=>
   cases h2:find (del e.eat st.objs) o with
   |none=>rfl
   |some x=>rw[(iu.1 h2).2]at h;cases h
def Lex.snoc{U:Nat->Prop}{es:List lj}{st:State}{x:lj}{o:Oper}(h:Lex P nt ops U sl0 ob0 n0 es st)(ho:ops[es.length]? =aa o)(hd:x.dst=o.dst)
 (mG:Qo P ops nt U o (find st.aF) (find st.objs) st.nxt x):Lex P nt ops U sl0 ob0 n0 (es++[x]) (st.apply o.dst x.e):=by
 refine⟨λt=>?_,λq=>?_,?_,λi o' y lI hy=>?_⟩
 .rw[tj,Ew rfl,hd,h.slot t]
 .rw[uy,HW rfl,h.ob q]
 .show st.nxt+16=_
  grind [Lex.nxt]
 .rcases Nat.lt_or_ge i es.length with aH|hge
  .rw[List.getElem?_append_left aH]at hy;rw[List.take_append_of_le_length (by omega)];exact h.ok i o' y lI hy
  .have hi:i=es.length:=by
    have:=(agL.1 hy).1;simp at this;omega
   subst hi;simp at hy;subst hy;rw[ho]at lI;obtain rfl:=agx lI;rw[List.take_left']
   .rw[<-funext h.slot,<-funext h.ob,<-h.nxt];exact mG
   .rfl
def Lex.put{U:Nat->Prop}{es:List lj}{st:State}{g:Nat}{d:aD}(h:Lex P nt ops U sl0 ob0 n0 es st)(hg:find st.aF g=aa d):Lex P nt ops U sl0 ob0 n0 es (st.put (aa g) d):=by
 refine⟨λt=>?_,h.ob,h.nxt,h.ok⟩
 show find ((g,d)::st.aF) t=_
 rw[aY,<-h.slot t]
 grind
def HX{d:aD}{t:Bool}(h:asBool d=aa t):d=dK t:=by
 unfold asBool at h
 grind
def BY{E:Env P}{q:R}{k:State->Option R}:{l:List Oper}->{st:State}->{es:List lj}->mM E nt ops l st es k=aa q->(∀j,l[j]? =ops[es.length+j]?)->Lex P nt ops (UU G w0) sl0 ob0 n0 es st->
 ∃lP cO,k cO=aa q/\tf ops.toList lP=af/\Lex P nt ops (UU G w0) sl0 ob0 n0 lP cO/\lP.length=es.length+l.length
 |[],st,es,h,_,hl=>by
  unfold mM at h
  grind
 |o::l,st,es,h,oW,hl=>by
  have ho:ops[es.length]? =aa o:=by simpa using(oW 0).symm
  have Tn:∀x:lj,∀j,l[j]? =ops[(es++[x]).length+j]? :=λx j=>by
   have:=oW (j+1)
   grind
  have go:∀{st1:State}{x:lj},mM E nt ops l st1 (es++[x]) k=aa q->Lex P nt ops (UU G w0) sl0 ob0 n0 (es++[x]) st1->∃lP cO,k cO=aa q/\tf ops.toList lP=af/\Lex P nt ops (UU G w0) sl0 ob0 n0 lP cO/\lP.length=es.length+(o::l).length:=by
   intro st1 x h1 h2;obtain⟨lP,cO,a1,a2,a3,a4⟩:=BY h1 (Tn x) h2;refine⟨lP,cO,a1,a2,a3,?_⟩;rw[a4,List.length_append,List.length_singleton,List.length_cons];omega
  unfold mM at h;obtain⟨hd,h'⟩:=aQ h;clear h
  have on:∀{st1:State}{gs:List Nat},ym E o.dst o.op gs st1 (λe x=>mM E nt ops l (st1.apply o.dst e) (es++[x]) k)=aa q->Lex P nt ops (UU G w0) sl0 ob0 n0 es st1->(∀ts:List Nat,(∀g∈gs,g∈ts)->Qn ops nt ts (find st1.aF) o.guard af)->∃lP cO,k cO=aa q/\tf ops.toList lP=af/\Lex P nt ops (UU G w0) sl0 ob0 n0 lP cO/\lP.length=es.length+(o::l).length:=by
   intro st1 gs h1 h2 h3;obtain⟨e,x,a1,a2,a3,a4⟩:=KL (U:=UU G w0) h1;subst a2;exact go a1 (h2.snoc ho a4.dst ⟨a4.dst,hd,af,h3 _ a3,λ_=>a4,λh=>by cases h⟩)
  have off:∀{st1:State}{g:Nat},mM E nt ops l (st1.apply o.dst {dst:= .undef}) (es++[th o.dst g]) k=aa q->Lex P nt ops (UU G w0) sl0 ob0 n0 es st1->Qn ops nt [g] (find st1.aF) o.guard ag->∃lP cO,k cO=aa q/\tf ops.toList lP=af/\Lex P nt ops (UU G w0) sl0 ob0 n0 lP cO/\lP.length=es.length+(o::l).length:=by
   intro st1 g h1 h2 h3;exact go (x:=th o.dst g) h1 (h2.snoc (x:=th o.dst g) ho rfl ⟨rfl,hd,ag,h3,λh=>(by cases h),λ_=>rfl⟩)
  split at h'
  .rename_i Qs
   exact on h' hl λts _=>by rw[Qs];exact .none
  .rename_i j b Qs;split at h'
   case h_1=>cases h'
   rename_i g O1;obtain⟨O2,h⟩:=aQ h';clear h';split at h
   .rename_i hu;exact off h hl (by rw[Qs];exact .undef O1 O2 (by simp) hu)
   .rename_i d gN;split at h
    case h_2=>cases h
    rename_i t ht;obtain rfl:=HX ht
    have To:∀v:Bool,find (st.put (aa g) (dK v)).aF g=aa (dK v):=λv=>by
     show find ((g,dK v)::st.aF) g=_
     rw[aY,aj rfl]
    have acp:∀(v:Bool)(ts:List Nat)(r:Bool),g∈ts->r=decide (v=b)->Qn ops nt ts (find (st.put (aa g) (dK v)).aF) (aa (j,b)) r:=λv ts r hg hr=>by
     rw[hr];exact .lit O1 O2 hg (To v) rfl
    split at h
    .rename_i Nz;subst Nz;have R0:=hl.put gN
     grind
    .rename_i Nz
     have Nz:t=ag:=by cases t<;>simp_all
     subst Nz;have R0:=hl.put gN
     grind
   .cases h
def Tp(m:Nat)(listed:Array Bool):Nat:=((agG m).filter λj=> !listed.getD j ag).length
def Gc{m i:Nat}{listed:Array Bool}(hi:i<m)(hs:listed.size=m)(h:listed.getD i ag=ag):Tp m (listed.setIfInBounds i af)+1<=Tp m listed:=by
 unfold Tp
 have iA:∀l:List Nat,(l.filter λj=> !(listed.setIfInBounds i af).getD j ag).length<=(l.filter λj=> !listed.getD j ag).length/\(i∈l->(l.filter λj=> !(listed.setIfInBounds i af).getD j ag).length+1<=(l.filter λj=> !listed.getD j ag).length):=by
  intro l
  induction l with
  |nil=>grind
  |cons j l ih=>
   by_cases hj:i=j
   .subst hj
    have e1:(listed.setIfInBounds i af).getD i ag=af:=by simp[ag2,hs,hi]
    grind
   .have e1:(listed.setIfInBounds i af).getD j ag=listed.getD j ag:=getD_set_ne ag hj
    grind
 grind
def NF{E:Env P}{id:Nat}{q:R}{k:State->Option R}{st:State}{H:aI}{F:Nat->Prop}{w:World}{ρ:Nat->Value}{Q:Exit->(Nat->Value)->World->Prop}(hm:P.follows .mixedOrders=af)
 (h:mM E nt ops ops.toList st [] k=aa q)(hh:cH G w0 F0 H F w ρ st)
 (hk:∀cO H' F' w' cN,k cO=aa q->cH G w0 F0 H' F' w' cN cO->cu H F w H' F' w'->(∀t,(∀o∈ops.toList,o.dst≠aa t)->cN t=ρ t)->Q .normal cN w'):uK P nt (.region id ops af) Q ρ w:=by
 obtain⟨es,cO,P2,kU,Ey,hlen⟩:=BY (G:=G) (w0:=w0) (sl0:=find st.aF) (ob0:=find st.objs) (n0:=st.nxt) h (λj=>by simp) ⟨λ_=>rfl,λ_=>rfl,by simp,λi o x _ hx=>by simp at hx⟩;simp only[List.length_nil,ag8,Array.length_toList]at hlen;unfold tf at kU;split at kU
 case h_2=>cases kU
 rename_i ms NE
 have KO:∀x∈es,∃o∈ops.toList,x.dst=o.dst:=λx hx=>by
  obtain⟨i,hi,rfl⟩:=agS hx
  have aH:i<ops.size:=by omega
  exact⟨ops[i],by simp,(Ey.ok i ops[i] es[i] (agQ aH) (agz hi)).dst⟩
 have O8:∀k y,es[k]? =aa y->∀q,q∈y.soft->q∈y.mut->∃z z',fI HS 0 (es.take k) (find st.objs) q=aa z/\find y.e.make q=aa z'/\gQ z z':=λk y hy q h1 h2=>by
  have aH:k<es.length:=(agL.1 hy).1;obtain⟨_,_,b,_,W6,M1⟩:=Ey.ok k _ y (agQ (by omega)) hy
  cases b with
  |true=>exact(W6 rfl).soft q h1 h2
  |false=>
   grind [lj.mut,tT]
 have VC:∀i o,ops[i]? =aa o->∀e∈o.after,ahO .any e=af->e.on<i:=λi o ho e he hb=>by
  obtain⟨m,h1,_⟩:=(zM NE).2.2 i o (by grind);simp only[List.length_nil,ag8]at h1;exact Gb h1 e (by simpa using he) hb
 intro a hf;refine wp_region_any hm ?_
 have main:∀fuel(listed:Array Bool)(a:Act)(w':World)H' F' cN,listed.size=ops.size->Tp ops.size listed<=fuel->Eu ops (λj=>listed.getD j ag=af)->Fr nt a cN->
  Inv G w0 F0 es (find st.aF) (find st.objs) st.nxt H F w ρ (λj=>listed.getD j ag) H' F' w' cN->wpAny P .any ops (λe a' w'=>∃cN,Fr nt a' cN/\Q e cN w') fuel listed a w':=by
  have done:∀(listed:Array Bool)(a:Act)(w':World)H' F' cN,(∀i,i<ops.size->listed.getD i ag=af)->Fr nt a cN->Inv G w0 F0 es (find st.aF) (find st.objs) st.nxt H F w ρ (λj=>listed.getD j ag) H' F' w' cN->∃cN,Fr nt a cN/\Q .normal cN w':=by
   intro listed a w' H' F' cN fh hf hinv
   have eS:∀t,gh (λj=>listed.getD j ag) 0 es (find st.aF) t=find cO.aF t:=λt=>by
    rw[Ey.slot t]
    refine lz rfl λk x hx _=>?_
    have:=(agL.1 hx).1;rw[ag8];exact fh k (by omega)
   have eO:∀o,fI (λj=>listed.getD j ag) 0 es (find st.objs) o=find cO.objs o:=λo=>by
    rw[Ey.ob o]
    refine k6 rfl λk x hx _=>?_
    have:=(agL.1 hx).1;rw[ag8];exact fh k (by omega)
   refine⟨cN,hf,hk cO H' F' w' cN P2 ⟨⟨λt d hd=>hinv.slot t d (by grind),?_,?_⟩,hinv.glob⟩ hinv.keeps λt ht=>hinv.same t λx hx=>?_⟩
   .have:=hinv.ob;rw[funext eO]at this;rw[Ey.nxt];exact this
   .rw[Ey.nxt];exact hinv.all
   .grind
  have HY:∀(listed:Array Bool),listed.size=ops.size->Region.ready .any ops listed=[]->∀i,i<ops.size->listed.getD i ag=af:=by
   intro listed hs hr i
   induction i using Nat.strongRecOn with
   |_ i ih=>
    intro hi
    cases hl:listed.getD i ag with
    |true=>rfl
    |false=>
     have:i∈Region.ready .any ops listed:=mem_ready.2 ⟨by
      simp only[ag2]at hl⊢;rw[agQ (by omega)]at hl⊢
      simpa using hl,ops[i],agQ hi,(by grind)⟩
     grind
  intro fuel
  induction fuel with
  |zero=>
   intro listed a w' H' F' cN hs hu hc hf hinv
   have fh:∀i,i<ops.size->listed.getD i ag=af:=λi hi=>by
    cases hl:listed.getD i ag with
    |true=>rfl
    |false=>
     have:=Gc hi hs hl;omega
   refine⟨?_,done listed a w' H' F' cN fh hf hinv⟩
   cases hr:Region.ready .any ops listed with
   |nil=>rfl
   |cons i l=>
    have hi:i∈Region.ready .any ops listed:=by rw[hr];simp
    grind [Go.mem_ready]
  |succ fuel ih=>
   intro listed a w' H' F' cN hs hu hc hf hinv;refine⟨λhr=>done listed a w' H' F' cN (HY listed hs hr) hf hinv,λi hi=>?_⟩;obtain⟨h1,o,ho,O7⟩:=mem_ready.1 hi;have aH:=(ag6.1 ho).1
   have Qp:listed.getD i ag=ag:=by
    simp only[ag2]at h1⊢;rw[agQ (by omega)]at h1⊢;simpa using h1
   have hx:es[i]? =aa (es[i]'(by omega)):=agz (by omega);have sz:=Ey.ok i o _ ho hx;rw[<-Ev (by omega),<-yp (by omega)]at sz
   have HV:(λj=>(listed.setIfInBounds i af).getD j ag)=ins (λj=>listed.getD j ag) i:=by
    funext j;by_cases e:j=i
    .subst e;rw[pb];simp[ag2,hs,aH]
    .rw[pc e];exact getD_set_ne ag (Ne.symm e)
   refine wb NE kU hlen hc ho hx Qp O7 O8 sz hf hinv λTl tg uo D7 wY W8 Xa=>?_
   refine ih _ Tl wY uo D7 tg (by simp[hs]) ?_ ?_ W8 ?_
   .have:=Gc aH hs Qp;omega
   .intro j hj o' lI e he hb;by_cases ej:j=i
    .grind [Go.getD_set_true]
    .have Na:listed.getD j ag=af:=by
      have:(listed.setIfInBounds i af).getD j ag=listed.getD j ag:=getD_set_ne ag (Ne.symm ej);rw[<-this];exact hj
     exact getD_set_true (hc j Na o' lI e he hb)
   grind
 have hS0:∀j,(Array.replicate ops.size ag).getD j ag=ag:=λj=>by
  simp only[ag2]
  grind
 have hw:Step F w F w.drew:=Step.drew F w
 refine main ops.size _ a _ H F ρ (by simp) ?_ (λi hi=>by
  grind) hf ⟨λt d hd=>?_,?_,λm hm=>hh.sat.all m (by omega),λi hi _ m hm _=>hh.sat.all m (by omega),⟨⟨hh.glob.ext.os,⟨hh.glob.ext.tape.1,Nat.le_succ_of_le hh.glob.ext.tape.2⟩,hh.glob.ext.output,hh.glob.ext.size,hh.glob.ext.block⟩,hh.glob.le,hh.glob.new⟩,⟨aI.le.refl H,hw⟩,λ_ _=>rfl⟩
 .grind [Tp]
 .rw[oh λk x _ _=>hS0 _]at hd;exact(hh.sat.slot t d hd).keep (aI.le.refl H) hw
 .have e:fI (λj=>(Array.replicate ops.size ag).getD j ag) 0 es (find st.objs)=find st.objs:=by
   funext o
   exact nQ λk x _ _=>hS0 _
  rw[e];have hb:=hh.sat.ob;refine⟨λo s t ho=>?_,hb.apart,λm hm _=>hh.sat.all m (by omega),hb.lt,hb.new,hb.gl.step (λ_ h=>⟨h,rfl⟩)⟩;obtain⟨v,hv,cG⟩:=hb.obj o s t ho;exact⟨v,hv,cG.one,cG.con,cG.ok.heap (aI.le.refl H) hw λ_ _=>rfl,cG.no,cG.lt,cG.use⟩
end
end Go.Proofs.YtfeahmiobbjklaaGreatDoor
end
section
open _root_.Bool renaming false->ag,true->af,and_eq_true->ahu
open _root_.Option renaming none->ae,some->aa,isSome_iff_exists->ag5
open _root_.List.cons renaming injEq->aht
open _root_.List renaming mem_cons->agY
open _root_.Nat renaming beq->agC,le_refl->agB
open _root_.Option.some renaming inj->agx,injEq->agH
open _root_.Go.Sem renaming run_bind->agU
open _root_.Go.Value.slice renaming injEq->ahJ
namespace Go.Proofs.YtfeahmiobbjklaaGreatDoor
open Go Go.RowKit
inductive Ex where
 |normal
 |exit (id:Nat)
 |ret
 |goto (l:Nat)
def Ex.tU:Ex->Exit
 | .normal=> .normal
 | .exit id=> .exit id
 | .ret=> .ret
 | .goto l=> .goto l
def noGoto{R:Type}(k:Ex->State->Option R):Ex->State->Option R
 | .goto _,_=>ae
 |e,st=>k e st
inductive u0 where
 |nil
 |two (a b:u0)
 |join (J:JS) (a b:u0)
 |meet (J:JS) (a b:u0)
 |loop (L:JS) (a:u0)
 |loopK (L:JS) (a:u0)
abbrev u0.o(a:u0):u0:= .two .nil a
def u0.l:u0->u0
 | .two a _=>a
 |_=> .nil
def u0.r:u0->u0
 | .two _ b=>b
 |_=> .nil
def rU:List Oper->List Nat
 |[]=>[]
 |o::l=>match o.dst with
  |some d=>d::rU l
  |none=>rU l
def writes:Code->List Nat
 | .region _ ops _=>rU ops.toList
 | .seq a b=>writes a++writes b
 | .cond _ a b=>writes a++writes b
 | .block _ a=>writes a
 | .loop a=>writes a
 | .scope a=>writes a
 |_=>[]
def BZ:List Nat->List (Nat×aD)->List (Nat×aD)
 |[],l=>l
 |t::ts,l=>(t, .dead)::BZ ts l
def Pd:List (Nat×OS)->List Nat
 |[]=>[]
 |(j,_)::l=>j::Pd l
def Gd(st:State)(J:JS):List (Nat×(Nat×Th)):=del (Pd J.objs++J.drop) st.objs
def behind(st:State)(W:List Nat)(J:JS)(x:cW J.rows):State:=
 {aF:=(cU J.aF (dc _ x)).1++BZ W st.aF,objs:=gO st.nxt J.objs (cU J.aF (dc _ x)).2++Gd st J,nxt:=J.nxt}
def Ez(st:State)(J:JS)(st1:State):Option (cW J.rows):=
 match xY st.nxt (Gd st J) J st1.aF st1.objs with
 |some (x,_)=>aa x
 |none=>ae
def KP(ob:Nat->Option (Nat×Th))(n o:Nat):Option dL:=
 match ob o with
 |some (_, .deep T d l ae)=>aa {dst:= .dead,eat:=[o],make:=[(o,(n, .own T d.row l))]}
 |_=>ae
def mN(st:State):List (Nat×OS)->State
 |[]=>st
 |(j, .own _ _)::os=>match KP (find st.objs) st.nxt j with
  |some e=>mN (st.apply ae e) os
  |none=>mN st os
 |_::os=>mN st os
def KQ(st:State)(t o:Nat)(r:Row):Option State:=
 match find st.objs o with
 |some (_, .box _ t0)=>match fH st.objs t0.owns with
  |some aZ=>match find aZ o with
   |some (_, .box _ t1)=>match flat (find aZ) r t1 with
    |some x=>aa (State.apply {st with objs:=aZ} (aa t) {dst:= .at r x,eat:=[o]})
    |none=>ae
   |_=>ae
  |none=>ae
 |_=>ae
noncomputable def zN{R:Type}(st:State)(k:State->Option R):List (Nat×SS)->Option R
 |[]=>k st
 |(t, .at r)::ss=>match find st.aF t with
  |some (.ptr o [] 0)=>match KQ st t o r with
   |some cO=>zN cO k ss
   |none=>ae
  |some (.dlm o d i [] 0)=>match fH st.objs [o]with
   |some aZ=>match find aZ o with
    |some (_, .fdeep _ d' l)=>bif agC d.low.size d'.row.size then(idx l i).bind λx=>zN {aF:=(t, .at d'.row x)::st.aF,objs:=aZ,nxt:=st.nxt} k ss else ae
    |_=>ae
   |none=>ae
  |_=>zN st k ss
 |_::ss=>zN st k ss
noncomputable def carry(st:State)(J:JS)(st1:State):Option (cW J.rows):=zN (mN (oK st1) J.objs) (Ez st J) J.aF
def cd{J R:Type}(m:Option (J⊕R))(k:J->Option R):Option R:=m.bind λs=>match s with
 | .inl j=>k j
 | .inr r=>aa r
def qz{S R:Type}(body:S->(S->Option R)->Option R):Nat->S->Option R
 |0,_=>ae
 |n+1,s=>body s (qz body n)
def HZ{P:Program}{n:Nat}{Q:Exit->(Nat->Value)->World->Prop}{ρ:Nat->Value}{w:World}{S R:Type}{body:S->(S->Option R)->Option R}{c:Code}(I:S->(Nat->Value)->World->Prop){q:R}{N:Nat}{s:S}(hm:qz body N s=aa q)(h0:I s ρ w)
 (hb:∀(kk:S->Option R)s ρ w,I s ρ w->body s kk=aa q->uK P n c (λe cN w'=>match e with| .normal=>∃s',kk s'=aa q/\I s' cN w'|e=>Q e cN w') ρ w):uK P n (.loop c) Q ρ w:=by
 intro a hf;refine wp_loop_rounds N ?_
 induction N generalizing s ρ w a with
 |zero=>cases hm
 |succ k ih=>
  rw[rounds_succ]
  refine wp_mono (hb (qz body k) s ρ w h0 hm a hf) λe a' w' ⟨cN,rA,hh⟩=>?_
  cases e with
  |normal=>
   obtain⟨s',h1,h2⟩:=hh;exact ih h1 h2 a' rA
  |_=>exact⟨cN,rA,hh⟩
noncomputable def exec{P:Program}(E:Env P)(nt N:Nat):Code->{R:Type}->u0->State->(Ex->State->Option R)->Option R
 | .skip,_,_,st,k=>k .normal st
 | .label _,_,_,st,k=>k .normal st
 | .scope x,_,a,st,k=>exec E nt N x a.l st (noGoto k)
 | .goto l,_,_,st,k=>k (.goto l) st
 | .ret,_,_,st,k=>k .ret st
 | .exit id,_,_,st,k=>k (.exit id) st
 | .cond c x y,_,a,st,k=>match G4 st.aF c with
   |some D=>match asBool D with
    |some b=>if b=af then exec E nt N x a.l st k else exec E nt N y a.r st k
    |none=>ae
   |none=>ae
 | .region _ ops draw,_,_,st,k=>bif draw then mM E nt ops ops.toList st [] (k .normal)else runs E nt ops ops.toList [] st (k .normal)
 | .seq x y,R,a,st,k=>match a with
   | .join J a1 a2=>cd (exec E nt N x (R:=cW J.rows⊕R) a1 st (λe cO=>match e with
       | .normal=>(carry st J cO).map .inl
       |e=>(k e cO).map .inr)) λj=>exec E nt N y a2 (behind st (writes x) J j) k
   | .meet J a1 a2=>(exec E nt N x (R:=cW J.rows) a1 st (λe cO=>match e with
       | .normal=>carry st J cO
       |_=>ae)).bind λj=>exec E nt N y a2 (behind st (writes x) J j) k
   |a=>exec E nt N x a.l st (λe cO=>match e with
     | .normal=>exec E nt N y a.r cO k
     |e=>k e cO)
 | .block id x,R,a,st,k=>match a with
   | .join J a1 _=>cd (exec E nt N x (R:=cW J.rows⊕R) a1 st (λe cO=>match e with
       | .normal=>(carry st J cO).map .inl
       | .exit i=>bif agC i id then(carry st J cO).map .inl else(k (.exit i) cO).map .inr
       |e=>(k e cO).map .inr)) λj=>k .normal (behind st (writes x) J j)
   | .meet J a1 _=>(exec E nt N x (R:=cW J.rows) a1 st (λe cO=>match e with
       | .normal=>carry st J cO
       | .exit i=>bif agC i id then carry st J cO else ae
       |_=>ae)).bind λj=>k .normal (behind st (writes x) J j)
   |a=>exec E nt N x a.l st (λe cO=>match e with
     | .exit i=>bif agC i id then k .normal cO else k (.exit i) cO
     |e=>k e cO)
 | .loop x,R,a,st,k=>match a with
   | .loop L a1=>match carry st L st with
     |some s0=>Loop (S:=cW L.rows) (X:=R) (λs=>exec E nt N x (R:=cW L.rows⊕R) a1 (behind st (writes x) L s) (λe cO=>match e with
       | .normal=>(carry st L cO).map .inl
       |e=>(k e cO).map .inr)) N s0
     |none=>ae
   | .loopK L a1=>match carry st L st with
     |some s0=>qz (S:=cW L.rows) (R:=R) (λs kk=>exec E nt N x (R:=R) a1 (behind st (writes x) L s) (λe cO=>match e with
       | .normal=>(carry st L cO).bind kk
       |e=>k e cO)) N s0
     |none=>ae
   |_=>ae
 |_,_,_,_,_=>ae
section
variable {P:Program} {nt N:Nat} {R:Type}
variable {ρ:Nat->Value} {w w0:World} {H:aI} {F F0 G:Nat->Prop}
def EA{W:List Nat}{l:List (Nat×aD)}{t:Nat}{d:aD}(h:find (BZ W l) t=aa d):d= .dead\/(t∉W/\find l t=aa d):=by
 induction W with
 |nil=>exact .inr ⟨by simp,h⟩
 |cons s W ih=>
  have h':find ((s,aD.dead)::BZ W l) t=aa d:=h
  grind [aY]
def Ia{st st1:State}{W:List Nat}{J:JS}{x:cW J.rows}{H1:aI}{F1:Nat->Prop}{w1:World}{Jh:Nat->Value}(h:Ez st J st1=aa x)(hh:cH G w0 F0 H F w ρ st)(nP:cH G w0 F0 H1 F1 w1 Jh st1)(hk:cu H F w H1 F1 w1)
 (Qi:∀t,t∉W->Jh t=ρ t):∃H2 F2,cH G w0 F0 H2 F2 w1 Jh (behind st W J x)/\cu H F w H2 F2 w1:=by
 unfold Ez at h;split at h
 case h_2=>cases h
 rename_i _ y rest hp;obtain⟨bs,aZ⟩:=rest;obtain rfl:=agx h;obtain⟨F2,H2,a1,a2,a3,_,a5,_,a6,a7,a8⟩:=vQ (U':=UU G w0) hp hh.sat.ob hh.sat.all hk nP.sat.ob nP.sat.slot
 have gM:Step F1 w1 F2 w1:=λb hb=>⟨a2 b hb,rfl⟩
 have cz:=a8 nP.sat.ob.new (λo s t v k _ h2 h3 h4=>by
  obtain⟨v',ey,cG⟩:=a1.obj _ _ _ h2;rw[h3]at ey;obtain rfl:=agx ey
  exact cG.use k h4) (λo s t v k h2 h3 h4=>by
  have h5:=(iu.1 h2).2;obtain⟨v',ey,cG⟩:=hh.sat.ob.obj _ _ _ h5;rw[hk.gm.val _ _ ey]at h3;obtain rfl:=agx h3
  exact cG.use k (by rwa [hk.gm.sub _ _ cG.con]at h4))
 refine⟨H2,F2,⟨⟨λt d hd=>?_,cz,a6⟩,⟨nP.glob.ext,λb hb=>a2 b (nP.glob.le b hb),λb hb=>?_⟩⟩,⟨a5,λb hb=>⟨a2 b (hk.step b hb).1,(hk.step b hb).2⟩⟩⟩
 .have AF:find ((cU J.aF (dc J.rows y)).1++BZ W st.aF) t=aa d:=hd;rw[ir]at AF
  cases hm:find (cU J.aF (dc J.rows y)).1 t with
  |some d'=>
   grind
  |none=>
   rw[hm,Option.none_or]at AF
   rcases EA AF with rfl|⟨h1,h2⟩
   .trivial
   .rw[Qi t h1]
    exact(hh.sat.slot t d h2).keep a5 λb hb=>⟨a2 b (hk.step b hb).1,(hk.step b hb).2⟩
 .rcases a3 b hb with h1|h1
  .exact nP.glob.new b h1
  .exact .inr (nP.sat.ob.fR b h1)
def Ib{U:Nat->Prop}{ob:Nat->Option (Nat×Th)}{n:Nat}(hs:aJ U H F w ob n){o:Nat}{e:dL}(h:KP ob n o=aa e):lQ H F w ob n e undef w:=by
 unfold KP at h;split at h
 case h_2=>cases h
 rename_i s T d l cz;obtain rfl:=agx h;obtain⟨v,hv,cG⟩:=hs.obj _ _ _ cz
 obtain⟨lh,Ss,⟨xs,hx,OT⟩,h2,h3,h4⟩:=(show G2 F w T d.low (n9 H F w d ae) v l (H.sub s)from cG.ok)
 have hn:∀k,H.sub s k->¬F k:=cG.no
 have Dx:lO 0 (λb=>F b\/∃i,i<l.length/\Ss i b) w T d.row v l:=by
  refine⟨λk hk hF=>?_,xs,?_,λi hi=>?_⟩
  .rcases hF with hF|⟨i,hi,hm⟩
   .exact hn k (h4.bP k hk) hF
   .exact h4.out i k hi hm hk
  .rw[<-d.size,<-h2];exact hx
  .have kW:i<lh.length:=by omega
   have:=kc.freeze (h3 i kW hi) (λk hk=>hn k (h4.part hi k hk)) (OT i kW);rw[<-d.size]
   exact this.step λb hb=>(by grind)
 have hf:=hs.fresh n (agB _) (by omega)
 have jI:∀k,H.sub s k->cn H ob [o] k:=λk hk=>⟨o,by simp,s,_,v,cz,hv,hk⟩
 refine⟨H.bC n (.own T d.row l),λb=>F b\/∃i,i<l.length/\Ss i b,⟨⟨λ_ _ h=>h,λs' t h=>?_,λs' t h=>?_⟩,⟨rfl,⟨rfl,agB _⟩,rfl,agB _,λ_ _ _=>rfl⟩,λ_ h=> .inl h,λb hb=>?_,λb hb=>?_⟩,λm hm=>⟨id,λh=>?_⟩,trivial,⟨λo' s' q hq=>?_,λo1 o2 s1 s2 q1 q2 u1 u2 du g1 g2=>?_⟩,λo' h=>?_⟩
 .grind [aI.bC]
 .rfl
 .rcases hb with hb|⟨i,hi,hb⟩
  .exact .inl hb
  .exact .inr (.inr (jI b (h4.part hi b hb)))
 .rcases hb with hb|⟨i,hi,hb⟩
  .exact hs.lt b hb
  .exact cG.lt b (h4.part hi b hb)
 .grind [aI.bC]
 .obtain⟨rfl,e⟩:=eR hq;obtain⟨rfl,rfl⟩:=Prod.mk.inj e;refine⟨v,hv,cG.one,by simp[aI.bC,Th.base],Dx.2,λk hk=>⟨Dx.1 k hk,cG.lt k (h4.bP k hk), .inr (jI k (h4.bP k hk))⟩⟩
 all_goals grind [eR,ag5]
def cH.mN:(os:List (Nat×OS))->{st:State}->{H:aI}->{F:Nat->Prop}->cH G w0 F0 H F w ρ st->∃H' F',cH G w0 F0 H' F' w ρ (mN st os)/\cu H F w H' F' w
 |[],_,H,F,h=>⟨H,F,h,cu.refl H F w⟩
 |(j, .own _ _)::os,st,H,F,h=>by
  unfold Go.Proofs.YtfeahmiobbjklaaGreatDoor.mN;split
  .rename_i e he;obtain⟨H',F',hp⟩:=Ib h.sat.ob he;have hs:=h.sat.apply (d:=ae) hp;obtain⟨H2,F2,h2,k2⟩:=cH.mN os (st:=st.apply ae e) ⟨hs,h.glob.lc hp.lc h.sat.ob.fR⟩;exact⟨H2,F2,h2,(cu.yj hp.lc h.sat.ob.lt h.sat.ob.eQ).trans k2⟩
  .exact cH.mN os h
 |(_, .box ..)::os,_,_,_,h=>cH.mN os h
 |(_, .map ..)::os,_,_,_,h=>cH.mN os h
 |(_, .deep ..)::os,_,_,_,h=>cH.mN os h
 |(_, .smap ..)::os,_,_,_,h=>cH.mN os h
def cH.KQ{st cO:State}{t o:Nat}{r:Row}(h:cH G w0 F0 H F w ρ st)(gN:find st.aF t=aa (.ptr o [] 0))(hb:KQ st t o r=aa cO):∃F',cH G w0 F0 H F' w ρ cO/\cu H F w H F' w:=by
 unfold Go.Proofs.YtfeahmiobbjklaaGreatDoor.KQ at hb;split at hb
 case h_2=>cases hb
 split at hb
 case h_2=>cases hb
 rename_i aZ xf;obtain⟨F1,h1,k1⟩:=h.um xf;split at hb
 case h_2=>cases hb
 rename_i s1 T1 t1 cz;split at hb
 case h_2=>cases hb
 rename_i x hx;obtain rfl:=agx hb;obtain⟨v,hv,cG⟩:=h1.sat.ob.obj _ _ _ cz
 obtain⟨b,es,rfl,hhp,hold⟩:=(show∃b es,v= .pointer (aa ⟨b,0,ae⟩)/\w.heap[b]? =aa (.cells es.toArray T1 (0,0))/\Holds H F1 w t1 es from cG.ok)
 obtain⟨b',ey,oN⟩:=h.sat.slot t _ gN;rw[hv]at ey;simp only[agH,Value.pointer.injEq,Addr.mk.injEq,and_true]at ey;subst ey;have sP:=gn h1.sat.ob hx hold
 have hg:cn H (find aZ) [o] b:=⟨o,by simp,s1,_,_,cz,hv,rfl⟩
 have gM:Step F1 w (λk=>F1 k\/k=b) w:=λk hk=>⟨.inl hk,rfl⟩
 have hp:kY H F1 w (find aZ) st.nxt {dst:= .at r x,eat:=[o]} (ρ t) w H (λk=>F1 k\/k=b):=
  ⟨⟨aI.le.refl H,⟨rfl,⟨rfl,agB _⟩,rfl,agB _,λ_ _ _=>rfl⟩,λ_ hk=> .inl hk,λk hk=>hk.elim .inl λe=> .inr (.inr (e▸hg)),λk hk=>hk.elim (h1.sat.ob.lt k) λe=>by grind⟩,λm _=>⟨id,id⟩,
    ⟨b,0,oN, .inr rfl,es,sP.length,λj u hu=>by
      show w.cell? ⟨b,0+j,ae⟩=aa u
      simp[World.cell?,hhp,hu],sP.step gM⟩,⟨λ_ _ _ h=>(by cases h),λ_ _ _ _ _ _ _ _ _ h=>(by cases h)⟩,λ_ h=>(by cases h)⟩
 have hs:=h1.sat.apply (d:=aa t) hp
 have Xb:uq ρ (aa t) (ρ t)=ρ:=by
  funext u
  show Dg ρ t (ρ t) u=ρ u
  rw[oa];split
  .grind
  .rfl
 rw[Xb]at hs;exact⟨_,⟨hs,h1.glob.lc hp.lc h1.sat.ob.fR⟩,k1.trans (cu.yj hp.lc h1.sat.ob.lt h1.sat.ob.eQ)⟩
def cH.zN{R:Type}{k:State->Option R}{q:R}:(ss:List (Nat×SS))->{st:State}->{H:aI}->{F:Nat->Prop}->cH G w0 F0 H F w ρ st->zN st k ss=aa q->∃st2 H' F',k st2=aa q/\cH G w0 F0 H' F' w ρ st2/\cu H F w H' F' w
 |[],st,H,F,h,hk=>⟨st,H,F,hk,h,cu.refl H F w⟩
 |(t, .at r)::ss,st,H,F,h,hk=>by
  unfold Go.Proofs.YtfeahmiobbjklaaGreatDoor.zN at hk;split at hk
  .rename_i o gN;split at hk
   case h_2=>cases hk
   rename_i cO hbx;obtain⟨F1,h1,k1⟩:=h.KQ gN hbx;obtain⟨st2,H2,F2,g1,g2,g3⟩:=cH.zN ss h1 hk;exact⟨st2,H2,F2,g1,g2,k1.trans g3⟩
  .rename_i o d i gN;split at hk
   case h_2=>cases hk
   rename_i aZ xf;obtain⟨F1,h1,k1⟩:=h.um xf;split at hk
   case h_2=>cases hk
   rename_i s1 T1 d' l cz;obtain⟨lJ,hk⟩:=aQ hk;have lJ:=Nat.eq_of_beq_eq_true lJ;obtain⟨x,hx,WC⟩:=bind_some hk;obtain⟨j,rfl,hj,hjx⟩:=gB hx;obtain⟨g,o0,q0,m,cap,hv,hq,oN⟩:=h1.sat.slot t _ gN;obtain⟨v,ey,cG⟩:=h1.sat.ob.obj _ _ _ cz;rw[hv]at ey;obtain rfl:=agx ey
   obtain⟨A,JL,e1,_,_,ug⟩:=(show cD F1 w (.slice d'.row) [_] l from cG.ok)
   obtain⟨b,off,es,hA,hFb,hlen,vf,sP⟩:=ug j hj;simp only[aht,ahJ,and_true]at e1;obtain⟨e1,_,_⟩:=e1;rw[<-e1]at hA;simp only[agH,Addr.mk.injEq,and_true]at hA;obtain⟨rfl,rfl⟩:=hA
   have w5:aC H F1 w (.at d'.row x) (ρ t):=by
    have e:j=q0:=by omega
    subst e;refine⟨g,o0+j*d.low.size+0,oN,hFb,es,hlen,λjj u hu=>?_,by grind⟩;rw[lJ];exact vf jj u hu
   obtain⟨st2,H2,F2,g1,g2,g3⟩:=cH.zN ss (st:={aF:=(t, .at d'.row x)::st.aF,objs:=aZ,nxt:=st.nxt}) ⟨⟨λt' q' AP=>by
    have AP:find ((t,aD.at d'.row x)::st.aF) t'=aa q':=AP;rw[aY]at AP;by_cases e:t=t'
    .grind
    .rw[ai e]at AP
     exact h1.sat.slot t' q' AP,h1.sat.ob,h1.sat.all⟩,h1.glob⟩ WC
   exact⟨st2,H2,F2,g1,g2,k1.trans g3⟩
  .exact cH.zN ss h hk
 |(_, .val ..)::ss,_,_,_,h,hk=>cH.zN ss h hk
 |(_, .ptr ..)::ss,_,_,_,h,hk=>cH.zN ss h hk
 |(_, .undef)::ss,_,_,_,h,hk=>cH.zN ss h hk
 |(_, .fn ..)::ss,_,_,_,h,hk=>cH.zN ss h hk
 |(_, .ifc ..)::ss,_,_,_,h,hk=>cH.zN ss h hk
def lA{st st1:State}{W:List Nat}{J:JS}{x:cW J.rows}{H1:aI}{F1:Nat->Prop}{w1:World}{Jh:Nat->Value}(h:carry st J st1=aa x)(hh:cH G w0 F0 H F w ρ st)(nP:cH G w0 F0 H1 F1 w1 Jh st1)(hk:cu H F w H1 F1 w1)
 (Qi:∀t,t∉W->Jh t=ρ t):∃H2 F2,cH G w0 F0 H2 F2 w1 Jh (behind st W J x)/\cu H F w H2 F2 w1:=by
 obtain⟨H1',F1',Xc,lf⟩:=nP.oK;obtain⟨H2',F2',Xd,PK⟩:=Xc.mN J.objs;unfold carry at h;obtain⟨st2,H3',F3',h3,hh3,hk3⟩:=Xd.zN J.aF h;exact Ia h3 hh hh3 (((hk.trans lf).trans PK).trans hk3) Qi
def tV{l:List Oper}{o:Oper}{t:Nat}(ho:o∈l)(hd:o.dst=aa t):t∈rU l:=by
 induction l with
 |nil=>cases ho
 |cons p l ih=>
  grind [rU]
structure Qt(G:Nat->Prop)(w0:World)(F0:Nat->Prop)(W:List Nat)(H:aI)(F:Nat->Prop)(w:World)(ρ:Nat->Value)(H':aI)(F':Nat->Prop)(w':World)(cN:Nat->Value)(cO:State):Prop where
 here:cH G w0 F0 H' F' w' cN cO
 keeps:cu H F w H' F' w'
 same:∀t,t∉W->cN t=ρ t
def map_inl{α β:Type}{o:Option α}{f:α->β}{r:β}(h:o.map f=aa r):∃x,o=aa x/\f x=r:=Option.map_eq_some_iff.1 h
def iU{E:Env P}:(c:Code)->{R:Type}->{q:R}->{a:u0}->{st:State}->{k:Ex->State->Option R}->{H:aI}->{F:Nat->Prop}->{w:World}->{ρ:Nat->Value}->{Q:Exit->(Nat->Value)->World->Prop}->
 exec E nt N c a st k=aa q->cH G w0 F0 H F w ρ st->
 (∀e cO H' F' w' cN,k e cO=aa q->Qt G w0 F0 (writes c) H F w ρ H' F' w' cN cO->Q e.tU cN w')->uK P nt c Q ρ w
 | .skip,R,q,a,st,k,H,F,w,ρ,Q,h,hh,hk=>Jq (hk .normal st H F w ρ h ⟨hh,cu.refl H F w,λ_ _=>rfl⟩)
 | .ret,R,q,a,st,k,H,F,w,ρ,Q,h,hh,hk=>MP (hk .ret st H F w ρ h ⟨hh,cu.refl H F w,λ_ _=>rfl⟩)
 | .exit id,R,q,a,st,k,H,F,w,ρ,Q,h,hh,hk=>Jr (hk (.exit id) st H F w ρ h ⟨hh,cu.refl H F w,λ_ _=>rfl⟩)
 | .cond c x y,R,q,a,st,k,H,F,w,ρ,Q,h,hh,hk=>by
   unfold exec at h;split at h
   case h_2=>cases h
   rename_i D hD;split at h
   case h_2=>cases h
   rename_i b hb;have hv:=nB hb (sF hh.sat.ob.gl hh.sat.slot _ _ hD);split at h
   .rename_i e;subst e;exact Js hv (iU x h hh λe cO H' F' w' cN h1 h2=>hk e cO H' F' w' cN h1 ⟨h2.here,h2.keeps,λt ht=>h2.same t λhm=>ht (by simp[writes,hm])⟩)
   .rename_i e
    have e:b=ag:=by cases b<;>simp_all
    subst e;exact GD hv (iU y h hh λe cO H' F' w' cN h1 h2=>hk e cO H' F' w' cN h1 ⟨h2.here,h2.keeps,λt ht=>h2.same t λhm=>ht (by simp[writes,hm])⟩)
 | .region id ops draw,R,q,a,st,k,H,F,w,ρ,Q,h,hh,hk=>by
   unfold exec at h
   cases draw with
   |true=>
    rw[cond_true]at h
    exact NF E.mix h hh λcO H' F' w' cN h1 h2 h3 h4=>hk .normal cO H' F' w' cN h1 ⟨h2,h3,λt ht=>h4 t λo ho e=>ht (tV ho e)⟩
   |false=>
    rw[cond_false]at h
    have:=zy (K:=λρ w=>Q .normal ρ w) (ops:=ops) (nt:=nt) h (λ_ _ h=>by cases h) hh λcO H' F' w' cN h1 h2 h3 h4=>hk .normal cO H' F' w' cN h1 ⟨h2,h3,λt ht=>h4 t λo ho e=>ht (tV ho e)⟩
    have h2:=Dv (id:=id) (l:=ops.toList) (P:=P) (n:=nt) (Q:=Q) (ρ:=ρ) (w:=w) (by omega);omega
 | .seq x y,R,q,a,st,k,H,F,w,ρ,Q,h,hh,hk=>by
   have fin:∀{H1:aI}{F1:Nat->Prop}{w1:World}{Jh:Nat->Value}{st1:State}{a2:u0},exec E nt N y a2 st1 k=aa q->cH G w0 F0 H1 F1 w1 Jh st1->cu H F w H1 F1 w1->(∀t,t∉writes x->Jh t=ρ t)->uK P nt y Q Jh w1:=by
    intro H1 F1 w1 Jh st1 a2 g1 g2 g3 g4
    exact iU y g1 g2 λe cO H' F' w' cN h1 h2=>hk e cO H' F' w' cN h1 ⟨h2.here,g3.trans h2.keeps,λt ht=>(h2.same t λhm=>ht (by simp[writes,hm])).trans (g4 t λhm=>ht (by simp[writes,hm]))⟩
   have out:∀{e:Ex}{cO:State}{H':aI}{F':Nat->Prop}{w':World}{cN:Nat->Value},k e cO=aa q->Qt G w0 F0 (writes x) H F w ρ H' F' w' cN cO->Q e.tU cN w':=by
    intro e cO H' F' w' cN g1 g2;exact hk e cO H' F' w' cN g1 ⟨g2.here,g2.keeps,λt ht=>g2.same t λhm=>ht (by simp[writes,hm])⟩
   unfold exec at h;split at h
   .rename_i J a1 a2;unfold cd at h;obtain⟨s,hs,h⟩:=bind_some h;refine yU (iU x hs hh λe cO H' F' w' cN h1 h2=>?_)
    cases e with
    |normal=>
     obtain⟨j,hj,rfl⟩:=map_inl h1;obtain⟨H2,F2,g1,g2⟩:=lA (W:=writes x) hj hh h2.here h2.keeps h2.same;exact fin h g1 g2 h2.same
    |exit id=>
     obtain⟨r,hr,rfl⟩:=map_inl h1;obtain rfl:=agx h;exact out hr h2
    |ret=>
     obtain⟨r,hr,rfl⟩:=map_inl h1;obtain rfl:=agx h;exact out hr h2
    |goto l=>
     obtain⟨r,hr,rfl⟩:=map_inl h1;obtain rfl:=agx h;exact out hr h2
   .rename_i J a1 a2;obtain⟨s,hs,h⟩:=bind_some h;refine yU (iU x hs hh λe cO H' F' w' cN h1 h2=>?_)
    cases e with
    |normal=>
     obtain⟨H2,F2,g1,g2⟩:=lA (W:=writes x) h1 hh h2.here h2.keeps h2.same;exact fin h g1 g2 h2.same
    |exit id=>cases h1
    |ret=>cases h1
    |goto l=>cases h1
   .refine yU (iU x h hh λe cO H' F' w' cN h1 h2=>?_)
    cases e with
    |normal=>exact fin h1 h2.here h2.keeps h2.same
    |exit id=>exact out h1 h2
    |ret=>exact out h1 h2
    |goto l=>exact out h1 h2
 | .block id x,R,q,a,st,k,H,F,w,ρ,Q,h,hh,hk=>by
   have hw:writes (.block id x)=writes x:=rfl;rw[hw]at hk
   have Xe:∀{e:Ex}{cN:Nat->Value}{w':World},(match e with| .exit i=>if i=id then Q .normal cN w' else Q (.exit i) cN w'|e=>Q e.tU cN w')->RX id Q e.tU cN w':=by
    intro e cN w' g
    cases e with
    |normal=>exact g
    |ret=>exact g
    |goto l=>exact g
    |exit i=>
     by_cases e:i=id
     .subst e;simp only[aj]at g;exact JP g
     .simp only[ai e]at g;refine GW ?_ g
      cases hb:agC i id<;>simp_all
   have KR:∀{i:Nat},i≠id->agC i id=ag:=λ{i}e=>by
    cases hb:agC i id<;>simp_all
   unfold exec at h;split at h
   .rename_i J a1 a2;unfold cd at h;obtain⟨s,hs,h⟩:=bind_some h;refine sB (iU x hs hh λe cO H' F' w' cN h1 h2=>Xe ?_)
    have inn:(carry st J cO).map Sum.inl=aa s->Q .normal cN w':=λh1=>by
     obtain⟨j,hj,rfl⟩:=map_inl h1;obtain⟨H2,F2,g1,g2⟩:=lA (W:=writes x) hj hh h2.here h2.keeps h2.same;exact hk .normal _ H2 F2 w' cN h ⟨g1,g2,h2.same⟩
    have out:∀{e:Ex},(k e cO).map Sum.inr=aa s->Q e.tU cN w':=λ{e}h1=>by
     obtain⟨r,hr,rfl⟩:=map_inl h1
     grind
    cases e with
    |normal=>exact inn h1
    |exit i=>
     show if i=id then _ else _
     by_cases e:i=id
     .subst e;rw[aj rfl];refine inn ?_;simpa using h1
     .rw[ai e];simp only[KR e,cond_false]at h1;exact out (e:= .exit i) h1
    |ret=>grind
    |goto l=>grind
   .rename_i J a1 a2;obtain⟨s,hs,h⟩:=bind_some h;refine sB (iU x hs hh λe cO H' F' w' cN h1 h2=>Xe ?_)
    have inn:carry st J cO=aa s->Q .normal cN w':=λh1=>by
     obtain⟨H2,F2,g1,g2⟩:=lA (W:=writes x) h1 hh h2.here h2.keeps h2.same;exact hk .normal _ H2 F2 w' cN h ⟨g1,g2,h2.same⟩
    cases e with
    |normal=>exact inn h1
    |exit i=>
     grind
    |ret=>cases h1
    |goto l=>cases h1
   .refine sB (iU x h hh λe cO H' F' w' cN h1 h2=>Xe ?_)
    cases e with
    |normal=>grind
    |exit i=>
     show if i=id then _ else _
     by_cases e:i=id
     .subst e;rw[aj rfl];refine hk .normal cO H' F' w' cN ?_ h2;simpa using h1
     .rw[ai e];simp only[KR e,cond_false]at h1;exact hk (.exit i) cO H' F' w' cN h1 h2
    |ret=>grind
    |goto l=>grind
 | .loop x,R,q,a,st,k,H,F,w,ρ,Q,h,hh,hk=>by
   have hw:writes (.loop x)=writes x:=rfl;rw[hw]at hk;unfold exec at h;split at h
   case h_3=>cases h
   case h_2=>
    rename_i L a1;split at h
    case h_2=>cases h
    rename_i s0 Nr;refine HZ (λs cN w'=>∃H' F',cH G w0 F0 H' F' w' cN (behind st (writes x) L s)/\cu H F w H' F' w'/\∀t,t∉writes x->cN t=ρ t) h ?_ ?_
    .obtain⟨H2,F2,g1,g2⟩:=lA (W:=writes x) Nr hh hh (cu.refl H F w) λ_ _=>rfl
     grind
    .rintro kk s cN w' ⟨H',F',g1,g2,g3⟩ hy
     refine iU x hy g1 λe cO uo D7 wY tg h1 h2=>?_
     have sm:∀t,t∉writes x->tg t=ρ t:=λt ht=>(h2.same t ht).trans (g3 t ht)
     cases e with
     |normal=>
      obtain⟨j,hj,Jc⟩:=Option.bind_eq_some_iff.1 h1;obtain⟨H2,F2,m1,m2⟩:=lA (W:=writes x) hj hh h2.here (g2.trans h2.keeps) sm;exact⟨j,Jc,H2,F2,m1,m2,sm⟩
     |exit i=>exact hk (.exit i) cO uo D7 wY tg h1 ⟨h2.here,g2.trans h2.keeps,sm⟩
     |ret=>exact hk .ret cO uo D7 wY tg h1 ⟨h2.here,g2.trans h2.keeps,sm⟩
     |goto l=>exact hk (.goto l) cO uo D7 wY tg h1 ⟨h2.here,g2.trans h2.keeps,sm⟩
   rename_i L a1;split at h
   case h_2=>cases h
   rename_i s0 Nr;refine Jt (λs cN w'=>∃H' F',cH G w0 F0 H' F' w' cN (behind st (writes x) L s)/\cu H F w H' F' w'/\∀t,t∉writes x->cN t=ρ t) h ?_ ?_
   .obtain⟨H2,F2,g1,g2⟩:=lA (W:=writes x) Nr hh hh (cu.refl H F w) λ_ _=>rfl
    grind
   .rintro s cN w' y ⟨H',F',g1,g2,g3⟩ hy
    refine iU x hy g1 λe cO uo D7 wY tg h1 h2=>?_
    have sm:∀t,t∉writes x->tg t=ρ t:=λt ht=>(h2.same t ht).trans (g3 t ht)
    have out:∀{e:Ex},e≠ .normal->(k e cO).map Sum.inr=aa y->OM (λs cN w'=>∃H' F',cH G w0 F0 H' F' w' cN (behind st (writes x) L s)/\cu H F w H' F' w'/\∀t,t∉writes x->cN t=ρ t) Q q y e.tU tg wY:=λ{e}he h1=>by
     obtain⟨r,hr,rfl⟩:=map_inl h1;refine⟨by cases e<;>simp_all[Ex.tU],λhq=>?_⟩;subst hq;exact hk e cO uo D7 wY tg hr ⟨h2.here,g2.trans h2.keeps,sm⟩
    cases e with
    |normal=>
     obtain⟨j,hj,rfl⟩:=map_inl h1;obtain⟨H2,F2,m1,m2⟩:=lA (W:=writes x) hj hh h2.here (g2.trans h2.keeps) sm;exact⟨rfl,H2,F2,m1,m2,sm⟩
    |exit i=>grind
    |ret=>grind
    |goto l=>grind
 | .label l,R,q,a,st,k,H,F,w,ρ,Q,h,hh,hk=>λact hf=>wp_label ⟨ρ,hf,hk .normal st H F w ρ h ⟨hh,cu.refl H F w,λ_ _=>rfl⟩⟩
 | .scope x,R,q,a,st,k,H,F,w,ρ,Q,h,hh,hk=>by
   have h1:=iU (Q:=λe ρ w=>match e with| .goto _=>False|e=>Q e ρ w) x (show exec E nt N x a.l st (noGoto k)=aa q from h) hh λe cO H' F' w' cN h1 h2=>by
    cases e with
    |goto l=>cases h1
    |_=>exact hk _ cO H' F' w' cN h1 h2
   intro act hf;refine wp_scope_straight (wp_mono (h1 act hf) λe a' w' ⟨cN,rA,Vs⟩=>?_)
   cases e<;>first
    |exact Vs.elim
    |exact⟨cN,rA,Vs⟩
 | .goto l,R,q,a,st,k,H,F,w,ρ,Q,h,hh,hk=>λact hf=>wp_goto ⟨ρ,hf,hk (.goto l) st H F w ρ h ⟨hh,cu.refl H F w,λ_ _=>rfl⟩⟩
 | .rangeFunc ..,_,_,_,_,_,_,_,_,_,_,h,_,_=>by cases h
 | .refuse _,_,_,_,_,_,_,_,_,_,_,h,_,_=>by cases h
end
end Go.Proofs.YtfeahmiobbjklaaGreatDoor
namespace Go.Proofs.YtfeahmiobbjklaaGreatDoor
open Go Go.RowKit
def zO{P:Program}(T:be P)(aF:List (Nat×aD))(objs:List (Nat×(Nat×Th)))(t:Nat)(T0:TypeId):Option aD:=
 match find T.und T0 with
 |none=>ae
 |some kk=>match find aF t with
  |some (.ptr o p off)=>match find objs o with
   |some (_, .box _ tr)=>match tr.get p with
    |some (s,dN)=>bif agC dN off&&mh T T0 kk s.size then aa (.val (kg kk) s)else ae
    |none=>ae
   |_=>ae
  |_=>ae
def zP{P:Program}(T:be P)(aF:List (Nat×aD))(objs:List (Nat×(Nat×Th))):List ResultVar->Option (List aD)
 |[]=>aa []
 | .tmp t::l=>match find aF t with
   |some d=>match zP T aF objs l with
    |some ds=>aa (d::ds)
    |none=>ae
   |none=>ae
 | .cell t T0::l=>match zO T aF objs t T0 with
   |some d=>match zP T aF objs l with
    |some ds=>aa (d::ds)
    |none=>ae
   |none=>ae
noncomputable def Qu{P:Program}(T:be P)(rs:List ResultVar)(nb:Nat)(out:JS)(st:State):Option (cW out.rows):=
 match zP T st.aF st.objs rs with
 |some ds=>zN {aF:=iD 0 ds,objs:=(oK st).objs,nxt:=(oK st).nxt} (λst1=>match xY nb [] out st1.aF st1.objs with
  |some (x,_)=>aa x
  |none=>ae) out.aF
 |none=>ae
def init(inn:JS)(x:cW inn.rows):State:=
 {aF:=(cU inn.aF (dc _ x)).1,objs:=gO 0 inn.objs (cU inn.aF (dc _ x)).2,nxt:=inn.nxt}
noncomputable def Tq{P:Program}(T:be P)(rs:List ResultVar)(nb:Nat)(out:JS):Ex->State->Option (cW out.rows)
 | .exit _,_=>ae
 | .goto _,_=>ae
 |_,st=>Qu T rs nb out st
noncomputable def Qv{P:Program}(E:Env P)(nt N:Nat)(c:Code)(rs:List ResultVar)(a:u0)(inn out:JS)(x:cW inn.rows):Option (cW out.rows):=
 exec E nt N c a (init inn x) (Tq E.T rs inn.nxt out)
section
variable {P:Program} {ρ:Nat->Value} {w:World} {H:aI} {F:Nat->Prop} {U:Nat->Prop} {n:Nat}
def B3(T:be P){t:TypeId}{kk:Jd}(hu:find T.und t=aa kk){b off:Nat}{s:Tree}{cs:List Value}(hh:Holds H F w s cs)(hc:∀j u,cs[j]? =aa u->w.cell? ⟨b,off+j,ae⟩=aa u)
 (hz:if kg kk=af then∃r,find T.row t=aa r/\r.size=s.size else s.size=1):∃v,(loadVar t ⟨b,off,ae⟩).run P w= .ok v w/\aO H F w (kg kk) s v:=by
 obtain⟨dd,xE,wX⟩:=(T.und_ok _ _ hu).agg;have hl:=hh.length
 cases ha:kg kk with
 |true=>
  rw[aj ha]at hz;obtain⟨r,hr,MB⟩:=hz;obtain⟨ti,z,h1,_,_,h4,_⟩:=T.row_ok _ _ hr
  have WV:(loadCells ⟨b,off,ae⟩ cs.length).run P w= .ok cs.toArray w:=
   run_loadCells_list (P:=P) w ⟨b,off,ae⟩ cs (λj v hv=>by rw[cV];exact hc j v hv)
  refine⟨.agg cs.toArray,?_,cs,hh,rfl,by simp⟩
  have lJ:ti.size=cs.length:=by omega
  simp[loadVar,agU,fk xE,wX.trans ha,sizeOf,typeInfo,h1,lJ,WV]
 |false=>
  rw[ai (by simp[ha])]at hz
  obtain⟨v,rfl⟩:∃v,cs=[v]:=by
   match cs,hl.trans hz with
   |[v],_=>grind
  refine⟨v,?_,[v],hh,rfl,λ_=>rfl⟩;have:=hc 0 v rfl;simp only[Nat.add_zero]at this;simp[loadVar,agU,fk xE,wX.trans ha,this,go_sem]
def EB(T:be P){aF:List (Nat×aD)}{objs:List (Nat×(Nat×Th))}{t:Nat}{T0:TypeId}{D:aD}(h:zO T aF objs t T0=aa D)(gN:∀t d,find aF t=aa d->aC H F w d (ρ t))(hs:aJ U H F w (find objs) n):
 ∃a v,ρ t= .pointer (aa a)/\(loadVar T0 a).run P w= .ok v w/\aC H F w D v:=by
 unfold zO at h;split at h
 .cases h
 rename_i kk hu;split at h
 case h_2=>cases h
 rename_i o p off hD;split at h
 case h_2=>cases h
 rename_i s0 T1 tr cz;split at h
 case h_2=>cases h
 rename_i s dN hg;obtain⟨h1,rfl⟩:=rG h;obtain⟨h1,h3⟩:=cx h1;obtain rfl:=beq_true h1;obtain⟨b,hb,e⟩:=gN _ _ hD;obtain⟨es,hh,OU⟩:=hs.box cz hb;obtain⟨g1,g2⟩:=OU.get hg
 obtain⟨v,hv,mG⟩:=B3 (b:=b) (off:=dN) T hu g1 (λj u hj=>by
  grind [vr]) (jT T h3)
 exact⟨_,v,e,hv,mG⟩
def NG(tmps:Array Value):ResultVar->Sem Value
 | .tmp t=>pure (tmps.getD t undef)
 | .cell a t=>do loadVar t (<-asAddr (tmps.getD a undef))
def zQ(T:be P){aF:List (Nat×aD)}{objs:List (Nat×(Nat×Th))}(gN:∀t d,find aF t=aa d->aC H F w d (ρ t))(hs:aJ U H F w (find objs) n){tmps:Array Value}(hf:∀t,tmps.getD t undef=ρ t):
 {rs:List ResultVar}->{ds:List aD}->zP T aF objs rs=aa ds->∃vs:List Value,(rs.mapM (NG tmps)).run P w= .ok vs w/\fx H F w ds vs
 |[],ds,h=>by obtain rfl:=agx h;exact⟨[],by simp,rfl⟩
 | .tmp t::l,ds,h=>by
   unfold zP at h;split at h
   case h_2=>cases h
   rename_i d hd;split at h
   case h_2=>cases h
   rename_i Wf xc;obtain rfl:=agx h;obtain⟨vs,h1,h2⟩:=zQ T gN hs hf xc;refine⟨ρ t::vs,?_,ρ t,vs,rfl,gN t d hd,h2⟩
   grind [NG,Go.Sem.run_bind,Go.Sem.run_pure,Go.Result.andThen_ok]
 | .cell t T0::l,ds,h=>by
   unfold zP at h;split at h
   case h_2=>cases h
   rename_i d hd;split at h
   case h_2=>cases h
   rename_i Wf xc;obtain rfl:=agx h;obtain⟨vs,h1,h2⟩:=zQ T gN hs hf xc;obtain⟨a,v,e1,e2,e3⟩:=EB T hd gN hs;refine⟨v::vs,?_,v,vs,rfl,e3,h2⟩;have ha:(asAddr (.pointer (aa a))).run P w= .ok a w:=rfl
   grind [NG,Go.Sem.run_bind,Go.Result.andThen_ok,Go.Sem.run_pure]
def EC(T:be P){fn:Func}{rs:List ResultVar}(MB:fn.results.toList=rs){aF:List (Nat×aD)}{objs:List (Nat×(Nat×Th))}(gN:∀t d,find aF t=aa d->aC H F w d (ρ t))(hs:aJ U H F w (find objs) n){tmps:Array Value}(hf:∀t,tmps.getD t undef=ρ t)
 {ds:List aD}(h:zP T aF objs rs=aa ds):∃vs:List Value,(results fn tmps).run P w= .ok (xg vs) w/\fx H F w ds vs:=by
 obtain⟨vs,h1,h2⟩:=zQ T gN hs hf h;refine⟨vs,?_,h2⟩;have e:fn.results=rs.toArray:=dE MB;have er:results fn tmps=(fn.results.mapM (NG tmps)>>= λvs=>pure (if h:vs.size=1 then vs[0]else Value.tuple vs)):=rfl;rw[er,e,List.mapM_toArray]
 have:∀vs:List Value,(if h:vs.toArray.size=1 then vs.toArray[0]else Value.tuple vs.toArray)=xg vs:=by
  intro vs
  match vs with
  |[]=>rfl
  |[v]=>rfl
  |a::b::l=>simp[xg]
 simp_all
def Ge:{l:List (Nat×SS)}->{vs:List ke}->{k t:Nat}->{d:aD}->s7 k l=af->find (cU l vs).1 t=aa d->t<k+l.length
 |[],_,_,_,_,_,h=>by cases h
 |(t0,s)::l,vs,k,t,d,hi,h=>by
  obtain⟨h1,h2⟩:=cx hi;have h':find ((t0,(eC s vs).1)::(cU l (eC s vs).2).1) t=aa d:=h;rw[aY]at h';have:=beq_true h1;rw[List.length_cons];split at h'
  .omega
  .have:=Ge h2 h';omega
def Tt(P:Program)(nt:Nat)(c:Code)(run:{R:Type}->State->(Ex->State->Option R)->Option R):Prop:=
 ∀{R:Type}{q:R}{st:State}{k:Ex->State->Option R}{H:aI}{F:Nat->Prop}{w:World}{ρ:Nat->Value}{G:Nat->Prop}{w0:World}{F0:Nat->Prop}{Q:Exit->(Nat->Value)->World->Prop},
  run st k=aa q->cH G w0 F0 H F w ρ st->(∀e cO H' F' w' cN,k e cO=aa q->Qt G w0 F0 (writes c) H F w ρ H' F' w' cN cO->Q e.tU cN w')->uK P nt c Q ρ w
def Qw{E:Env P}{f:FuncId}{fn:Func}{c:Code}{rs:List ResultVar}{sg:oH}{run:{R:Type}->State->(Ex->State->Option R)->Option R}(hW:Tt P fn.ntmps c run)(hf:P.funcs[f]? =aa fn)(hn:(fn.name== "runtime.NumGoroutine")=ag)(hb:fn.body=aa c)(MB:fn.results.toList=rs)
 (oW:s7 0 sg.inn.aF=af)(hlen:Nat.ble sg.inn.aF.length fn.ntmps=af)(AO:agC rs.length sg.out.aF.length=af)
 (AH:∀x,sg.fn x=run (init sg.inn x) (Tq E.T rs sg.inn.nxt sg.out)):gD P f sg:=by
 refine⟨⟨fn,hf,hn,by rw[hb];rfl⟩,λx y ry args w H F G Ft gN cz fh hG=>?_⟩
 have hlen:sg.inn.aF.length<=fn.ntmps:=by simpa using hlen
 have AO:=beq_true AO
 refine(yV (R:=λv w'=>∃vs,v=xg vs/\vs.length=sg.out.aF.length/\∃H' F',Ext G w w'/\H.le H'/\(∀b,F b->F' b)/\(∀b,F' b->F b\/w.heap.size<=b\/G b)/\
  (∀t d,find (cU sg.out.aF (dc _ y)).1 t=aa d->aC H' F' w' d (vs.getD t undef))/\
  aJ (λk=>w.heap.size<=k\/G k) H' F' w' (find (gO sg.inn.nxt sg.out.objs (cU sg.out.aF (dc _ y)).2)) sg.out.nxt/\iz H' sg.out.nxt) hf hb (by omega) λρ Qi=>?_).mono (by grind)
 have Xf:∀t,t<args.length->ρ t=args.getD t undef:=(by grind)
 have keys:∀t d,find (cU sg.inn.aF (dc sg.inn.rows x)).1 t=aa d->aC H F w d (ρ t):=λt d hd=>by
  rw[Xf t (by have:=Ge oW hd;omega)]
  grind
 have hh:cH G w F H F w ρ (init sg.inn x):=⟨⟨keys,cz,fh⟩,⟨⟨rfl,⟨rfl,agB _⟩,rfl,agB _,λ_ _ _=>rfl⟩,λ_ h=>h,λ_ h=> .inl h⟩⟩
 refine hW ((AH x).symm.trans ry) hh λe cO H' F' w' cN h1 h2=>?_
 have main:Qu E.T rs sg.inn.nxt sg.out cO=aa y->∀act,Fr fn.ntmps act cN->∃v,(results fn act.tmps).run P w'= .ok v w'/\∃vs,v=xg vs/\vs.length=sg.out.aF.length/\∃H' F',Ext G w w'/\H.le H'/\(∀b,F b->F' b)/\(∀b,F' b->F b\/w.heap.size<=b\/G b)/\
  (∀t d,find (cU sg.out.aF (dc _ y)).1 t=aa d->aC H' F' w' d (vs.getD t undef))/\
  aJ (λk=>w.heap.size<=k\/G k) H' F' w' (find (gO sg.inn.nxt sg.out.objs (cU sg.out.aF (dc _ y)).2)) sg.out.nxt/\iz H' sg.out.nxt:=by
  intro hr act yY;unfold Qu at hr;split at hr
  case h_2=>cases hr
  rename_i ds xc;obtain⟨vs,g1,g2⟩:=EC E.T MB h2.here.sat.slot h2.here.sat.ob yY.get xc;have hdl:=kh g2;refine⟨_,g1,vs,rfl,?_,?_⟩
  .have:∀{rs:List ResultVar}{ds:List aD},zP E.T cO.aF cO.objs rs=aa ds->ds.length=rs.length:=by
    intro rs
    induction rs with
    |nil=>intro ds h;obtain rfl:=agx h;rfl
    |cons r l ih=>
     intro ds h
     cases r<;>unfold zP at h<;>split at h<;>try cases h
     all_goals grind
   grind
  .have Nr:aJ (UU G w) H F w (find (del [] [])) sg.inn.nxt:=⟨λ_ _ _ h=>(by cases h),λ_ _ _ _ _ _ _ _ _ h=>(by cases h),cz.fresh,cz.lt,cz.new,cz.gl⟩
   obtain⟨H4,F4,h4,k4⟩:=h2.here.oK;obtain⟨st1,H3,F3,hr,h3,k3⟩:=cH.zN (ρ:=λt=>vs.getD t undef) (st:={aF:=iD 0 ds,objs:=(oK cO).objs,nxt:=(oK cO).nxt}) sg.out.aF ⟨⟨λt d hd=>aC.keep k4.gm k4.step (by simpa using(o8 g2 t d hd).2),h4.sat.ob,h4.sat.all⟩,h4.glob⟩ hr;split at hr
   case h_2=>cases hr
   rename_i _ z rest hp;obtain⟨bs,aZ⟩:=rest;obtain rfl:=agx hr;obtain⟨F2,H2,a1,a2,a3,_,a5,_,a6,a7,a8⟩:=vQ (U':=UU G w) (ns:=[]) (objs0:=[]) (ρ:=λt=>vs.getD t undef) hp Nr fh ((h2.keeps.trans k4).trans k3) h3.sat.ob (λt d hd=>h3.sat.slot t d hd)
   have uw:=a8 h3.sat.ob.new (λo s t v k _ m2 m3 m4=>by
    obtain⟨v',ey,cG⟩:=a1.obj _ _ _ m2;rw[m3]at ey;obtain rfl:=agx ey
    exact cG.use k m4) (λ_ _ _ _ _ h=>by cases h)
   rw[show del [] ([]:List (Nat×(Nat×Th)))=[]from rfl,List.append_nil]at uw;refine⟨H2,F2,h3.glob.ext,a5,λb hb=>a2 b (h3.glob.le b hb),λb hb=>?_,a7,uw,a6⟩
   rcases a3 b hb with m1|m1
   .exact h3.glob.new b m1
   .exact .inr (h3.sat.ob.fR b m1)
 cases e with
 |normal=>exact main h1
 |ret=>exact main h1
 |exit id=>cases h1
 |goto l=>cases h1
def Tu{E:Env P}{f:FuncId}{fn:Func}{c:Code}{rs:List ResultVar}{N:Nat}{a:u0}{sg:oH}(hf:P.funcs[f]? =aa fn)(hn:(fn.name== "runtime.NumGoroutine")=ag)(hb:fn.body=aa c)(MB:fn.results.toList=rs)
 (oW:s7 0 sg.inn.aF=af)(hlen:Nat.ble sg.inn.aF.length fn.ntmps=af)(AO:agC rs.length sg.out.aF.length=af)
 (AH:∀x,sg.fn x=Qv E fn.ntmps N c rs a sg.inn sg.out x):gD P f sg:=
 Qw (E:=E) (run:=λst k=>exec E fn.ntmps N c a st k) (λh hh hk=>iU c h hh hk) hf hn hb MB oW hlen AO AH
structure CT(P:Program)where
 f:Nat
 sg:oH
 ok:gD P f sg
def ck{P:Program}{f:Nat}{sg:oH}(h:gD P f sg):CT P:=⟨f,sg,h⟩
def CT.tab{P:Program}:List (CT P)->List (Nat×oH)
 |[]=>[]
 |c::l=>(c.f,c.sg)::CT.tab l
def CT.zR{P:Program}:{l:List (CT P)}->∀p∈CT.tab l,gD P p.1 p.2
 |[],_,h=>by cases h
 |c::l,p,h=>by
  rcases agY.1 h with rfl|h
  .exact c.ok
  .exact CT.zR p h
def Xg(fn:Func)(sg:oH):Bool:= !(fn.name== "runtime.NumGoroutine")&&fn.body.isSome&&s7 0 sg.inn.aF&&Nat.ble sg.inn.aF.length fn.ntmps&&agC fn.results.toList.length sg.out.aF.length
def fw(E:Env P){f:FuncId}{fn:Func}{N:Nat}{sg:oH}(a:u0)(hf:P.funcs[f]? =aa fn)(hc:Xg fn sg=af)
 (AH:∀x,sg.fn x=Qv E fn.ntmps N (fn.body.getD .skip) fn.results.toList a sg.inn sg.out x):gD P f sg:=by
 unfold Xg at hc;simp only[ahu,Bool.not_eq_true']at hc;obtain⟨⟨⟨⟨h1,h2⟩,h3⟩,h4⟩,h5⟩:=hc;obtain⟨c,hc⟩:=ag5.1 h2;exact Tu (E:=E) (N:=N) (a:=a) hf h1 (by rw[hc];rfl) rfl h3 h4 h5 AH
@[reducible] def SS.l(r:Row):SS:= .val ag (.leaf r)
@[reducible] def SS.g(r:Row):SS:= .val af (.leaf r)
def zS{f:FuncId}{fn:Func}{sg:oH}(hf:P.funcs[f]? =aa fn)(hn:(fn.name== "runtime.NumGoroutine")=ag)(hb:fn.body.isNone=ag)(AH:∀x,sg.fn x=ae):gD P f sg:=
 ⟨⟨fn,hf,hn,hb⟩,(by grind)⟩
abbrev az:Row:= .int .i64
def nn{α:Type}:Nat->List α->List (Nat×α)
 |_,[]=>[]
 |n,a::l=>(n,a)::nn (n+1) l
abbrev JS.j1(l:List SS)(o:List OS)(k:Nat):JS:=⟨nn 0 l,nn 0 o,[],k⟩
abbrev JS.i1(l:List SS):JS:= .j1 l [] 0
abbrev JS.w1(t:Nat)(r:Row):JS:= .j1 [.val ag (.own 0)] [.own t r] 1
abbrev u2{A B R:Type}(f:A->B->R)(x:A×B):R:=f x.1 x.2
abbrev u3{A B C R:Type}(f:A->B->C->R)(x:A×B×C):R:=f x.1 x.2.1 x.2.2
abbrev u4{A B C D R:Type}(f:A->B->C->D->R)(x:A×B×C×D):R:=f x.1 x.2.1 x.2.2.1 x.2.2.2
abbrev u5{A B C D E R:Type}(f:A->B->C->D->E->R)(x:A×B×C×D×E):R:=f x.1 x.2.1 x.2.2.1 x.2.2.2.1 x.2.2.2.2
abbrev u6{A B C D E F R:Type}(f:A->B->C->D->E->F->R)(x:A×B×C×D×E×F):R:=f x.1 x.2.1 x.2.2.1 x.2.2.2.1 x.2.2.2.2.1 x.2.2.2.2.2
inductive Tk where
 |O|T|X
 |B (i n:Nat)
 |L (i n:Nat)
 |E (n:Nat)
 |R (j:JS)
 |J (j:JS)
 |P (j:JS)
 |K (j:JS)
def dk:Nat->List Tk->(u0->List Tk->u0)->u0
 |k+1, .O::l,c=>dk k l λa l=>c (.two .nil a) l
 |k+1, .T::l,c=>dk k l λa l=>dk k l λb l=>c (.two a b) l
 |_+1, .X::l,c=>c .nil l
 |_+1, .B i n::l,c=>c (.meet ⟨[(i, .l .bool)],[],[],n⟩ .nil .nil) l
 |k+1, .L i n::l,c=>dk k l λa l=>c (.loop ⟨[(i, .l az)],[],[],n⟩ a) l
 |k+1, .E n::l,c=>dk k l λa l=>dk k l λb l=>c (.join ⟨[],[],[],n⟩ a b) l
 |k+1, .R j::l,c=>dk k l λa l=>dk k l λb l=>c (.meet j a b) l
 |k+1, .J j::l,c=>dk k l λa l=>dk k l λb l=>c (.join j a b) l
 |k+1, .P j::l,c=>dk k l λa l=>c (.loop j a) l
 |k+1, .K j::l,c=>dk k l λa l=>c (.loopK j a) l
 |_,_,c=>c .nil []
abbrev ak(l:List Tk):u0:=dk 9999 l λa _=>a
instance{P:Program}{f:Nat}{sg:oH}:CoeOut (gD P f sg) (CT P):=⟨ck⟩
end
end Go.Proofs.YtfeahmiobbjklaaGreatDoor
end
namespace Go.Proofs.YtfeahmiobbjklaaGreatDoor
open Go Go.RowKit
set_option maxRecDepth 100000
set_option linter.unusedSimpArgs false
set_option linter.unusedVariables false
set_option linter.defProp false
inductive ED(F:Nat->Prop)(w:World):Nat->List (Nat×SS)->List ke->List Value->Prop where
 |nil {k:Nat}:ED F w k [] [] []
 |cons {k:Nat} {agg:Bool} {r:Row} {x:r.den} {v:Value} {ss:List (Nat×SS)} {ds:List ke} {vs:List Value} (h:aO ⟨λ_=>ae,λ_=>ae,λ_ _=>False⟩ F w agg (.leaf r x) v) (hs:ED F w (k+1) ss ds vs):ED F w k ((k, .val agg (.leaf r))::ss) (⟨r,x⟩::ds) (v::vs)
def ED.aF{F:Nat->Prop}{w:World}{k:Nat}{ss:List (Nat×SS)}{ds:List ke}{vs:List Value}(h:ED F w k ss ds vs):(∀t d,find (cU ss ds).1 t=aa d->k<=t/\aC ⟨λ_=>ae,λ_=>ae,λ_ _=>False⟩ F w d (vs.getD (t-k) undef))/\(cU ss ds).2=[]/\vs.length=ss.length:=by
 induction h with
 |nil=>exact⟨λ_ _ h=>(by cases h),rfl,rfl⟩
 | @cons k agg r x v ss ds vs h hs ih=>
   refine⟨λt d hf=>?_,ih.2.1,by simp[ih.2.2]⟩;have rA:find ((k,aD.val agg (bif r.beq r then Tree.leaf r x else .nil))::(cU ss ds).1) t=aa d:=hf;rw[aY]at rA;split at rA
   .rename_i e;subst e;obtain rfl:=agx rA;rw[Row.beq_refl,Nat.sub_self];exact⟨agB _,h⟩
   grind
def KS(F:Nat->Prop)(w:World)(k:IntKind)(x:Int):aO ⟨λ_=>ae,λ_=>ae,λ_ _=>False⟩ F w ag (.leaf (.int k) x) (.int k x):=aO.mI rfl
def pd{F:Nat->Prop}{w:World}{r:Row}{x:r.den}{es:List Value}(h:cD F w r es x):aO ⟨λ_=>ae,λ_=>ae,λ_ _=>False⟩ F w af (.leaf r x) (.agg es.toArray):=⟨es,h,rfl,by simp⟩
def Ic{P:Program}{f:FuncId}{inn:JS}{fn:cW inn.rows->Option Bool}(h:gD P f ⟨inn,⟨[(0, .val ag (.leaf .bool))],[],[],0⟩,fn⟩){x:cW inn.rows}{y:Bool}(hy:fn x=aa y){ds:List ke}(xc:dc inn.rows x=ds){W:World}{vs:List Value}
 (ha:ED (λb=>b<W.heap.size) W 0 inn.aF ds vs)(ho:inn.objs=[])(Qx:oY (λb=>b<W.heap.size) W):Calls P f vs.toArray W λe W'=>e= .returned (.bool y)/\Below W.heap.size W W':=by
 obtain⟨h1,h2,h3⟩:=ha.aF;subst xc
 refine(h.ok x y hy vs W ⟨λ_=>ae,λ_=>ae,λ_ _=>False⟩ (λb=>b<W.heap.size) (λ_=>False) h3 (by grind) ?_ (λ_ _=>⟨rfl,rfl⟩) (λ_ h=>h.elim)).mono λe W' ⟨us,he,Nt,H',F',a1,_,_,_,a5,_⟩=>?_
 .show aJ _ _ _ W (find (gO 0 inn.objs _)) inn.nxt
  rw[ho];exact⟨λ_ _ _ h=>(by cases h),λ_ _ _ _ _ _ _ _ _ h=>(by cases h),λ_ _ _=>⟨rfl,rfl⟩,λ_ h=>h,λ_ h=> .inl h,Qx⟩
 .refine⟨?_,⟨a1.os,a1.tape.1,a1.output,a1.size,λk hk=>a1.block k hk (λh=>h)⟩⟩
  match us,Nt with
  |[u],_=>
   have:=a5 0 (dK y) rfl;have hu:u= .bool y:=aO.bool (x:=y) this;rw[he,hu];rfl
def Ie{H:Type}{enc:TypeId×Value->H}{P:Program}{W:World}{base:Nat}{spare:Nat->Bool}{held:Bool}{fuel:Nat}{t e:TypeId}{n:Nat}{k:IntKind}(ht:P.underlying t=aa (.array n e))(he:P.underlying e=aa (.int k))(hc:P.cellsOf e=1)(Xh:P.cellsOf t=n)
 {cs:List Value}{ns:List Int}{q:List MemPlace}(hd:DataW.trod enc P W base spare held fuel t cs=aa (.agg (ns.map λx=> .lit (.int k x)),q)):cs=ns.map λx=> .int k x:=by
 obtain⟨xs,m,_,hx,hl,hn,ug⟩:=DataW.trod_array ht hd;simp only[Prod.mk.injEq,DataW.agg.injEq]at hx
 have hln:ns.length=n:=by rw[<-hn,<-List.length_map (f:=λx:Int=>(DataW.lit (.int k x):DataW H)),hx.1,List.length_map]
 apply List.ext_getElem?
 intro i;by_cases hi:i<n
 .have h:=ug i hi;rw[hc,Nat.mul_one,agz (by omega:i<xs.length)]at h;obtain⟨z,h1,h2,_⟩:=DataW.trod_int he h
  have h3:(xs.map (·.1))[i]? =aa (.lit (.int k z)):=by
   rw[List.getElem?_map,agz (by omega:i<xs.length),h2];rfl
  rw[<-hx.1,List.getElem?_map,agz (by omega:i<ns.length)]at h3;simp only[Option.map_some,agH,DataW.lit.injEq,Lit.int.injEq,true_and]at h3;rw[List.getElem?_map,agz (by omega:i<ns.length),h3]
  have h4:((cs.drop i).take 1)[0]? =aa (.int k z):=by rw[h1];rfl
  grind
 grind
def NH{W:World}{b off:Nat}{v:Value}(h:W.cell? ⟨b,off,ae⟩=aa v):b<W.heap.size:=by
 unfold World.cell? at h
 grind
section
section
variable {P:Program} {nt N:Nat} {R:Type}
variable {ρ:Nat->Value} {w w0:World} {H:aI} {F F0 G:Nat->Prop}
end
end
end Go.Proofs.YtfeahmiobbjklaaGreatDoor
