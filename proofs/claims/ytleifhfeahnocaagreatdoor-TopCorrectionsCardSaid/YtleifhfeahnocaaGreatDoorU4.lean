/- Joined texts: Exec Draw2 Draw4 Fn Law Laid Jump. -/
import Derived.Test.YtleifhfeahnocaaGreatDoorU3
import Derived.Scope
import Derived.Test.YtleifhfeahnocaaGreatDoorU1
import Derived.ProofKit
import Derived.LaidMore
import Derived.OpenShut
import Derived.Stop.Joined
set_option linter.defProp false
open _root_.Bool renaming false->ag,true->af
open _root_.Option renaming none->ae,some->aa
open _root_.Array renaming toArray_toList->ajZ
open _root_.List.cons renaming injEq->aj3
open _root_.Nat renaming beq->ajf,blt->ajK,le_trans->ajs,le_refl->ajh
open _root_.Option.some renaming inj->aja,injEq->ajj
open _root_.Prod.mk renaming inj->akA
open _root_.Go.Sem renaming run_bind->ajw
open _root_.List renaming getElem?_eq_getElem->ajb
open _root_.Go.World renaming cell?->aj0
namespace Go.Proofs.YtleifhfeahnocaaGreatDoor
open Go Go.RowKit
set_option maxRecDepth 100000
set_option linter.unusedSimpArgs false
set_option linter.unusedVariables false
set_option linter.defProp false
section
structure Env(P:Program)where
 T:bj P
 tab:List (Nat×oN)
 ok:∀p∈tab,fZ P p.1 p.2
 mix:P.follows .mixedOrders=af
 deep:Bool
 drop:Bool
def AT(rd:Operand->Option aI):List Operand->Option (List (Nat×List Bool×Nat))
 |[]=>aa []
 |x::xs=>match rd x with
  |some (.ptr o p off)=>match AT rd xs with
   |some cs=>aa ((o,p,off)::cs)
   |none=>ae
  |_=>ae
def zA{H:aK}{F:Nat->Prop}{w:World}{ρ:Nat->Value}{rd:Operand->Option aI}(gO:∀x d,rd x=aa d->aH H F w d (ev ρ x)):{xs:List Operand}->{cs:List (Nat×List Bool×Nat)}->AT rd xs=aa cs->mh H cs (xs.map (ev ρ))
 |[],cs,h=>by obtain rfl:=aja h;rfl
 |x::xs,cs,h=>by
  unfold AT at h;split at h
  case h_2=>cases h
  rename_i o p off hx;split at h
  case h_2=>cases h
  rename_i rE rT;obtain rfl:=aja h;exact⟨_,_,rfl,gO _ _ hx,zA gO rT⟩
def nE{R:Type}(rd:Operand->Option aI)(fn:Fn)(first caps:Array Operand)(k:eD->Option R):Option R:=
 match fn,first.toList with
 | .func f,[]=>match AT rd caps.toList with
   |some cs=>k {dst:= .fn f cs}
   |none=>ae
 |_,_=>ae
def AU{R:Type}{P:Program}{U:Nat->Prop}{H:aK}{F:Nat->Prop}{w:World}{ρ:Nat->Value}{ob:Nat->Option (Nat×Th)}{n d:Nat}{ty:TypeId}{pos:String}{aft:Array Edge}{rd:Operand->Option aI}(gO:∀x d,rd x=aa d->aH H F w d (ev ρ x)){fn:Fn}{first caps:Array Operand}{k:eD->Option R}{q:R}
 (h:nE rd fn first caps k=aa q)(hs:aL U H F w ob n):∃e,k e=aa q/\cO P U H F w ρ ob n ⟨aa d, .makeFunc fn first caps,ty,pos,aft,ae⟩ e:=by
 unfold nE at h;split at h
 case h_2=>cases h
 rename_i f hf;split at h
 case h_2=>cases h
 rename_i cs rT
 have RA:first= #[]:=by rw[<-ajZ (xs:=first),hf]
 subst RA
 have e:caps.map (ev ρ)=(caps.toList.map (ev ρ)).toArray:=by rw[<-List.map_toArray,ajZ]
 exact⟨_,h,cn hs (v:= .func (.func f) #[] (caps.toList.map (ev ρ)).toArray) (by simp[execOp,Instr.makeFunc,e]) ⟨_,rfl,zA gO rT⟩⟩
noncomputable def rJ{R:Type}{P:Program}(E:Env P)(rd:Operand->Option aI)(objs:List (Nat×(Nat×Th)))(n:Nat)(callee:Callee)(args:Array Operand)(wY:Array TypeId)(k:eD->Option R):Option R:=
 match callee with
 | .builtin .len=>match args.toList,wY.toList with
   |[x],[t]=>match rd x with
    |some D=>match IJ E.T (find objs) t D with
     |some D'=>k {dst:=D'}
     |none=>ae
    |none=>ae
   |_,_=>ae
 | .builtin .cap=>match args.toList,wY.toList with
   |[x],[t]=>match rd x with
    |some D=>match Ra E.T t D with
     |some D'=>k {dst:=D'}
     |none=>ae
    |none=>ae
   |_,_=>ae
 | .builtin .append=>match args.toList,wY.toList with
   |[x,y],[t,t']=>bif ajf t t' then(match rd x with
    |some X=>match rd y with
     |some Y=>oZ E.T (find objs) n t X Y k
     |none=>ae
    |none=>ae)else(match rd x with
    |some X=>match rd y with
     |some Y=>oT E.T (find objs) n t t' X Y k
     |none=>ae
    |none=>ae)
   |_,_=>ae
 | .builtin .max=>match args.toList,wY.toList with
   |[x,y],[_,_]=>match rd x with
    |some X=>match rd y with
     |some Y=>match vP af X Y with
      |some D=>k {dst:=D}
      |none=>ae
     |none=>ae
    |none=>ae
   |_,_=>ae
 | .builtin .min=>match args.toList,wY.toList with
   |[x,y],[_,_]=>match rd x with
    |some X=>match rd y with
     |some Y=>match vP ag X Y with
      |some D=>k {dst:=D}
      |none=>ae
     |none=>ae
    |none=>ae
   |_,_=>ae
 | .value g=>zw E.tab rd objs n g args.toList k
 | .invoke x name=>ri E.T E.tab rd objs n x name args.toList k
 |_=>ae
noncomputable def OF{R:Type}{P:Program}(E:Env P)(rd:Operand->Option aI)(objs:List (Nat×(Nat×Th)))(n:Nat)(dst:Option Nat)(op:Op)(k:eD->Option R):Option R:=
 match dst with
 |none=>match op with
  | .store t x y=>match rd x with
    |some X=>match rd y with
     |some Y=>ra E.T (find objs) n t X Y k
     |none=>ae
    |none=>ae
  | .call c=>rJ E rd objs n c.callee c.args c.argTypes k
  | .mapUpdate t m x y=>match rd m with
    |some M=>match rd x with
     |some X=>match rd y with
      |some Y=>lj E.T (find objs) n t M X Y k
      |none=>ae
     |none=>ae
    |none=>ae
  |_=>ae
 |some _=>match op with
  | .move x=>match rd x with
    |some D=>k {dst:=D}
    |none=>ae
  | .assign x=>match rd x with
    |some D=>k {dst:=D}
    |none=>ae
  | .pick c x y=>match rd c with
    |some C=>match asBool C with
     |some b=>match(if b=af then rd x else rd y)with
      |some D=>k {dst:=D}
      |none=>ae
     |none=>ae
    |none=>ae
  | .alloc t=>tW E.T n t k
  | .box t x=>match rd x with
    |some X=>II n t X k
    |none=>ae
  | .build t ps=>tX E.T rd t ps k
  | .buildSlice t m ps=>vT E.deep E.T rd (find objs) n t m ps k
  | .load t x=>match rd x with
    |some X=>qh E.T (find objs) n t X k
    |none=>ae
  | .nilCheck x=>match rd x with
    |some (.ptr o p off)=>k {dst:= .ptr o p off}
    |some (.elem o s r i z p off)=>k {dst:= .elem o s r i z p off}
    |some (.dlm o d i p off)=>k {dst:= .dlm o d i p off}
    |some (.at r z)=>k {dst:= .at r z}
    |_=>ae
  | .binOp o t x y _=>match rd x with
    |some X=>match rd y with
     |some Y=>IQ E.T (find objs) o t (Uy y) X Y k
     |none=>ae
    |none=>ae
  | .unOp o _ x=>match rd x with
    |some X=>match YI o X with
     |some D=>k {dst:=D}
     |none=>ae
    |none=>ae
  | .convert s t x=>match rd x with
    |some X=>match Lq E.T s t X with
     |some D=>k {dst:=D}
     |none=>ae
    |none=>ae
  | .makeSlice t a b=>match rd a with
    |some A=>match asInt A with
     |some (_,i)=>match rd b with
      |some B=>match asInt B with
       |some (_,j)=>wN E.deep E.T n t (qe a b) i j k
       |none=>ae
      |none=>ae
     |none=>ae
    |none=>ae
  | .slice t x lo hi ae=>match rd x with
    |some X=>tY E.drop E.T rd (find objs) n t X lo hi k
    |none=>ae
  | .slice t x lo (aa hi) (aa mx)=>match rd x with
    |some X=>qZ E.T rd (find objs) t X lo hi mx k
    |none=>ae
  | .fieldAddr t x f=>match rd x with
    |some X=>match EN E.T t f X with
     |some D=>k {dst:=D}
     |none=>ae
    |none=>ae
  | .field t x f=>match rd x with
    |some X=>match AE E.T t f X with
     |some D=>k {dst:=D}
     |none=>ae
    |none=>ae
  | .indexAddr t x y=>match rd x with
    |some X=>match rd y with
     |some Y=>match asInt Y with
      |some (_,i)=>tU E.T (find objs) t X i k
      |none=>ae
     |none=>ae
    |none=>ae
  | .index t x y=>match rd x with
    |some X=>match rd y with
     |some Y=>match asInt Y with
      |some (_,i)=>q6 E.T (find objs) t X i k
      |none=>ae
     |none=>ae
    |none=>ae
  | .extract x i=>match rd x with
    |some X=>match wC X i with
     |some D=>k {dst:=D}
     |none=>ae
    |none=>ae
  | .call c=>rJ E rd objs n c.callee c.args c.argTypes k
  | .makeFunc fn first caps=>nE rd fn first caps k
  | .makeMap t ae=>nD E.deep E.T n t k
  | .lookup t m x ok=>match rd m with
    |some M=>match rd x with
     |some X=>oX E.T (find objs) n t ok M X k
     |none=>ae
    |none=>ae
  | .makeInterface t x=>match rd x with
    |some X=>I6 E.T t X k
    |none=>ae
  | .typeAssert x _ t ok=>match rd x with
    |some X=>rf E.T t ok X k
    |none=>ae
  |_=>ae
section
variable {P:Program} {ρ:Nat->Value} {w w':World} {H H':aK} {F F':Nat->Prop} {U:Nat->Prop} {n:Nat} {R:Type}
variable {ty:TypeId} {pos:String} {aft:Array Edge} {dst:Option Nat} {d:Nat}
def ei{α:Type}{a:Array α}{l:List α}(h:a.toList=l):a=l.toArray:=by grind
def LW(E:Env P){rd:Operand->Option aI}(gO:∀x d,rd x=aa d->aH H F w d (ev ρ x)){objs:List (Nat×(Nat×Th))}{c:Call}{k:eD->Option R}{q:R}
 (h:rJ E rd objs n c.callee c.args c.argTypes k=aa q)(hs:aL U H F w (find objs) n):∃e,k e=aa q/\cO P U H F w ρ (find objs) n ⟨aa d, .call c,ty,pos,aft,ae⟩ e:=by
 obtain⟨callee,args,wY⟩:=c;simp only at h;unfold rJ at h;split at h
 .split at h
  case h_2=>cases h
  rename_i x t ha ht;obtain rfl:=ei ha;obtain rfl:=ei ht;split at h
  case h_2=>cases h
  rename_i D hD;split at h
  case h_2=>cases h
  rename_i D' GK;exact⟨_,h,GU E.T GK hs (gO _ _ hD)⟩
 .split at h
  case h_2=>cases h
  rename_i x t ha ht;obtain rfl:=ei ha;obtain rfl:=ei ht;split at h
  case h_2=>cases h
  rename_i D hD;split at h
  case h_2=>cases h
  rename_i D' GK;exact⟨_,h,N8 E.T GK hs (gO _ _ hD)⟩
 .split at h
  case h_2=>cases h
  rename_i x y t t' ha ht;obtain rfl:=ei ha;obtain rfl:=ei ht
  cases hb:ajf t t' with
  |true=>
   rw[hb,cond_true]at h;obtain rfl:=beq_true hb;split at h
   case h_2=>cases h
   rename_i X hX;split at h
   case h_2=>cases h
   rename_i Y hY;exact CH E.T h hs (gO _ _ hX) (gO _ _ hY)
  |false=>
   rw[hb,cond_false]at h;split at h
   case h_2=>cases h
   rename_i X hX;split at h
   case h_2=>cases h
   rename_i Y hY;exact Cp E.T h hs (gO _ _ hX) (gO _ _ hY)
 .split at h
  case h_2=>cases h
  rename_i x y t t' ha ht;obtain rfl:=ei ha;obtain rfl:=ei ht
  grind [wD]
 .split at h
  case h_2=>cases h
  rename_i x y t t' ha ht;obtain rfl:=ei ha;obtain rfl:=ei ht
  grind [wD]
 .exact CY E.ok gO h hs
 .exact w4 E.T E.ok gO h hs
 .cases h
def OG:Callee->Bool
 | .value _=>af
 | .invoke .. =>af
 |_=>ag
def yA(E:Env P){rd:Operand->Option aI}(gO:∀x d,rd x=aa d->aH H F w d (ev ρ x)){objs:List (Nat×(Nat×Th))}{c:Call}{k:eD->Option R}{q:R}(hc:OG c.callee=af)
 (h:rJ E rd objs n c.callee c.args c.argTypes k=aa q)(hs:aL U H F w (find objs) n):∃e,k e=aa q/\cO P U H F w ρ (find objs) n ⟨ae, .call c,ty,pos,aft,ae⟩ e:=by
 obtain⟨callee,args,wY⟩:=c;simp only at h hc
 cases callee with
 |value g=>exact CY E.ok gO h hs
 |invoke x name=>exact w4 E.T E.ok gO h hs
 |builtin b=>cases hc
end
section
variable {P:Program} {ρ:Nat->Value} {w w':World} {H H':aK} {F F':Nat->Prop} {U:Nat->Prop} {n:Nat} {R:Type}
variable {ty:TypeId} {pos:String} {aft:Array Edge} {dst:Option Nat} {d:Nat}
def I9{c x y:Operand}{b:Bool}{D:aI}{ob:Nat->Option (Nat×Th)}(hs:aL U H F w ob n)(hc:ev ρ c= .bool b)(hx:aH H F w D (ev ρ (if b=af then x else y))):cO P U H F w ρ ob n ⟨aa d, .pick c x y,ty,pos,aft,ae⟩ {dst:=D}:=by
 cases b with
 |true=>exact ba hs (wa hc rfl) hx
 |false=>exact ba hs (vz hc rfl) hx
def LX(E:Env P){rd:Operand->Option aI}(gO:∀x d,rd x=aa d->aH H F w d (ev ρ x)){objs:List (Nat×(Nat×Th))}{op:Op}{k:eD->Option R}{q:R}
 (BZ:dst=ae->∀c,op= .call c->OG c.callee=af)(h:OF E rd objs n dst op k=aa q)(hs:aL U H F w (find objs) n):∃e,k e=aa q/\cO P U H F w ρ (find objs) n ⟨dst,op,ty,pos,aft,ae⟩ e:=by
 cases dst with
 |none=>
  unfold OF at h;simp only at h;split at h
  .split at h
   case h_2=>cases h
   rename_i X hX;split at h
   case h_2=>cases h
   rename_i Y hY;exact E2 E.T h hs (gO _ _ hX) (gO _ _ hY)
  .rename_i c;exact yA E gO (BZ rfl c rfl) h hs
  .split at h
   case h_2=>cases h
   rename_i M hM;split at h
   case h_2=>cases h
   rename_i X hX;split at h
   case h_2=>cases h
   rename_i Y hY;exact wR E.T h hs (gO _ _ hM) (gO _ _ hX) (gO _ _ hY)
  .cases h
 |some d=>
  unfold OF at h;simp only at h;split at h
  .grind [IR]
  .grind [Cv]
  .split at h
   case h_2=>cases h
   rename_i C hC;split at h
   case h_2=>cases h
   rename_i b hb;split at h
   case h_2=>cases h
   rename_i D hD;refine⟨_,h,I9 hs (oR hb (gO _ _ hC)) ?_⟩
   grind
  .exact IH E.T h hs
  .split at h
   case h_2=>cases h
   rename_i X hX;exact N7 h hs (gO _ _ hX)
  .exact IM E.T gO h hs
  .exact E3 E.deep E.T gO h hs
  .split at h
   case h_2=>cases h
   rename_i X hX;exact I0 E.T h hs (gO _ _ hX)
  .split at h
   .rename_i o p off hX;obtain⟨b,h1,h2⟩:=gO _ _ hX;exact⟨_,h,cn hs (v:= .pointer (aa ⟨b,off,ae⟩)) (by simp[execOp,h2]) ⟨b,h1,rfl⟩⟩
   .rename_i o s r i z p off hX;have hd:=gO _ _ hX;obtain⟨g,o0,q,T,m,cap,l,_,_,_,_,h2⟩:=id hd;exact⟨_,h,cn hs (v:= .pointer (aa ⟨g,o0+q*r.size+off,ae⟩)) (by simp[execOp,h2]) (by rw[<-h2];exact hd)⟩
   .rename_i o d i p off hX;have hd:=gO _ _ hX;obtain⟨g,o0,q,m,cap,_,_,h2⟩:=id hd;exact⟨_,h,cn hs (v:= .pointer (aa ⟨g,o0+q*d.low.size+off,ae⟩)) (by simp[execOp,h2]) (by rw[<-h2];exact hd)⟩
   .rename_i r z hX;have hd:=gO _ _ hX;obtain⟨b,off,h2,_⟩:=id hd;exact⟨_,h,cn hs (v:= .pointer (aa ⟨b,off,ae⟩)) (by simp[execOp,h2]) (by rw[<-h2];exact hd)⟩
   .cases h
  .split at h
   case h_2=>cases h
   rename_i X hX;split at h
   case h_2=>cases h
   rename_i Y hY;exact Ob E.T h hs (gO _ _ hX) (gO _ _ hY)
  .grind [Rl]
  .split at h
   case h_2=>cases h
   rename_i X hX;split at h
   case h_2=>cases h
   rename_i D hD;exact⟨_,h,Lr E.T hD hs (gO _ _ hX)⟩
  .split at h
   case h_2=>cases h
   rename_i A hA;split at h
   case h_2=>cases h
   rename_i i hi;split at h
   case h_2=>cases h
   rename_i B hB;split at h
   case h_2=>cases h
   rename_i j hj;exact IZ E.deep E.T h hs (fW hi (gO _ _ hA)) (fW hj (gO _ _ hB))
  .split at h
   case h_2=>cases h
   rename_i X hX;exact IP E.drop E.T gO h hs (gO _ _ hX)
  .split at h
   case h_2=>cases h
   rename_i X hX;exact ES E.T gO h hs (gO _ _ hX)
  .split at h
   case h_2=>cases h
   rename_i X hX;split at h
   case h_2=>cases h
   rename_i D hD;exact⟨_,h,IC E.T hD hs (gO _ _ hX)⟩
  .split at h
   case h_2=>cases h
   rename_i X hX;split at h
   case h_2=>cases h
   rename_i D hD;exact⟨_,h,EU E.T hD hs (gO _ _ hX)⟩
  .split at h
   case h_2=>cases h
   rename_i X hX;split at h
   case h_2=>cases h
   rename_i Y hY;split at h
   case h_2=>cases h
   rename_i i hi;exact ID E.T h hs (gO _ _ hX) (fW hi (gO _ _ hY))
  .split at h
   case h_2=>cases h
   rename_i X hX;split at h
   case h_2=>cases h
   rename_i Y hY;split at h
   case h_2=>cases h
   rename_i k' i hi;exact EW E.T h hs (gO _ _ hX) (fW hi (gO _ _ hY))
  .grind [Cu]
  .exact LW E gO h hs
  .exact AU gO h hs
  .exact AP E.deep E.T h hs
  .split at h
   case h_2=>cases h
   rename_i M hM;split at h
   case h_2=>cases h
   rename_i X hX;exact CE E.T h hs (gO _ _ hM) (gO _ _ hX)
  .split at h
   case h_2=>cases h
   rename_i X hX;exact OE E.T h hs (gO _ _ hX)
  .split at h
   case h_2=>cases h
   rename_i X hX;exact Fi E.T h hs (gO _ _ hX)
  .cases h
end
def qk(rd:Operand->Option aI)(x:Operand):List Nat:=
 match rd x with
 |some (.val _ t)=>t.owns
 |_=>[]
def AV(rd:Operand->Option aI)(x:Operand):List Nat:=
 match rd x with
 |some (.val _ (.view o _ _ _))=>[o]
 |_=>[]
def Hc(rd:Operand->Option aI):List Operand->List Nat
 |[]=>[]
 |x::xs=>qk rd x++Hc rd xs
def uo:Operand->Bool
 | .const (.slice ae 0 0)=>af
 |_=>ag
def Hd(rd:Operand->Option aI):Op->List Nat
 | .store _ x y=>match rd x with
   |some (.elem ..)=>qk rd y
   |_=>[]
 | .buildSlice _ _ ps=>Hc rd (ps.toList.map (·.2))
 | .binOp .eql _ x y _=>bif uo y then[]else qk rd x++qk rd y
 | .binOp .neq _ x y _=>bif uo y then[]else qk rd x++qk rd y
 | .slice _ x _ _ _=>AV rd x
 | .indexAddr _ x _=>AV rd x
 | .call c=>match c.callee,c.args.toList with
   | .builtin .append,[_,y]=>AV rd y
   |_,_=>[]
 | .mapUpdate _ _ _ y=>qk rd y
 |_=>[]
def C0(nt:Nat):Option Nat->Bool
 |some d=>ajK d nt
 |none=>af
def fnB(dst:Option Nat)(op:Op):Bool:=
 match dst with
 |some _=>af
 |none=>match op with
  | .call c=>OG c.callee
  |_=>af
open Classical in
noncomputable def yB{α:Type}(a b:Option α):Option α:=if a=b then a else ae
def RB{α:Type}{a b:Option α}{q:α}(h:yB a b=aa q):a=aa q:=by
 grind [yB]
def RC{α:Type}{a b:Option α}{q:α}(h:yB a b=aa q):b=aa q:=by
 grind [yB]
def LY{P:Program}(T:bj P)(rd:Operand->Option aI)(ob:Nat->Option (Nat×Th)):Op->Option (Bool×Nat)
 | .binOp o t x y _=>match o with
   | .eql=>bif uo y then(match find T.und t with
     |some (.slice _)=>match rd x with
      |some X=>match sQ ob X with
       |some (.read _ l)=>aa (ag,l.length)
       |some (.own _ _ _ _ l)=>aa (ag,l.length)
       |_=>ae
      |none=>ae
     |_=>ae)else ae
   | .neq=>bif uo y then(match find T.und t with
     |some (.slice _)=>match rd x with
      |some X=>match sQ ob X with
       |some (.read _ l)=>aa (af,l.length)
       |some (.own _ _ _ _ l)=>aa (af,l.length)
       |_=>ae
      |none=>ae
     |_=>ae)else ae
   |_=>ae
 |_=>ae
def Ql(objs:List (Nat×(Nat×Th))):Option aI->Bool
 |some (.val ag (.own o))=>match find objs o with
  |some (_, .dmap ..)=>af
  |_=>ag
 |_=>ag
def LZ(rd:Operand->Option aI)(objs:List (Nat×(Nat×Th))):Op->List Nat
 | .mapUpdate t m x y=>bif Ql objs (rd m)then[]else Hd rd (.mapUpdate t m x y)
 | .lookup t m x ag=>bif Ql objs (rd m)then qk rd m else[]
 |op=>Hd rd op
def se{P:Program}(E:Env P)(rd:Operand->Option aI)(objs:List (Nat×(Nat×Th)))(op:Op):List Nat:=
 match E.deep,op with
 |true, .buildSlice .. =>[]
 |_,_=>LZ rd objs op
noncomputable def w5(st:State)(o:Nat):State:=
 match LB (find st.objs) st.nxt o with
 |some e=>st.apply ae e
 |none=>st
noncomputable def vf(st:State):List Nat->State
 |[]=>st
 |o::os=>vf (w5 st o) os
def Qm:List (Nat×(Nat×Th))->Bool
 |[]=>ag
 |(_,(_, .deep _ _ _ (aa _)))::_=>af
 |(_,(_, .dmap _ _ _ _ _ (aa _)))::_=>af
 |_::l=>Qm l
noncomputable def pY(st:State):State:=
 match Qm st.objs with
 |true=>vf (vf st (st.objs.map (·.1))) (st.objs.map (·.1))
 |false=>st
def U9:Op->Bool
 | .call c=>OG c.callee
 |_=>ag
def AW(o:Nat):List (Nat×(Nat×Th))->Bool
 |[]=>ag
 |(_,(_, .deep _ _ _ (aa h)))::l=>ajf h.o o||AW o l
 |(_,(_, .dmap _ _ _ _ _ (aa h)))::l=>ajf h.2 o||AW o l
 |_::l=>AW o l
def OH(st:State)(x:Operand):Bool:=
 match Kt st.aJ x with
 |some (.val _ (.own o))=>AW o st.objs
 |_=>ag
def L0(st:State):Op->Bool
 | .call c=>c.args.toList.any (OH st)
 |_=>ag
noncomputable def He{R:Type}{P:Program}(E:Env P)(dst:Option Nat)(op:Op)(st:State)(k:State->Option R):Option R:=
 match fy st.objs (se E (Kt st.aJ) st.objs op)with
 |some bh=>match LY E.T (Kt st.aJ) (find bh) op with
  |some (b,m)=>match dst with
   |some d=>if ajf m 0=af then yB (k (State.apply {st with objs:=bh} (aa d) {dst:=eA af})) (k (State.apply {st with objs:=bh} (aa d) {dst:=eA ag}))
     else k (State.apply {st with objs:=bh} (aa d) {dst:=eA b})
   |none=>ae
  |none=>bif fnB dst op then OF E (Kt st.aJ) bh st.nxt dst op (λe=>k (State.apply {st with objs:=bh} dst e))else ae
 |none=>ae
noncomputable def w6{R:Type}{P:Program}(E:Env P)(dst:Option Nat)(op:Op)(st:State)(k:State->Option R):Option R:=
 match E.deep&&U9 op&& !L0 st op with
 |true=>He E dst op (pY st) k
 |false=>He E dst op st k
def Hf(all:Array Oper)(j:Nat):Option Nat:=(all[j]?).bind (·.dst)
def State.put(st:State)(dst:Option Nat)(d:aI):State:=
 match dst with
 |some t=>{st with aJ:=(t,d)::st.aJ}
 |none=>st
def w7(dst:Option Nat)(kn:List (Nat×Bool)):List (Nat×Bool):=
 match dst with
 |some d=>del [d] kn
 |none=>kn
noncomputable def runs{R:Type}{P:Program}(E:Env P)(nt:Nat)(all:Array Oper):List Oper->List (Nat×Bool)->State->(State->Option R)->Option R
 |[],_,st,k=>k st
 |o::os,kn,st,k=>bif C0 nt o.dst then(match o.guard with
  |none=>w6 E o.dst o.op st (λdD=>runs E nt all os (w7 o.dst kn) dD k)
  |some (j,b)=>match Hf all j with
   |none=>ae
   |some g=>bif ajK g nt then(match find kn g with
    |some v=>bif (bif v then b else !b)then w6 E o.dst o.op st (λdD=>runs E nt all os (w7 o.dst kn) dD k)else runs E nt all os (w7 o.dst kn) (st.put o.dst .undef) k
    |none=>match find st.aJ g with
     |some .undef=>runs E nt all os (w7 o.dst kn) (st.put o.dst .undef) k
     |some d=>match asBool d with
      |some t=>if t=af then
        (bif b then w6 E o.dst o.op (st.put (aa g) (eA af)) (λdD=>runs E nt all os (w7 o.dst ((g,af)::kn)) dD k)
          else runs E nt all os (w7 o.dst ((g,af)::kn)) ((st.put (aa g) (eA af)).put o.dst .undef) k)
       else
        (bif b then runs E nt all os (w7 o.dst ((g,ag)::kn)) ((st.put (aa g) (eA ag)).put o.dst .undef) k
          else w6 E o.dst o.op (st.put (aa g) (eA ag)) (λdD=>runs E nt all os (w7 o.dst ((g,ag)::kn)) dD k))
      |none=>ae
     |none=>ae)else ae)else ae
section
variable {P:Program} {nt:Nat} {ops:Array Oper} {K:(Nat->Value)->World->Prop} {rest:List Oper} {R:Type}
variable {ρ:Nat->Value} {w w0:World} {H:aK} {F F0 G:Nat->Prop}
abbrev UU(G:Nat->Prop)(w0:World):Nat->Prop:=λk=>w0.heap.size<=k\/G k
def LG.mZ{H':aK}{F':Nat->Prop}{w':World}{g:Nat->Prop}(hg:LG G w0 F0 w F)(he:NF H F w H' F' w' g)(hu:∀k,g k->UU G w0 k):LG G w0 F0 w' F':=by
 have kS:=hg.ext.size;refine⟨⟨he.ext.os.trans hg.ext.os,he.ext.tape.trans hg.ext.tape,he.ext.output.trans hg.ext.output,ajs kS he.ext.size,λk hk hn=>?_⟩,λb hb=>he.le b (hg.le b hb),λb hb=>?_⟩
 .rw[he.ext.block k (by omega) λh=>?_]
  .exact hg.ext.block k hk hn
  grind
 .rcases he.grow b hb with h1|h1|h1
  .exact hg.new b h1
  all_goals grind
structure da(G:Nat->Prop)(w0:World)(F0:Nat->Prop)(H:aK)(F:Nat->Prop)(w:World)(ρ:Nat->Value)(st:State):Prop where
 sat:Sat (UU G w0) H F w ρ st
 glob:LG G w0 F0 w F
def cU.C1{H':aK}{F':Nat->Prop}{w':World}{g:Nat->Prop}(he:NF H F w H' F' w' g)(hF:∀b,F b->b<w.heap.size)(hg:∀k,g k->¬F k):cU H F w H' F' w':=⟨he.kr,he.step hF hg⟩
def da.vB{st:State}{os:List Nat}{bh:List (Nat×(Nat×Th))}(h:da G w0 F0 H F w ρ st)(hf:fy st.objs os=aa bh):
 ∃F',da G w0 F0 H F' w ρ {st with objs:=bh}/\cU H F w H F' w:=by
 obtain⟨F',a1,a2,a3⟩:=o3 hf h.sat.ob
 have gD:Step F w F' w:=λb hb=>⟨a2 b hb,rfl⟩
 refine⟨F',⟨⟨λt d hd=>(h.sat.slot t d hd).keep (aK.le.refl H) gD,a1,h.sat.all⟩,⟨h.glob.ext,λb hb=>a2 b (h.glob.le b hb),λb hb=>?_⟩⟩,⟨aK.le.refl H,gD⟩⟩
 rcases a3 b hb with h1|h1
 .exact h.glob.new b h1
 .exact .inr (h.sat.ob.iP b h1)
def Fl{P:Program}{ρ:Nat->Value}{w:World}{o:BinOp}(tf:o= .eql\/o= .neq){t u e:TypeId}{x y:Operand}{d:Nat}{ty:TypeId}{pos:String}{aft:Array Edge}(hu:P.underlying t=aa (.slice e)){A:Option Addr}{m c:Nat}(hx:ev ρ x= .slice A m c)(hy:ev ρ y= .slice ae 0 0):
 (execOp (ev ρ) ⟨aa d, .binOp o t x y u,ty,pos,aft,ae⟩).run P w= .ok (.value (.bool (bif decide (o= .eql)then A.isNone else !A.isNone))) w:=by
 have hm:Op.maxDepth=9999+1:=rfl
 have he:(Op.equal t (.slice A m c) (.slice ae 0 0)).run P w= .ok A.isNone w:=by
  unfold Op.equal;rw[hm];unfold Op.equalIn;rw[ajw,run_underlying hu]
  cases A<;>rfl
 rcases tf with rfl|rfl
 .simp[execOp,eqGuard,binOp,hx,hy,he]
 .simp[execOp,eqGuard,binOp,hx,hy,he]
def L1{P:Program}(T:bj P){U:Nat->Prop}{H:aK}{F:Nat->Prop}{w:World}{ρ:Nat->Value}{n:Nat}{ob:Nat->Option (Nat×Th)}{rd:Operand->Option aI}(gO:∀x d,rd x=aa d->aH H F w d (ev ρ x))(hs:aL U H F w ob n){op:Op}{b:Bool}{m:Nat}(h:LY T rd ob op=aa (b,m)){d:Nat}{ty:TypeId}{pos:String}{aft:Array Edge}:
 ∃r:Bool,(m≠0->r=b)/\(execOp (ev ρ) ⟨aa d,op,ty,pos,aft,ae⟩).run P w= .ok (.value (.bool r)) w:=by
 have isn:∀{y:Operand},uo y=af->ev ρ y= .slice ae 0 0:=by
  intro y hy;unfold uo at hy;split at hy
  .rfl
  .cases hy
 have key:∀{k:Li}{v:Value},N4 U H F w ob v k->∀m,(match k with| .read _ l=>l.length=m| .own _ _ _ _ l=>l.length=m|_=>False)->∃A n c,v= .slice A n c/\(m≠0->A.isNone=ag):=by
  intro k v hk m hm
  cases k with
  |read r l=>
   obtain⟨A,cap,hv,_,_,h3⟩:=hk;simp only[aj3,and_true]at hv;refine⟨A,_,cap,hv,λh0=>?_⟩;obtain⟨b,off,es,rfl,_⟩:=h3 0 (by dsimp only at hm;omega);rfl
  |own o s T r l=>
   obtain⟨xs,hx,_⟩:=hk.2.2.2
   rcases hx.2 with⟨rfl,h0⟩|⟨g,o0,cap,cur,rfl,_⟩
   all_goals grind
  |nil=>exact hm.elim
  |view o s r m=>exact hm.elim
  |deep=>exact hm.elim
 unfold LY at h;split at h
 case h_2=>cases h
 rename_i o t x y u;split at h
 case h_3=>cases h
 all_goals
  obtain⟨hy,h⟩:=be h;split at h
  case h_2=>cases h
  rename_i e hu;have hu:=T.und_ok _ _ hu;split at h
  case h_2=>cases h
  rename_i X hX;split at h
  case h_3=>cases h
  all_goals
   rename_i gY;obtain⟨rfl,rfl⟩:=akA (aja h);obtain⟨A,n',c,hv,hA⟩:=key (ij hs gY (gO _ _ hX)) _ rfl;refine⟨_,λh0=>?_,Fl (by grind) hu hv (isn hy)⟩;rw[hA h0];rfl
def da.w5{st:State}(h:da G w0 F0 H F w ρ st)(o:Nat):∃H' F',da G w0 F0 H' F' w ρ (w5 st o)/\cU H F w H' F' w:=by
 unfold Go.Proofs.YtleifhfeahnocaaGreatDoor.w5;split
 .rename_i e he;obtain⟨H',F',hp⟩:=E6 h.sat.ob he;have hs:=h.sat.apply (d:=ae) hp;exact⟨H',F',⟨hs,h.glob.mZ hp.mZ h.sat.ob.iP⟩,cU.C1 hp.mZ h.sat.ob.lt h.sat.ob.jt⟩
 .exact⟨H,F,h,cU.refl H F w⟩
def da.vf:{os:List Nat}->{st:State}->{H:aK}->{F:Nat->Prop}->da G w0 F0 H F w ρ st->∃H' F',da G w0 F0 H' F' w ρ (vf st os)/\cU H F w H' F' w
 |[],_,H,F,h=>⟨H,F,h,cU.refl H F w⟩
 |o::os,st,H,F,h=>by
  obtain⟨H1,F1,h1,k1⟩:=h.w5 o;obtain⟨H2,F2,h2,k2⟩:=da.vf (os:=os) h1;exact⟨H2,F2,h2,k1.trans k2⟩
def da.pY{st:State}(h:da G w0 F0 H F w ρ st):∃H' F',da G w0 F0 H' F' w ρ (pY st)/\cU H F w H' F' w:=by
 unfold Go.Proofs.YtleifhfeahnocaaGreatDoor.pY;split
 case h_2=>exact⟨H,F,h,cU.refl H F w⟩
 obtain⟨H1,F1,h1,k1⟩:=h.vf (os:=st.objs.map (·.1));obtain⟨H2,F2,h2,k2⟩:=h1.vf (os:=st.objs.map (·.1));exact⟨H2,F2,h2,k1.trans k2⟩
def C2{E:Env P}{dst:Option Nat}{op:Op}{ty:TypeId}{pos:String}{aft:Array Edge}{st:State}{k:State->Option R}{q:R}(h:He E dst op st k=aa q)(hd:C0 nt dst=af)(hh:da G w0 F0 H F w ρ st)
 (hk:∀dD H' F' w' dH,k dD=aa q->da G w0 F0 H' F' w' dH dD->cU H F w H' F' w'->(∀t,dst≠aa t->dH t=ρ t)->wpS P nt ops K rest dH w'):wpS P nt ops K (⟨dst,op,ty,pos,aft,ae⟩::rest) ρ w:=by
 unfold He at h;split at h
 case h_2=>cases h
 rename_i bh yx;obtain⟨F1,rA,Uf⟩:=hh.vB yx;split at h
 .rename_i b m hn;split at h
  case h_2=>cases h
  rename_i d;obtain⟨r,hr,bJ⟩:=L1 E.T (ρ:=ρ) (d:=d) (ty:=ty) (pos:=pos) (aft:=aft) (λx d hx=>wk rA.sat.ob.gl rA.sat.slot x d hx) rA.sat.ob hn
  have hkr:k (State.apply {st with objs:=bh} (aa d) {dst:=eA r})=aa q:=by
   split at h
   .cases r with
    |true=>exact RB h
    |false=>exact RC h
   .simp_all
  have L2:cO P (UU G w0) H F1 w ρ (find bh) st.nxt ⟨aa d,op,ty,pos,aft,ae⟩ {dst:=eA r}:=cn rA.sat.ob bJ (aV.ig ..)
  refine Ca L2 (λd' BV=>by rw[BV]at hd;exact hd) λv w' ⟨H',F',hp⟩=>?_
  have hs:=rA.sat.apply (d:=aa d) hp
  refine hk _ H' F' w' _ hkr ⟨hs,rA.glob.mZ hp.mZ rA.sat.ob.iP⟩ (Uf.trans (cU.C1 hp.mZ rA.sat.ob.lt rA.sat.ob.jt)) λt ht=>?_
  show EB ρ d v t=ρ t
  rw[qd,ai (λe=>ht (by rw[e]))]
 obtain⟨BZ,h'⟩:=be h;clear h;obtain⟨e,he,L2⟩:=LX (ρ:=ρ) (ty:=ty) (pos:=pos) (aft:=aft) E (λx d hx=>wk rA.sat.ob.gl rA.sat.slot x d hx) (λhn c hc=>by subst hn;subst hc;exact BZ) h' rA.sat.ob
 refine Ca L2 (λd BV=>by rw[BV]at hd;exact hd) λv w' ⟨H',F',hp⟩=>?_
 have hs:=rA.sat.apply (d:=dst) hp
 refine hk _ H' F' w' _ he ⟨hs,rA.glob.mZ hp.mZ rA.sat.ob.iP⟩ (Uf.trans (cU.C1 hp.mZ rA.sat.ob.lt rA.sat.ob.jt)) λt ht=>?_
 cases dst with
 |none=>rfl
 |some d=>
  show EB ρ d v t=ρ t
  rw[qd,ai (λe=>ht (by rw[e]))]
def L3{E:Env P}{dst:Option Nat}{op:Op}{ty:TypeId}{pos:String}{aft:Array Edge}{st:State}{k:State->Option R}{q:R}(h:w6 E dst op st k=aa q)(hd:C0 nt dst=af)(hh:da G w0 F0 H F w ρ st)
 (hk:∀dD H' F' w' dH,k dD=aa q->da G w0 F0 H' F' w' dH dD->cU H F w H' F' w'->(∀t,dst≠aa t->dH t=ρ t)->wpS P nt ops K rest dH w'):wpS P nt ops K (⟨dst,op,ty,pos,aft,ae⟩::rest) ρ w:=by
 unfold w6 at h;split at h
 .obtain⟨H1,F1,h1,k1⟩:=hh.pY
  exact C2 h hd h1 λdD H' F' w' dH a b c d=>hk dD H' F' w' dH a b (k1.trans c) d
 .exact C2 h hd hh hk
def da.put{st:State}{dst:Option Nat}{d:aI}{v:Value}(h:da G w0 F0 H F w ρ st)(hd:aH H F w d v):da G w0 F0 H F w (vC ρ dst v) (st.put dst d):=by
 refine⟨⟨λt q hq=>?_,?_,by cases dst<;>exact h.sat.all⟩,h.glob⟩
 .cases dst with
  |none=>exact h.sat.slot t q hq
  |some s=>
   have yg:find ((s,d)::st.aJ) t=aa q:=hq;rw[aZ]at yg
   show aH H F w q (EB ρ s v t)
   rw[qd];by_cases e:s=t
   .grind
   .rw[ai e]at yg;rw[ai (Ne.symm e)];exact h.sat.slot t q yg
 .cases dst<;>exact h.sat.ob
def da.lit{st:State}{g:Nat}{d:aI}(h:da G w0 F0 H F w ρ st)(hd:aH H F w d (ρ g)):da G w0 F0 H F w ρ (st.put (aa g) d):=by
 refine⟨⟨λt q hq=>?_,h.sat.ob,h.sat.all⟩,h.glob⟩;have yg:find ((g,d)::st.aJ) t=aa q:=hq;rw[aZ]at yg;split at yg
 .grind
 .exact h.sat.slot t q yg
def tg(ρ:Nat->Value)(kn:List (Nat×Bool)):Prop:=∀g b,find kn g=aa b->ρ g= .bool b
theorem tg.del{dH:Nat->Value}{dst:Option Nat}{kn:List (Nat×Bool)}(h:tg ρ kn)(RD:∀t,dst≠aa t->dH t=ρ t):tg dH (w7 dst kn):=by
 intro g b hg
 cases dst with
 |none=>rw[RD g (by simp)];exact h g b hg
 |some d=>
  obtain⟨h1,h2⟩:=jq.1 hg;rw[RD g (λe=>h1 (by simp[aja e]))];exact h g b h2
def tg.cons{kn:List (Nat×Bool)}{g:Nat}{b:Bool}(h:tg ρ kn)(hb:ρ g= .bool b):tg ρ ((g,b)::kn):=by
 intro g' b' hg;rw[aZ]at hg;split at hg
 .grind
 .exact h g' b' hg
def rj{dst:Option Nat}{v:Value}{t:Nat}(h:dst≠aa t):vC ρ dst v t=ρ t:=by
 cases dst with
 |none=>rfl
 |some d=>
  show EB ρ d v t=ρ t
  grind [qd]
def AX{E:Env P}{q:R}:{l:List Oper}->{kn:List (Nat×Bool)}->{st:State}->{k:State->Option R}->{H:aK}->{F:Nat->Prop}->{w:World}->{ρ:Nat->Value}->runs E nt ops l kn st k=aa q->tg ρ kn->da G w0 F0 H F w ρ st->
 (∀dD H' F' w' dH,k dD=aa q->da G w0 F0 H' F' w' dH dD->cU H F w H' F' w'->(∀t,(∀o∈l,o.dst≠aa t)->dH t=ρ t)->K dH w')->wpS P nt ops K l ρ w
 |[],kn,st,k,H,F,w,ρ,h,_,hh,hk=>NW (hk st H F w ρ h hh (cU.refl H F w) λ_ _=>rfl)
 |o::l,kn,st,k,H,F,w,ρ,h,B3,hh,hk=>by
  unfold runs at h;obtain⟨hd,h'⟩:=be h;clear h
  have Y5:∀d,o.dst=aa d->ajK d nt=af:=λd e=>by rw[e]at hd;exact hd
  have on:∀{o6:State}{RE:List (Nat×Bool)},w6 E o.dst o.op o6 (λdD=>runs E nt ops l (w7 o.dst RE) dD k)=aa q->tg ρ RE->da G w0 F0 H F w ρ o6->wpS P nt ops K (⟨o.dst,o.op,o.type,o.pos,o.after,ae⟩::l) ρ w:=by
   intro o6 RE hs L4 rA
   refine L3 hs hd rA λdD H' F' w' dH e1 e2 e3 e4=>?_
   refine AX e1 (L4.del e4) e2 λL5 H2 F2 w2 Y6 f1 f2 f3 f4=>?_
   exact hk L5 H2 F2 w2 Y6 f1 f2 (e3.trans f3) (by grind)
  have off:∀{o6:State}{RE:List (Nat×Bool)},runs E nt ops l (w7 o.dst RE) (o6.put o.dst .undef) k=aa q->tg ρ RE->da G w0 F0 H F w ρ o6->wpS P nt ops K l (vC ρ o.dst undef) w:=by
   intro o6 RE hs L4 rA
   refine AX hs (L4.del λt ht=>rj ht) (rA.put rfl) λL5 H2 F2 w2 Y6 f1 f2 f3 f4=>?_
   exact hk L5 H2 F2 w2 Y6 f1 f2 f3 λt ht=>(f4 t λo' jY=>ht o' (by simp[jY])).trans (rj (ht o (by simp)))
  obtain⟨dst,op,ty,pos,aft,guard⟩:=o;simp only at h' on off Y5;split at h'
  .exact on h' B3 hh
  .rename_i j b;split at h'
   case h_1=>cases h'
   rename_i g Qn;obtain⟨Qo,h⟩:=be h';clear h'
   have wOn:ρ g= .bool b->wpS P nt ops K (⟨dst,op,ty,pos,aft,ae⟩::l) ρ w->wpS P nt ops K (⟨dst,op,ty,pos,aft,aa (j,b)⟩::l) ρ w:=λhb hw=>Q3 g Qn Qo hb hw
   have aeP:∀b',ρ g= .bool b'->b'≠b->wpS P nt ops K l (vC ρ dst undef) w->wpS P nt ops K (⟨dst,op,ty,pos,aft,aa (j,b)⟩::l) ρ w:=λb' hb dw hw=>by
    cases dst with
    |none=>exact Ao g Qn Qo hb dw hw
    |some d=>exact NX g Qn Qo hb dw (Y5 d rfl) hw
   split at h
   .rename_i v hv;have hgv:=B3 g v hv
    grind
   .split at h
    .rename_i hu;have hgu:ρ g=undef:=hh.sat.slot _ _ hu
     cases dst with
     |none=>exact yl g Qn Qo hgu (off h B3 hh)
     |some d=>exact KI g Qn Qo hgu (Y5 d rfl) (off h B3 hh)
    .rename_i d BV;split at h
     case h_2=>cases h
     rename_i t ht;have hgt:=oR ht (hh.sat.slot _ _ BV);split at h
     .rename_i OI;subst OI;have rA:da G w0 F0 H F w ρ (st.put (aa g) (eA af)):=hh.lit (by rw[hgt];exact aV.ig ..);have L4:=B3.cons hgt
      grind
     .rename_i OI
      have OI:t=ag:=by cases t<;>simp_all
      subst OI;have rA:da G w0 F0 H F w ρ (st.put (aa g) (eA ag)):=hh.lit (by rw[hgt];exact aV.ig ..);have L4:=B3.cons hgt
      grind
    .cases h
end
end
end Go.Proofs.YtleifhfeahnocaaGreatDoor
section
open _root_.Bool renaming false->ag,true->af,cond_eq_ite->ajv
open _root_.Option renaming none->ae,some->aa,bind_assoc->ajP,isSome_iff_exists->ajE
open _root_.Array renaming getElem?_eq_getElem->ajG,getElem?_eq_some_iff->ajF
open _root_.List renaming length_nil->ajJ,mem_cons->ajQ,mem_singleton->ajy
open _root_.Nat renaming add_zero->akj,beq->ajf,blt->ajK,zero_add->ajL
open _root_.Option.some renaming inj->aja
open _root_.Go.Region renaming binds->akH
namespace Go.Proofs.YtleifhfeahnocaaGreatDoor
open Go Go.RowKit
section
variable {P:Program} {R:Type} {ob:Nat->Option (Nat×Th)} {n:Nat} (k:eD->Option R)
def w8{rd:Operand->Option aI}{fn:Fn}{first caps:Array Operand}:nE rd fn first caps k=(nE rd fn first caps aa).bind k:=by
 unfold nE
 repeat' first|rfl|split
def AY(T:bj P){m:Nat}{e:TypeId}{D:aI}{i:Int}:qU T m e D i k=(qU T m e D i aa).bind k:=by
 unfold qU;simp only[ajv]
 repeat' first|rfl|(rw[ajP];rfl)|split
def AZ(T:bj P){t:TypeId}{D:aI}{i:Int}:q6 T ob t D i k=(q6 T ob t D i aa).bind k:=by
 unfold q6;simp only[ajv]
 repeat' first|rfl|(rw[ajP];rfl)|split
def C3(T:bj P){t:TypeId}{D:aI}{i:Int}:tU T ob t D i k=(tU T ob t D i aa).bind k:=by
 unfold tU;simp only[ajv]
 repeat' first|rfl|exact AY k T|(rw[ajP];rfl)|split
theorem Fp(T:bj P){t:TypeId}{D:aI}:yY T ob t D k=(yY T ob t D aa).bind k:=by
 unfold yY;simp only[ajv]
 repeat' first|rfl|split|(rw[ajP];congr 1;funext x;repeat' first|rfl|split)
theorem C4(T:bj P){t:TypeId}{D V:aI}:tV T ob n t D V k=(tV T ob n t D V aa).bind k:=by
 unfold tV;simp only[ajv]
 repeat' first|rfl|split|(rw[ajP];rfl)|(rw[ajP];congr 1;funext x;repeat' first|rfl|split)
theorem C5(T:bj P){t:TypeId}{D:aI}:r6 T ob n t D k=(r6 T ob n t D aa).bind k:=by
 unfold r6;simp only[ajv]
 repeat' first|rfl|split|(rw[ajP];rfl)
def C6(T:bj P){t:TypeId}{D:aI}:qh T ob n t D k=(qh T ob n t D aa).bind k:=by
 unfold qh
 grind [C5,Fp]
theorem A4(T:bj P){t:TypeId}{D V:aI}:q7 T ob n t D V k=(q7 T ob n t D V aa).bind k:=by
 unfold q7;simp only[ajv]
 repeat' first|rfl|split|(rw[ajP];rfl)
def A5(T:bj P){t:TypeId}{D V:aI}:ra T ob n t D V k=(ra T ob n t D V aa).bind k:=by
 unfold ra
 grind [A4,C4]
theorem yC{e:TypeId}{dr:DR}{ds:List aI}:qg e dr ob n ds k=(qg e dr ob n ds aa).bind k:=by
 grind [qg]
def C7(T:bj P){t:TypeId}:tW T n t k=(tW T n t aa).bind k:=by
 grind [tW]
def Ja{t:TypeId}{V:aI}:II n t V k=(II n t V aa).bind k:=by
 unfold II
 repeat' first|rfl|split
theorem w9(T:bj P){t:TypeId}{s:Bool}{a b:Int}:wx T n t s a b k=(wx T n t s a b aa).bind k:=by
 grind [wx]
def C8(T:bj P){b:Bool}{t:TypeId}{s:Bool}{x y:Int}:wN b T n t s x y k=(wN b T n t s x y aa).bind k:=by
 unfold wN;split
 .unfold AO
  grind [w9]
 .exact w9 k T
def yD(T:bj P){t t':TypeId}{X Y:aI}:oT T ob n t t' X Y k=(oT T ob n t t' X Y aa).bind k:=by
 unfold oT
 repeat' first|rfl|split|(rw[ajP];rfl)
def A6(T:bj P){t:TypeId}{X Y:aI}:qY T ob n t X Y k=(qY T ob n t X Y aa).bind k:=by
 unfold qY;simp only[ajv]
 repeat' first|rfl|split|(rw[ajP];rfl)
def uq(T:bj P){rd:Operand->Option aI}{t:TypeId}{m:Nat}{ps:Array (Nat×Operand)}:lg T rd ob n t m ps k=(lg T rd ob n t m ps aa).bind k:=by
 unfold lg;simp only[ajv]
 repeat' first|rfl|split
def A7{b:Bool}(T:bj P){rd:Operand->Option aI}{t:TypeId}{m:Nat}{ps:Array (Nat×Operand)}:vT b T rd ob n t m ps k=(vT b T rd ob n t m ps aa).bind k:=by
 cases b with
 |false=>exact uq k T
 |true=>
  show q9 T rd ob n t m ps k=(q9 T rd ob n t m ps aa).bind k
  grind [q9,yC]
def C9(T:bj P){rd:Operand->Option aI}{t:TypeId}{ps:Array (Nat×Operand)}:tX T rd t ps k=(tX T rd t ps aa).bind k:=by
 unfold tX;simp only[ajv]
 repeat' first|rfl|split
def Da(dr:Bool)(T:bj P){rd:Operand->Option aI}{t:TypeId}{D:aI}{lo hi:Option Operand}:tY dr T rd ob n t D lo hi k=(tY dr T rd ob n t D lo hi aa).bind k:=by
 unfold tY;simp only[ajv]
 repeat' first|rfl|split|(rw[ajP];rfl)
def A8(T:bj P){rd:Operand->Option aI}{t:TypeId}{D:aI}{lo:Option Operand}{hi mx:Operand}:qZ T rd ob t D lo hi mx k=(qZ T rd ob t D lo hi mx aa).bind k:=by
 unfold qZ;simp only[ajv]
 repeat' first|rfl|split|(rw[ajP];rfl)
def Jb(T:bj P){o:BinOp}{t:TypeId}{lit:Bool}{X Y:aI}:IQ T ob o t lit X Y k=(IQ T ob o t lit X Y aa).bind k:=by
 unfold IQ;simp only[ajv]
 repeat' first|rfl|split|(rw[ajP];rfl)
def vF(T:bj P){t:TypeId}{M X Y:aI}:kU T ob n t M X Y k=(kU T ob n t M X Y aa).bind k:=by
 unfold kU;simp only[ajv]
 repeat' first|rfl|split
def yE(T:bj P){t:TypeId}:oV T n t k=(oV T n t aa).bind k:=by
 unfold oV
 repeat' first|rfl|split
def A9(T:bj P){t:TypeId}{ok:Bool}{M X:aI}:pz T ob t ok M X k=(pz T ob t ok M X aa).bind k:=by
 unfold pz;simp only[ajv]
 repeat' first|rfl|split
def yF(T:bj P){t:TypeId}{X Y:aI}:oZ T ob n t X Y k=(oZ T ob n t X Y aa).bind k:=by
 unfold oZ
 cases LD ob Y with
 |false=>exact A6 k T
 |true=>
  simp only[cond_true];unfold s6;simp only[ajv]
  repeat' first|rfl|split|(rw[ajP];rfl)
def ur(T:bj P){t:TypeId}{M X Y:aI}:lj T ob n t M X Y k=(lj T ob n t M X Y aa).bind k:=by
 unfold lj;simp only[ajv]
 repeat' first|rfl|exact vF k _|split
def xc(b:Bool)(T:bj P){t:TypeId}:nD b T n t k=(nD b T n t aa).bind k:=by
 unfold nD;simp only[ajv]
 repeat' first|rfl|exact yE k _|split
def yG(T:bj P){t:TypeId}{ok:Bool}{M X:aI}:oX T ob n t ok M X k=(oX T ob n t ok M X aa).bind k:=by
 unfold oX;simp only[ajv]
 repeat' first|rfl|exact A9 k _|split
theorem Db{sg:oN}{bs:Bs}{bh:List (Nat×(Nat×Th))}{nd:List Nat}{y:dC sg.out.rows}:um sg n bs bh nd y k=(um sg n bs bh nd y aa).bind k:=by
 grind [um]
theorem ql{objs:List (Nat×(Nat×Th))}{f:FuncId}{ds:List aI}:{tab:List (Nat×oN)}->pB objs n f ds k tab=(pB objs n f ds aa tab).bind k
 |[]=>rfl
 |(g,sg)::tab=>by
  unfold pB;have ih:=ql (objs:=objs) (f:=f) (ds:=ds) (tab:=tab)
  grind [Db]
def Fq{tab:List (Nat×oN)}{rd:Operand->Option aI}{objs:List (Nat×(Nat×Th))}{g:Operand}{args:List Operand}:zw tab rd objs n g args k=(zw tab rd objs n g args aa).bind k:=by
 grind [zw,ql]
def Ba(T:bj P){tab:List (Nat×oN)}{rd:Operand->Option aI}{objs:List (Nat×(Nat×Th))}{g:Operand}{name:String}{args:List Operand}:ri T tab rd objs n g name args k=(ri T tab rd objs n g name args aa).bind k:=by
 unfold ri
 repeat' first|rfl|exact ql k|split
def Jc(T:bj P){t:TypeId}{D:aI}:I6 T t D k=(I6 T t D aa).bind k:=by
 grind [I6]
def Bb(T:bj P){t:TypeId}{ok:Bool}{D:aI}:rf T t ok D k=(rf T t ok D aa).bind k:=by
 unfold rf;simp only[ajv]
 repeat' first|rfl|split
def Fs(E:Env P){rd:Operand->Option aI}{objs:List (Nat×(Nat×Th))}{c:Callee}{args:Array Operand}{wY:Array TypeId}:rJ E rd objs n c args wY k=(rJ E rd objs n c args wY aa).bind k:=by
 unfold rJ;simp only[ajv]
 repeat' first|rfl|exact yF k _|exact yD k _|exact Fq k|exact Ba k _|split
def L6(E:Env P){rd:Operand->Option aI}{objs:List (Nat×(Nat×Th))}{dst:Option Nat}{op:Op}:OF E rd objs n dst op k=(OF E rd objs n dst op aa).bind k:=by
 unfold OF
 repeat' first|rfl|exact A5 k _|exact ur k _|exact xc k _ _|exact yG k _|exact Jc k _|exact Bb k _|exact Fs k _|exact C7 k _|exact Ja k|exact C9 k _|exact A7 k _|exact C6 k _|exact Jb k _|exact C8 k _|exact Da k _ _|exact A8 k _|exact C3 k _|exact AZ k _|exact w8 k|split
end
def ke{α:Type}(ns:List Nat):List (Nat×α)->List (Nat×α)
 |[]=>[]
 |(m,a)::l=>bif pA m ns then(m,a)::ke ns l else ke ns l
def zB{α:Type}{ns:List Nat}{l:List (Nat×α)}{n:Nat}{a:α}:find (ke ns l) n=aa a↔n∈ns/\find l n=aa a:=by
 induction l with
 |nil=>simp[ke,find]
 |cons p l ih=>
  grind [ke,fY,aZ]
def tmpsOf:List Operand->List Nat
 |[]=>[]
 | .tmp t::l=>t::tmpsOf l
 |_::l=>tmpsOf l
def Qp:List (Bool×Tree)->List Nat
 |[]=>[]
 |p::l=>p.2.owns++Qp l
def Va:aI->List Nat
 | .val _ t=>t.owns
 | .ptr o _ _=>[o]
 | .elem o .. =>[o]
 | .dlm o .. =>[o]
 | .tup ds=>Qp ds
 | .fn _ caps=>caps.map (·.1)
 | .ifc _ d=>Va d
 |_=>[]
def L7(aJ:List (Nat×aI)):List Nat->List Nat
 |[]=>[]
 |t::l=>(match find aJ t with
  |some d=>Va d
  |none=>[])++L7 aJ l
def within(objs:List (Nat×(Nat×Th))):List Nat->List Nat
 |[]=>[]
 |o::l=>(match find objs o with
  |some (_, .box _ t)=>t.owns
  |_=>[])++within objs l
def OJ(aJ:List (Nat×aI))(objs:List (Nat×(Nat×Th)))(ts:List Nat):List Nat:=
 (λl=>l++within objs l) (L7 aJ ts)
def zC(bh:List (Nat×(Nat×Th)))(nd:List Nat)(e:eD):eD:=
 {dst:=e.dst,eat:=nd++e.eat,make:=e.make++del e.eat (pX bh nd)}
section
variable {U:Nat->Prop} {H:aK} {F:Nat->Prop} {w:World} {n:Nat}
def Jd{obj bh:List (Nat×(Nat×Th))}{nd:List Nat}{e:eD}{v:Value}{w':World}{F1:Nat->Prop}(yx:fy obj nd=aa bh)(sZ:aL U H F1 w (find bh) n)(EF:∀b,F b->F1 b)(NM:∀b,F1 b->F b\/cD H (find obj) nd b)
 (h:ma H F1 w (find bh) n e v w'):ma H F w (find obj) n (zC bh nd e) v w':=by
 obtain⟨H',F',hp⟩:=h
 have mj:∀k,cD H (find bh) e.eat k->cD H (find obj) (nd++e.eat) k:=by
  rintro k ⟨o,ho,s,t,u,h1,h2,h3⟩
  rcases jv yx o s t h1 with h4|h4
  .exact⟨o,by simp[ho],s,t,u,h4,h2,h3⟩
  .exact(iQ h4 h3).elim
 have part:∀o s t,find (e.make++del e.eat (pX bh nd)) o=aa (s,t)->find e.make o=aa (s,t)\/(o∉e.eat/\o∈nd/\find bh o=aa (s,t)/\fE t=af):=by
  intro o s t ho;rw[jo]at ho
  cases hm:find e.make o with
  |some x=>grind
  |none=>
   grind [jq,nM]
 refine⟨H',F',⟨hp.mZ.kr,⟨hp.mZ.ext.os,hp.mZ.ext.tape,hp.mZ.ext.output,hp.mZ.ext.size,λk hk hn=>hp.mZ.ext.block k hk λhh=>hn (mj k hh)⟩,λb hb=>hp.mZ.le b (EF b hb),λb hb=>?_,hp.mZ.lt⟩,hp.fresh,hp.dst,⟨λo s t ho=>?_,λo o' s s' t t' v v' dw ho jY hv dZ k hk iU=>?_⟩,λo ho=>?_⟩
 .rcases hp.mZ.grow b hb with h1|h1|h1
  .rcases NM b h1 with h2|⟨o,ho,rest⟩
   .exact .inl h2
   .exact .inr (.inr ⟨o,by simp[zC,ho],rest⟩)
  .exact .inr (.inl h1)
  .exact .inr (.inr (mj b h1))
 .rcases part o s t ho with h1|⟨h1,h2,h3,h4⟩
  .obtain⟨u,a1,a2,a3,a4,a5⟩:=hp.made.obj o s t h1;exact⟨u,a1,a2,a3,a4,λk hk=>⟨(a5 k hk).1,(a5 k hk).2.1,(a5 k hk).2.2.imp id (mj k)⟩⟩
  .obtain⟨u,hu,cT⟩:=sZ.obj _ _ _ h3;have:=cT.mZ sZ hp.mZ h3 h1 hu;exact⟨u,hp.mZ.kr.val _ _ hu,this.one,this.con,this.ok,λk hk=>(iQ h4 hk).elim⟩
 .rcases part o s t ho with h1|⟨_,_,_,h4⟩
  .rcases part o' s' t' jY with h2|⟨_,_,_,Y7⟩
   .exact hp.made.apart o o' s s' t t' v v' dw h1 h2 hv dZ k hk iU
   .exact iQ Y7 iU
  .exact iQ h4 hk
 .obtain⟨x,hx⟩:=ajE.1 ho
  rcases part o x.1 x.2 hx with h1|⟨_,h2,_⟩
  .exact(hp.ids o (by rw[h1];rfl)).imp (λh=>by simp[zC,h]) id
  .exact .inl (by simp[zC,h2])
end
def iX(x y:Nat×Th):Prop:=x=y\/∃T d l h h',x.2= .deep T d l h/\y.2= .deep T d l h'
def iX.symm{x y:Nat×Th}(h:iX x y):iX y x:=by
 rcases h with rfl|⟨T,d,l,h,h',h1,h2⟩
 .exact .inl rfl
 .exact .inr ⟨T,d,l,h',h,h2,h1⟩
def iX.trans{x y z:Nat×Th}(h:iX x y)(h':iX y z):iX x z:=by
 rcases h with rfl|⟨T,d,l,a,b,h1,h2⟩
 .exact h'
 .rcases h' with rfl|⟨T',d',l',a',b',h3,h4⟩
  .exact .inr ⟨T,d,l,a,b,h1,h2⟩
  .rw[h2]at h3;cases h3;exact .inr ⟨T,d,l,a,b',h1,h4⟩
structure mz where
 dst:Option Nat
 ts:List Nat
 os:List Nat
 e:eD
 ls:List Nat:=[]
 soft:List Nat:=[]
def vg:List (Nat×(Nat×Th))->List Nat
 |[]=>[]
 |(o,_)::l=>o::vg l
def mz.mut(x:mz):List Nat:=x.e.eat++vg x.e.make
def Ft:Op->Bool
 | .call c=>match c.callee with
   | .builtin .len=>af
   |_=>ag
 |_=>ag
def Qq(rd:Operand->Option aI):Op->List Nat
 | .load _ x=>match rd x with
   |some (.dlm o _ _ _ _)=>[o]
   |_=>[]
 |_=>[]
def iM(st:State)(op:Op):List Nat:=
 match op with
 | .move _=>[]
 | .assign _=>[]
 | .extract _ _=>[]
 | .fieldAddr _ _ _=>[]
 | .load _ _=>L7 st.aJ (tmpsOf op.operands.toList)
 |_=>OJ st.aJ st.objs (tmpsOf op.operands.toList)
noncomputable def zD{R:Type}{P:Program}(E:Env P)(dst:Option Nat)(op:Op)(gs:List Nat)(st:State)(k:eD->mz->Option R):Option R:=
 match fy (ke (iM st op) st.objs) (se E (Kt (ke (tmpsOf op.operands.toList) st.aJ)) (ke (iM st op) st.objs) op)with
 |some bh=>bif fnB dst op then OF E (Kt (ke (tmpsOf op.operands.toList) st.aJ)) bh st.nxt dst op (λe=>
   (λe'=>k e' {dst:=dst,ts:=tmpsOf op.operands.toList++gs,os:=bif Ft op then[]else iM st op,e:=e',ls:=bif Ft op then iM st op else[],soft:=Qq (Kt (ke (tmpsOf op.operands.toList) st.aJ)) op}) (zC bh (se E (Kt (ke (tmpsOf op.operands.toList) st.aJ)) (ke (iM st op) st.objs) op) e))else ae
 |none=>ae
structure Qr(P:Program)(U:Nat->Prop)(o:Oper)(sl:Nat->Option aI)(ob:Nat->Option (Nat×Th))(n:Nat)(Hg:mz):Prop where
 dst:Hg.dst=o.dst
 run:∃(Y8:Nat->Option aI)(NG:Nat->Option (Nat×Th)),(∀t d,Y8 t=aa d->t∈Hg.ts/\sl t=aa d)/\(∀q x,NG q=aa x->(q∈Hg.os\/q∈Hg.ls)/\ob q=aa x)/\
  ∀(H:aK)(F:Nat->Prop)(w:World)(ρ:Nat->Value)(Je:Nat->Option (Nat×Th)),(∀q x,NG q=aa x->∃x',Je q=aa x'/\iX x x'/\(q∈Hg.os->x'=x))->(∀t d,Y8 t=aa d->aH H F w d (ρ t))->aL U H F w Je n->
   ∃Y9:Nat->Option (Nat×Th),(∀q x,Y9 q=aa x->Je q=aa x)/\cA P ρ ⟨o.dst,o.op,o.type,o.pos,o.after,ae⟩ w (ma H F w Y9 n Hg.e)
 soft:∀q∈Hg.soft,q∈Hg.mut->∃x y,ob q=aa x/\find Hg.e.make q=aa y/\iX x y
def Jf{ob Lc:Nat->Option (Nat×Th)}{D:aI}{k:Li}(Ug:∀q x,ob q=aa x->∃x',Lc q=aa x'/\iX x x')(h:sQ ob D=aa k):∃k',sQ Lc D=aa k'/\uX k'=uX k:=by
 unfold sQ at h;split at h
 .cases h;exact⟨_,rfl,rfl⟩
 .cases h;exact⟨_,rfl,rfl⟩
 .rename_i o
  cases ho:ob o with
  |none=>rw[ho]at h;cases h
  |some x=>
   obtain⟨s,t⟩:=x;obtain⟨⟨s',t'⟩,h1,h2⟩:=Ug o _ ho;rw[ho]at h
   rcases h2 with e|⟨T,d,l,a,b,e1,e2⟩
   .cases e;exact⟨k,by show(match Lc o with|some (s, .own T r l)=>_|some (_, .vB _ r l)=>_|some (_, .fdeep _ d l)=>_|some (s, .deep T d l h)=>_|_=>_)=_;rw[h1];exact h,rfl⟩
   .simp only at e1 e2;subst e1 e2;cases h;exact⟨.deep o s' T d l b,by show(match Lc o with|some (s, .own T r l)=>_|some (_, .vB _ r l)=>_|some (_, .fdeep _ d l)=>_|some (s, .deep T d l h)=>_|_=>_)=_;rw[h1],rfl⟩
 .rename_i o s r m
  have hk:uX k=(m.length:Int):=by
   split at h
   .rename_i s' _ _ _ _
    cases hb:ajf s' s<;>rw[hb]at h<;>cases h<;>rfl
   .cases h;rfl
  rw[hk]
  show∃k',(match Lc o with|some (s', .vB ..)=>bif ajf s' s then aa (Li.read r m)else aa (.view o s r m)|_=>aa (.view o s r m))=aa k'/\uX k'=_
  split
  .rename_i s' _ _ _ _
   cases hb:ajf s' s with
   |true=>exact⟨Li.read r m,rfl,rfl⟩
   |false=>exact⟨Li.view o s r m,rfl,rfl⟩
  .exact⟨Li.view o s r m,rfl,rfl⟩
 .cases h
def Jg{P:Program}(T:bj P){ob Lc:Nat->Option (Nat×Th)}{t:TypeId}{D D':aI}(Ug:∀q x,ob q=aa x->∃x',Lc q=aa x'/\iX x x')(h:IJ T ob t D=aa D'):IJ T Lc t D=aa D':=by
 unfold IJ at h⊢;split at h
 .split at h
  case h_2=>cases h
  rename_i k hk;obtain⟨k',h1,h2⟩:=Jf Ug hk
  grind
 .exact h
 .cases h
def Jh{P:Program}(T:bj P){ob:Nat->Option (Nat×Th)}{n:Nat}{t:TypeId}{o:Nat}{d:DR}{i:Int}{p:List Bool}{off:Nat}{e:eD}(h:qh T ob n t (.dlm o d i p off) aa=aa e)(hm:o∈e.eat++vg e.make):
 ∃x y,ob o=aa x/\find e.make o=aa y/\iX x y:=by
 unfold qh r6 at h;simp only at h;split at h
 .cases h
 split at h
 case h_2=>cases h
 rename_i s T0 dr l hh ho;obtain⟨_,h⟩:=be h;split at h
 .obtain⟨_,h⟩:=be h;obtain⟨_,_,h⟩:=bind_some h;cases h;simp[vg]at hm
 .obtain⟨_,h⟩:=be h;split at h
  .obtain⟨_,_,h⟩:=bind_some h;cases h;exact⟨_,(n, .deep T0 dr l _),ho,by rw[aZ,aj rfl], .inr ⟨T0,dr,l,ae,_,rfl,rfl⟩⟩
  .obtain⟨_,h⟩:=be h;split at h
   .obtain⟨_,_,h⟩:=bind_some h;cases h;simp[vg]at hm
   .cases h
 .cases h
def L8{P:Program}{E:Env P}{U:Nat->Prop}{R:Type}{o:Oper}{gs:List Nat}{st:State}{k:eD->mz->Option R}{q:R}(h:zD E o.dst o.op gs st k=aa q):
 ∃e Hg,k e Hg=aa q/\Hg.e=e/\(∀g∈gs,g∈Hg.ts)/\Qr P U o (find st.aJ) (find st.objs) st.nxt Hg:=by
 unfold zD at h;split at h
 case h_2=>cases h
 rename_i bh yx;obtain⟨BZ,h'⟩:=be h;clear h;rw[L6]at h';obtain⟨e,he,hk⟩:=bind_some h'
 have Vb:∀t d,find (ke (tmpsOf o.op.operands.toList) st.aJ) t=aa d->t∈tmpsOf o.op.operands.toList/\find st.aJ t=aa d:=λt d ht=>zB.1 ht
 have OK:∀q x,find (ke (iM st o.op) st.objs) q=aa x->q∈iM st o.op/\find st.objs q=aa x:=λq x hx=>zB.1 hx
 refine⟨_,_,hk,rfl,λg hg=>by simp[hg],rfl,⟨find (ke (tmpsOf o.op.operands.toList) st.aJ),find (ke (iM st o.op) st.objs),(by grind),λq x hx=>⟨?_,(OK q x hx).2⟩,λH F w ρ Je Ug gY cJ=>?_⟩,λq hq hm=>?_⟩
 .grind
 .cases hl:Ft o.op with
  |false=>
   simp only[hl,cond_false]at Ug
   have iL:∀q x,find (ke (iM st o.op) st.objs) q=aa x->Je q=aa x:=(by grind)
   have vE:aL U H F w (find (ke (iM st o.op) st.objs)) st.nxt:=⟨λo s t ho=>cJ.obj o s t (iL _ _ ho),λo o' s s' t t' v v' dw ho jY=>cJ.apart o o' s s' t t' v v' dw (iL _ _ ho) (iL _ _ jY),cJ.fresh,cJ.lt,cJ.new,cJ.gl⟩
   refine⟨_,iL,?_⟩;obtain⟨F1,sZ,EF,NM⟩:=o3 yx vE
   have gD:Step F w F1 w:=λb hb=>⟨EF b hb,rfl⟩
   obtain⟨e',he',hs⟩:=LX (ρ:=ρ) (ty:=o.type) (pos:=o.pos) (aft:=o.after) E (λx d hx=>wk sZ.gl (λt d ht=>(gY t d ht).keep (aK.le.refl H) gD) x d hx) (λhn c hc=>by rw[hn,hc]at BZ;exact BZ) he sZ;obtain rfl:=aja he'
   exact hs.mono λv w' hp=>Jd yx sZ EF NM hp
  |true=>
   refine⟨Je,λ_ _ h=>h,?_⟩;obtain⟨RF,Za,oty,Zb,Zc,ogd⟩:=o;simp only at*
   cases Za<;>try(cases hl;done)
   rename_i c;obtain⟨callee,args,wY⟩:=c
   cases callee<;>try(cases hl;done)
   rename_i b
   cases b<;>try(cases hl;done)
   cases RF with
   |none=>cases BZ
   |some d=>
    have Om:se E (Kt (ke (tmpsOf (Op.operands (.call {callee:= .builtin .len,args:=args,argTypes:=wY})).toList) st.aJ)) (ke (iM st (.call {callee:= .builtin .len,args:=args,argTypes:=wY})) st.objs) (.call {callee:= .builtin .len,args:=args,argTypes:=wY})=[]:=by unfold se;cases E.deep<;>rfl
    rw[Om]at yx⊢;obtain rfl:=aja yx;have OL:rJ E _ _ st.nxt (.builtin .len) args wY aa=aa e:=he;unfold rJ at OL;simp only at OL;split at OL
    case h_2=>cases OL
    rename_i x t ha ht;obtain rfl:=ei ha;obtain rfl:=ei ht;split at OL
    case h_2=>cases OL
    rename_i D hD;split at OL
    case h_2=>cases OL
    rename_i D' GK;cases OL;have hlen:=Jg E.T (λq x hx=>by obtain⟨x',h1,h2,_⟩:=Ug q x hx;exact⟨x',h1,h2⟩) GK;exact GU E.T hlen cJ (wk cJ.gl gY _ _ hD)
 .obtain⟨RF,Za,oty,Zb,Zc,ogd⟩:=o;simp only at*
  cases Za<;>try(cases hq;done)
  rename_i t x;unfold Qq at hq;simp only at hq;split at hq
  case h_2=>cases hq
  rename_i o' d0 i p off gO;obtain rfl:=ajy.1 hq
  have Om:se E (Kt (ke (tmpsOf (Op.operands (.load t x)).toList) st.aJ)) (ke (iM st (.load t x)) st.objs) (.load t x)=[]:=by unfold se;cases E.deep<;>rfl
  rw[Om]at yx hm⊢;obtain rfl:=aja yx
  cases RF with
  |none=>cases he
  |some d=>
   unfold OF at he;simp only[gO]at he
   have RG:q∈e.eat++vg e.make:=by
    simpa[mz.mut,zC,pX,del]using hm
   obtain⟨x1,y1,h1,h2,h3⟩:=Jh E.T he RG;refine⟨x1,y1,(OK _ _ h1).2,?_,h3⟩
   show find (e.make++_) q=_
   rw[jo,h2];rfl
end Go.Proofs.YtleifhfeahnocaaGreatDoor
namespace Go.Proofs.YtleifhfeahnocaaGreatDoor
open Go Go.RowKit
def yH(acc:List Nat)(i:Nat):List Edge->Option Nat
 |[]=>aa 0
 |e::l=>match yH acc i l with
  |some m=>bif akH .any e then(bif ajK e.on i then aa (m|||2 ^ e.on|||acc.getD e.on 0)else ae)else aa m
  |none=>ae
def Ji(acc:List Nat):List Oper->Option (List Nat)
 |[]=>aa acc
 |o::l=>match yH acc acc.length o.after.toList with
  |some m=>Ji (acc++[m]) l
  |none=>ae
def oI(d:Option Nat)(l:List Nat):Bool:=
 match d with
 |some t=>pA t l
 |none=>ag
def Dc(l l':List Nat):Bool:=l.any λo=>pA o l'
def mz.Vc(x:mz):List Nat:=x.mut.filter λo=> !pA o x.soft
def conflict(a b:mz):Bool:=
 oI a.dst b.ts||oI b.dst a.ts||oI a.dst (b.dst.toList)||Dc a.mut (b.os++b.mut)||Dc a.Vc b.ls||Dc (a.os++a.ls++a.mut) b.mut
def Bc(ms:List Nat)(i:Nat)(x:mz):Nat->List mz->Bool
 |_,[]=>af
 |j,y::l=>(bif conflict x y then Nat.testBit (ms.getD j 0) i else af)&&Bc ms i x (j+1) l
def vW(ms:List Nat):Nat->List mz->Bool
 |_,[]=>af
 |i,x::l=>Bc ms i x (i+1) l&&vW ms (i+1) l
def uv(ops:List Oper)(es:List mz):Bool:=
 match Ji [] ops with
 |some ms=>vW ms 0 es
 |none=>ag
section
variable {ops:Array Oper}
def Fu(ops:Array Oper)(S:Nat->Prop):Prop:=∀i,S i->∀o,ops[i]? =aa o->∀e∈o.after,akH .any e=af->S e.on
def Bd{acc:List Nat}{i:Nat}:{l:List Edge}->{m:Nat}->yH acc i l=aa m->∀j,m.testBit j=af->∃e∈l,akH .any e=af/\e.on<i/\(e.on=j\/(acc.getD e.on 0).testBit j=af)
 |[],m,h,j,hj=>by
  obtain rfl:=aja h;simp at hj
 |e::l,m,h,j,hj=>by
  unfold yH at h;split at h
  case h_2=>cases h
  rename_i m0 h0
  cases hb:akH .any e with
  |false=>
   rw[hb,cond_false]at h;obtain rfl:=aja h;obtain⟨e',a1,a2⟩:=Bd h0 j hj;exact⟨e',by simp[a1],a2⟩
  |true=>
   rw[hb,cond_true]at h
   cases aG:ajK e.on i with
   |false=>rw[aG]at h;cases h
   |true=>
    rw[aG,cond_true]at h;obtain rfl:=aja h;rw[Nat.testBit_or,Nat.testBit_or,Bool.or_eq_true,Bool.or_eq_true]at hj
    have aeS:e.on<i:=by simpa using aG
    rcases hj with(hj|hj)|hj
    .obtain⟨e',a1,a2⟩:=Bd h0 j hj;exact⟨e',by simp[a1],a2⟩
    all_goals grind
def Hi{acc:List Nat}{i:Nat}:{l:List Edge}->{m:Nat}->yH acc i l=aa m->∀e∈l,akH .any e=af->e.on<i
 |[],m,h,e,he,_=>by cases he
 |e0::l,m,h,e,he,hb=>by
  unfold yH at h;split at h
  case h_2=>cases h
  rename_i m0 h0
  rcases ajQ.1 he with rfl|he
  .rw[hb,cond_true]at h
   cases aG:ajK e.on i<;>simp_all
  .exact Hi h0 e he hb
def Be:{l:List Oper}->{acc ms:List Nat}->Ji acc l=aa ms->ms.length=acc.length+l.length/\(∀i,i<acc.length->ms.getD i 0=acc.getD i 0)/\
 ∀k o,l[k]? =aa o->∃m,yH ms (acc.length+k) o.after.toList=aa m/\ms.getD (acc.length+k) 0=m
 |[],acc,ms,h=>by
  obtain rfl:=aja h
  grind
 |o0::l,acc,ms,h=>by
  unfold Ji at h;split at h
  case h_2=>cases h
  rename_i m hm;obtain⟨a1,a2,a3⟩:=Be h;rw[List.length_append,List.length_singleton]at a1 a2 a3
  have Zd:∀i,i<acc.length->ms.getD i 0=acc.getD i 0:=(by grind)
  have aeT:∀(l:List Edge)(m:Nat),yH acc acc.length l=aa m->yH ms acc.length l=aa m:=by
   intro l
   induction l with
   |nil=>intro m h;exact h
   |cons e l ih=>
    intro m h;unfold yH at h⊢;split at h
    case h_2=>cases h
    rename_i m0 h0;rw[ih m0 h0];simp only
    cases hb:akH .any e with
    |false=>rw[hb]at h;exact h
    |true=>
     rw[hb,cond_true]at h
     cases aG:ajK e.on acc.length<;>simp_all
  grind
theorem L9{ms:List Nat}(h:Ji [] ops.toList=aa ms){S:Nat->Prop}(hS:Fu ops S):∀i o,ops[i]? =aa o->(∀e∈o.after,akH .any e=af->S e.on)->∀j,(ms.getD i 0).testBit j=af->S j:=by
 obtain⟨_,_,a3⟩:=Be h;intro i
 induction i using Nat.strongRecOn with
 |_ i ih=>
  intro o ho hd j hj;obtain⟨m,h1,h2⟩:=a3 i o (by rw[Array.getElem?_toList];exact ho);simp only[ajJ,ajL]at h1 h2;rw[h2]at hj;obtain⟨e,he,hb,aG,h3⟩:=Bd h1 j hj;have Oo:=hd e (by simpa using he) hb
  rcases h3 with rfl|h3
  .exact Oo
  .have Vd:e.on<ops.size:=by
    have:=(ajF.1 ho).1;omega
   exact ih e.on aG _ (ajG Vd) (λe' he' qR=>hS e.on Oo _ (ajG Vd) e' he' qR) j h3
end
def ic(S:Nat->Bool):Nat->List mz->(Nat->Option aI)->Nat->Option aI
 |_,[],f=>f
 |i,x::l,f=>ic S (i+1) l (λt=>bif S i&&oI (aa t) x.dst.toList then aa x.e.dst else f t)
def gr(S:Nat->Bool):Nat->List mz->(Nat->Option (Nat×Th))->Nat->Option (Nat×Th)
 |_,[],f=>f
 |i,x::l,f=>gr S (i+1) l (λo=>bif S i then(find x.e.make o).or (bif pA o x.e.eat then ae else f o)else f o)
theorem rk{l:List (Nat×(Nat×Th))}{o:Nat}{x:Nat×Th}(h:find l o=aa x):o∈vg l:=by
 induction l with
 |nil=>cases h
 |cons p l ih=>
  obtain⟨o',y⟩:=p;rw[aZ]at h;split at h
  .rename_i e;subst e;exact List.mem_cons_self
  .exact List.mem_cons_of_mem _ (ih h)
theorem nr{d:Option Nat}{t:Nat}:oI (aa t) d.toList=af↔d=aa t:=by
 grind [oI,fY]
theorem mN{S S':Nat->Bool}{t:Nat}:{l:List mz}->{i:Nat}->{f f':Nat->Option aI}->f t=f' t->(∀k x,l[k]? =aa x->x.dst=aa t->S (i+k)=S' (i+k))->ic S i l f t=ic S' i l f' t
 |[],_,_,_,hf,_=>hf
 |x::l,i,f,f',hf,h=>by
  show ic S (i+1) l _ t=ic S' (i+1) l _ t
  refine mN ?_ λk y hy hd=>by
   have:=h (k+1) y (by simpa using hy) hd
   rwa [show i+(k+1)=i+1+k from by omega]at this
  by_cases hd:x.dst=aa t
  .have:=h 0 x rfl hd;simp only[akj]at this;rw[this,hf]
  grind [nr]
theorem ml{S S':Nat->Bool}{o:Nat}:{l:List mz}->{i:Nat}->{f f':Nat->Option (Nat×Th)}->f o=f' o->(∀k x,l[k]? =aa x->o∈x.mut->S (i+k)=S' (i+k))->gr S i l f o=gr S' i l f' o
 |[],_,_,_,hf,_=>hf
 |x::l,i,f,f',hf,h=>by
  show gr S (i+1) l _ o=gr S' (i+1) l _ o
  refine ml ?_ λk y hy hd=>by
   have:=h (k+1) y (by simpa using hy) hd
   rwa [show i+(k+1)=i+1+k from by omega]at this
  by_cases hd:o∈x.mut
  .have:=h 0 x rfl hd;simp only[akj]at this;rw[this,hf]
  .have h1:find x.e.make o=ae:=by
    cases hm:find x.e.make o with
    |none=>rfl
    |some y=>exact absurd (by simp[mz.mut,rk hm]) hd
   have h2:pA o x.e.eat=ag:=by
    cases hb:pA o x.e.eat with
    |false=>rfl
    |true=>exact absurd (by simp[mz.mut,fY.1 hb]) hd
   grind
theorem pC{S:Nat->Bool}{t:Nat}:{l:List mz}->{i:Nat}->{f:Nat->Option aI}->(∀k x,l[k]? =aa x->x.dst=aa t->S (i+k)=ag)->ic S i l f t=f t
 |[],_,_,_=>rfl
 |x::l,i,f,h=>by
  show ic S (i+1) l _ t=_
  rw[pC λk y hy hd=>by
   have:=h (k+1) y (by simpa using hy) hd
   rwa [show i+(k+1)=i+1+k from by omega]at this]
  by_cases hd:x.dst=aa t
  .have:=h 0 x rfl hd;simp only[akj]at this;simp[this]
  grind [nr]
def o7{S:Nat->Bool}{o:Nat}:{l:List mz}->{i:Nat}->{f:Nat->Option (Nat×Th)}->(∀k x,l[k]? =aa x->o∈x.mut->S (i+k)=ag)->gr S i l f o=f o
 |[],_,_,_=>rfl
 |x::l,i,f,h=>by
  show gr S (i+1) l _ o=_
  rw[o7 λk y hy hd=>by
   have:=h (k+1) y (by simpa using hy) hd
   rwa [show i+(k+1)=i+1+k from by omega]at this]
  by_cases hd:o∈x.mut
  .have:=h 0 x rfl hd;simp only[akj]at this;simp[this]
  .have h1:find x.e.make o=ae:=by
    cases hm:find x.e.make o with
    |none=>rfl
    |some y=>exact absurd (by simp[mz.mut,rk hm]) hd
   have h2:pA o x.e.eat=ag:=by
    cases hb:pA o x.e.eat with
    |false=>rfl
    |true=>exact absurd (by simp[mz.mut,fY.1 hb]) hd
   grind
def pD{S:Nat->Bool}{l l':List mz}{i:Nat}{f:Nat->Option aI}:ic S i (l++l') f=ic S (i+l.length) l' (ic S i l f):=by
 induction l generalizing i f with
 |nil=>rfl
 |cons x l ih=>
  grind [ic]
def lk{S:Nat->Bool}{l l':List mz}{i:Nat}{f:Nat->Option (Nat×Th)}:gr S i (l++l') f=gr S (i+l.length) l' (gr S i l f):=by
 induction l generalizing i f with
 |nil=>rfl
 |cons x l ih=>
  grind [gr]
end Go.Proofs.YtleifhfeahnocaaGreatDoor
end
section
open _root_.Bool renaming false->ag,true->af,false_eq_true->ajI
open _root_.Option renaming none->ae,some->aa
open _root_.Array renaming getD_eq_getD_getElem?->ajW,getElem?_eq_getElem->ajG,getElem?_eq_some_iff->ajF
open _root_.List renaming drop_eq_getElem_cons->ajx,getElem?_drop->aj9,getElem?_eq_getElem->ajb,getElem?_eq_some_iff->ajr,getElem_of_mem->ajm,length_cons->ajp,length_nil->ajJ,range->ajY,take_append_drop->akx
open _root_.Nat renaming beq->ajf,blt->ajK,le_refl->ajh,zero_add->ajL
open _root_.Option.some renaming inj->aja
open _root_.Go.Region renaming binds->akH,wanted->aky
namespace Go.Proofs.YtleifhfeahnocaaGreatDoor
open Go Go.RowKit
def xd{ms:List Nat}{i:Nat}{x:mz}:{l:List mz}->{j:Nat}->Bc ms i x j l=af->∀k y,l[k]? =aa y->conflict x y=af->(ms.getD (j+k) 0).testBit i=af
 |[],_,_,k,y,h,_=>by simp at h
 |z::l,j,hl,k,y,h,hc=>by
  obtain⟨h1,h2⟩:=de hl
  cases k with
  |zero=>
   grind
  |succ k=>
   have:=xd h2 k y (by simpa using h) hc
   grind
def sf{ms:List Nat}:{l:List mz}->{i:Nat}->vW ms i l=af->∀a b x y,a<b->l[a]? =aa x->l[b]? =aa y->conflict x y=af->(ms.getD (i+b) 0).testBit (i+a)=af
 |[],_,_,a,b,x,y,_,h,_,_=>by simp at h
 |z::l,i,hl,a,b,x,y,TX,hx,hy,hc=>by
  obtain⟨h1,h2⟩:=de hl
  cases a with
  |zero=>
   obtain rfl:z=x:=by simpa using hx
   cases b with
   |zero=>omega
   |succ b=>
    have:=xd h1 b y (by simpa using hy) hc
    grind
  |succ a=>
   cases b with
   |zero=>omega
   |succ b=>
    have:=sf h2 a b x y (by omega) (by simpa using hx) (by simpa using hy) hc
    grind
inductive RH(ops:Array Oper)(nt:Nat)(ts:List Nat)(sl:Nat->Option aI):Option (Nat×Bool)->Bool->Prop
 |none:RH ops nt ts sl ae af
 |lit {j g:Nat} {b t:Bool} {d:aI} (h1:Hf ops j=aa g) (h2:ajK g nt=af) (h3:g∈ts) (h4:sl g=aa d) (h5:asBool d=aa t):RH ops nt ts sl (aa (j,b)) (decide (t=b))
 |undef {j g:Nat} {b:Bool} (h1:Hf ops j=aa g) (h2:ajK g nt=af) (h3:g∈ts) (h4:sl g=aa .undef):RH ops nt ts sl (aa (j,b)) ag
structure RJ(P:Program)(ops:Array Oper)(nt:Nat)(U:Nat->Prop)(o:Oper)(sl:Nat->Option aI)(ob:Nat->Option (Nat×Th))(n:Nat)(x:mz):Prop where
 dst:x.dst=o.dst
 yI:C0 nt o.dst=af
 on:∃b,RH ops nt x.ts sl o.guard b/\(b=af->Qr P U o sl ob n x)/\(b=ag->x.e={dst:= .undef})
section
variable {P:Program} {nt:Nat} {ops:Array Oper}
def OM{ρ:Nat->Value}{o:Oper}{w:World}{QQ:Value->World->Prop}{a:Act}{K:Act->World->Prop}{Q:Exit->Act->World->Prop}(h:cA P ρ ⟨o.dst,o.op,o.type,o.pos,o.after,ae⟩ w QQ)(hf:Fr nt a ρ)
 (hk:∀v w',QQ v w'->K (a.put o.dst v) w'):o.wp P a w K Q:=by
 unfold Oper.wp;rw[hf.eval];unfold cA at h;have e:execOp (ev ρ) o=execOp (ev ρ) ⟨o.dst,o.op,o.type,o.pos,o.after,ae⟩:=rfl;rw[e];generalize(execOp (ev ρ) ⟨o.dst,o.op,o.type,o.pos,o.after,ae⟩).run P w=r at*
 cases r with
 |halt x w'=>exact h.elim
 |ok x w'=>
  cases x<;>first
   |exact h.elim
   |skip
  case value v=>exact hk v w' h.2
  case skip=>exact hk undef w' h.2
  case enter f args=>
   refine h.mono λe BX ⟨v,he,hv⟩=>?_
   grind
def aL.sub{U:Nat->Prop}{H:aK}{F:Nat->Prop}{w:World}{ob NG:Nat->Option (Nat×Th)}{n m:Nat}(h:aL U H F w ob n)(hR:∀o x,NG o=aa x->ob o=aa x)(yf:∀k,m<=k->k<m+16->H.val k=ae/\H.con k=ae):aL U H F w NG m:=
 ⟨λo s t ho=>h.obj o s t (hR _ _ ho),λo o' s s' t t' v v' dw ho jY=>h.apart o o' s s' t t' v v' dw (hR _ _ ho) (hR _ _ jY),yf,h.lt,h.new,h.gl⟩
structure Inv(G:Nat->Prop)(w0:World)(F0:Nat->Prop)(es:List mz)(sl0:Nat->Option aI)(ob0:Nat->Option (Nat×Th))(n0:Nat)(H:aK)(F:Nat->Prop)(w:World)(ρ:Nat->Value)(S:Nat->Bool)(H':aK)(F':Nat->Prop)(w':World)(dH:Nat->Value):Prop where
 slot:∀t d,ic S 0 es sl0 t=aa d->aH H' F' w' d (dH t)
 ob:aL (UU G w0) H' F' w' (gr S 0 es ob0) (n0+16*es.length)
 all:jr H' (n0+16*es.length)
 fresh:∀i,i<es.length->S i=ag->∀m,n0+16*i<=m->m<n0+16*i+16->H'.val m=ae/\H'.con m=ae
 glob:LG G w0 F0 w' F'
 keeps:cU H F w H' F' w'
 same:∀t,(∀x∈es,x.dst≠aa t)->dH t=ρ t
def ins(S:Nat->Bool)(i:Nat):Nat->Bool:=λj=>bif ajf j i then af else S j
theorem qm{S:Nat->Bool}{i:Nat}:ins S i i=af:=by simp[ins]
theorem qn{S:Nat->Bool}{i j:Nat}(h:j≠i):ins S i j=S j:=by
 grind [ins,beq_true]
section
variable {G:Nat->Prop} {w0:World} {F0:Nat->Prop} {es:List mz} {sl0:Nat->Option aI} {ob0:Nat->Option (Nat×Th)} {n0:Nat} {H:aK} {F:Nat->Prop} {w:World} {ρ:Nat->Value} {ms:List Nat}
def Dd{i:Nat}{x:mz}(h:es[i]? =aa x):es=es.take i++x::es.drop (i+1)/\(es.take i).length=i:=by
 grind [ajx,akx]
def zE{S:Nat->Bool}{i:Nat}{x:mz}(hx:es[i]? =aa x)(Ve:∀t,x.dst=aa t->∀j y,es[j]? =aa y->y.dst=aa t->S j=af->j<i)(t:Nat):
 ic (ins S i) 0 es sl0 t=if x.dst=aa t then aa x.e.dst else ic S 0 es sl0 t:=by
 by_cases hd:x.dst=aa t
 .rw[aj hd];obtain⟨e1,e2⟩:=Dd hx;rw[e1,pD,e2,ajL]
  show ic (ins S i) (i+1) (es.drop (i+1)) _ t=_
  grind [pC,qn,qm,nr]
 grind [mN,qn]
def De{S:Nat->Bool}{i:Nat}{x:mz}(hx:es[i]? =aa x)(hS:S i=ag)(Ve:∀o,o∈x.mut->∀j y,es[j]? =aa y->o∈y.mut->S j=af->j<i)(o s:Nat)(t:Th)(h:gr (ins S i) 0 es ob0 o=aa (s,t)):
 find x.e.make o=aa (s,t)\/(o∉x.e.eat/\gr S 0 es ob0 o=aa (s,t)/\find x.e.make o=ae):=by
 by_cases hd:o∈x.mut
 .obtain⟨e1,e2⟩:=Dd hx
  have late:∀S':Nat->Bool,(∀j,j≠i->S' j=S j)->∀f,gr S' (i+1) (es.drop (i+1)) f o=f o:=λS' hS' f=>o7 (by grind)
  have pre:gr (ins S i) 0 (es.take i) ob0 o=gr S 0 (es.take i) ob0 o:=ml rfl λk y hy _=>by
   grind [qn]
  have all:gr S 0 es ob0 o=gr S 0 (es.take i) ob0 o:=by
   conv=>lhs;rw[e1]
   rw[lk,e2,ajL]
   show gr S (i+1) (es.drop (i+1)) _ o=_
   rw[late S (λ_ _=>rfl),hS];rfl
  conv at h=>lhs;rw[e1]
  rw[lk,e2,ajL]at h;change gr (ins S i) (i+1) (es.drop (i+1)) _ o=_ at h;rw[late (ins S i) (λj hj=>qn hj),qm,cond_true,pre,<-all]at h
  cases hm:find x.e.make o with
  |some y=>grind
  |none=>
   rw[hm,Option.none_or]at h
   cases he:pA o x.e.eat with
   |true=>rw[he]at h;cases h
   |false=>
    grind [fY]
 .right
  have h1:find x.e.make o=ae:=by
   cases hm:find x.e.make o with
   |none=>rfl
   |some y=>grind [mz.mut,rk]
  grind [mz.mut,ml,qn]
theorem o8{l l':List Nat}{o:Nat}(h:o∈l)(h':o∈l'):Dc l l'=af:=by
 grind [Dc,fY]
theorem xe{i j:Nat}(h:i<=j):ajK j i=ag:=by
 cases hb:ajK j i with
 |false=>rfl
 |true=>have:j<i:=by simpa using hb
        omega
def Jj(_:Nat):Bool:=af
def Fv{es:List mz}{i:Nat}(hi:i<=es.length):ic (λj=>ajK j i) 0 es sl0=ic Jj 0 (es.take i) sl0:=by
 funext t
 conv=>lhs;rw[<-akx i es]
 rw[pD,pC (S:=λj=>ajK j i) λk x _ _=>xe (by simp;omega)]
 refine mN rfl λk x hx _=>?_
 have:=(ajr.1 hx).1;simp at this;simp[Jj];omega
def zF{es:List mz}{i:Nat}(hi:i<=es.length):gr (λj=>ajK j i) 0 es ob0=gr Jj 0 (es.take i) ob0:=by
 funext t
 conv=>lhs;rw[<-akx i es]
 rw[lk,o7 (S:=λj=>ajK j i) λk x _ _=>xe (by simp;omega)]
 refine ml rfl λk x hx _=>?_
 have:=(ajr.1 hx).1;simp at this;simp[Jj];omega
def Jk{S:Nat->Bool}{i q:Nat}(hA:∀k y,k<i->es[k]? =aa y->q∈y.mut->S k=af\/q∈y.soft)
 (hs:∀k y,es[k]? =aa y->q∈y.soft->q∈y.mut->∃z z',gr Jj 0 (es.take k) ob0 q=aa z/\find y.e.make q=aa z'/\iX z z'):
 ∀m,m<=i->m<=es.length->∀z,gr Jj 0 (es.take m) ob0 q=aa z->∃z',gr S 0 (es.take m) ob0 q=aa z'/\iX z z':=by
 intro m
 induction m with
 |zero=>intro _ _ z hz;exact⟨z,hz, .inl rfl⟩
 |succ m ih=>
  intro hm hl z hz
  have aG:m<es.length:=by omega
  have hy:es[m]? =aa es[m]:=ajb aG
  have e1:es.take (m+1)=es.take m++[es[m]]:=by rw[List.take_add_one,hy];rfl
  have el:(es.take m).length=m:=by simp;omega
  rw[e1,lk,el,ajL]at hz⊢;generalize hgy:es[m]=y at*;have ez:(find y.e.make q).or (bif pA q y.e.eat then ae else gr Jj 0 (es.take m) ob0 q)=aa z:=hz
  show∃z',(bif S m then(find y.e.make q).or (bif pA q y.e.eat then ae else gr S 0 (es.take m) ob0 q)else gr S 0 (es.take m) ob0 q)=aa z'/\iX z z'
  by_cases Vf:q∈y.mut
  .cases hSm:S m with
   |true=>
    rw[cond_true]
    cases ON:find y.e.make q with
    |some x=>rw[ON]at ez;exact⟨z,ez, .inl rfl⟩
    |none=>
     grind
   |false=>
    rw[cond_false]
    rcases hA m y (by omega) hy Vf with h|h
    .rw[hSm]at h;cases h
    .obtain⟨x,x',h1,h2,h3⟩:=hs m y hy h Vf;rw[h2]at ez;obtain rfl:=aja ez;obtain⟨z',h4,h5⟩:=ih (by omega) (by omega) x h1;exact⟨z',h4,h3.symm.trans h5⟩
  .have h1:find y.e.make q=ae:=by
    cases hm:find y.e.make q with
    |none=>rfl
    |some y=>grind [mz.mut,rk]
   grind
def Ma(OO:Ji [] ops.toList=aa ms)(hp:vW ms 0 es=af)(hlen:es.length=ops.size){S:Nat->Bool}(hS:Fu ops (λj=>S j=af)){i:Nat}{o:Oper}{x:mz}(ho:ops[i]? =aa o)(hx:es[i]? =aa x)(RL:S i=ag)
 (Qt:∀e∈o.after,akH .any e=af->S e.on=af)(Qu:∀k y,es[k]? =aa y->∀q,q∈y.soft->q∈y.mut->∃z z',gr Jj 0 (es.take k) ob0 q=aa z/\find y.e.make q=aa z'/\iX z z')(tf:RJ P ops nt (UU G w0) o (ic (λj=>ajK j i) 0 es sl0) (gr (λj=>ajK j i) 0 es ob0) (n0+16*i) x)
 {H':aK}{F':Nat->Prop}{w':World}{dH:Nat->Value}{a:Act}(hf:Fr nt a dH)(hinv:Inv G w0 F0 es sl0 ob0 n0 H F w ρ S H' F' w' dH){K:Act->World->Prop}{Q:Exit->Act->World->Prop}
 (hk:∀XW Df yp LF BX,Fr nt XW Df->Inv G w0 F0 es sl0 ob0 n0 H F w ρ (ins S i) yp LF BX Df->K XW BX):wpOp P ops Q i K a w':=by
 have Vg:i<es.length:=(ajr.1 hx).1
 have up:∀j y,es[j]? =aa y->j<i->conflict y x=af->S j=af:=λj y hy hji hc=>by
  have:=sf hp j i y x hji hy hx hc
  grind [L9]
 have down:∀j y,es[j]? =aa y->i<j->conflict x y=af->S j=af->False:=λj y hy T6 hc hj=>by
  have:=sf hp i j x y T6 hx hy hc;rw[ajL,ajL]at this
  have OC:j<ops.size:=by have:=(ajr.1 hy).1;omega
  have h2:=L9 OO hS j _ (ajG OC) (λe he hb=>hS j hj _ (ajG OC) e he hb) i this
  grind
 have Qv:∀t,x.dst=aa t->∀j y,es[j]? =aa y->y.dst=aa t->S j=af->j<i:=λt ht j y hy hyt hj=>by
  grind [conflict,oI,fY]
 have Qw:∀q,q∈x.mut->∀j y,es[j]? =aa y->q∈y.mut->S j=af->j<i:=λq hq j y hy Uh hj=>by
  grind [conflict,o8]
 have RM:∀t,t∈x.ts->ic (λj=>ajK j i) 0 es sl0 t=ic S 0 es sl0 t:=λt ht=>mN rfl λj y hy hyt=>by
  rw[ajL]
  rcases Nat.lt_trichotomy j i with h|h|h
  .rw[up j y hy h (by unfold conflict;simp[oI,hyt,fY,ht])];simpa using h
  all_goals grind [xe,conflict,oI,fY]
 have aeW:∀q,q∈x.os->gr (λj=>ajK j i) 0 es ob0 q=gr S 0 es ob0 q:=λq hq=>ml rfl λj y hy Uh=>by
  rw[ajL]
  rcases Nat.lt_trichotomy j i with h|h|h
  .rw[up j y hy h (by grind [conflict,o8])];simpa using h
  .grind [xe]
  .have:S j=ag:=by
    cases hj:S j with
    |false=>rfl
    |true=>exact(down j y hy h (by unfold conflict;rw[o8 (l:=x.os++x.ls++x.mut) (l':=y.mut) (by simp[hq]) Uh];simp) hj).elim
   rw[this];exact xe (by omega)
 have aeX:∀q z,q∈x.ls->gr (λj=>ajK j i) 0 es ob0 q=aa z->∃z',gr S 0 es ob0 q=aa z'/\iX z z':=λq z hq hz=>by
  rw[zF (by omega)]at hz
  obtain⟨z',h1,h2⟩:=Jk (S:=S) (i:=i) (q:=q) (λk y hk hy Uh=>by
   by_cases hsf:q∈y.soft
   .exact .inr hsf
   .refine .inl (up k y hy hk ?_)
    have:q∈y.Vc:=List.mem_filter.2 ⟨Uh,by
     cases hb:pA q y.soft with
     |false=>rfl
     |true=>exact absurd (fY.1 hb) hsf⟩
    grind [conflict,o8]) (by grind) i (ajh _) (by omega) z hz
  refine⟨z',?_,h2⟩;rw[<-h1]
  conv=>lhs;rw[<-akx i es]
  rw[lk]
  refine o7 λk y hy Uh=>?_
  have hy':es[i+k]? =aa y:=by rw[<-hy,aj9]
  have el:(es.take i).length=i:=by simp;omega
  rw[el,ajL]
  cases hSk:S (i+k)with
  |false=>rfl
  |true=>
   rcases Nat.eq_zero_or_pos k with rfl|hk
   .grind
   .exact(down (i+k) y hy' (by omega) (by unfold conflict;rw[o8 (l:=x.os++x.ls++x.mut) (l':=y.mut) (by simp[hq]) Uh];simp) hSk).elim
 obtain⟨b,hg,Ze,N6⟩:=tf.on
 have Vh:aky o (yielded ops a.tmps)=b:=by
  generalize hog:o.guard=gd at hg
  cases hg with
  |none=>unfold aky;rw[hog]
  |lit h1 h2 h3 h4 h5=>
   rename_i j g b' t d;rw[RM g h3]at h4;have hy:=pu hf h1 h2 (oR h5 (hinv.slot g _ h4));unfold aky
   grind
  |undef h1 h2 h3 h4=>
   rename_i j g b';rw[RM g h3]at h4;have hy:=oE hf h1 h2 (show dH g=undef from hinv.slot g _ h4);unfold aky
   grind
 have wj:∀v,Fr nt (a.put o.dst v) (vC dH o.dst v):=λv=>by
  have hb:=tf.yI
  cases hd:o.dst with
  |none=>exact hf
  |some d=>rw[hd]at hb;exact hf.put hb v
 have Fw:∀t,x.dst=aa t↔o.dst=aa t:=λt=>by rw[tf.dst]
 unfold wpOp;simp only[ho,Vh]
 cases b with
 |false=>
  simp only[ajI,if_false];have he:=N6 rfl;refine hk _ (vC dH o.dst undef) H' F' w' (wj undef) ⟨λt d ht=>?_,?_,hinv.all,λk hk yJ=>?_,hinv.glob,hinv.keeps,λt ht=>?_⟩
  .rw[zE hx Qv]at ht;split at ht
   .rename_i RN;obtain rfl:=aja ht;rw[he]
    show vC dH o.dst undef t=undef
    rw[(Fw t).1 RN]
    show EB dH t undef t=undef
    rw[qd,aj rfl]
   .rename_i RN;rw[rj (λe=>RN ((Fw t).2 e))];exact hinv.slot t d ht
  .refine hinv.ob.sub (λq y hq=>?_) (λm hm _=>hinv.all m hm)
   rcases De hx RL Qw q y.1 y.2 hq with h1|⟨_,h2,_⟩
   .rw[he]at h1;cases h1
   .exact h2
  .by_cases e:k=i
   .subst e;rw[qm]at yJ;cases yJ
   .rw[qn e]at yJ;exact hinv.fresh k hk yJ
  .rw[rj (λe=>ht x (List.mem_of_getElem? hx) ((Fw t).2 e))];exact hinv.same t ht
 |true=>
  simp only[if_true]
  left
  obtain⟨_,⟨Y8,NG,Vb,OK,bJ⟩,_⟩:=Ze rfl
  obtain⟨Y9,iL,bJ⟩:=bJ H' F' w' dH (gr S 0 es ob0) (λq y hq=>by
   obtain⟨h1,h2⟩:=OK q y hq;by_cases hos:q∈x.os
   .exact⟨y,by grind, .inl rfl,λ_=>rfl⟩
   grind) (λt d ht=>by
   obtain⟨h1,h2⟩:=Vb t d ht;rw[RM t h1]at h2
   exact hinv.slot t d h2) (hinv.ob.sub (λ_ _ h=>h) (hinv.fresh i Vg RL))
  have CX:=hinv.ob.sub iL (hinv.fresh i Vg RL)
  refine OM bJ hf λv BX ⟨yp,LF,vd⟩=>?_
  .have nh:=vd.mZ.step CX.lt CX.jt
   have fe:jr yp (n0+16*es.length):=λm hm=>by
    have h1:=hinv.all m hm;have h2:=vd.fresh m (.inr (by omega));exact⟨h2.1 h1.1,h2.2 h1.2⟩
   refine hk _ (vC dH o.dst v) yp LF BX (wj v) ⟨λt d ht=>?_,?_,fe,λk hk yJ m hm1 Zf=>?_,hinv.glob.mZ vd.mZ CX.iP,hinv.keeps.trans ⟨vd.mZ.kr,nh⟩,λt ht=>?_⟩
   .rw[zE hx Qv]at ht;split at ht
    .rename_i RN;obtain rfl:=aja ht;rw[(Fw t).1 RN]
     show aH yp LF BX _ (EB dH t v t)
     grind [qd,mY.dst]
    .rename_i RN;rw[rj (λe=>RN ((Fw t).2 e))];exact(hinv.slot t d ht).keep vd.mZ.kr nh
   .exact hinv.ob.Lb iL vd (λq s t hq=>De hx RL Qw q s t hq) λm hm _=>fe m hm
   .by_cases e:k=i
    .subst e;rw[qm]at yJ;cases yJ
    .rw[qn e]at yJ;have h1:=hinv.fresh k hk yJ m hm1 Zf;have h2:=vd.fresh m (by omega);exact⟨h2.1 h1.1,h2.2 h1.2⟩
   .rw[rj (λe=>ht x (List.mem_of_getElem? hx) ((Fw t).2 e))];exact hinv.same t ht
end
end
end Go.Proofs.YtleifhfeahnocaaGreatDoor
namespace Go.Proofs.YtleifhfeahnocaaGreatDoor
open Go Go.RowKit
def uw(dst:Option Nat)(g:Nat):mz:={dst:=dst,ts:=[g],os:=[],e:={dst:= .undef}}
noncomputable def oc{R:Type}{P:Program}(E:Env P)(nt:Nat)(ops:Array Oper):List Oper->State->List mz->(State->Option R)->Option R
 |[],st,acc,k=>bif uv ops.toList acc then k st else ae
 |o::os,st,acc,k=>bif C0 nt o.dst then(match o.guard with
  |none=>zD E o.dst o.op [] st (λe x=>oc E nt ops os (st.apply o.dst e) (acc++[x]) k)
  |some (j,b)=>match Hf ops j with
   |none=>ae
   |some g=>bif ajK g nt then(match find st.aJ g with
    |some .undef=>oc E nt ops os (st.apply o.dst {dst:= .undef}) (acc++[uw o.dst g]) k
    |some d=>match asBool d with
     |some t=>if t=af then
       (bif b then zD E o.dst o.op [g] (st.put (aa g) (eA af)) (λe x=>oc E nt ops os ((st.put (aa g) (eA af)).apply o.dst e) (acc++[x]) k)
         else oc E nt ops os ((st.put (aa g) (eA af)).apply o.dst {dst:= .undef}) (acc++[uw o.dst g]) k)
      else
       (bif b then oc E nt ops os ((st.put (aa g) (eA ag)).apply o.dst {dst:= .undef}) (acc++[uw o.dst g]) k
         else zD E o.dst o.op [g] (st.put (aa g) (eA ag)) (λe x=>oc E nt ops os ((st.put (aa g) (eA ag)).apply o.dst e) (acc++[x]) k))
     |none=>ae
    |none=>ae)else ae)else ae
section
variable {P:Program} {nt:Nat} {ops:Array Oper} {R:Type}
variable {G:Nat->Prop} {w0:World} {F0:Nat->Prop} {sl0:Nat->Option aI} {ob0:Nat->Option (Nat×Th)} {n0:Nat}
structure Lex(P:Program)(nt:Nat)(ops:Array Oper)(U:Nat->Prop)(sl0:Nat->Option aI)(ob0:Nat->Option (Nat×Th))(n0:Nat)(es:List mz)(st:State):Prop where
 slot:∀t,find st.aJ t=ic Jj 0 es sl0 t
 ob:∀o,find st.objs o=gr Jj 0 es ob0 o
 nxt:st.nxt=n0+16*es.length
 ok:∀i o x,ops[i]? =aa o->es[i]? =aa x->RJ P ops nt U o (ic Jj 0 (es.take i) sl0) (gr Jj 0 (es.take i) ob0) (n0+16*i) x
def Fx{S:Nat->Bool}{es:List mz}{x:mz}{f:Nat->Option aI}{t:Nat}(h:S es.length=af):ic S 0 (es++[x]) f t=if x.dst=aa t then aa x.e.dst else ic S 0 es f t:=by
 rw[pD,ajL]
 show(bif S es.length&&oI (aa t) x.dst.toList then aa x.e.dst else ic S 0 es f t)=_
 rw[h,Bool.true_and];by_cases hd:x.dst=aa t
 all_goals grind [nr]
def Jl{S:Nat->Bool}{es:List mz}{x:mz}{f:Nat->Option (Nat×Th)}{o:Nat}(h:S es.length=af):gr S 0 (es++[x]) f o=(find x.e.make o).or (bif pA o x.e.eat then ae else gr S 0 es f o):=by
 rw[lk,ajL]
 show(bif S es.length then _ else _)=_
 rw[h];rfl
def ux{st:State}{dst:Option Nat}{e:eD}{t:Nat}:find (st.apply dst e).aJ t=if dst=aa t then aa e.dst else find st.aJ t:=by
 cases dst with
 |none=>simp[State.apply]
 |some d=>
  show find ((d,e.dst)::st.aJ) t=_
  grind [aZ]
def vG{st:State}{dst:Option Nat}{e:eD}{o:Nat}:find (st.apply dst e).objs o=(find e.make o).or (bif pA o e.eat then ae else find st.objs o):=by
 show find (e.make++del e.eat st.objs) o=_
 rw[jo]
 congr 1
 cases hb:pA o e.eat with
 |true=>
  rw[cond_true]
  cases h:find (del e.eat st.objs) o with
  |none=>rfl
  |some x=>grind [fY,jq]
 |false=>
  rw[cond_false]
  have hn:o∉e.eat:=λh=>by rw[fY.2 h]at hb;cases hb
  cases h:find st.objs o with
  |some x=>exact jq.2 ⟨hn,h⟩
  |none=>
   cases h2:find (del e.eat st.objs) o with
   |none=>rfl
   |some x=>rw[(jq.1 h2).2]at h;cases h
def Lex.snoc{U:Nat->Prop}{es:List mz}{st:State}{x:mz}{o:Oper}(h:Lex P nt ops U sl0 ob0 n0 es st)(ho:ops[es.length]? =aa o)(hd:x.dst=o.dst)
 (sL:RJ P ops nt U o (find st.aJ) (find st.objs) st.nxt x):Lex P nt ops U sl0 ob0 n0 (es++[x]) (st.apply o.dst x.e):=by
 refine⟨λt=>?_,λq=>?_,?_,λi o' y jY hy=>?_⟩
 .rw[ux,Fx rfl,hd,h.slot t]
 .rw[vG,Jl rfl,h.ob q]
 .show st.nxt+16=_
  grind [Lex.nxt]
 .rcases Nat.lt_or_ge i es.length with aG|hge
  .rw[List.getElem?_append_left aG]at hy;rw[List.take_append_of_le_length (by omega)];exact h.ok i o' y jY hy
  .have hi:i=es.length:=by
    have:=(ajr.1 hy).1;simp at this;omega
   subst hi;simp at hy;subst hy;rw[ho]at jY;obtain rfl:=aja jY;rw[List.take_left']
   .rw[<-funext h.slot,<-funext h.ob,<-h.nxt];exact sL
   .rfl
def Lex.put{U:Nat->Prop}{es:List mz}{st:State}{g:Nat}{d:aI}(h:Lex P nt ops U sl0 ob0 n0 es st)(hg:find st.aJ g=aa d):Lex P nt ops U sl0 ob0 n0 es (st.put (aa g) d):=by
 refine⟨λt=>?_,h.ob,h.nxt,h.ok⟩
 show find ((g,d)::st.aJ) t=_
 rw[aZ,<-h.slot t]
 grind
def Jm{d:aI}{t:Bool}(h:asBool d=aa t):d=eA t:=by
 unfold asBool at h
 grind
def Dg{E:Env P}{q:R}{k:State->Option R}:{l:List Oper}->{st:State}->{es:List mz}->oc E nt ops l st es k=aa q->(∀j,l[j]? =ops[es.length+j]?)->Lex P nt ops (UU G w0) sl0 ob0 n0 es st->
 ∃oP dD,k dD=aa q/\uv ops.toList oP=af/\Lex P nt ops (UU G w0) sl0 ob0 n0 oP dD/\oP.length=es.length+l.length
 |[],st,es,h,_,hl=>by
  unfold oc at h
  grind
 |o::l,st,es,h,qb,hl=>by
  have ho:ops[es.length]? =aa o:=by simpa using(qb 0).symm
  have Vi:∀x:mz,∀j,l[j]? =ops[(es++[x]).length+j]? :=λx j=>by
   have:=qb (j+1)
   grind
  have go:∀{o6:State}{x:mz},oc E nt ops l o6 (es++[x]) k=aa q->Lex P nt ops (UU G w0) sl0 ob0 n0 (es++[x]) o6->∃oP dD,k dD=aa q/\uv ops.toList oP=af/\Lex P nt ops (UU G w0) sl0 ob0 n0 oP dD/\oP.length=es.length+(o::l).length:=by
   intro o6 x h1 h2;obtain⟨oP,dD,a1,a2,a3,a4⟩:=Dg h1 (Vi x) h2;refine⟨oP,dD,a1,a2,a3,?_⟩;rw[a4,List.length_append,List.length_singleton,ajp];omega
  unfold oc at h;obtain⟨hd,h'⟩:=be h;clear h
  have on:∀{o6:State}{gs:List Nat},zD E o.dst o.op gs o6 (λe x=>oc E nt ops l (o6.apply o.dst e) (es++[x]) k)=aa q->Lex P nt ops (UU G w0) sl0 ob0 n0 es o6->(∀ts:List Nat,(∀g∈gs,g∈ts)->RH ops nt ts (find o6.aJ) o.guard af)->∃oP dD,k dD=aa q/\uv ops.toList oP=af/\Lex P nt ops (UU G w0) sl0 ob0 n0 oP dD/\oP.length=es.length+(o::l).length:=by
   intro o6 gs h1 h2 h3;obtain⟨e,x,a1,a2,a3,a4⟩:=L8 (U:=UU G w0) h1;subst a2;exact go a1 (h2.snoc ho a4.dst ⟨a4.dst,hd,af,h3 _ a3,λ_=>a4,λh=>by cases h⟩)
  have off:∀{o6:State}{g:Nat},oc E nt ops l (o6.apply o.dst {dst:= .undef}) (es++[uw o.dst g]) k=aa q->Lex P nt ops (UU G w0) sl0 ob0 n0 es o6->RH ops nt [g] (find o6.aJ) o.guard ag->∃oP dD,k dD=aa q/\uv ops.toList oP=af/\Lex P nt ops (UU G w0) sl0 ob0 n0 oP dD/\oP.length=es.length+(o::l).length:=by
   intro o6 g h1 h2 h3;exact go (x:=uw o.dst g) h1 (h2.snoc (x:=uw o.dst g) ho rfl ⟨rfl,hd,ag,h3,λh=>(by cases h),λ_=>rfl⟩)
  split at h'
  .rename_i Zg
   exact on h' hl λts _=>by rw[Zg];exact .none
  .rename_i j b Zg;split at h'
   case h_1=>cases h'
   rename_i g Qn;obtain⟨Qo,h⟩:=be h';clear h';split at h
   .rename_i hu;exact off h hl (by rw[Zg];exact .undef Qn Qo (by simp) hu)
   .rename_i d gY;split at h
    case h_2=>cases h
    rename_i t ht;obtain rfl:=Jm ht
    have Vj:∀v:Bool,find (st.put (aa g) (eA v)).aJ g=aa (eA v):=λv=>by
     show find ((g,eA v)::st.aJ) g=_
     rw[aZ,aj rfl]
    have ae1:∀(v:Bool)(ts:List Nat)(r:Bool),g∈ts->r=decide (v=b)->RH ops nt ts (find (st.put (aa g) (eA v)).aJ) (aa (j,b)) r:=λv ts r hg hr=>by
     rw[hr];exact .lit Qn Qo hg (Vj v) rfl
    split at h
    .rename_i OI;subst OI;have NH:=hl.put gY
     grind
    .rename_i OI
     have OI:t=ag:=by cases t<;>simp_all
     subst OI;have NH:=hl.put gY
     grind
   .cases h
def Vk(m:Nat)(listed:Array Bool):Nat:=((ajY m).filter λj=> !listed.getD j ag).length
def Hj{m i:Nat}{listed:Array Bool}(hi:i<m)(hs:listed.size=m)(h:listed.getD i ag=ag):Vk m (listed.setIfInBounds i af)+1<=Vk m listed:=by
 unfold Vk
 have iL:∀l:List Nat,(l.filter λj=> !(listed.setIfInBounds i af).getD j ag).length<=(l.filter λj=> !listed.getD j ag).length/\(i∈l->(l.filter λj=> !(listed.setIfInBounds i af).getD j ag).length+1<=(l.filter λj=> !listed.getD j ag).length):=by
  intro l
  induction l with
  |nil=>grind
  |cons j l ih=>
   by_cases hj:i=j
   .subst hj
    have e1:(listed.setIfInBounds i af).getD i ag=af:=by simp[ajW,hs,hi]
    grind
   .have e1:(listed.setIfInBounds i af).getD j ag=listed.getD j ag:=getD_set_ne ag hj
    grind
 grind
def OP{E:Env P}{id:Nat}{q:R}{k:State->Option R}{st:State}{H:aK}{F:Nat->Prop}{w:World}{ρ:Nat->Value}{Q:Exit->(Nat->Value)->World->Prop}(hm:P.follows .mixedOrders=af)
 (h:oc E nt ops ops.toList st [] k=aa q)(hh:da G w0 F0 H F w ρ st)
 (hk:∀dD H' F' w' dH,k dD=aa q->da G w0 F0 H' F' w' dH dD->cU H F w H' F' w'->(∀t,(∀o∈ops.toList,o.dst≠aa t)->dH t=ρ t)->Q .normal dH w'):yb P nt (.region id ops af) Q ρ w:=by
 obtain⟨es,dD,E4,lZ,Fy,hlen⟩:=Dg (G:=G) (w0:=w0) (sl0:=find st.aJ) (ob0:=find st.objs) (n0:=st.nxt) h (λj=>by simp) ⟨λ_=>rfl,λ_=>rfl,by simp,λi o x _ hx=>by simp at hx⟩;simp only[ajJ,ajL,Array.length_toList]at hlen;unfold uv at lZ;split at lZ
 case h_2=>cases lZ
 rename_i ms OO
 have Fw:∀x∈es,∃o∈ops.toList,x.dst=o.dst:=λx hx=>by
  obtain⟨i,hi,rfl⟩:=ajm hx
  have aG:i<ops.size:=by omega
  exact⟨ops[i],by simp,(Fy.ok i ops[i] es[i] (ajG aG) (ajb hi)).dst⟩
 have Qu:∀k y,es[k]? =aa y->∀q,q∈y.soft->q∈y.mut->∃z z',gr Jj 0 (es.take k) (find st.objs) q=aa z/\find y.e.make q=aa z'/\iX z z':=λk y hy q h1 h2=>by
  have aG:k<es.length:=(ajr.1 hy).1;obtain⟨_,_,b,_,Ze,N6⟩:=Fy.ok k _ y (ajG (by omega)) hy
  cases b with
  |true=>exact(Ze rfl).soft q h1 h2
  |false=>
   grind [mz.mut,vg]
 have XX:∀i o,ops[i]? =aa o->∀e∈o.after,akH .any e=af->e.on<i:=λi o ho e he hb=>by
  obtain⟨m,h1,_⟩:=(Be OO).2.2 i o (by grind);simp only[ajJ,ajL]at h1;exact Hi h1 e (by simpa using he) hb
 intro a hf;refine wp_region_any hm ?_
 have main:∀fuel(listed:Array Bool)(a:Act)(w':World)H' F' dH,listed.size=ops.size->Vk ops.size listed<=fuel->Fu ops (λj=>listed.getD j ag=af)->Fr nt a dH->
  Inv G w0 F0 es (find st.aJ) (find st.objs) st.nxt H F w ρ (λj=>listed.getD j ag) H' F' w' dH->wpAny P .any ops (λe a' w'=>∃dH,Fr nt a' dH/\Q e dH w') fuel listed a w':=by
  have done:∀(listed:Array Bool)(a:Act)(w':World)H' F' dH,(∀i,i<ops.size->listed.getD i ag=af)->Fr nt a dH->Inv G w0 F0 es (find st.aJ) (find st.objs) st.nxt H F w ρ (λj=>listed.getD j ag) H' F' w' dH->∃dH,Fr nt a dH/\Q .normal dH w':=by
   intro listed a w' H' F' dH fe hf hinv
   have eS:∀t,ic (λj=>listed.getD j ag) 0 es (find st.aJ) t=find dD.aJ t:=λt=>by
    rw[Fy.slot t]
    refine mN rfl λk x hx _=>?_
    have:=(ajr.1 hx).1;rw[ajL];exact fe k (by omega)
   have eO:∀o,gr (λj=>listed.getD j ag) 0 es (find st.objs) o=find dD.objs o:=λo=>by
    rw[Fy.ob o]
    refine ml rfl λk x hx _=>?_
    have:=(ajr.1 hx).1;rw[ajL];exact fe k (by omega)
   refine⟨dH,hf,hk dD H' F' w' dH E4 ⟨⟨λt d hd=>hinv.slot t d (by rw[eS];exact hd),?_,?_⟩,hinv.glob⟩ hinv.keeps λt ht=>hinv.same t λx hx=>?_⟩
   .have:=hinv.ob;rw[funext eO]at this;rw[Fy.nxt];exact this
   .rw[Fy.nxt];exact hinv.all
   .grind
  have Jn:∀(listed:Array Bool),listed.size=ops.size->Region.ready .any ops listed=[]->∀i,i<ops.size->listed.getD i ag=af:=by
   intro listed hs hr i
   induction i using Nat.strongRecOn with
   |_ i ih=>
    intro hi
    cases hl:listed.getD i ag with
    |true=>rfl
    |false=>
     have:i∈Region.ready .any ops listed:=mem_ready.2 ⟨by
      grind,ops[i],ajG hi,(by grind)⟩
     grind
  intro fuel
  induction fuel with
  |zero=>
   intro listed a w' H' F' dH hs hu hc hf hinv
   have fe:∀i,i<ops.size->listed.getD i ag=af:=λi hi=>by
    cases hl:listed.getD i ag with
    |true=>rfl
    |false=>
     have:=Hj hi hs hl;omega
   refine⟨?_,done listed a w' H' F' dH fe hf hinv⟩
   cases hr:Region.ready .any ops listed with
   |nil=>rfl
   |cons i l=>
    have hi:i∈Region.ready .any ops listed:=by rw[hr];simp
    grind [Go.mem_ready]
  |succ fuel ih=>
   intro listed a w' H' F' dH hs hu hc hf hinv;refine⟨λhr=>done listed a w' H' F' dH (Jn listed hs hr) hf hinv,λi hi=>?_⟩;obtain⟨h1,o,ho,Qt⟩:=mem_ready.1 hi;have aG:=(ajF.1 ho).1
   have RL:listed.getD i ag=ag:=by
    simp only[ajW]at h1⊢;rw[ajG (by omega)]at h1⊢;simpa using h1
   have hx:es[i]? =aa (es[i]'(by omega)):=ajb (by omega);have tf:=Fy.ok i o _ ho hx;rw[<-Fv (by omega),<-zF (by omega)]at tf
   have yJ:(λj=>(listed.setIfInBounds i af).getD j ag)=ins (λj=>listed.getD j ag) i:=by
    funext j;by_cases e:j=i
    .subst e;rw[qm];simp[ajW,hs,aG]
    .rw[qn e];exact getD_set_ne ag (Ne.symm e)
   refine Ma OO lZ hlen hc ho hx RL Qt Qu tf hf hinv λXW Df yp LF BX Zh Zi=>?_
   refine ih _ XW BX yp LF Df (by simp[hs]) ?_ ?_ Zh ?_
   .have:=Hj aG hs RL;omega
   .intro j hj o' jY e he hb;by_cases ej:j=i
    .grind [Go.getD_set_true]
    .have Qe:listed.getD j ag=af:=by
      have:(listed.setIfInBounds i af).getD j ag=listed.getD j ag:=getD_set_ne ag (Ne.symm ej);rw[<-this];exact hj
     exact getD_set_true (hc j Qe o' jY e he hb)
   grind
 have hS0:∀j,(Array.replicate ops.size ag).getD j ag=ag:=λj=>by
  simp only[ajW]
  grind
 have hw:Step F w F w.drew:=Step.drew F w
 refine main ops.size _ a _ H F ρ (by simp) ?_ (λi hi=>by
  grind) hf ⟨λt d hd=>?_,?_,λm hm=>hh.sat.all m (by omega),λi hi _ m hm _=>hh.sat.all m (by omega),⟨⟨hh.glob.ext.os,hh.glob.ext.tape,hh.glob.ext.output,hh.glob.ext.size,hh.glob.ext.block⟩,hh.glob.le,hh.glob.new⟩,⟨aK.le.refl H,hw⟩,λ_ _=>rfl⟩
 .grind [Vk]
 .rw[pC λk x _ _=>hS0 _]at hd;exact(hh.sat.slot t d hd).keep (aK.le.refl H) hw
 .have e:gr (λj=>(Array.replicate ops.size ag).getD j ag) 0 es (find st.objs)=find st.objs:=by
   funext o
   exact o7 λk x _ _=>hS0 _
  rw[e];have hb:=hh.sat.ob;refine⟨λo s t ho=>?_,hb.apart,λm hm _=>hh.sat.all m (by omega),hb.lt,hb.new,hb.gl.step (λ_ h=>⟨h,rfl⟩)⟩;obtain⟨v,hv,cT⟩:=hb.obj o s t ho;exact⟨v,hv,cT.one,cT.con,cT.ok.heap (aK.le.refl H) hw λ_ _=>rfl,cT.no,cT.lt,cT.use⟩
end
end Go.Proofs.YtleifhfeahnocaaGreatDoor
end
section
open _root_.Bool renaming false->ag,true->af,and_eq_true->akd
open _root_.Option renaming none->ae,some->aa,isSome_iff_exists->ajE
open _root_.List renaming append_nil->ajS,length_cons->ajp,mem_cons->ajQ
open _root_.List.cons renaming injEq->aj3
open _root_.Nat renaming add_zero->akj,beq->ajf,le_refl->ajh
open _root_.Option.some renaming inj->aja,injEq->ajj
open _root_.Prod.mk renaming inj->akA
open _root_.Go.Sem renaming run_bind->ajw
open _root_.Go.Value.slice renaming injEq->akn
open _root_.Go.World renaming cell?->aj0
namespace Go.Proofs.YtleifhfeahnocaaGreatDoor
open Go Go.RowKit
inductive Ex where
 |normal
 |exit (id:Nat)
 |ret
 |goto (l:Nat)
def Ex.vh:Ex->Exit
 | .normal=> .normal
 | .exit id=> .exit id
 | .ret=> .ret
 | .goto l=> .goto l
def noGoto{R:Type}(k:Ex->State->Option R):Ex->State->Option R
 | .goto _,_=>ae
 |e,st=>k e st
inductive xf where
 |nil
 |two (a b:xf)
 |join (J:JS) (a b:xf)
 |meet (J:JS) (a b:xf)
 |loop (L:JS) (a:xf)
abbrev xf.o(a:xf):xf:= .two .nil a
def xf.l:xf->xf
 | .two a _=>a
 |_=> .nil
def xf.r:xf->xf
 | .two _ b=>b
 |_=> .nil
def th:List Oper->List Nat
 |[]=>[]
 |o::l=>match o.dst with
  |some d=>d::th l
  |none=>th l
def writes:Code->List Nat
 | .region _ ops _=>th ops.toList
 | .seq a b=>writes a++writes b
 | .cond _ a b=>writes a++writes b
 | .block _ a=>writes a
 | .loop a=>writes a
 | .scope a=>writes a
 |_=>[]
def Dh:List Nat->List (Nat×aI)->List (Nat×aI)
 |[],l=>l
 |t::ts,l=>(t, .dead)::Dh ts l
def Qx:List (Nat×OS)->List Nat
 |[]=>[]
 |(j,_)::l=>j::Qx l
def Hk(st:State)(J:JS):List (Nat×(Nat×Th)):=del (Qx J.objs++J.drop) st.objs
def behind(st:State)(W:List Nat)(J:JS)(x:dC J.rows):State:=
 {aJ:=(dg J.aJ (dJ _ x)).1++Dh W st.aJ,objs:=iV st.nxt J.objs (dg J.aJ (dJ _ x)).2++Hk st J,nxt:=J.nxt}
def Fz(st:State)(J:JS)(o6:State):Option (dC J.rows):=
 match zo st.nxt (Hk st J) J o6.aJ o6.objs with
 |some (x,_)=>aa x
 |none=>ae
def Mb(ob:Nat->Option (Nat×Th))(n o:Nat):Option eD:=
 match ob o with
 |some (_, .deep T d l ae)=>aa {dst:= .dead,eat:=[o],make:=[(o,(n, .own T d.row l))]}
 |_=>ae
def od(st:State):List (Nat×OS)->State
 |[]=>st
 |(j, .own _ _)::os=>match Mb (find st.objs) st.nxt j with
  |some e=>od (st.apply ae e) os
  |none=>od st os
 |_::os=>od st os
def Mc(st:State)(t o:Nat)(r:Row):Option State:=
 match find st.objs o with
 |some (_, .box _ t0)=>match fy st.objs t0.owns with
  |some bh=>match find bh o with
   |some (_, .box _ t1)=>match flat (find bh) r t1 with
    |some x=>aa (State.apply {st with objs:=bh} (aa t) {dst:= .at r x,eat:=[o]})
    |none=>ae
   |_=>ae
  |none=>ae
 |_=>ae
noncomputable def Bf{R:Type}(st:State)(k:State->Option R):List (Nat×SS)->Option R
 |[]=>k st
 |(t, .at r)::ss=>match find st.aJ t with
  |some (.ptr o [] 0)=>match Mc st t o r with
   |some dD=>Bf dD k ss
   |none=>ae
  |some (.dlm o d i [] 0)=>match fy st.objs [o]with
   |some bh=>match find bh o with
    |some (_, .fdeep _ d' l)=>bif ajf d.low.size d'.row.size then(idx l i).bind λx=>Bf {aJ:=(t, .at d'.row x)::st.aJ,objs:=bh,nxt:=st.nxt} k ss else ae
    |_=>ae
   |none=>ae
  |_=>Bf st k ss
 |_::ss=>Bf st k ss
noncomputable def carry(st:State)(J:JS)(o6:State):Option (dC J.rows):=Bf (od (pY o6) J.objs) (Fz st J) J.aJ
def cd{J R:Type}(m:Option (J⊕R))(k:J->Option R):Option R:=m.bind λs=>match s with
 | .inl j=>k j
 | .inr r=>aa r
noncomputable def exec{P:Program}(E:Env P)(nt N:Nat):Code->{R:Type}->xf->State->(Ex->State->Option R)->Option R
 | .skip,_,_,st,k=>k .normal st
 | .label _,_,_,st,k=>k .normal st
 | .scope x,_,a,st,k=>exec E nt N x a.l st (noGoto k)
 | .goto l,_,_,st,k=>k (.goto l) st
 | .ret,_,_,st,k=>k .ret st
 | .exit id,_,_,st,k=>k (.exit id) st
 | .cond c x y,_,a,st,k=>match Kt st.aJ c with
   |some D=>match asBool D with
    |some b=>if b=af then exec E nt N x a.l st k else exec E nt N y a.r st k
    |none=>ae
   |none=>ae
 | .region _ ops draw,_,_,st,k=>bif draw then oc E nt ops ops.toList st [] (k .normal)else runs E nt ops ops.toList [] st (k .normal)
 | .seq x y,R,a,st,k=>match a with
   | .join J a1 a2=>cd (exec E nt N x (R:=dC J.rows⊕R) a1 st (λe dD=>match e with
       | .normal=>(carry st J dD).map .inl
       |e=>(k e dD).map .inr)) λj=>exec E nt N y a2 (behind st (writes x) J j) k
   | .meet J a1 a2=>(exec E nt N x (R:=dC J.rows) a1 st (λe dD=>match e with
       | .normal=>carry st J dD
       |_=>ae)).bind λj=>exec E nt N y a2 (behind st (writes x) J j) k
   |a=>exec E nt N x a.l st (λe dD=>match e with
     | .normal=>exec E nt N y a.r dD k
     |e=>k e dD)
 | .block id x,R,a,st,k=>match a with
   | .join J a1 _=>cd (exec E nt N x (R:=dC J.rows⊕R) a1 st (λe dD=>match e with
       | .normal=>(carry st J dD).map .inl
       | .exit i=>bif ajf i id then(carry st J dD).map .inl else(k (.exit i) dD).map .inr
       |e=>(k e dD).map .inr)) λj=>k .normal (behind st (writes x) J j)
   | .meet J a1 _=>(exec E nt N x (R:=dC J.rows) a1 st (λe dD=>match e with
       | .normal=>carry st J dD
       | .exit i=>bif ajf i id then carry st J dD else ae
       |_=>ae)).bind λj=>k .normal (behind st (writes x) J j)
   |a=>exec E nt N x a.l st (λe dD=>match e with
     | .exit i=>bif ajf i id then k .normal dD else k (.exit i) dD
     |e=>k e dD)
 | .loop x,R,a,st,k=>match a with
   | .loop L a1=>match carry st L st with
     |some s0=>Loop (S:=dC L.rows) (X:=R) (λs=>exec E nt N x (R:=dC L.rows⊕R) a1 (behind st (writes x) L s) (λe dD=>match e with
       | .normal=>(carry st L dD).map .inl
       |e=>(k e dD).map .inr)) N s0
     |none=>ae
   |_=>ae
 |_,_,_,_,_=>ae
section
variable {P:Program} {nt N:Nat} {R:Type}
variable {ρ:Nat->Value} {w w0:World} {H:aK} {F F0 G:Nat->Prop}
def FA{W:List Nat}{l:List (Nat×aI)}{t:Nat}{d:aI}(h:find (Dh W l) t=aa d):d= .dead\/(t∉W/\find l t=aa d):=by
 induction W with
 |nil=>exact .inr ⟨by simp,h⟩
 |cons s W ih=>
  have h':find ((s,aI.dead)::Dh W l) t=aa d:=h
  grind [aZ]
def Jo{st o6:State}{W:List Nat}{J:JS}{x:dC J.rows}{H1:aK}{F1:Nat->Prop}{w1:World}{Kz:Nat->Value}(h:Fz st J o6=aa x)(hh:da G w0 F0 H F w ρ st)(rA:da G w0 F0 H1 F1 w1 Kz o6)(hk:cU H F w H1 F1 w1)
 (RD:∀t,t∉W->Kz t=ρ t):∃H2 F2,da G w0 F0 H2 F2 w1 Kz (behind st W J x)/\cU H F w H2 F2 w1:=by
 unfold Fz at h;split at h
 case h_2=>cases h
 rename_i _ y rest hp;obtain⟨bs,bh⟩:=rest;obtain rfl:=aja h;obtain⟨F2,H2,a1,a2,a3,_,a5,_,a6,a7,a8⟩:=wV (U':=UU G w0) hp hh.sat.ob hh.sat.all hk rA.sat.ob rA.sat.slot
 have gD:Step F1 w1 F2 w1:=λb hb=>⟨a2 b hb,rfl⟩
 have cJ:=a8 rA.sat.ob.new (λo s t v k _ h2 h3 h4=>by
  obtain⟨v',dZ,cT⟩:=a1.obj _ _ _ h2;rw[h3]at dZ;obtain rfl:=aja dZ
  exact cT.use k h4) (λo s t v k h2 h3 h4=>by
  have h5:=(jq.1 h2).2;obtain⟨v',dZ,cT⟩:=hh.sat.ob.obj _ _ _ h5;rw[hk.kr.val _ _ dZ]at h3;obtain rfl:=aja h3
  exact cT.use k (by rwa [hk.kr.sub _ _ cT.con]at h4))
 refine⟨H2,F2,⟨⟨λt d hd=>?_,cJ,a6⟩,⟨rA.glob.ext,λb hb=>a2 b (rA.glob.le b hb),λb hb=>?_⟩⟩,⟨a5,λb hb=>⟨a2 b (hk.step b hb).1,(hk.step b hb).2⟩⟩⟩
 .have BV:find ((dg J.aJ (dJ J.rows y)).1++Dh W st.aJ) t=aa d:=hd;rw[jo]at BV
  cases hm:find (dg J.aJ (dJ J.rows y)).1 t with
  |some d'=>
   grind
  |none=>
   rw[hm,Option.none_or]at BV
   rcases FA BV with rfl|⟨h1,h2⟩
   .trivial
   .rw[RD t h1]
    exact(hh.sat.slot t d h2).keep a5 λb hb=>⟨a2 b (hk.step b hb).1,(hk.step b hb).2⟩
 .rcases a3 b hb with h1|h1
  .exact rA.glob.new b h1
  .exact .inr (rA.sat.ob.iP b h1)
def Jp{U:Nat->Prop}{ob:Nat->Option (Nat×Th)}{n:Nat}(hs:aL U H F w ob n){o:Nat}{e:eD}(h:Mb ob n o=aa e):ma H F w ob n e undef w:=by
 unfold Mb at h;split at h
 case h_2=>cases h
 rename_i s T d l cJ;obtain rfl:=aja h;obtain⟨v,hv,cT⟩:=hs.obj _ _ _ cJ
 obtain⟨lh,Ss,⟨xs,hx,Qb⟩,h2,h3,h4⟩:=(show Ix F w T d.low (px H F w d ae) v l (H.sub s)from cT.ok)
 have hn:∀k,H.sub s k->¬F k:=cT.no
 have EF:Own 0 (λb=>F b\/∃i,i<l.length/\Ss i b) w T d.row v l:=by
  refine⟨λk hk hF=>?_,xs,?_,λi hi=>?_⟩
  .rcases hF with hF|⟨i,hi,hm⟩
   .exact hn k (h4.bH k hk) hF
   .exact h4.out i k hi hm hk
  .rw[<-d.size,<-h2];exact hx
  .have qS:i<lh.length:=by omega
   have:=lr.freeze (h3 i qS hi) (λk hk=>hn k (h4.part hi k hk)) (Qb i qS);rw[<-d.size]
   exact this.step λb hb=>(by grind)
 have hf:=hs.fresh n (ajh _) (by omega)
 have mj:∀k,H.sub s k->cD H ob [o] k:=λk hk=>⟨o,by simp,s,_,v,cJ,hv,hk⟩
 refine⟨H.bU n (.own T d.row l),λb=>F b\/∃i,i<l.length/\Ss i b,⟨⟨λ_ _ h=>h,λs' t h=>?_,λs' t h=>?_⟩,⟨rfl,rfl,rfl,ajh _,λ_ _ _=>rfl⟩,λ_ h=> .inl h,λb hb=>?_,λb hb=>?_⟩,λm hm=>⟨id,λh=>?_⟩,trivial,⟨λo' s' q hq=>?_,λo1 o2 s1 s2 q1 q2 u1 u2 dw g1 g2=>?_⟩,λo' h=>?_⟩
 .grind [aK.bU]
 .rfl
 .rcases hb with hb|⟨i,hi,hb⟩
  .exact .inl hb
  .exact .inr (.inr (mj b (h4.part hi b hb)))
 .rcases hb with hb|⟨i,hi,hb⟩
  .exact hs.lt b hb
  .exact cT.lt b (h4.part hi b hb)
 .grind [aK.bU]
 .obtain⟨rfl,e⟩:=ee hq;obtain⟨rfl,rfl⟩:=akA e;refine⟨v,hv,cT.one,by simp[aK.bU,Th.base],EF.2,λk hk=>⟨EF.1 k hk,cT.lt k (h4.bH k hk), .inr (mj k (h4.bH k hk))⟩⟩
 all_goals grind [ee,ajE]
def da.od:(os:List (Nat×OS))->{st:State}->{H:aK}->{F:Nat->Prop}->da G w0 F0 H F w ρ st->∃H' F',da G w0 F0 H' F' w ρ (od st os)/\cU H F w H' F' w
 |[],_,H,F,h=>⟨H,F,h,cU.refl H F w⟩
 |(j, .own _ _)::os,st,H,F,h=>by
  unfold Go.Proofs.YtleifhfeahnocaaGreatDoor.od;split
  .rename_i e he;obtain⟨H',F',hp⟩:=Jp h.sat.ob he;have hs:=h.sat.apply (d:=ae) hp;obtain⟨H2,F2,h2,k2⟩:=da.od os (st:=st.apply ae e) ⟨hs,h.glob.mZ hp.mZ h.sat.ob.iP⟩;exact⟨H2,F2,h2,(cU.C1 hp.mZ h.sat.ob.lt h.sat.ob.jt).trans k2⟩
  .exact da.od os h
 |(_, .box ..)::os,_,_,_,h=>da.od os h
 |(_, .map ..)::os,_,_,_,h=>da.od os h
 |(_, .deep ..)::os,_,_,_,h=>da.od os h
 |(_, .dmap ..)::os,_,_,_,h=>da.od os h
def da.Mc{st dD:State}{t o:Nat}{r:Row}(h:da G w0 F0 H F w ρ st)(gY:find st.aJ t=aa (.ptr o [] 0))(hb:Mc st t o r=aa dD):∃F',da G w0 F0 H F' w ρ dD/\cU H F w H F' w:=by
 unfold Go.Proofs.YtleifhfeahnocaaGreatDoor.Mc at hb;split at hb
 case h_2=>cases hb
 split at hb
 case h_2=>cases hb
 rename_i bh yx;obtain⟨F1,h1,k1⟩:=h.vB yx;split at hb
 case h_2=>cases hb
 rename_i s1 T1 t1 cJ;split at hb
 case h_2=>cases hb
 rename_i x hx;obtain rfl:=aja hb;obtain⟨v,hv,cT⟩:=h1.sat.ob.obj _ _ _ cJ
 obtain⟨b,es,rfl,hhp,hold⟩:=(show∃b es,v= .pointer (aa ⟨b,0,ae⟩)/\w.heap[b]? =aa (.cells es.toArray T1 (0,0))/\Holds H F1 w t1 es from cT.ok)
 obtain⟨b',dZ,rz⟩:=h.sat.slot t _ gY;rw[hv]at dZ;simp only[ajj,Value.pointer.injEq,Addr.mk.injEq,and_true]at dZ;subst dZ;have yv:=jL h1.sat.ob hx hold
 have hg:cD H (find bh) [o] b:=⟨o,by simp,s1,_,_,cJ,hv,rfl⟩
 have gD:Step F1 w (λk=>F1 k\/k=b) w:=λk hk=>⟨.inl hk,rfl⟩
 have hp:mY H F1 w (find bh) st.nxt {dst:= .at r x,eat:=[o]} (ρ t) w H (λk=>F1 k\/k=b):=
  ⟨⟨aK.le.refl H,⟨rfl,rfl,rfl,ajh _,λ_ _ _=>rfl⟩,λ_ hk=> .inl hk,(by grind),λk hk=>hk.elim (h1.sat.ob.lt k) λe=>by grind⟩,λm _=>⟨id,id⟩,
    ⟨b,0,rz, .inr rfl,es,yv.length,λj u hu=>by
      show w.cell? ⟨b,0+j,ae⟩=aa u
      simp[aj0,hhp,hu],yv.step gD⟩,⟨λ_ _ _ h=>(by cases h),λ_ _ _ _ _ _ _ _ _ h=>(by cases h)⟩,λ_ h=>(by cases h)⟩
 have hs:=h1.sat.apply (d:=aa t) hp
 have Zj:vC ρ (aa t) (ρ t)=ρ:=by
  funext u
  show EB ρ t (ρ t) u=ρ u
  rw[qd];split
  .rename_i e;rw[e]
  .rfl
 rw[Zj]at hs;exact⟨_,⟨hs,h1.glob.mZ hp.mZ h1.sat.ob.iP⟩,k1.trans (cU.C1 hp.mZ h1.sat.ob.lt h1.sat.ob.jt)⟩
def da.Bf{R:Type}{k:State->Option R}{q:R}:(ss:List (Nat×SS))->{st:State}->{H:aK}->{F:Nat->Prop}->da G w0 F0 H F w ρ st->Bf st k ss=aa q->∃L5 H' F',k L5=aa q/\da G w0 F0 H' F' w ρ L5/\cU H F w H' F' w
 |[],st,H,F,h,hk=>⟨st,H,F,hk,h,cU.refl H F w⟩
 |(t, .at r)::ss,st,H,F,h,hk=>by
  unfold Go.Proofs.YtleifhfeahnocaaGreatDoor.Bf at hk;split at hk
  .rename_i o gY;split at hk
   case h_2=>cases hk
   rename_i dD hbx;obtain⟨F1,h1,k1⟩:=h.Mc gY hbx;obtain⟨L5,H2,F2,g1,g2,g3⟩:=da.Bf ss h1 hk;exact⟨L5,H2,F2,g1,g2,k1.trans g3⟩
  .rename_i o d i gY;split at hk
   case h_2=>cases hk
   rename_i bh yx;obtain⟨F1,h1,k1⟩:=h.vB yx;split at hk
   case h_2=>cases hk
   rename_i s1 T1 d' l cJ;obtain⟨kS,hk⟩:=be hk;have kS:=Nat.eq_of_beq_eq_true kS;obtain⟨x,hx,hkx⟩:=bind_some hk;obtain⟨j,rfl,hj,hjx⟩:=iK hx;obtain⟨g,o0,q0,m,cap,hv,hq,rz⟩:=h1.sat.slot t _ gY;obtain⟨v,dZ,cT⟩:=h1.sat.ob.obj _ _ _ cJ;rw[hv]at dZ;obtain rfl:=aja dZ
   obtain⟨A,ED,e1,_,_,vy⟩:=(show cI F1 w (.slice d'.row) [_] l from cT.ok)
   obtain⟨b,off,es,hA,hFb,hlen,B5,yv⟩:=vy j hj;simp only[aj3,akn,and_true]at e1;obtain⟨e1,_,_⟩:=e1;rw[<-e1]at hA;simp only[ajj,Addr.mk.injEq,and_true]at hA;obtain⟨rfl,rfl⟩:=hA
   have ym:aH H F1 w (.at d'.row x) (ρ t):=by
    have e:j=q0:=by omega
    subst e;refine⟨g,o0+j*d.low.size+0,rz,hFb,es,hlen,λjj u hu=>?_,by rw[<-hjx];exact yv⟩;rw[kS];exact B5 jj u hu
   obtain⟨L5,H2,F2,g1,g2,g3⟩:=da.Bf ss (st:={aJ:=(t, .at d'.row x)::st.aJ,objs:=bh,nxt:=st.nxt}) ⟨⟨λt' q' yg=>by
    have yg:find ((t,aI.at d'.row x)::st.aJ) t'=aa q':=yg;rw[aZ]at yg;by_cases e:t=t'
    .grind
    .rw[ai e]at yg
     exact h1.sat.slot t' q' yg,h1.sat.ob,h1.sat.all⟩,h1.glob⟩ hkx
   exact⟨L5,H2,F2,g1,g2,k1.trans g3⟩
  .exact da.Bf ss h hk
 |(_, .val ..)::ss,_,_,_,h,hk=>da.Bf ss h hk
 |(_, .ptr ..)::ss,_,_,_,h,hk=>da.Bf ss h hk
 |(_, .undef)::ss,_,_,_,h,hk=>da.Bf ss h hk
 |(_, .fn ..)::ss,_,_,_,h,hk=>da.Bf ss h hk
 |(_, .ifc ..)::ss,_,_,_,h,hk=>da.Bf ss h hk
def o9{st o6:State}{W:List Nat}{J:JS}{x:dC J.rows}{H1:aK}{F1:Nat->Prop}{w1:World}{Kz:Nat->Value}(h:carry st J o6=aa x)(hh:da G w0 F0 H F w ρ st)(rA:da G w0 F0 H1 F1 w1 Kz o6)(hk:cU H F w H1 F1 w1)
 (RD:∀t,t∉W->Kz t=ρ t):∃H2 F2,da G w0 F0 H2 F2 w1 Kz (behind st W J x)/\cU H F w H2 F2 w1:=by
 obtain⟨H1',F1',Zk,iU⟩:=rA.pY;obtain⟨H2',F2',Zl,Iq⟩:=Zk.od J.objs;unfold carry at h;obtain⟨L5,H3',F3',h3,hh3,Zm⟩:=Zl.Bf J.aJ h;exact Jo h3 hh hh3 (((hk.trans iU).trans Iq).trans Zm) RD
def vi{l:List Oper}{o:Oper}{t:Nat}(ho:o∈l)(hd:o.dst=aa t):t∈th l:=by
 induction l with
 |nil=>cases ho
 |cons p l ih=>
  grind [th]
structure RO(G:Nat->Prop)(w0:World)(F0:Nat->Prop)(W:List Nat)(H:aK)(F:Nat->Prop)(w:World)(ρ:Nat->Value)(H':aK)(F':Nat->Prop)(w':World)(dH:Nat->Value)(dD:State):Prop where
 here:da G w0 F0 H' F' w' dH dD
 keeps:cU H F w H' F' w'
 same:∀t,t∉W->dH t=ρ t
def map_inl{α β:Type}{o:Option α}{f:α->β}{r:β}(h:o.map f=aa r):∃x,o=aa x/\f x=r:=Option.map_eq_some_iff.1 h
def kE{E:Env P}:(c:Code)->{R:Type}->{q:R}->{a:xf}->{st:State}->{k:Ex->State->Option R}->{H:aK}->{F:Nat->Prop}->{w:World}->{ρ:Nat->Value}->{Q:Exit->(Nat->Value)->World->Prop}->
 exec E nt N c a st k=aa q->da G w0 F0 H F w ρ st->
 (∀e dD H' F' w' dH,k e dD=aa q->RO G w0 F0 (writes c) H F w ρ H' F' w' dH dD->Q e.vh dH w')->yb P nt c Q ρ w
 | .skip,R,q,a,st,k,H,F,w,ρ,Q,h,hh,hk=>KJ (hk .normal st H F w ρ h ⟨hh,cU.refl H F w,λ_ _=>rfl⟩)
 | .ret,R,q,a,st,k,H,F,w,ρ,Q,h,hh,hk=>NY (hk .ret st H F w ρ h ⟨hh,cU.refl H F w,λ_ _=>rfl⟩)
 | .exit id,R,q,a,st,k,H,F,w,ρ,Q,h,hh,hk=>KK (hk (.exit id) st H F w ρ h ⟨hh,cU.refl H F w,λ_ _=>rfl⟩)
 | .cond c x y,R,q,a,st,k,H,F,w,ρ,Q,h,hh,hk=>by
   unfold exec at h;split at h
   case h_2=>cases h
   rename_i D hD;split at h
   case h_2=>cases h
   rename_i b hb;have hv:=oR hb (wk hh.sat.ob.gl hh.sat.slot _ _ hD);split at h
   .rename_i e;subst e;exact KL hv (kE x h hh λe dD H' F' w' dH h1 h2=>hk e dD H' F' w' dH h1 ⟨h2.here,h2.keeps,λt ht=>h2.same t λhm=>ht (by simp[writes,hm])⟩)
   .rename_i e
    have e:b=ag:=by cases b<;>simp_all
    subst e;exact Ia hv (kE y h hh λe dD H' F' w' dH h1 h2=>hk e dD H' F' w' dH h1 ⟨h2.here,h2.keeps,λt ht=>h2.same t λhm=>ht (by simp[writes,hm])⟩)
 | .region id ops draw,R,q,a,st,k,H,F,w,ρ,Q,h,hh,hk=>by
   unfold exec at h
   cases draw with
   |true=>
    rw[cond_true]at h
    exact OP E.mix h hh λdD H' F' w' dH h1 h2 h3 h4=>hk .normal dD H' F' w' dH h1 ⟨h2,h3,λt ht=>h4 t λo ho e=>ht (vi ho e)⟩
   |false=>
    rw[cond_false]at h
    have:=AX (K:=λρ w=>Q .normal ρ w) (ops:=ops) (nt:=nt) h (λ_ _ h=>by cases h) hh λdD H' F' w' dH h1 h2 h3 h4=>hk .normal dD H' F' w' dH h1 ⟨h2,h3,λt ht=>h4 t λo ho e=>ht (vi ho e)⟩
    have h2:=EC (id:=id) (l:=ops.toList) (P:=P) (n:=nt) (Q:=Q) (ρ:=ρ) (w:=w) (by omega);omega
 | .seq x y,R,q,a,st,k,H,F,w,ρ,Q,h,hh,hk=>by
   have fin:∀{H1:aK}{F1:Nat->Prop}{w1:World}{Kz:Nat->Value}{o6:State}{a2:xf},exec E nt N y a2 o6 k=aa q->da G w0 F0 H1 F1 w1 Kz o6->cU H F w H1 F1 w1->(∀t,t∉writes x->Kz t=ρ t)->yb P nt y Q Kz w1:=by
    intro H1 F1 w1 Kz o6 a2 g1 g2 g3 g4
    exact kE y g1 g2 λe dD H' F' w' dH h1 h2=>hk e dD H' F' w' dH h1 ⟨h2.here,g3.trans h2.keeps,λt ht=>(h2.same t λhm=>ht (by simp[writes,hm])).trans (g4 t λhm=>ht (by simp[writes,hm]))⟩
   have out:∀{e:Ex}{dD:State}{H':aK}{F':Nat->Prop}{w':World}{dH:Nat->Value},k e dD=aa q->RO G w0 F0 (writes x) H F w ρ H' F' w' dH dD->Q e.vh dH w':=by
    intro e dD H' F' w' dH g1 g2;exact hk e dD H' F' w' dH g1 ⟨g2.here,g2.keeps,λt ht=>g2.same t λhm=>ht (by simp[writes,hm])⟩
   unfold exec at h;split at h
   .rename_i J a1 a2;unfold cd at h;obtain⟨s,hs,h⟩:=bind_some h;refine Aq (kE x hs hh λe dD H' F' w' dH h1 h2=>?_)
    cases e with
    |normal=>
     obtain⟨j,hj,rfl⟩:=map_inl h1;obtain⟨H2,F2,g1,g2⟩:=o9 (W:=writes x) hj hh h2.here h2.keeps h2.same;exact fin h g1 g2 h2.same
    |exit id=>
     obtain⟨r,hr,rfl⟩:=map_inl h1;obtain rfl:=aja h;exact out hr h2
    |ret=>
     obtain⟨r,hr,rfl⟩:=map_inl h1;obtain rfl:=aja h;exact out hr h2
    |goto l=>
     obtain⟨r,hr,rfl⟩:=map_inl h1;obtain rfl:=aja h;exact out hr h2
   .rename_i J a1 a2;obtain⟨s,hs,h⟩:=bind_some h;refine Aq (kE x hs hh λe dD H' F' w' dH h1 h2=>?_)
    cases e with
    |normal=>
     obtain⟨H2,F2,g1,g2⟩:=o9 (W:=writes x) h1 hh h2.here h2.keeps h2.same;exact fin h g1 g2 h2.same
    |exit id=>cases h1
    |ret=>cases h1
    |goto l=>cases h1
   .refine Aq (kE x h hh λe dD H' F' w' dH h1 h2=>?_)
    cases e with
    |normal=>exact fin h1 h2.here h2.keeps h2.same
    |exit id=>exact out h1 h2
    |ret=>exact out h1 h2
    |goto l=>exact out h1 h2
 | .block id x,R,q,a,st,k,H,F,w,ρ,Q,h,hh,hk=>by
   have hw:writes (.block id x)=writes x:=rfl;rw[hw]at hk
   have Zn:∀{e:Ex}{dH:Nat->Value}{w':World},(match e with| .exit i=>if i=id then Q .normal dH w' else Q (.exit i) dH w'|e=>Q e.vh dH w')->TS id Q e.vh dH w':=by
    intro e dH w' g
    cases e with
    |normal=>exact g
    |ret=>exact g
    |goto l=>exact g
    |exit i=>
     by_cases e:i=id
     .subst e;simp only[aj]at g;exact K7 g
     .simp only[ai e]at g;refine Ir ?_ g
      cases hb:ajf i id<;>simp_all
   have Md:∀{i:Nat},i≠id->ajf i id=ag:=λ{i}e=>by
    cases hb:ajf i id<;>simp_all
   unfold exec at h;split at h
   .rename_i J a1 a2;unfold cd at h;obtain⟨s,hs,h⟩:=bind_some h;refine tS (kE x hs hh λe dD H' F' w' dH h1 h2=>Zn ?_)
    have inn:(carry st J dD).map Sum.inl=aa s->Q .normal dH w':=λh1=>by
     obtain⟨j,hj,rfl⟩:=map_inl h1;obtain⟨H2,F2,g1,g2⟩:=o9 (W:=writes x) hj hh h2.here h2.keeps h2.same;exact hk .normal _ H2 F2 w' dH h ⟨g1,g2,h2.same⟩
    have out:∀{e:Ex},(k e dD).map Sum.inr=aa s->Q e.vh dH w':=λ{e}h1=>by
     obtain⟨r,hr,rfl⟩:=map_inl h1
     grind
    cases e with
    |normal=>exact inn h1
    |exit i=>
     show if i=id then _ else _
     by_cases e:i=id
     .subst e;rw[aj rfl];refine inn ?_;simpa using h1
     .rw[ai e];simp only[Md e,cond_false]at h1;exact out (e:= .exit i) h1
    |ret=>exact out (e:= .ret) h1
    |goto l=>grind
   .rename_i J a1 a2;obtain⟨s,hs,h⟩:=bind_some h;refine tS (kE x hs hh λe dD H' F' w' dH h1 h2=>Zn ?_)
    have inn:carry st J dD=aa s->Q .normal dH w':=λh1=>by
     obtain⟨H2,F2,g1,g2⟩:=o9 (W:=writes x) h1 hh h2.here h2.keeps h2.same;exact hk .normal _ H2 F2 w' dH h ⟨g1,g2,h2.same⟩
    cases e with
    |normal=>exact inn h1
    |exit i=>
     grind
    |ret=>cases h1
    |goto l=>cases h1
   .refine tS (kE x h hh λe dD H' F' w' dH h1 h2=>Zn ?_)
    cases e with
    |normal=>grind
    |exit i=>
     show if i=id then _ else _
     by_cases e:i=id
     .subst e;rw[aj rfl];refine hk .normal dD H' F' w' dH ?_ h2;simpa using h1
     .rw[ai e];simp only[Md e,cond_false]at h1;exact hk (.exit i) dD H' F' w' dH h1 h2
    |ret=>grind
    |goto l=>grind
 | .loop x,R,q,a,st,k,H,F,w,ρ,Q,h,hh,hk=>by
   have hw:writes (.loop x)=writes x:=rfl;rw[hw]at hk;unfold exec at h;split at h
   case h_2=>cases h
   rename_i L a1;split at h
   case h_2=>cases h
   rename_i s0 Ru;refine KM (λs dH w'=>∃H' F',da G w0 F0 H' F' w' dH (behind st (writes x) L s)/\cU H F w H' F' w'/\∀t,t∉writes x->dH t=ρ t) h ?_ ?_
   .obtain⟨H2,F2,g1,g2⟩:=o9 (W:=writes x) Ru hh hh (cU.refl H F w) λ_ _=>rfl
    grind
   .rintro s dH w' y ⟨H',F',g1,g2,g3⟩ hy
    refine kE x hy g1 λe dD yp LF BX Df h1 h2=>?_
    have sm:∀t,t∉writes x->Df t=ρ t:=λt ht=>(h2.same t ht).trans (g3 t ht)
    have out:∀{e:Ex},e≠ .normal->(k e dD).map Sum.inr=aa y->P1 (λs dH w'=>∃H' F',da G w0 F0 H' F' w' dH (behind st (writes x) L s)/\cU H F w H' F' w'/\∀t,t∉writes x->dH t=ρ t) Q q y e.vh Df BX:=λ{e}he h1=>by
     obtain⟨r,hr,rfl⟩:=map_inl h1;refine⟨by cases e<;>simp_all[Ex.vh],λhq=>?_⟩;subst hq;exact hk e dD yp LF BX Df hr ⟨h2.here,g2.trans h2.keeps,sm⟩
    cases e with
    |normal=>
     obtain⟨j,hj,rfl⟩:=map_inl h1;obtain⟨H2,F2,m1,m2⟩:=o9 (W:=writes x) hj hh h2.here (g2.trans h2.keeps) sm;exact⟨rfl,H2,F2,m1,m2,sm⟩
    |exit i=>grind
    |ret=>grind
    |goto l=>grind
 | .label l,R,q,a,st,k,H,F,w,ρ,Q,h,hh,hk=>λact hf=>wp_label ⟨ρ,hf,hk .normal st H F w ρ h ⟨hh,cU.refl H F w,λ_ _=>rfl⟩⟩
 | .scope x,R,q,a,st,k,H,F,w,ρ,Q,h,hh,hk=>by
   have h1:=kE (Q:=λe ρ w=>match e with| .goto _=>False|e=>Q e ρ w) x (show exec E nt N x a.l st (noGoto k)=aa q from h) hh λe dD H' F' w' dH h1 h2=>by
    cases e with
    |goto l=>cases h1
    |_=>exact hk _ dD H' F' w' dH h1 h2
   intro act hf;refine wp_scope_straight (wp_mono (h1 act hf) λe a' w' ⟨dH,uW,XQ⟩=>?_)
   cases e<;>first
    |exact XQ.elim
    |exact⟨dH,uW,XQ⟩
 | .goto l,R,q,a,st,k,H,F,w,ρ,Q,h,hh,hk=>λact hf=>wp_goto ⟨ρ,hf,hk (.goto l) st H F w ρ h ⟨hh,cU.refl H F w,λ_ _=>rfl⟩⟩
 | .rangeFunc ..,_,_,_,_,_,_,_,_,_,_,h,_,_=>by cases h
 | .refuse _,_,_,_,_,_,_,_,_,_,_,h,_,_=>by cases h
end
end Go.Proofs.YtleifhfeahnocaaGreatDoor
namespace Go.Proofs.YtleifhfeahnocaaGreatDoor
open Go Go.RowKit
def Bg{P:Program}(T:bj P)(aJ:List (Nat×aI))(objs:List (Nat×(Nat×Th)))(t:Nat)(T0:TypeId):Option aI:=
 match find T.und T0 with
 |none=>ae
 |some kk=>match find aJ t with
  |some (.ptr o p off)=>match find objs o with
   |some (_, .box _ tr)=>match tr.get p with
    |some (s,eE)=>bif ajf eE off&&nK T T0 kk s.size then aa (.val (mi kk) s)else ae
    |none=>ae
   |_=>ae
  |_=>ae
def Bh{P:Program}(T:bj P)(aJ:List (Nat×aI))(objs:List (Nat×(Nat×Th))):List ResultVar->Option (List aI)
 |[]=>aa []
 | .tmp t::l=>match find aJ t with
   |some d=>match Bh T aJ objs l with
    |some ds=>aa (d::ds)
    |none=>ae
   |none=>ae
 | .cell t T0::l=>match Bg T aJ objs t T0 with
   |some d=>match Bh T aJ objs l with
    |some ds=>aa (d::ds)
    |none=>ae
   |none=>ae
noncomputable def RP{P:Program}(T:bj P)(rs:List ResultVar)(nb:Nat)(out:JS)(st:State):Option (dC out.rows):=
 match Bh T st.aJ st.objs rs with
 |some ds=>Bf {aJ:=jw 0 ds,objs:=(pY st).objs,nxt:=(pY st).nxt} (λo6=>match zo nb [] out o6.aJ o6.objs with
  |some (x,_)=>aa x
  |none=>ae) out.aJ
 |none=>ae
def init(inn:JS)(x:dC inn.rows):State:=
 {aJ:=(dg inn.aJ (dJ _ x)).1,objs:=iV 0 inn.objs (dg inn.aJ (dJ _ x)).2,nxt:=inn.nxt}
noncomputable def Vm{P:Program}(T:bj P)(rs:List ResultVar)(nb:Nat)(out:JS):Ex->State->Option (dC out.rows)
 | .exit _,_=>ae
 | .goto _,_=>ae
 |_,st=>RP T rs nb out st
noncomputable def RQ{P:Program}(E:Env P)(nt N:Nat)(c:Code)(rs:List ResultVar)(a:xf)(inn out:JS)(x:dC inn.rows):Option (dC out.rows):=
 exec E nt N c a (init inn x) (Vm E.T rs inn.nxt out)
section
variable {P:Program} {ρ:Nat->Value} {w:World} {H:aK} {F:Nat->Prop} {U:Nat->Prop} {n:Nat}
def Di(T:bj P){t:TypeId}{kk:Ks}(hu:find T.und t=aa kk){b off:Nat}{s:Tree}{cs:List Value}(hh:Holds H F w s cs)(hc:∀j u,cs[j]? =aa u->w.cell? ⟨b,off+j,ae⟩=aa u)
 (hz:if mi kk=af then∃r,find T.row t=aa r/\r.size=s.size else s.size=1):∃v,(loadVar t ⟨b,off,ae⟩).run P w= .ok v w/\aV H F w (mi kk) s v:=by
 obtain⟨dd,yd,ye⟩:=(T.und_ok _ _ hu).agg;have hl:=hh.length
 cases ha:mi kk with
 |true=>
  rw[aj ha]at hz;obtain⟨r,hr,NJ⟩:=hz;obtain⟨ti,z,h1,_,_,h4,_⟩:=T.row_ok _ _ hr
  have Y4:(loadCells ⟨b,off,ae⟩ cs.length).run P w= .ok cs.toArray w:=
   run_loadCells_list (P:=P) w ⟨b,off,ae⟩ cs (λj v hv=>by rw[dh];exact hc j v hv)
  refine⟨.agg cs.toArray,?_,cs,hh,rfl,by simp⟩
  have kS:ti.size=cs.length:=by omega
  simp[loadVar,ajw,fN yd,ye.trans ha,sizeOf,typeInfo,h1,kS,Y4]
 |false=>
  rw[ai (by simp[ha])]at hz
  obtain⟨v,rfl⟩:∃v,cs=[v]:=by
   match cs,hl.trans hz with
   |[v],_=>exact⟨v,rfl⟩
  refine⟨v,?_,[v],hh,rfl,λ_=>rfl⟩;have:=hc 0 v rfl;simp only[akj]at this;simp[loadVar,ajw,fN yd,ye.trans ha,this,go_sem]
def FB(T:bj P){aJ:List (Nat×aI)}{objs:List (Nat×(Nat×Th))}{t:Nat}{T0:TypeId}{D:aI}(h:Bg T aJ objs t T0=aa D)(gY:∀t d,find aJ t=aa d->aH H F w d (ρ t))(hs:aL U H F w (find objs) n):
 ∃a v,ρ t= .pointer (aa a)/\(loadVar T0 a).run P w= .ok v w/\aH H F w D v:=by
 unfold Bg at h;split at h
 .cases h
 rename_i kk hu;split at h
 case h_2=>cases h
 rename_i o p off hD;split at h
 case h_2=>cases h
 rename_i s0 T1 tr cJ;split at h
 case h_2=>cases h
 rename_i s eE hg;obtain⟨h1,rfl⟩:=sP h;obtain⟨h1,h3⟩:=de h1;obtain rfl:=beq_true h1;obtain⟨b,hb,e⟩:=gY _ _ hD;obtain⟨es,hh,Qc⟩:=hs.box cJ hb;obtain⟨g1,g2⟩:=Qc.get hg
 obtain⟨v,hv,sL⟩:=Di (b:=b) (off:=eE) T hu g1 (λj u hj=>by
  grind [wo]) (lf T h3)
 exact⟨_,v,e,hv,sL⟩
def OQ(tmps:Array Value):ResultVar->Sem Value
 | .tmp t=>pure (tmps.getD t undef)
 | .cell a t=>do loadVar t (<-asAddr (tmps.getD a undef))
def Bi(T:bj P){aJ:List (Nat×aI)}{objs:List (Nat×(Nat×Th))}(gY:∀t d,find aJ t=aa d->aH H F w d (ρ t))(hs:aL U H F w (find objs) n){tmps:Array Value}(hf:∀t,tmps.getD t undef=ρ t):
 {rs:List ResultVar}->{ds:List aI}->Bh T aJ objs rs=aa ds->∃vs:List Value,(rs.mapM (OQ tmps)).run P w= .ok vs w/\fX H F w ds vs
 |[],ds,h=>by obtain rfl:=aja h;exact⟨[],by simp,rfl⟩
 | .tmp t::l,ds,h=>by
   unfold Bh at h;split at h
   case h_2=>cases h
   rename_i d hd;split at h
   case h_2=>cases h
   rename_i YB yt;obtain rfl:=aja h;obtain⟨vs,h1,h2⟩:=Bi T gY hs hf yt;refine⟨ρ t::vs,?_,ρ t,vs,rfl,gY t d hd,h2⟩
   grind [OQ,Go.Sem.run_bind,Go.Sem.run_pure,Go.Result.andThen_ok]
 | .cell t T0::l,ds,h=>by
   unfold Bh at h;split at h
   case h_2=>cases h
   rename_i d hd;split at h
   case h_2=>cases h
   rename_i YB yt;obtain rfl:=aja h;obtain⟨vs,h1,h2⟩:=Bi T gY hs hf yt;obtain⟨a,v,e1,e2,e3⟩:=FB T hd gY hs;refine⟨v::vs,?_,v,vs,rfl,e3,h2⟩;have ha:(asAddr (.pointer (aa a))).run P w= .ok a w:=rfl
   grind [OQ,Go.Sem.run_bind,Go.Result.andThen_ok,Go.Sem.run_pure]
def FC(T:bj P){fn:Func}{rs:List ResultVar}(NJ:fn.results.toList=rs){aJ:List (Nat×aI)}{objs:List (Nat×(Nat×Th))}(gY:∀t d,find aJ t=aa d->aH H F w d (ρ t))(hs:aL U H F w (find objs) n){tmps:Array Value}(hf:∀t,tmps.getD t undef=ρ t)
 {ds:List aI}(h:Bh T aJ objs rs=aa ds):∃vs:List Value,(results fn tmps).run P w= .ok (yy vs) w/\fX H F w ds vs:=by
 obtain⟨vs,h1,h2⟩:=Bi T gY hs hf h;refine⟨vs,?_,h2⟩;have e:fn.results=rs.toArray:=ei NJ;have er:results fn tmps=(fn.results.mapM (OQ tmps)>>= λvs=>pure (if h:vs.size=1 then vs[0]else Value.tuple vs)):=rfl;rw[er,e,List.mapM_toArray]
 have:∀vs:List Value,(if h:vs.toArray.size=1 then vs.toArray[0]else Value.tuple vs.toArray)=yy vs:=by
  intro vs
  match vs with
  |[]=>rfl
  |[v]=>rfl
  |a::b::l=>simp[yy]
 simp_all
def Hl:{l:List (Nat×SS)}->{vs:List kg}->{k t:Nat}->{d:aI}->uk k l=af->find (dg l vs).1 t=aa d->t<k+l.length
 |[],_,_,_,_,_,h=>by cases h
 |(t0,s)::l,vs,k,t,d,hi,h=>by
  obtain⟨h1,h2⟩:=de hi;have h':find ((t0,(eZ s vs).1)::(dg l (eZ s vs).2).1) t=aa d:=h;rw[aZ]at h';have:=beq_true h1;rw[ajp];split at h'
  .omega
  .have:=Hl h2 h';omega
def Vn(P:Program)(nt:Nat)(c:Code)(run:{R:Type}->State->(Ex->State->Option R)->Option R):Prop:=
 ∀{R:Type}{q:R}{st:State}{k:Ex->State->Option R}{H:aK}{F:Nat->Prop}{w:World}{ρ:Nat->Value}{G:Nat->Prop}{w0:World}{F0:Nat->Prop}{Q:Exit->(Nat->Value)->World->Prop},
  run st k=aa q->da G w0 F0 H F w ρ st->(∀e dD H' F' w' dH,k e dD=aa q->RO G w0 F0 (writes c) H F w ρ H' F' w' dH dD->Q e.vh dH w')->yb P nt c Q ρ w
def RR{E:Env P}{f:FuncId}{fn:Func}{c:Code}{rs:List ResultVar}{sg:oN}{run:{R:Type}->State->(Ex->State->Option R)->Option R}(hW:Vn P fn.ntmps c run)(hf:P.funcs[f]? =aa fn)(hn:(fn.name== "runtime.NumGoroutine")=ag)(hb:fn.body=aa c)(NJ:fn.results.toList=rs)
 (qb:uk 0 sg.inn.aJ=af)(hlen:Nat.ble sg.inn.aJ.length fn.ntmps=af)(B9:ajf rs.length sg.out.aJ.length=af)
 (BZ:∀x,sg.fn x=run (init sg.inn x) (Vm E.T rs sg.inn.nxt sg.out)):fZ P f sg:=by
 refine⟨⟨fn,hf,hn,by rw[hb];rfl⟩,λx y rU args w H F G GL gY cJ fe hG=>?_⟩
 have hlen:sg.inn.aJ.length<=fn.ntmps:=by simpa using hlen
 have B9:=beq_true B9
 refine(Ar (R:=λv w'=>∃vs,v=yy vs/\vs.length=sg.out.aJ.length/\∃H' F',Ext G w w'/\H.le H'/\(∀b,F b->F' b)/\(∀b,F' b->F b\/w.heap.size<=b\/G b)/\
  (∀t d,find (dg sg.out.aJ (dJ _ y)).1 t=aa d->aH H' F' w' d (vs.getD t undef))/\
  aL (λk=>w.heap.size<=k\/G k) H' F' w' (find (iV sg.inn.nxt sg.out.objs (dg sg.out.aJ (dJ _ y)).2)) sg.out.nxt/\jr H' sg.out.nxt) hf hb (by omega) λρ RD=>?_).mono (by grind)
 have Zo:∀t,t<args.length->ρ t=args.getD t undef:=(by grind)
 have keys:∀t d,find (dg sg.inn.aJ (dJ sg.inn.rows x)).1 t=aa d->aH H F w d (ρ t):=λt d hd=>by
  rw[Zo t (by have:=Hl qb hd;omega)];exact gY t d hd
 have hh:da G w F H F w ρ (init sg.inn x):=⟨⟨keys,cJ,fe⟩,⟨⟨rfl,rfl,rfl,ajh _,λ_ _ _=>rfl⟩,λ_ h=>h,λ_ h=> .inl h⟩⟩
 refine hW ((BZ x).symm.trans rU) hh λe dD H' F' w' dH h1 h2=>?_
 have main:RP E.T rs sg.inn.nxt sg.out dD=aa y->∀act,Fr fn.ntmps act dH->∃v,(results fn act.tmps).run P w'= .ok v w'/\∃vs,v=yy vs/\vs.length=sg.out.aJ.length/\∃H' F',Ext G w w'/\H.le H'/\(∀b,F b->F' b)/\(∀b,F' b->F b\/w.heap.size<=b\/G b)/\
  (∀t d,find (dg sg.out.aJ (dJ _ y)).1 t=aa d->aH H' F' w' d (vs.getD t undef))/\
  aL (λk=>w.heap.size<=k\/G k) H' F' w' (find (iV sg.inn.nxt sg.out.objs (dg sg.out.aJ (dJ _ y)).2)) sg.out.nxt/\jr H' sg.out.nxt:=by
  intro hr act yf;unfold RP at hr;split at hr
  case h_2=>cases hr
  rename_i ds yt;obtain⟨vs,g1,g2⟩:=FC E.T NJ h2.here.sat.slot h2.here.sat.ob yf.get yt;have XY:=lu g2;refine⟨_,g1,vs,rfl,?_,?_⟩
  .have:∀{rs:List ResultVar}{ds:List aI},Bh E.T dD.aJ dD.objs rs=aa ds->ds.length=rs.length:=by
    intro rs
    induction rs with
    |nil=>intro ds h;obtain rfl:=aja h;rfl
    |cons r l ih=>
     intro ds h
     cases r<;>unfold Bh at h<;>split at h<;>try cases h
     all_goals grind
   grind
  .have Ru:aL (UU G w) H F w (find (del [] [])) sg.inn.nxt:=⟨λ_ _ _ h=>(by cases h),λ_ _ _ _ _ _ _ _ _ h=>(by cases h),cJ.fresh,cJ.lt,cJ.new,cJ.gl⟩
   obtain⟨H4,F4,h4,k4⟩:=h2.here.pY;obtain⟨o6,H3,F3,hr,h3,k3⟩:=da.Bf (ρ:=λt=>vs.getD t undef) (st:={aJ:=jw 0 ds,objs:=(pY dD).objs,nxt:=(pY dD).nxt}) sg.out.aJ ⟨⟨λt d hd=>aH.keep k4.kr k4.step (by simpa using(qj g2 t d hd).2),h4.sat.ob,h4.sat.all⟩,h4.glob⟩ hr;split at hr
   case h_2=>cases hr
   rename_i _ z rest hp;obtain⟨bs,bh⟩:=rest;obtain rfl:=aja hr;obtain⟨F2,H2,a1,a2,a3,_,a5,_,a6,a7,a8⟩:=wV (U':=UU G w) (ns:=[]) (objs0:=[]) (ρ:=λt=>vs.getD t undef) hp Ru fe ((h2.keeps.trans k4).trans k3) h3.sat.ob (λt d hd=>h3.sat.slot t d hd)
   have vE:=a8 h3.sat.ob.new (λo s t v k _ m2 m3 m4=>by
    obtain⟨v',dZ,cT⟩:=a1.obj _ _ _ m2;rw[m3]at dZ;obtain rfl:=aja dZ
    exact cT.use k m4) (λ_ _ _ _ _ h=>by cases h)
   rw[show del [] ([]:List (Nat×(Nat×Th)))=[]from rfl,ajS]at vE;refine⟨H2,F2,h3.glob.ext,a5,λb hb=>a2 b (h3.glob.le b hb),λb hb=>?_,a7,vE,a6⟩
   rcases a3 b hb with m1|m1
   .exact h3.glob.new b m1
   .exact .inr (h3.sat.ob.iP b m1)
 cases e with
 |normal=>exact main h1
 |ret=>exact main h1
 |exit id=>cases h1
 |goto l=>cases h1
def Vo{E:Env P}{f:FuncId}{fn:Func}{c:Code}{rs:List ResultVar}{N:Nat}{a:xf}{sg:oN}(hf:P.funcs[f]? =aa fn)(hn:(fn.name== "runtime.NumGoroutine")=ag)(hb:fn.body=aa c)(NJ:fn.results.toList=rs)
 (qb:uk 0 sg.inn.aJ=af)(hlen:Nat.ble sg.inn.aJ.length fn.ntmps=af)(B9:ajf rs.length sg.out.aJ.length=af)
 (BZ:∀x,sg.fn x=RQ E fn.ntmps N c rs a sg.inn sg.out x):fZ P f sg:=
 RR (E:=E) (run:=λst k=>exec E fn.ntmps N c a st k) (λh hh hk=>kE c h hh hk) hf hn hb NJ qb hlen B9 BZ
structure CT(P:Program)where
 f:Nat
 sg:oN
 ok:fZ P f sg
def ck{P:Program}{f:Nat}{sg:oN}(h:fZ P f sg):CT P:=⟨f,sg,h⟩
def CT.tab{P:Program}:List (CT P)->List (Nat×oN)
 |[]=>[]
 |c::l=>(c.f,c.sg)::CT.tab l
def CT.Bj{P:Program}:{l:List (CT P)}->∀p∈CT.tab l,fZ P p.1 p.2
 |[],_,h=>by cases h
 |c::l,p,h=>by
  rcases ajQ.1 h with rfl|h
  .exact c.ok
  .exact CT.Bj p h
def Zp(fn:Func)(sg:oN):Bool:= !(fn.name== "runtime.NumGoroutine")&&fn.body.isSome&&uk 0 sg.inn.aJ&&Nat.ble sg.inn.aJ.length fn.ntmps&&ajf fn.results.toList.length sg.out.aJ.length
def fw(E:Env P){f:FuncId}{fn:Func}{N:Nat}{sg:oN}(a:xf)(hf:P.funcs[f]? =aa fn)(hc:Zp fn sg=af)
 (BZ:∀x,sg.fn x=RQ E fn.ntmps N (fn.body.getD .skip) fn.results.toList a sg.inn sg.out x):fZ P f sg:=by
 unfold Zp at hc;simp only[akd,Bool.not_eq_true']at hc;obtain⟨⟨⟨⟨h1,h2⟩,h3⟩,h4⟩,h5⟩:=hc;obtain⟨c,hc⟩:=ajE.1 h2;exact Vo (E:=E) (N:=N) (a:=a) hf h1 (by rw[hc];rfl) rfl h3 h4 h5 BZ
@[reducible] def SS.l(r:Row):SS:= .val ag (.leaf r)
@[reducible] def SS.g(r:Row):SS:= .val af (.leaf r)
def Bl{f:FuncId}{fn:Func}{sg:oN}(hf:P.funcs[f]? =aa fn)(hn:(fn.name== "runtime.NumGoroutine")=ag)(hb:fn.body.isNone=ag)(BZ:∀x,sg.fn x=ae):fZ P f sg:=
 ⟨⟨fn,hf,hn,hb⟩,(by grind)⟩
abbrev aB:Row:= .int .i64
def nn{α:Type}:Nat->List α->List (Nat×α)
 |_,[]=>[]
 |n,a::l=>(n,a)::nn (n+1) l
abbrev JS.j1(l:List SS)(o:List OS)(k:Nat):JS:=⟨nn 0 l,nn 0 o,[],k⟩
abbrev JS.i1(l:List SS):JS:= .j1 l [] 0
abbrev JS.w1(t:Nat)(r:Row):JS:= .j1 [.val ag (.own 0)] [.own t r] 1
abbrev u2{A B R:Type}(f:A->B->R)(x:A×B):R:=f x.1 x.2
abbrev u3{A B C R:Type}(f:A->B->C->R)(x:A×B×C):R:=f x.1 x.2.1 x.2.2
abbrev u4{A B C D R:Type}(f:A->B->C->D->R)(x:A×B×C×D):R:=f x.1 x.2.1 x.2.2.1 x.2.2.2
abbrev u5{A B C D E R:Type}(f:A->B->C->D->E->R)(x:A×B×C×D×E):R:=f x.1 x.2.1 x.2.2.1 x.2.2.2.1 x.2.2.2.2
abbrev u6{A B C D E F R:Type}(f:A->B->C->D->E->F->R)(x:A×B×C×D×E×F):R:=f x.1 x.2.1 x.2.2.1 x.2.2.2.1 x.2.2.2.2.1 x.2.2.2.2.2
inductive Tk where
 |O|T|X
 |B (i n:Nat)
 |L (i n:Nat)
 |E (n:Nat)
 |R (j:JS)
 |J (j:JS)
 |P (j:JS)
def dk:Nat->List Tk->(xf->List Tk->xf)->xf
 |k+1, .O::l,c=>dk k l λa l=>c (.two .nil a) l
 |k+1, .T::l,c=>dk k l λa l=>dk k l λb l=>c (.two a b) l
 |_+1, .X::l,c=>c .nil l
 |_+1, .B i n::l,c=>c (.meet ⟨[(i, .l .bool)],[],[],n⟩ .nil .nil) l
 |k+1, .L i n::l,c=>dk k l λa l=>c (.loop ⟨[(i, .l aB)],[],[],n⟩ a) l
 |k+1, .E n::l,c=>dk k l λa l=>dk k l λb l=>c (.join ⟨[],[],[],n⟩ a b) l
 |k+1, .R j::l,c=>dk k l λa l=>dk k l λb l=>c (.meet j a b) l
 |k+1, .J j::l,c=>dk k l λa l=>dk k l λb l=>c (.join j a b) l
 |k+1, .P j::l,c=>dk k l λa l=>c (.loop j a) l
 |_,_,c=>c .nil []
abbrev ak(l:List Tk):xf:=dk 9999 l λa _=>a
instance{P:Program}{f:Nat}{sg:oN}:CoeOut (fZ P f sg) (CT P):=⟨ck⟩
end
end Go.Proofs.YtleifhfeahnocaaGreatDoor
end
namespace Go.Proofs.YtleifhfeahnocaaGreatDoor
open Go Go.RowKit
set_option maxRecDepth 100000
set_option linter.unusedSimpArgs false
set_option linter.unusedVariables false
set_option linter.defProp false
inductive Jq(F:Nat->Prop)(w:World):Nat->List (Nat×SS)->List kg->List Value->Prop where
 |nil {k:Nat}:Jq F w k [] [] []
 |cons {k:Nat} {agg:Bool} {r:Row} {x:r.den} {v:Value} {ss:List (Nat×SS)} {ds:List kg} {vs:List Value} (h:aV ⟨λ_=>ae,λ_=>ae,λ_ _=>False⟩ F w agg (.leaf r x) v) (hs:Jq F w (k+1) ss ds vs):Jq F w k ((k, .val agg (.leaf r))::ss) (⟨r,x⟩::ds) (v::vs)
def Jq.aJ{F:Nat->Prop}{w:World}{k:Nat}{ss:List (Nat×SS)}{ds:List kg}{vs:List Value}(h:Jq F w k ss ds vs):(∀t d,find (dg ss ds).1 t=aa d->k<=t/\aH ⟨λ_=>ae,λ_=>ae,λ_ _=>False⟩ F w d (vs.getD (t-k) undef))/\(dg ss ds).2=[]/\vs.length=ss.length:=by
 induction h with
 |nil=>exact⟨λ_ _ h=>(by cases h),rfl,rfl⟩
 | @cons k agg r x v ss ds vs h hs ih=>
   refine⟨λt d hf=>?_,ih.2.1,by simp[ih.2.2]⟩;have uW:find ((k,aI.val agg (bif r.beq r then Tree.leaf r x else .nil))::(dg ss ds).1) t=aa d:=hf;rw[aZ]at uW;split at uW
   .rename_i e;subst e;obtain rfl:=aja uW;rw[Row.beq_refl,Nat.sub_self];exact⟨ajh _,h⟩
   grind
def FD{F:Nat->Prop}{w:World}{r:Row}{l:List r.den}{v:Value}(h:cI F w (.slice r) [v] l):aV ⟨λ_=>ae,λ_=>ae,λ_ _=>False⟩ F w ag (.leaf (.slice r) l) v:=aV.mK h
def qp{F:Nat->Prop}{w:World}{r:Row}{x:r.den}{es:List Value}(h:cI F w r es x):aV ⟨λ_=>ae,λ_=>ae,λ_ _=>False⟩ F w af (.leaf r x) (.agg es.toArray):=⟨es,h,rfl,by simp⟩
def Jr{P:Program}{f:FuncId}{inn:JS}{fn:dC inn.rows->Option Bool}(h:fZ P f ⟨inn,⟨[(0, .val ag (.leaf .bool))],[],[],0⟩,fn⟩){x:dC inn.rows}{y:Bool}(hy:fn x=aa y){ds:List kg}(yt:dJ inn.rows x=ds){W:World}{vs:List Value}
 (ha:Jq (λb=>b<W.heap.size) W 0 inn.aJ ds vs)(ho:inn.objs=[])(hgl:rW (λb=>b<W.heap.size) W):Calls P f vs.toArray W λe W'=>e= .returned (.bool y)/\Below W.heap.size W W':=by
 obtain⟨h1,h2,h3⟩:=ha.aJ;subst yt
 refine(h.ok x y hy vs W ⟨λ_=>ae,λ_=>ae,λ_ _=>False⟩ (λb=>b<W.heap.size) (λ_=>False) h3 (by grind) ?_ (λ_ _=>⟨rfl,rfl⟩) (λ_ h=>h.elim)).mono λe W' ⟨us,he,Rz,H',F',a1,_,_,_,a5,_⟩=>?_
 .show aL _ _ _ W (find (iV 0 inn.objs _)) inn.nxt
  rw[ho];exact⟨λ_ _ _ h=>(by cases h),λ_ _ _ _ _ _ _ _ _ h=>(by cases h),λ_ _ _=>⟨rfl,rfl⟩,λ_ h=>h,λ_ h=> .inl h,hgl⟩
 .refine⟨?_,⟨a1.os,a1.tape,a1.output,a1.size,λk hk=>a1.block k hk (λh=>h)⟩⟩
  match us,Rz with
  |[u],_=>
   have:=a5 0 (eA y) rfl;have hu:u= .bool y:=aV.bool (x:=y) this;rw[he,hu];rfl
def Js{H:Type}{enc:TypeId×Value->H}{P:Program}{W:World}{base:Nat}{spare:Nat->Bool}{held:Bool}{fuel:Nat}{t e:TypeId}{n:Nat}{k:IntKind}(ht:P.underlying t=aa (.array n e))(he:P.underlying e=aa (.int k))(hc:P.cellsOf e=1)(Qy:P.cellsOf t=n)
 {cs:List Value}{ns:List Int}{q:List MemPlace}(hd:DataW.trod enc P W base spare held fuel t cs=aa (.agg (ns.map λx=> .lit (.int k x)),q)):cs=ns.map λx=> .int k x:=by
 obtain⟨xs,m,_,hx,hl,hn,vy⟩:=DataW.trod_array ht hd;simp only[Prod.mk.injEq,DataW.agg.injEq]at hx
 have hln:ns.length=n:=by rw[<-hn,<-List.length_map (f:=λx:Int=>(DataW.lit (.int k x):DataW H)),hx.1,List.length_map]
 apply List.ext_getElem?
 intro i;by_cases hi:i<n
 .have h:=vy i hi;rw[hc,Nat.mul_one,ajb (by omega:i<xs.length)]at h;obtain⟨z,h1,h2,_⟩:=DataW.trod_int he h
  have h3:(xs.map (·.1))[i]? =aa (.lit (.int k z)):=by
   rw[List.getElem?_map,ajb (by omega:i<xs.length),h2];rfl
  rw[<-hx.1,List.getElem?_map,ajb (by omega:i<ns.length)]at h3;simp only[Option.map_some,ajj,DataW.lit.injEq,Lit.int.injEq,true_and]at h3;rw[List.getElem?_map,ajb (by omega:i<ns.length),h3]
  have h4:((cs.drop i).take 1)[0]? =aa (.int k z):=by rw[h1];rfl
  grind
 grind
def OR{W:World}{b off:Nat}{v:Value}(h:W.cell? ⟨b,off,ae⟩=aa v):b<W.heap.size:=by
 unfold aj0 at h
 grind
section
section
variable {P:Program} {nt N:Nat} {R:Type}
variable {ρ:Nat->Value} {w w0:World} {H:aK} {F F0 G:Nat->Prop}
end
end
end Go.Proofs.YtleifhfeahnocaaGreatDoor
