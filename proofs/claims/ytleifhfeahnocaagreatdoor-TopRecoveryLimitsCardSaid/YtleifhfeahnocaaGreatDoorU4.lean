/- Joined texts: Exec Draw2 Draw4 Fn Law Laid Jump. -/
import Derived.Test.YtleifhfeahnocaaGreatDoorU3
import Derived.Scope
import Derived.Test.YtleifhfeahnocaaGreatDoorU1
import Derived.ProofKit
import Derived.LaidMore
import Derived.OpenShut
import Derived.Stop.Joined
set_option linter.defProp false
open _root_.Bool renaming false->ag,true->af
open _root_.Option renaming none->ae,some->aa
open _root_.Array renaming toArray_toList->ajq
open _root_.List.cons renaming injEq->ajw
open _root_.Nat renaming beq->aiK,blt->ajg,le_trans->aiY,le_refl->aiM
open _root_.Option.some renaming inj->aiF,injEq->aiO
open _root_.Prod.mk renaming inj->aj5
open _root_.Go.Sem renaming run_bind->ai1
open _root_.List renaming getElem?_eq_getElem->aiG
open _root_.Go.World renaming cell?->ajr
namespace Go.Proofs.YtleifhfeahnocaaGreatDoor
open Go Go.RowKit
set_option maxRecDepth 100000
set_option linter.unusedSimpArgs false
set_option linter.unusedVariables false
set_option linter.defProp false
section
structure Env(P:Program)where
 T:bk P
 tab:List (Nat×oB)
 ok:∀p∈tab,fN P p.1 p.2
 mix:P.follows .mixedOrders=af
 deep:Bool
 drop:Bool
def Ay(rd:Operand->Option aI):List Operand->Option (List (Nat×List Bool×Nat))
 |[]=>aa []
 |x::xs=>match rd x with
  |some (.ptr o p off)=>match Ay rd xs with
   |some cs=>aa ((o,p,off)::cs)
   |none=>ae
  |_=>ae
def zb{H:aK}{F:Nat->Prop}{w:World}{ρ:Nat->Value}{rd:Operand->Option aI}(gE:∀x d,rd x=aa d->aG H F w d (ev ρ x)):{xs:List Operand}->{cs:List (Nat×List Bool×Nat)}->Ay rd xs=aa cs->lZ H cs (xs.map (ev ρ))
 |[],cs,h=>by obtain rfl:=aiF h;rfl
 |x::xs,cs,h=>by
  unfold Ay at h;split at h
  case h_2=>cases h
  rename_i o p off hx;split at h
  case h_2=>cases h
  rename_i ra rB;obtain rfl:=aiF h;exact⟨_,_,rfl,gE _ _ hx,zb gE rB⟩
def nv{R:Type}(rd:Operand->Option aI)(fn:Fn)(first caps:Array Operand)(k:eB->Option R):Option R:=
 match fn,first.toList with
 | .func f,[]=>match Ay rd caps.toList with
   |some cs=>k {dst:= .fn f cs}
   |none=>ae
 |_,_=>ae
def Az{R:Type}{P:Program}{U:Nat->Prop}{H:aK}{F:Nat->Prop}{w:World}{ρ:Nat->Value}{ob:Nat->Option (Nat×Th)}{n d:Nat}{ty:TypeId}{pos:String}{aft:Array Edge}{rd:Operand->Option aI}(gE:∀x d,rd x=aa d->aG H F w d (ev ρ x)){fn:Fn}{first caps:Array Operand}{k:eB->Option R}{q:R}
 (h:nv rd fn first caps k=aa q)(hs:aL U H F w ob n):∃e,k e=aa q/\cK P U H F w ρ ob n ⟨aa d, .makeFunc fn first caps,ty,pos,aft,ae⟩ e:=by
 unfold nv at h;split at h
 case h_2=>cases h
 rename_i f hf;split at h
 case h_2=>cases h
 rename_i cs rB
 have Rb:first= #[]:=by rw[<-ajq (xs:=first),hf]
 subst Rb
 have e:caps.map (ev ρ)=(caps.toList.map (ev ρ)).toArray:=by rw[<-List.map_toArray,ajq]
 exact⟨_,h,cq hs (v:= .func (.func f) #[] (caps.toList.map (ev ρ)).toArray) (by simp[execOp,Instr.makeFunc,e]) ⟨_,rfl,zb gE rB⟩⟩
noncomputable def rm{R:Type}{P:Program}(E:Env P)(rd:Operand->Option aI)(objs:List (Nat×(Nat×Th)))(n:Nat)(callee:Callee)(args:Array Operand)(wG:Array TypeId)(k:eB->Option R):Option R:=
 match callee with
 | .builtin .len=>match args.toList,wG.toList with
   |[x],[t]=>match rd x with
    |some D=>match It E.T (find objs) t D with
     |some D'=>k {dst:=D'}
     |none=>ae
    |none=>ae
   |_,_=>ae
 | .builtin .cap=>match args.toList,wG.toList with
   |[x],[t]=>match rd x with
    |some D=>match QM E.T t D with
     |some D'=>k {dst:=D'}
     |none=>ae
    |none=>ae
   |_,_=>ae
 | .builtin .append=>match args.toList,wG.toList with
   |[x,y],[t,t']=>bif aiK t t' then(match rd x with
    |some X=>match rd y with
     |some Y=>oN E.T (find objs) n t X Y k
     |none=>ae
    |none=>ae)else(match rd x with
    |some X=>match rd y with
     |some Y=>oH E.T (find objs) n t t' X Y k
     |none=>ae
    |none=>ae)
   |_,_=>ae
 | .builtin .max=>match args.toList,wG.toList with
   |[x,y],[_,_]=>match rd x with
    |some X=>match rd y with
     |some Y=>match vy af X Y with
      |some D=>k {dst:=D}
      |none=>ae
     |none=>ae
    |none=>ae
   |_,_=>ae
 | .builtin .min=>match args.toList,wG.toList with
   |[x,y],[_,_]=>match rd x with
    |some X=>match rd y with
     |some Y=>match vy ag X Y with
      |some D=>k {dst:=D}
      |none=>ae
     |none=>ae
    |none=>ae
   |_,_=>ae
 | .value g=>yY E.tab rd objs n g args.toList k
 | .invoke x name=>qQ E.T E.tab rd objs n x name args.toList k
 |_=>ae
noncomputable def Oj{R:Type}{P:Program}(E:Env P)(rd:Operand->Option aI)(objs:List (Nat×(Nat×Th)))(n:Nat)(dst:Option Nat)(op:Op)(k:eB->Option R):Option R:=
 match dst with
 |none=>match op with
  | .store t x y=>match rd x with
    |some X=>match rd y with
     |some Y=>qO E.T (find objs) n t X Y k
     |none=>ae
    |none=>ae
  | .call c=>rm E rd objs n c.callee c.args c.argTypes k
  | .mapUpdate t m x y=>match rd m with
    |some M=>match rd x with
     |some X=>match rd y with
      |some Y=>ld E.T (find objs) n t M X Y k
      |none=>ae
     |none=>ae
    |none=>ae
  |_=>ae
 |some _=>match op with
  | .move x=>match rd x with
    |some D=>k {dst:=D}
    |none=>ae
  | .assign x=>match rd x with
    |some D=>k {dst:=D}
    |none=>ae
  | .pick c x y=>match rd c with
    |some C=>match asBool C with
     |some b=>match(if b=af then rd x else rd y)with
      |some D=>k {dst:=D}
      |none=>ae
     |none=>ae
    |none=>ae
  | .alloc t=>tH E.T n t k
  | .box t x=>match rd x with
    |some X=>Is n t X k
    |none=>ae
  | .build t ps=>tI E.T rd t ps k
  | .buildSlice t m ps=>vC E.deep E.T rd (find objs) n t m ps k
  | .load t x=>match rd x with
    |some X=>p8 E.T (find objs) n t X k
    |none=>ae
  | .nilCheck x=>match rd x with
    |some (.ptr o p off)=>k {dst:= .ptr o p off}
    |some (.elem o s r i z p off)=>k {dst:= .elem o s r i z p off}
    |some (.dlm o d i p off)=>k {dst:= .dlm o d i p off}
    |some (.at r z)=>k {dst:= .at r z}
    |_=>ae
  | .binOp o t x y _=>match rd x with
    |some X=>match rd y with
     |some Y=>Iz E.T (find objs) o t (T5 y) X Y k
     |none=>ae
    |none=>ae
  | .unOp o _ x=>match rd x with
    |some X=>match Yd o X with
     |some D=>k {dst:=D}
     |none=>ae
    |none=>ae
  | .convert s t x=>match rd x with
    |some X=>match K7 E.T s t X with
     |some D=>k {dst:=D}
     |none=>ae
    |none=>ae
  | .makeSlice t a b=>match rd a with
    |some A=>match asInt A with
     |some (_,i)=>match rd b with
      |some B=>match asInt B with
       |some (_,j)=>wq E.deep E.T n t (p5 a b) i j k
       |none=>ae
      |none=>ae
     |none=>ae
    |none=>ae
  | .slice t x lo hi ae=>match rd x with
    |some X=>tJ E.drop E.T rd (find objs) n t X lo hi k
    |none=>ae
  | .slice t x lo (aa hi) (aa mx)=>match rd x with
    |some X=>qJ E.T rd (find objs) t X lo hi mx k
    |none=>ae
  | .fieldAddr t x f=>match rd x with
    |some X=>match Eu E.T t f X with
     |some D=>k {dst:=D}
     |none=>ae
    |none=>ae
  | .field t x f=>match rd x with
    |some X=>match Ah E.T t f X with
     |some D=>k {dst:=D}
     |none=>ae
    |none=>ae
  | .indexAddr t x y=>match rd x with
    |some X=>match rd y with
     |some Y=>match asInt Y with
      |some (_,i)=>tF E.T (find objs) t X i k
      |none=>ae
     |none=>ae
    |none=>ae
  | .index t x y=>match rd x with
    |some X=>match rd y with
     |some Y=>match asInt Y with
      |some (_,i)=>qK E.T (find objs) t X i k
      |none=>ae
     |none=>ae
    |none=>ae
  | .extract x i=>match rd x with
    |some X=>match wa X i with
     |some D=>k {dst:=D}
     |none=>ae
    |none=>ae
  | .call c=>rm E rd objs n c.callee c.args c.argTypes k
  | .makeFunc fn first caps=>nv rd fn first caps k
  | .makeMap t ae=>nu E.deep E.T n t k
  | .lookup t m x ok=>match rd m with
    |some M=>match rd x with
     |some X=>oL E.T (find objs) n t ok M X k
     |none=>ae
    |none=>ae
  | .makeInterface t x=>match rd x with
    |some X=>IQ E.T t X k
    |none=>ae
  | .typeAssert x _ t ok=>match rd x with
    |some X=>qP E.T t ok X k
    |none=>ae
  |_=>ae
section
variable {P:Program} {ρ:Nat->Value} {w w':World} {H H':aK} {F F':Nat->Prop} {U:Nat->Prop} {n:Nat} {R:Type}
variable {ty:TypeId} {pos:String} {aft:Array Edge} {dst:Option Nat} {d:Nat}
def ee{α:Type}{a:Array α}{l:List α}(h:a.toList=l):a=l.toArray:=by grind
def LB(E:Env P){rd:Operand->Option aI}(gE:∀x d,rd x=aa d->aG H F w d (ev ρ x)){objs:List (Nat×(Nat×Th))}{c:Call}{k:eB->Option R}{q:R}
 (h:rm E rd objs n c.callee c.args c.argTypes k=aa q)(hs:aL U H F w (find objs) n):∃e,k e=aa q/\cK P U H F w ρ (find objs) n ⟨aa d, .call c,ty,pos,aft,ae⟩ e:=by
 obtain⟨callee,args,wG⟩:=c;simp only at h;unfold rm at h;split at h
 .split at h
  case h_2=>cases h
  rename_i x t ha ht;obtain rfl:=ee ha;obtain rfl:=ee ht;split at h
  case h_2=>cases h
  rename_i D hD;split at h
  case h_2=>cases h
  rename_i D' Gs;exact⟨_,h,GB E.T Gs hs (gE _ _ hD)⟩
 .split at h
  case h_2=>cases h
  rename_i x t ha ht;obtain rfl:=ee ha;obtain rfl:=ee ht;split at h
  case h_2=>cases h
  rename_i D hD;split at h
  case h_2=>cases h
  rename_i D' Gs;exact⟨_,h,NO E.T Gs hs (gE _ _ hD)⟩
 .split at h
  case h_2=>cases h
  rename_i x y t t' ha ht;obtain rfl:=ee ha;obtain rfl:=ee ht
  cases hb:aiK t t' with
  |true=>
   rw[hb,cond_true]at h;obtain rfl:=beq_true hb;split at h
   case h_2=>cases h
   rename_i X hX;split at h
   case h_2=>cases h
   rename_i Y hY;exact Cr E.T h hs (gE _ _ hX) (gE _ _ hY)
  |false=>
   rw[hb,cond_false]at h;split at h
   case h_2=>cases h
   rename_i X hX;split at h
   case h_2=>cases h
   rename_i Y hY;exact B6 E.T h hs (gE _ _ hX) (gE _ _ hY)
 .split at h
  case h_2=>cases h
  rename_i x y t t' ha ht;obtain rfl:=ee ha;obtain rfl:=ee ht
  grind [wb]
 .split at h
  case h_2=>cases h
  rename_i x y t t' ha ht;obtain rfl:=ee ha;obtain rfl:=ee ht
  grind [wb]
 .exact CI E.ok gE h hs
 .exact wI E.T E.ok gE h hs
 .cases h
def Ol:Callee->Bool
 | .value _=>af
 | .invoke .. =>af
 |_=>ag
def yf(E:Env P){rd:Operand->Option aI}(gE:∀x d,rd x=aa d->aG H F w d (ev ρ x)){objs:List (Nat×(Nat×Th))}{c:Call}{k:eB->Option R}{q:R}(hc:Ol c.callee=af)
 (h:rm E rd objs n c.callee c.args c.argTypes k=aa q)(hs:aL U H F w (find objs) n):∃e,k e=aa q/\cK P U H F w ρ (find objs) n ⟨ae, .call c,ty,pos,aft,ae⟩ e:=by
 obtain⟨callee,args,wG⟩:=c;simp only at h hc
 cases callee with
 |value g=>exact CI E.ok gE h hs
 |invoke x name=>exact wI E.T E.ok gE h hs
 |builtin b=>cases hc
end
section
variable {P:Program} {ρ:Nat->Value} {w w':World} {H H':aK} {F F':Nat->Prop} {U:Nat->Prop} {n:Nat} {R:Type}
variable {ty:TypeId} {pos:String} {aft:Array Edge} {dst:Option Nat} {d:Nat}
def IT{c x y:Operand}{b:Bool}{D:aI}{ob:Nat->Option (Nat×Th)}(hs:aL U H F w ob n)(hc:ev ρ c= .bool b)(hx:aG H F w D (ev ρ (if b=af then x else y))):cK P U H F w ρ ob n ⟨aa d, .pick c x y,ty,pos,aft,ae⟩ {dst:=D}:=by
 cases b with
 |true=>exact bc hs (vK hc rfl) hx
 |false=>exact bc hs (vf hc rfl) hx
def LC(E:Env P){rd:Operand->Option aI}(gE:∀x d,rd x=aa d->aG H F w d (ev ρ x)){objs:List (Nat×(Nat×Th))}{op:Op}{k:eB->Option R}{q:R}
 (BJ:dst=ae->∀c,op= .call c->Ol c.callee=af)(h:Oj E rd objs n dst op k=aa q)(hs:aL U H F w (find objs) n):∃e,k e=aa q/\cK P U H F w ρ (find objs) n ⟨dst,op,ty,pos,aft,ae⟩ e:=by
 cases dst with
 |none=>
  unfold Oj at h;simp only at h;split at h
  .split at h
   case h_2=>cases h
   rename_i X hX;split at h
   case h_2=>cases h
   rename_i Y hY;exact EL E.T h hs (gE _ _ hX) (gE _ _ hY)
  .rename_i c;exact yf E gE (BJ rfl c rfl) h hs
  .split at h
   case h_2=>cases h
   rename_i M hM;split at h
   case h_2=>cases h
   rename_i X hX;split at h
   case h_2=>cases h
   rename_i Y hY;exact wz E.T h hs (gE _ _ hM) (gE _ _ hX) (gE _ _ hY)
  .cases h
 |some d=>
  unfold Oj at h;simp only at h;split at h
  .grind [IA]
  .grind [Cb]
  .split at h
   case h_2=>cases h
   rename_i C hC;split at h
   case h_2=>cases h
   rename_i b hb;split at h
   case h_2=>cases h
   rename_i D hD;refine⟨_,h,IT hs (oF hb (gE _ _ hC)) ?_⟩
   grind
  .exact Ir E.T h hs
  .split at h
   case h_2=>cases h
   rename_i X hX;exact NN h hs (gE _ _ hX)
  .exact Iw E.T gE h hs
  .exact EM E.deep E.T gE h hs
  .split at h
   case h_2=>cases h
   rename_i X hX;exact IJ E.T h hs (gE _ _ hX)
  .split at h
   .rename_i o p off hX;obtain⟨b,h1,h2⟩:=gE _ _ hX;exact⟨_,h,cq hs (v:= .pointer (aa ⟨b,off,ae⟩)) (by simp[execOp,h2]) ⟨b,h1,rfl⟩⟩
   .rename_i o s r i z p off hX;have hd:=gE _ _ hX;obtain⟨g,o0,q,T,m,cap,l,_,_,_,_,h2⟩:=id hd;exact⟨_,h,cq hs (v:= .pointer (aa ⟨g,o0+q*r.size+off,ae⟩)) (by simp[execOp,h2]) (by rw[<-h2];exact hd)⟩
   .rename_i o d i p off hX;have hd:=gE _ _ hX;obtain⟨g,o0,q,m,cap,_,_,h2⟩:=id hd;exact⟨_,h,cq hs (v:= .pointer (aa ⟨g,o0+q*d.low.size+off,ae⟩)) (by simp[execOp,h2]) (by rw[<-h2];exact hd)⟩
   .rename_i r z hX;have hd:=gE _ _ hX;obtain⟨b,off,h2,_⟩:=id hd;exact⟨_,h,cq hs (v:= .pointer (aa ⟨b,off,ae⟩)) (by simp[execOp,h2]) (by rw[<-h2];exact hd)⟩
   .cases h
  .split at h
   case h_2=>cases h
   rename_i X hX;split at h
   case h_2=>cases h
   rename_i Y hY;exact NS E.T h hs (gE _ _ hX) (gE _ _ hY)
  .grind [QX]
  .split at h
   case h_2=>cases h
   rename_i X hX;split at h
   case h_2=>cases h
   rename_i D hD;exact⟨_,h,K8 E.T hD hs (gE _ _ hX)⟩
  .split at h
   case h_2=>cases h
   rename_i A hA;split at h
   case h_2=>cases h
   rename_i i hi;split at h
   case h_2=>cases h
   rename_i B hB;split at h
   case h_2=>cases h
   rename_i j hj;exact II E.deep E.T h hs (fK hi (gE _ _ hA)) (fK hj (gE _ _ hB))
  .split at h
   case h_2=>cases h
   rename_i X hX;exact Iy E.drop E.T gE h hs (gE _ _ hX)
  .split at h
   case h_2=>cases h
   rename_i X hX;exact EB E.T gE h hs (gE _ _ hX)
  .split at h
   case h_2=>cases h
   rename_i X hX;split at h
   case h_2=>cases h
   rename_i D hD;exact⟨_,h,Il E.T hD hs (gE _ _ hX)⟩
  .split at h
   case h_2=>cases h
   rename_i X hX;split at h
   case h_2=>cases h
   rename_i D hD;exact⟨_,h,ED E.T hD hs (gE _ _ hX)⟩
  .split at h
   case h_2=>cases h
   rename_i X hX;split at h
   case h_2=>cases h
   rename_i Y hY;split at h
   case h_2=>cases h
   rename_i i hi;exact Im E.T h hs (gE _ _ hX) (fK hi (gE _ _ hY))
  .split at h
   case h_2=>cases h
   rename_i X hX;split at h
   case h_2=>cases h
   rename_i Y hY;split at h
   case h_2=>cases h
   rename_i k' i hi;exact EF E.T h hs (gE _ _ hX) (fK hi (gE _ _ hY))
  .grind [Ca]
  .exact LB E gE h hs
  .exact Az gE h hs
  .exact Au E.deep E.T h hs
  .split at h
   case h_2=>cases h
   rename_i M hM;split at h
   case h_2=>cases h
   rename_i X hX;exact Co E.T h hs (gE _ _ hM) (gE _ _ hX)
  .split at h
   case h_2=>cases h
   rename_i X hX;exact Oi E.T h hs (gE _ _ hX)
  .split at h
   case h_2=>cases h
   rename_i X hX;exact E0 E.T h hs (gE _ _ hX)
  .cases h
end
def qb(rd:Operand->Option aI)(x:Operand):List Nat:=
 match rd x with
 |some (.val _ t)=>t.owns
 |_=>[]
def AA(rd:Operand->Option aI)(x:Operand):List Nat:=
 match rd x with
 |some (.val _ (.view o _ _ _))=>[o]
 |_=>[]
def GV(rd:Operand->Option aI):List Operand->List Nat
 |[]=>[]
 |x::xs=>qb rd x++GV rd xs
def tX:Operand->Bool
 | .const (.slice ae 0 0)=>af
 |_=>ag
def GW(rd:Operand->Option aI):Op->List Nat
 | .store _ x y=>match rd x with
   |some (.elem ..)=>qb rd y
   |_=>[]
 | .buildSlice _ _ ps=>GV rd (ps.toList.map (·.2))
 | .binOp .eql _ x y _=>bif tX y then[]else qb rd x++qb rd y
 | .binOp .neq _ x y _=>bif tX y then[]else qb rd x++qb rd y
 | .slice _ x _ _ _=>AA rd x
 | .indexAddr _ x _=>AA rd x
 | .call c=>match c.callee,c.args.toList with
   | .builtin .append,[_,y]=>AA rd y
   |_,_=>[]
 | .mapUpdate _ _ _ y=>qb rd y
 |_=>[]
def CK(nt:Nat):Option Nat->Bool
 |some d=>ajg d nt
 |none=>af
def fnB(dst:Option Nat)(op:Op):Bool:=
 match dst with
 |some _=>af
 |none=>match op with
  | .call c=>Ol c.callee
  |_=>af
open Classical in
noncomputable def yg{α:Type}(a b:Option α):Option α:=if a=b then a else ae
def Rc{α:Type}{a b:Option α}{q:α}(h:yg a b=aa q):a=aa q:=by
 grind [yg]
def Re{α:Type}{a b:Option α}{q:α}(h:yg a b=aa q):b=aa q:=by
 grind [yg]
def LD{P:Program}(T:bk P)(rd:Operand->Option aI)(ob:Nat->Option (Nat×Th)):Op->Option (Bool×Nat)
 | .binOp o t x y _=>match o with
   | .eql=>bif tX y then(match find T.und t with
     |some (.slice _)=>match rd x with
      |some X=>match sy ob X with
       |some (.read _ l)=>aa (ag,l.length)
       |some (.own _ _ _ _ l)=>aa (ag,l.length)
       |_=>ae
      |none=>ae
     |_=>ae)else ae
   | .neq=>bif tX y then(match find T.und t with
     |some (.slice _)=>match rd x with
      |some X=>match sy ob X with
       |some (.read _ l)=>aa (af,l.length)
       |some (.own _ _ _ _ l)=>aa (af,l.length)
       |_=>ae
      |none=>ae
     |_=>ae)else ae
   |_=>ae
 |_=>ae
def PS(objs:List (Nat×(Nat×Th))):Option aI->Bool
 |some (.val ag (.own o))=>match find objs o with
  |some (_, .dmap ..)=>af
  |_=>ag
 |_=>ag
def LF(rd:Operand->Option aI)(objs:List (Nat×(Nat×Th))):Op->List Nat
 | .mapUpdate t m x y=>bif PS objs (rd m)then[]else GW rd (.mapUpdate t m x y)
 | .lookup t m x ag=>bif PS objs (rd m)then qb rd m else[]
 |op=>GW rd op
def rN{P:Program}(E:Env P)(rd:Operand->Option aI)(objs:List (Nat×(Nat×Th)))(op:Op):List Nat:=
 match E.deep,op with
 |true, .buildSlice .. =>[]
 |_,_=>LF rd objs op
noncomputable def wJ(st:State)(o:Nat):State:=
 match Lh (find st.objs) st.nxt o with
 |some e=>st.apply ae e
 |none=>st
noncomputable def uL(st:State):List Nat->State
 |[]=>st
 |o::os=>uL (wJ st o) os
def PT:List (Nat×(Nat×Th))->Bool
 |[]=>ag
 |(_,(_, .deep _ _ _ (aa _)))::_=>af
 |(_,(_, .dmap _ _ _ _ _ (aa _)))::_=>af
 |_::l=>PT l
noncomputable def pP(st:State):State:=
 match PT st.objs with
 |true=>uL (uL st (st.objs.map (·.1))) (st.objs.map (·.1))
 |false=>st
def UE:Op->Bool
 | .call c=>Ol c.callee
 |_=>ag
def AB(o:Nat):List (Nat×(Nat×Th))->Bool
 |[]=>ag
 |(_,(_, .deep _ _ _ (aa h)))::l=>aiK h.o o||AB o l
 |(_,(_, .dmap _ _ _ _ _ (aa h)))::l=>aiK h.2 o||AB o l
 |_::l=>AB o l
def Om(st:State)(x:Operand):Bool:=
 match J8 st.aJ x with
 |some (.val _ (.own o))=>AB o st.objs
 |_=>ag
def LG(st:State):Op->Bool
 | .call c=>c.args.toList.any (Om st)
 |_=>ag
noncomputable def GX{R:Type}{P:Program}(E:Env P)(dst:Option Nat)(op:Op)(st:State)(k:State->Option R):Option R:=
 match fg st.objs (rN E (J8 st.aJ) st.objs op)with
 |some bh=>match LD E.T (J8 st.aJ) (find bh) op with
  |some (b,m)=>match dst with
   |some d=>if aiK m 0=af then yg (k (State.apply {st with objs:=bh} (aa d) {dst:=ey af})) (k (State.apply {st with objs:=bh} (aa d) {dst:=ey ag}))
     else k (State.apply {st with objs:=bh} (aa d) {dst:=ey b})
   |none=>ae
  |none=>bif fnB dst op then Oj E (J8 st.aJ) bh st.nxt dst op (λe=>k (State.apply {st with objs:=bh} dst e))else ae
 |none=>ae
noncomputable def wK{R:Type}{P:Program}(E:Env P)(dst:Option Nat)(op:Op)(st:State)(k:State->Option R):Option R:=
 match E.deep&&UE op&& !LG st op with
 |true=>GX E dst op (pP st) k
 |false=>GX E dst op st k
def GY(all:Array Oper)(j:Nat):Option Nat:=(all[j]?).bind (·.dst)
def State.put(st:State)(dst:Option Nat)(d:aI):State:=
 match dst with
 |some t=>{st with aJ:=(t,d)::st.aJ}
 |none=>st
def wL(dst:Option Nat)(kn:List (Nat×Bool)):List (Nat×Bool):=
 match dst with
 |some d=>del [d] kn
 |none=>kn
noncomputable def runs{R:Type}{P:Program}(E:Env P)(nt:Nat)(all:Array Oper):List Oper->List (Nat×Bool)->State->(State->Option R)->Option R
 |[],_,st,k=>k st
 |o::os,kn,st,k=>bif CK nt o.dst then(match o.guard with
  |none=>wK E o.dst o.op st (λdB=>runs E nt all os (wL o.dst kn) dB k)
  |some (j,b)=>match GY all j with
   |none=>ae
   |some g=>bif ajg g nt then(match find kn g with
    |some v=>bif (bif v then b else !b)then wK E o.dst o.op st (λdB=>runs E nt all os (wL o.dst kn) dB k)else runs E nt all os (wL o.dst kn) (st.put o.dst .undef) k
    |none=>match find st.aJ g with
     |some .undef=>runs E nt all os (wL o.dst kn) (st.put o.dst .undef) k
     |some d=>match asBool d with
      |some t=>if t=af then
        (bif b then wK E o.dst o.op (st.put (aa g) (ey af)) (λdB=>runs E nt all os (wL o.dst ((g,af)::kn)) dB k)
          else runs E nt all os (wL o.dst ((g,af)::kn)) ((st.put (aa g) (ey af)).put o.dst .undef) k)
       else
        (bif b then runs E nt all os (wL o.dst ((g,ag)::kn)) ((st.put (aa g) (ey ag)).put o.dst .undef) k
          else wK E o.dst o.op (st.put (aa g) (ey ag)) (λdB=>runs E nt all os (wL o.dst ((g,ag)::kn)) dB k))
      |none=>ae
     |none=>ae)else ae)else ae
section
variable {P:Program} {nt:Nat} {ops:Array Oper} {K:(Nat->Value)->World->Prop} {rest:List Oper} {R:Type}
variable {ρ:Nat->Value} {w w0:World} {H:aK} {F F0 G:Nat->Prop}
abbrev UU(G:Nat->Prop)(w0:World):Nat->Prop:=λk=>w0.heap.size<=k\/G k
def Ll.mQ{H':aK}{F':Nat->Prop}{w':World}{g:Nat->Prop}(hg:Ll G w0 F0 w F)(he:Nj H F w H' F' w' g)(hu:∀k,g k->UU G w0 k):Ll G w0 F0 w' F':=by
 have kP:=hg.ext.size;refine⟨⟨he.ext.os.trans hg.ext.os,he.ext.tape.trans hg.ext.tape,he.ext.output.trans hg.ext.output,aiY kP he.ext.size,λk hk hn=>?_⟩,λb hb=>he.le b (hg.le b hb),λb hb=>?_⟩
 .rw[he.ext.block k (by omega) λh=>?_]
  .exact hg.ext.block k hk hn
  grind
 .rcases he.grow b hb with h1|h1|h1
  .exact hg.new b h1
  all_goals grind
structure c7(G:Nat->Prop)(w0:World)(F0:Nat->Prop)(H:aK)(F:Nat->Prop)(w:World)(ρ:Nat->Value)(st:State):Prop where
 sat:Sat (UU G w0) H F w ρ st
 glob:Ll G w0 F0 w F
def cQ.CL{H':aK}{F':Nat->Prop}{w':World}{g:Nat->Prop}(he:Nj H F w H' F' w' g)(hF:∀b,F b->b<w.heap.size)(hg:∀k,g k->¬F k):cQ H F w H' F' w':=⟨he.kg,he.step hF hg⟩
def c7.vh{st:State}{os:List Nat}{bh:List (Nat×(Nat×Th))}(h:c7 G w0 F0 H F w ρ st)(hf:fg st.objs os=aa bh):
 ∃F',c7 G w0 F0 H F' w ρ {st with objs:=bh}/\cQ H F w H F' w:=by
 obtain⟨F',a1,a2,a3⟩:=oO hf h.sat.ob
 have gq:Step F w F' w:=λb hb=>⟨a2 b hb,rfl⟩
 refine⟨F',⟨⟨λt d hd=>(h.sat.slot t d hd).keep (aK.le.refl H) gq,a1,h.sat.all⟩,⟨h.glob.ext,λb hb=>a2 b (h.glob.le b hb),λb hb=>?_⟩⟩,⟨aK.le.refl H,gq⟩⟩
 rcases a3 b hb with h1|h1
 .exact h.glob.new b h1
 .exact .inr (h.sat.ob.iF b h1)
def E3{P:Program}{ρ:Nat->Value}{w:World}{o:BinOp}(sN:o= .eql\/o= .neq){t u e:TypeId}{x y:Operand}{d:Nat}{ty:TypeId}{pos:String}{aft:Array Edge}(hu:P.underlying t=aa (.slice e)){A:Option Addr}{m c:Nat}(hx:ev ρ x= .slice A m c)(hy:ev ρ y= .slice ae 0 0):
 (execOp (ev ρ) ⟨aa d, .binOp o t x y u,ty,pos,aft,ae⟩).run P w= .ok (.value (.bool (bif decide (o= .eql)then A.isNone else !A.isNone))) w:=by
 have hm:Op.maxDepth=9999+1:=rfl
 have he:(Op.equal t (.slice A m c) (.slice ae 0 0)).run P w= .ok A.isNone w:=by
  unfold Op.equal;rw[hm];unfold Op.equalIn;rw[ai1,run_underlying hu]
  cases A<;>rfl
 rcases sN with rfl|rfl
 .simp[execOp,eqGuard,binOp,hx,hy,he]
 .simp[execOp,eqGuard,binOp,hx,hy,he]
def LH{P:Program}(T:bk P){U:Nat->Prop}{H:aK}{F:Nat->Prop}{w:World}{ρ:Nat->Value}{n:Nat}{ob:Nat->Option (Nat×Th)}{rd:Operand->Option aI}(gE:∀x d,rd x=aa d->aG H F w d (ev ρ x))(hs:aL U H F w ob n){op:Op}{b:Bool}{m:Nat}(h:LD T rd ob op=aa (b,m)){d:Nat}{ty:TypeId}{pos:String}{aft:Array Edge}:
 ∃r:Bool,(m≠0->r=b)/\(execOp (ev ρ) ⟨aa d,op,ty,pos,aft,ae⟩).run P w= .ok (.value (.bool r)) w:=by
 have isn:∀{y:Operand},tX y=af->ev ρ y= .slice ae 0 0:=by
  intro y hy;unfold tX at hy;split at hy
  .rfl
  .cases hy
 have key:∀{k:KY}{v:Value},NK U H F w ob v k->∀m,(match k with| .read _ l=>l.length=m| .own _ _ _ _ l=>l.length=m|_=>False)->∃A n c,v= .slice A n c/\(m≠0->A.isNone=ag):=by
  intro k v hk m hm
  cases k with
  |read r l=>
   obtain⟨A,cap,hv,_,_,h3⟩:=hk;simp only[ajw,and_true]at hv;refine⟨A,_,cap,hv,λh0=>?_⟩;obtain⟨b,off,es,rfl,_⟩:=h3 0 (by dsimp only at hm;omega);rfl
  |own o s T r l=>
   obtain⟨xs,hx,_⟩:=hk.2.2.2
   rcases hx.2 with⟨rfl,h0⟩|⟨g,o0,cap,cur,rfl,_⟩
   all_goals grind
  |nil=>exact hm.elim
  |view o s r m=>exact hm.elim
  |deep=>exact hm.elim
 unfold LD at h;split at h
 case h_2=>cases h
 rename_i o t x y u;split at h
 case h_3=>cases h
 all_goals
  obtain⟨hy,h⟩:=bf h;split at h
  case h_2=>cases h
  rename_i e hu;have hu:=T.und_ok _ _ hu;split at h
  case h_2=>cases h
  rename_i X hX;split at h
  case h_3=>cases h
  all_goals
   rename_i gN;obtain⟨rfl,rfl⟩:=aj5 (aiF h);obtain⟨A,n',c,hv,hA⟩:=key (gT hs gN (gE _ _ hX)) _ rfl;refine⟨_,λh0=>?_,E3 (by grind) hu hv (isn hy)⟩;rw[hA h0];rfl
def c7.wJ{st:State}(h:c7 G w0 F0 H F w ρ st)(o:Nat):∃H' F',c7 G w0 F0 H' F' w ρ (wJ st o)/\cQ H F w H' F' w:=by
 unfold Go.Proofs.YtleifhfeahnocaaGreatDoor.wJ;split
 .rename_i e he;obtain⟨H',F',hp⟩:=EP h.sat.ob he;have hs:=h.sat.apply (d:=ae) hp;exact⟨H',F',⟨hs,h.glob.mQ hp.mQ h.sat.ob.iF⟩,cQ.CL hp.mQ h.sat.ob.lt h.sat.ob.je⟩
 .exact⟨H,F,h,cQ.refl H F w⟩
def c7.uL:{os:List Nat}->{st:State}->{H:aK}->{F:Nat->Prop}->c7 G w0 F0 H F w ρ st->∃H' F',c7 G w0 F0 H' F' w ρ (uL st os)/\cQ H F w H' F' w
 |[],_,H,F,h=>⟨H,F,h,cQ.refl H F w⟩
 |o::os,st,H,F,h=>by
  obtain⟨H1,F1,h1,k1⟩:=h.wJ o;obtain⟨H2,F2,h2,k2⟩:=c7.uL (os:=os) h1;exact⟨H2,F2,h2,k1.trans k2⟩
def c7.pP{st:State}(h:c7 G w0 F0 H F w ρ st):∃H' F',c7 G w0 F0 H' F' w ρ (pP st)/\cQ H F w H' F' w:=by
 unfold Go.Proofs.YtleifhfeahnocaaGreatDoor.pP;split
 case h_2=>exact⟨H,F,h,cQ.refl H F w⟩
 obtain⟨H1,F1,h1,k1⟩:=h.uL (os:=st.objs.map (·.1));obtain⟨H2,F2,h2,k2⟩:=h1.uL (os:=st.objs.map (·.1));exact⟨H2,F2,h2,k1.trans k2⟩
def CM{E:Env P}{dst:Option Nat}{op:Op}{ty:TypeId}{pos:String}{aft:Array Edge}{st:State}{k:State->Option R}{q:R}(h:GX E dst op st k=aa q)(hd:CK nt dst=af)(hh:c7 G w0 F0 H F w ρ st)
 (hk:∀dB H' F' w' dE,k dB=aa q->c7 G w0 F0 H' F' w' dE dB->cQ H F w H' F' w'->(∀t,dst≠aa t->dE t=ρ t)->wpS P nt ops K rest dE w'):wpS P nt ops K (⟨dst,op,ty,pos,aft,ae⟩::rest) ρ w:=by
 unfold GX at h;split at h
 case h_2=>cases h
 rename_i bh yb;obtain⟨F1,q7,TK⟩:=hh.vh yb;split at h
 .rename_i b m hn;split at h
  case h_2=>cases h
  rename_i d;obtain⟨r,hr,bG⟩:=LH E.T (ρ:=ρ) (d:=d) (ty:=ty) (pos:=pos) (aft:=aft) (λx d hx=>vS q7.sat.ob.gl q7.sat.slot x d hx) q7.sat.ob hn
  have hkr:k (State.apply {st with objs:=bh} (aa d) {dst:=ey r})=aa q:=by
   split at h
   .cases r with
    |true=>exact Rc h
    |false=>exact Re h
   .simp_all
  have LI:cK P (UU G w0) H F1 w ρ (find bh) st.nxt ⟨aa d,op,ty,pos,aft,ae⟩ {dst:=ey r}:=cq q7.sat.ob bG (aW.gS ..)
  refine BS LI (λd' BG=>by rw[BG]at hd;exact hd) λv w' ⟨H',F',hp⟩=>?_
  have hs:=q7.sat.apply (d:=aa d) hp
  refine hk _ H' F' w' _ hkr ⟨hs,q7.glob.mQ hp.mQ q7.sat.ob.iF⟩ (TK.trans (cQ.CL hp.mQ q7.sat.ob.lt q7.sat.ob.je)) λt ht=>?_
  show Eg ρ d v t=ρ t
  rw[p4,ai (λe=>ht (by rw[e]))]
 obtain⟨BJ,h'⟩:=bf h;clear h;obtain⟨e,he,LI⟩:=LC (ρ:=ρ) (ty:=ty) (pos:=pos) (aft:=aft) E (λx d hx=>vS q7.sat.ob.gl q7.sat.slot x d hx) (λhn c hc=>by subst hn;subst hc;exact BJ) h' q7.sat.ob
 refine BS LI (λd BG=>by rw[BG]at hd;exact hd) λv w' ⟨H',F',hp⟩=>?_
 have hs:=q7.sat.apply (d:=dst) hp
 refine hk _ H' F' w' _ he ⟨hs,q7.glob.mQ hp.mQ q7.sat.ob.iF⟩ (TK.trans (cQ.CL hp.mQ q7.sat.ob.lt q7.sat.ob.je)) λt ht=>?_
 cases dst with
 |none=>rfl
 |some d=>
  show Eg ρ d v t=ρ t
  rw[p4,ai (λe=>ht (by rw[e]))]
def LJ{E:Env P}{dst:Option Nat}{op:Op}{ty:TypeId}{pos:String}{aft:Array Edge}{st:State}{k:State->Option R}{q:R}(h:wK E dst op st k=aa q)(hd:CK nt dst=af)(hh:c7 G w0 F0 H F w ρ st)
 (hk:∀dB H' F' w' dE,k dB=aa q->c7 G w0 F0 H' F' w' dE dB->cQ H F w H' F' w'->(∀t,dst≠aa t->dE t=ρ t)->wpS P nt ops K rest dE w'):wpS P nt ops K (⟨dst,op,ty,pos,aft,ae⟩::rest) ρ w:=by
 unfold wK at h;split at h
 .obtain⟨H1,F1,h1,k1⟩:=hh.pP
  exact CM h hd h1 λdB H' F' w' dE a b c d=>hk dB H' F' w' dE a b (k1.trans c) d
 .exact CM h hd hh hk
def c7.put{st:State}{dst:Option Nat}{d:aI}{v:Value}(h:c7 G w0 F0 H F w ρ st)(hd:aG H F w d v):c7 G w0 F0 H F w (vi ρ dst v) (st.put dst d):=by
 refine⟨⟨λt q hq=>?_,?_,by cases dst<;>exact h.sat.all⟩,h.glob⟩
 .cases dst with
  |none=>exact h.sat.slot t q hq
  |some s=>
   have xN:find ((s,d)::st.aJ) t=aa q:=hq;rw[ba]at xN
   show aG H F w q (Eg ρ s v t)
   rw[p4];by_cases e:s=t
   .grind
   .rw[ai e]at xN;rw[ai (Ne.symm e)];exact h.sat.slot t q xN
 .cases dst<;>exact h.sat.ob
def c7.lit{st:State}{g:Nat}{d:aI}(h:c7 G w0 F0 H F w ρ st)(hd:aG H F w d (ρ g)):c7 G w0 F0 H F w ρ (st.put (aa g) d):=by
 refine⟨⟨λt q hq=>?_,h.sat.ob,h.sat.all⟩,h.glob⟩;have xN:find ((g,d)::st.aJ) t=aa q:=hq;rw[ba]at xN;split at xN
 .grind
 .exact h.sat.slot t q xN
def sO(ρ:Nat->Value)(kn:List (Nat×Bool)):Prop:=∀g b,find kn g=aa b->ρ g= .bool b
theorem sO.del{dE:Nat->Value}{dst:Option Nat}{kn:List (Nat×Bool)}(h:sO ρ kn)(Rf:∀t,dst≠aa t->dE t=ρ t):sO dE (wL dst kn):=by
 intro g b hg
 cases dst with
 |none=>rw[Rf g (by simp)];exact h g b hg
 |some d=>
  obtain⟨h1,h2⟩:=jc.1 hg;rw[Rf g (λe=>h1 (by simp[aiF e]))];exact h g b h2
def sO.cons{kn:List (Nat×Bool)}{g:Nat}{b:Bool}(h:sO ρ kn)(hb:ρ g= .bool b):sO ρ ((g,b)::kn):=by
 intro g' b' hg;rw[ba]at hg;split at hg
 .grind
 .exact h g' b' hg
def qR{dst:Option Nat}{v:Value}{t:Nat}(h:dst≠aa t):vi ρ dst v t=ρ t:=by
 cases dst with
 |none=>rfl
 |some d=>
  show Eg ρ d v t=ρ t
  grind [p4]
def AD{E:Env P}{q:R}:{l:List Oper}->{kn:List (Nat×Bool)}->{st:State}->{k:State->Option R}->{H:aK}->{F:Nat->Prop}->{w:World}->{ρ:Nat->Value}->runs E nt ops l kn st k=aa q->sO ρ kn->c7 G w0 F0 H F w ρ st->
 (∀dB H' F' w' dE,k dB=aa q->c7 G w0 F0 H' F' w' dE dB->cQ H F w H' F' w'->(∀t,(∀o∈l,o.dst≠aa t)->dE t=ρ t)->K dE w')->wpS P nt ops K l ρ w
 |[],kn,st,k,H,F,w,ρ,h,_,hh,hk=>NB (hk st H F w ρ h hh (cQ.refl H F w) λ_ _=>rfl)
 |o::l,kn,st,k,H,F,w,ρ,h,BK,hh,hk=>by
  unfold runs at h;obtain⟨hd,h'⟩:=bf h;clear h
  have YC:∀d,o.dst=aa d->ajg d nt=af:=λd e=>by rw[e]at hd;exact hd
  have on:∀{oR:State}{Rg:List (Nat×Bool)},wK E o.dst o.op oR (λdB=>runs E nt ops l (wL o.dst Rg) dB k)=aa q->sO ρ Rg->c7 G w0 F0 H F w ρ oR->wpS P nt ops K (⟨o.dst,o.op,o.type,o.pos,o.after,ae⟩::l) ρ w:=by
   intro oR Rg hs LK q7
   refine LJ hs hd q7 λdB H' F' w' dE e1 e2 e3 e4=>?_
   refine AD e1 (LK.del e4) e2 λLL H2 F2 w2 YD f1 f2 f3 f4=>?_
   exact hk LL H2 F2 w2 YD f1 f2 (e3.trans f3) (by grind)
  have off:∀{oR:State}{Rg:List (Nat×Bool)},runs E nt ops l (wL o.dst Rg) (oR.put o.dst .undef) k=aa q->sO ρ Rg->c7 G w0 F0 H F w ρ oR->wpS P nt ops K l (vi ρ o.dst undef) w:=by
   intro oR Rg hs LK q7
   refine AD hs (LK.del λt ht=>qR ht) (q7.put rfl) λLL H2 F2 w2 YD f1 f2 f3 f4=>?_
   exact hk LL H2 F2 w2 YD f1 f2 f3 λt ht=>(f4 t λo' jS=>ht o' (by simp[jS])).trans (qR (ht o (by simp)))
  obtain⟨dst,op,ty,pos,aft,guard⟩:=o;simp only at h' on off YC;split at h'
  .exact on h' BK hh
  .rename_i j b;split at h'
   case h_1=>cases h'
   rename_i g PU;obtain⟨PV,h⟩:=bf h';clear h'
   have wOn:ρ g= .bool b->wpS P nt ops K (⟨dst,op,ty,pos,aft,ae⟩::l) ρ w->wpS P nt ops K (⟨dst,op,ty,pos,aft,aa (j,b)⟩::l) ρ w:=λhb hw=>QE g PU PV hb hw
   have aef:∀b',ρ g= .bool b'->b'≠b->wpS P nt ops K l (vi ρ dst undef) w->wpS P nt ops K (⟨dst,op,ty,pos,aft,aa (j,b)⟩::l) ρ w:=λb' hb du hw=>by
    cases dst with
    |none=>exact zX g PU PV hb du hw
    |some d=>exact NC g PU PV hb du (YC d rfl) hw
   split at h
   .rename_i v hv;have hgv:=BK g v hv
    grind
   .split at h
    .rename_i hu;have hgu:ρ g=undef:=hh.sat.slot _ _ hu
     cases dst with
     |none=>exact xR g PU PV hgu (off h BK hh)
     |some d=>exact Kp g PU PV hgu (YC d rfl) (off h BK hh)
    .rename_i d BG;split at h
     case h_2=>cases h
     rename_i t ht;have hgt:=oF ht (hh.sat.slot _ _ BG);split at h
     .rename_i On;subst On;have q7:c7 G w0 F0 H F w ρ (st.put (aa g) (ey af)):=hh.lit (by rw[hgt];exact aW.gS ..);have LK:=BK.cons hgt
      grind
     .rename_i On
      have On:t=ag:=by cases t<;>simp_all
      subst On;have q7:c7 G w0 F0 H F w ρ (st.put (aa g) (ey ag)):=hh.lit (by rw[hgt];exact aW.gS ..);have LK:=BK.cons hgt
      grind
    .cases h
end
end
end Go.Proofs.YtleifhfeahnocaaGreatDoor
section
open _root_.Bool renaming false->ag,true->af,cond_eq_ite->ai0
open _root_.Option renaming none->ae,some->aa,bind_assoc->ajk,isSome_iff_exists->ai8
open _root_.Array renaming getElem?_eq_getElem->ajb,getElem?_eq_some_iff->aja
open _root_.List renaming length_nil->ajl,mem_cons->aju
open _root_.Nat renaming add_zero->ajO,beq->aiK,blt->ajg,zero_add->ajh
open _root_.Option.some renaming inj->aiF
open _root_.Go.Region renaming binds->akb
namespace Go.Proofs.YtleifhfeahnocaaGreatDoor
open Go Go.RowKit
section
variable {P:Program} {R:Type} {ob:Nat->Option (Nat×Th)} {n:Nat} (k:eB->Option R)
def wM{rd:Operand->Option aI}{fn:Fn}{first caps:Array Operand}:nv rd fn first caps k=(nv rd fn first caps aa).bind k:=by
 unfold nv
 repeat' first|rfl|split
def AE(T:bk P){m:Nat}{e:TypeId}{D:aI}{i:Int}:qE T m e D i k=(qE T m e D i aa).bind k:=by
 unfold qE;simp only[ai0]
 repeat' first|rfl|(rw[ajk];rfl)|split
def AF(T:bk P){t:TypeId}{D:aI}{i:Int}:qK T ob t D i k=(qK T ob t D i aa).bind k:=by
 unfold qK;simp only[ai0]
 repeat' first|rfl|(rw[ajk];rfl)|split
def CN(T:bk P){t:TypeId}{D:aI}{i:Int}:tF T ob t D i k=(tF T ob t D i aa).bind k:=by
 unfold tF;simp only[ai0]
 repeat' first|rfl|exact AE k T|(rw[ajk];rfl)|split
theorem E4(T:bk P){t:TypeId}{D:aI}:yE T ob t D k=(yE T ob t D aa).bind k:=by
 unfold yE;simp only[ai0]
 repeat' first|rfl|split|(rw[ajk];congr 1;funext x;repeat' first|rfl|split)
theorem CO(T:bk P){t:TypeId}{D V:aI}:tG T ob n t D V k=(tG T ob n t D V aa).bind k:=by
 unfold tG;simp only[ai0]
 repeat' first|rfl|split|(rw[ajk];rfl)|(rw[ajk];congr 1;funext x;repeat' first|rfl|split)
theorem CP(T:bk P){t:TypeId}{D:aI}:rI T ob n t D k=(rI T ob n t D aa).bind k:=by
 unfold rI;simp only[ai0]
 repeat' first|rfl|split|(rw[ajk];rfl)
def CQ(T:bk P){t:TypeId}{D:aI}:p8 T ob n t D k=(p8 T ob n t D aa).bind k:=by
 unfold p8
 grind [CP,E4]
theorem AG(T:bk P){t:TypeId}{D V:aI}:qL T ob n t D V k=(qL T ob n t D V aa).bind k:=by
 unfold qL;simp only[ai0]
 repeat' first|rfl|split|(rw[ajk];rfl)
def AH(T:bk P){t:TypeId}{D V:aI}:qO T ob n t D V k=(qO T ob n t D V aa).bind k:=by
 unfold qO
 grind [AG,CO]
theorem yh{e:TypeId}{dr:DR}{ds:List aI}:p7 e dr ob n ds k=(p7 e dr ob n ds aa).bind k:=by
 grind [p7]
def CR(T:bk P){t:TypeId}:tH T n t k=(tH T n t aa).bind k:=by
 grind [tH]
def IU{t:TypeId}{V:aI}:Is n t V k=(Is n t V aa).bind k:=by
 unfold Is
 repeat' first|rfl|split
theorem wN(T:bk P){t:TypeId}{s:Bool}{a b:Int}:vX T n t s a b k=(vX T n t s a b aa).bind k:=by
 grind [vX]
def CS(T:bk P){b:Bool}{t:TypeId}{s:Bool}{x y:Int}:wq b T n t s x y k=(wq b T n t s x y aa).bind k:=by
 unfold wq;split
 .unfold As
  grind [wN]
 .exact wN k T
def yi(T:bk P){t t':TypeId}{X Y:aI}:oH T ob n t t' X Y k=(oH T ob n t t' X Y aa).bind k:=by
 unfold oH
 repeat' first|rfl|split|(rw[ajk];rfl)
def AI(T:bk P){t:TypeId}{X Y:aI}:qI T ob n t X Y k=(qI T ob n t X Y aa).bind k:=by
 unfold qI;simp only[ai0]
 repeat' first|rfl|split|(rw[ajk];rfl)
def tY(T:bk P){rd:Operand->Option aI}{t:TypeId}{m:Nat}{ps:Array (Nat×Operand)}:lc T rd ob n t m ps k=(lc T rd ob n t m ps aa).bind k:=by
 unfold lc;simp only[ai0]
 repeat' first|rfl|split
def AJ{b:Bool}(T:bk P){rd:Operand->Option aI}{t:TypeId}{m:Nat}{ps:Array (Nat×Operand)}:vC b T rd ob n t m ps k=(vC b T rd ob n t m ps aa).bind k:=by
 cases b with
 |false=>exact tY k T
 |true=>
  show qN T rd ob n t m ps k=(qN T rd ob n t m ps aa).bind k
  grind [qN,yh]
def CU(T:bk P){rd:Operand->Option aI}{t:TypeId}{ps:Array (Nat×Operand)}:tI T rd t ps k=(tI T rd t ps aa).bind k:=by
 unfold tI;simp only[ai0]
 repeat' first|rfl|split
def CV(dr:Bool)(T:bk P){rd:Operand->Option aI}{t:TypeId}{D:aI}{lo hi:Option Operand}:tJ dr T rd ob n t D lo hi k=(tJ dr T rd ob n t D lo hi aa).bind k:=by
 unfold tJ;simp only[ai0]
 repeat' first|rfl|split|(rw[ajk];rfl)
def AK(T:bk P){rd:Operand->Option aI}{t:TypeId}{D:aI}{lo:Option Operand}{hi mx:Operand}:qJ T rd ob t D lo hi mx k=(qJ T rd ob t D lo hi mx aa).bind k:=by
 unfold qJ;simp only[ai0]
 repeat' first|rfl|split|(rw[ajk];rfl)
def IV(T:bk P){o:BinOp}{t:TypeId}{lit:Bool}{X Y:aI}:Iz T ob o t lit X Y k=(Iz T ob o t lit X Y aa).bind k:=by
 unfold Iz;simp only[ai0]
 repeat' first|rfl|split|(rw[ajk];rfl)
def vm(T:bk P){t:TypeId}{M X Y:aI}:kR T ob n t M X Y k=(kR T ob n t M X Y aa).bind k:=by
 unfold kR;simp only[ai0]
 repeat' first|rfl|split
def yj(T:bk P){t:TypeId}:oJ T n t k=(oJ T n t aa).bind k:=by
 unfold oJ
 repeat' first|rfl|split
def AL(T:bk P){t:TypeId}{ok:Bool}{M X:aI}:pf T ob t ok M X k=(pf T ob t ok M X aa).bind k:=by
 unfold pf;simp only[ai0]
 repeat' first|rfl|split
def yk(T:bk P){t:TypeId}{X Y:aI}:oN T ob n t X Y k=(oN T ob n t X Y aa).bind k:=by
 unfold oN
 cases Lj ob Y with
 |false=>exact AI k T
 |true=>
  simp only[cond_true];unfold sG;simp only[ai0]
  repeat' first|rfl|split|(rw[ajk];rfl)
def tZ(T:bk P){t:TypeId}{M X Y:aI}:ld T ob n t M X Y k=(ld T ob n t M X Y aa).bind k:=by
 unfold ld;simp only[ai0]
 repeat' first|rfl|exact vm k _|split
def wO(b:Bool)(T:bk P){t:TypeId}:nu b T n t k=(nu b T n t aa).bind k:=by
 unfold nu;simp only[ai0]
 repeat' first|rfl|exact yj k _|split
def yl(T:bk P){t:TypeId}{ok:Bool}{M X:aI}:oL T ob n t ok M X k=(oL T ob n t ok M X aa).bind k:=by
 unfold oL;simp only[ai0]
 repeat' first|rfl|exact AL k _|split
theorem CW{sg:oB}{bs:Bs}{bh:List (Nat×(Nat×Th))}{nd:List Nat}{y:dA sg.out.rows}:tW sg n bs bh nd y k=(tW sg n bs bh nd y aa).bind k:=by
 grind [tW]
theorem qc{objs:List (Nat×(Nat×Th))}{f:FuncId}{ds:List aI}:{tab:List (Nat×oB)}->ph objs n f ds k tab=(ph objs n f ds aa tab).bind k
 |[]=>rfl
 |(g,sg)::tab=>by
  unfold ph;have ih:=qc (objs:=objs) (f:=f) (ds:=ds) (tab:=tab)
  grind [CW]
def E5{tab:List (Nat×oB)}{rd:Operand->Option aI}{objs:List (Nat×(Nat×Th))}{g:Operand}{args:List Operand}:yY tab rd objs n g args k=(yY tab rd objs n g args aa).bind k:=by
 grind [yY,qc]
def AM(T:bk P){tab:List (Nat×oB)}{rd:Operand->Option aI}{objs:List (Nat×(Nat×Th))}{g:Operand}{name:String}{args:List Operand}:qQ T tab rd objs n g name args k=(qQ T tab rd objs n g name args aa).bind k:=by
 unfold qQ
 repeat' first|rfl|exact qc k|split
def IW(T:bk P){t:TypeId}{D:aI}:IQ T t D k=(IQ T t D aa).bind k:=by
 grind [IQ]
def AN(T:bk P){t:TypeId}{ok:Bool}{D:aI}:qP T t ok D k=(qP T t ok D aa).bind k:=by
 unfold qP;simp only[ai0]
 repeat' first|rfl|split
def E6(E:Env P){rd:Operand->Option aI}{objs:List (Nat×(Nat×Th))}{c:Callee}{args:Array Operand}{wG:Array TypeId}:rm E rd objs n c args wG k=(rm E rd objs n c args wG aa).bind k:=by
 unfold rm;simp only[ai0]
 repeat' first|rfl|exact yk k _|exact yi k _|exact E5 k|exact AM k _|split
def LM(E:Env P){rd:Operand->Option aI}{objs:List (Nat×(Nat×Th))}{dst:Option Nat}{op:Op}:Oj E rd objs n dst op k=(Oj E rd objs n dst op aa).bind k:=by
 unfold Oj
 repeat' first|rfl|exact AH k _|exact tZ k _|exact wO k _ _|exact yl k _|exact IW k _|exact AN k _|exact E6 k _|exact CR k _|exact IU k|exact CU k _|exact AJ k _|exact CQ k _|exact IV k _|exact CS k _|exact CV k _ _|exact AK k _|exact CN k _|exact AF k _|exact wM k|split
end
def jU{α:Type}(ns:List Nat):List (Nat×α)->List (Nat×α)
 |[]=>[]
 |(m,a)::l=>bif pg m ns then(m,a)::jU ns l else jU ns l
def zc{α:Type}{ns:List Nat}{l:List (Nat×α)}{n:Nat}{a:α}:find (jU ns l) n=aa a↔n∈ns/\find l n=aa a:=by
 induction l with
 |nil=>simp[jU,find]
 |cons p l ih=>
  grind [jU,fM,ba]
def tmpsOf:List Operand->List Nat
 |[]=>[]
 | .tmp t::l=>t::tmpsOf l
 |_::l=>tmpsOf l
def PW:List (Bool×Tree)->List Nat
 |[]=>[]
 |p::l=>p.2.owns++PW l
def UF:aI->List Nat
 | .val _ t=>t.owns
 | .ptr o _ _=>[o]
 | .elem o .. =>[o]
 | .dlm o .. =>[o]
 | .tup ds=>PW ds
 | .fn _ caps=>caps.map (·.1)
 | .ifc _ d=>UF d
 |_=>[]
def LN(aJ:List (Nat×aI)):List Nat->List Nat
 |[]=>[]
 |t::l=>(match find aJ t with
  |some d=>UF d
  |none=>[])++LN aJ l
def within(objs:List (Nat×(Nat×Th))):List Nat->List Nat
 |[]=>[]
 |o::l=>(match find objs o with
  |some (_, .box _ t)=>t.owns
  |_=>[])++within objs l
def Oo(aJ:List (Nat×aI))(objs:List (Nat×(Nat×Th)))(ts:List Nat):List Nat:=
 (λl=>l++within objs l) (LN aJ ts)
def zd(bh:List (Nat×(Nat×Th)))(nd:List Nat)(e:eB):eB:=
 {dst:=e.dst,eat:=nd++e.eat,make:=e.make++del e.eat (pO bh nd)}
section
variable {U:Nat->Prop} {H:aK} {F:Nat->Prop} {w:World} {n:Nat}
def IX{obj bh:List (Nat×(Nat×Th))}{nd:List Nat}{e:eB}{v:Value}{w':World}{F1:Nat->Prop}(yb:fg obj nd=aa bh)(sF:aL U H F1 w (find bh) n)(Ek:∀b,F b->F1 b)(Nr:∀b,F1 b->F b\/cC H (find obj) nd b)
 (h:lV H F1 w (find bh) n e v w'):lV H F w (find obj) n (zd bh nd e) v w':=by
 obtain⟨H',F',hp⟩:=h
 have l5:∀k,cC H (find bh) e.eat k->cC H (find obj) (nd++e.eat) k:=by
  rintro k ⟨o,ho,s,t,u,h1,h2,h3⟩
  rcases ji yb o s t h1 with h4|h4
  .exact⟨o,by simp[ho],s,t,u,h4,h2,h3⟩
  .exact(iG h4 h3).elim
 have part:∀o s t,find (e.make++del e.eat (pO bh nd)) o=aa (s,t)->find e.make o=aa (s,t)\/(o∉e.eat/\o∈nd/\find bh o=aa (s,t)/\fo t=af):=by
  intro o s t ho;rw[jb]at ho
  cases hm:find e.make o with
  |some x=>grind
  |none=>
   grind [jc,nD]
 refine⟨H',F',⟨hp.mQ.kg,⟨hp.mQ.ext.os,hp.mQ.ext.tape,hp.mQ.ext.output,hp.mQ.ext.size,λk hk hn=>hp.mQ.ext.block k hk λhh=>hn (l5 k hh)⟩,λb hb=>hp.mQ.le b (Ek b hb),λb hb=>?_,hp.mQ.lt⟩,hp.fresh,hp.dst,⟨λo s t ho=>?_,λo o' s s' t t' v v' du ho jS hv dZ k hk iK=>?_⟩,λo ho=>?_⟩
 .rcases hp.mQ.grow b hb with h1|h1|h1
  .rcases Nr b h1 with h2|⟨o,ho,rest⟩
   .exact .inl h2
   .exact .inr (.inr ⟨o,by simp[zd,ho],rest⟩)
  .exact .inr (.inl h1)
  .exact .inr (.inr (l5 b h1))
 .rcases part o s t ho with h1|⟨h1,h2,h3,h4⟩
  .obtain⟨u,a1,a2,a3,a4,a5⟩:=hp.made.obj o s t h1;exact⟨u,a1,a2,a3,a4,λk hk=>⟨(a5 k hk).1,(a5 k hk).2.1,(a5 k hk).2.2.imp id (l5 k)⟩⟩
  .obtain⟨u,hu,cP⟩:=sF.obj _ _ _ h3;have:=cP.mQ sF hp.mQ h3 h1 hu;exact⟨u,hp.mQ.kg.val _ _ hu,this.one,this.con,this.ok,λk hk=>(iG h4 hk).elim⟩
 .rcases part o s t ho with h1|⟨_,_,_,h4⟩
  .rcases part o' s' t' jS with h2|⟨_,_,_,h4'⟩
   .exact hp.made.apart o o' s s' t t' v v' du h1 h2 hv dZ k hk iK
   .exact iG h4' iK
  .exact iG h4 hk
 .obtain⟨x,hx⟩:=ai8.1 ho
  rcases part o x.1 x.2 hx with h1|⟨_,h2,_⟩
  .exact(hp.ids o (by rw[h1];rfl)).imp (λh=>by simp[zd,h]) id
  .exact .inl (by simp[zd,h2])
end
def iN(x y:Nat×Th):Prop:=x=y\/∃T d l h h',x.2= .deep T d l h/\y.2= .deep T d l h'
def iN.symm{x y:Nat×Th}(h:iN x y):iN y x:=by
 rcases h with rfl|⟨T,d,l,h,h',h1,h2⟩
 .exact .inl rfl
 .exact .inr ⟨T,d,l,h',h,h2,h1⟩
def iN.trans{x y z:Nat×Th}(h:iN x y)(h':iN y z):iN x z:=by
 rcases h with rfl|⟨T,d,l,a,b,h1,h2⟩
 .exact h'
 .rcases h' with rfl|⟨T',d',l',a',b',h3,h4⟩
  .exact .inr ⟨T,d,l,a,b,h1,h2⟩
  .rw[h2]at h3;cases h3;exact .inr ⟨T,d,l,a,b',h1,h4⟩
structure mi where
 dst:Option Nat
 ts:List Nat
 os:List Nat
 e:eB
 ls:List Nat:=[]
 soft:List Nat:=[]
def uM:List (Nat×(Nat×Th))->List Nat
 |[]=>[]
 |(o,_)::l=>o::uM l
def mi.mut(x:mi):List Nat:=x.e.eat++uM x.e.make
def E7:Op->Bool
 | .call c=>match c.callee with
   | .builtin .len=>af
   |_=>ag
 |_=>ag
def PX(rd:Operand->Option aI):Op->List Nat
 | .load _ x=>match rd x with
   |some (.dlm o _ _ _ _)=>[o]
   |_=>[]
 |_=>[]
def iB(st:State)(op:Op):List Nat:=
 match op with
 | .move _=>[]
 | .assign _=>[]
 | .extract _ _=>[]
 | .fieldAddr _ _ _=>[]
 | .load _ _=>LN st.aJ (tmpsOf op.operands.toList)
 |_=>Oo st.aJ st.objs (tmpsOf op.operands.toList)
noncomputable def ze{R:Type}{P:Program}(E:Env P)(dst:Option Nat)(op:Op)(gs:List Nat)(st:State)(k:eB->mi->Option R):Option R:=
 match fg (jU (iB st op) st.objs) (rN E (J8 (jU (tmpsOf op.operands.toList) st.aJ)) (jU (iB st op) st.objs) op)with
 |some bh=>bif fnB dst op then Oj E (J8 (jU (tmpsOf op.operands.toList) st.aJ)) bh st.nxt dst op (λe=>
   (λe'=>k e' {dst:=dst,ts:=tmpsOf op.operands.toList++gs,os:=bif E7 op then[]else iB st op,e:=e',ls:=bif E7 op then iB st op else[],soft:=PX (J8 (jU (tmpsOf op.operands.toList) st.aJ)) op}) (zd bh (rN E (J8 (jU (tmpsOf op.operands.toList) st.aJ)) (jU (iB st op) st.objs) op) e))else ae
 |none=>ae
structure PY(P:Program)(U:Nat->Prop)(o:Oper)(sl:Nat->Option aI)(ob:Nat->Option (Nat×Th))(n:Nat)(GZ:mi):Prop where
 dst:GZ.dst=o.dst
 run:∃(YE:Nat->Option aI)(Nk:Nat->Option (Nat×Th)),(∀t d,YE t=aa d->t∈GZ.ts/\sl t=aa d)/\(∀q x,Nk q=aa x->(q∈GZ.os\/q∈GZ.ls)/\ob q=aa x)/\
  ∀(H:aK)(F:Nat->Prop)(w:World)(ρ:Nat->Value)(IY:Nat->Option (Nat×Th)),(∀q x,Nk q=aa x->∃x',IY q=aa x'/\iN x x'/\(q∈GZ.os->x'=x))->(∀t d,YE t=aa d->aG H F w d (ρ t))->aL U H F w IY n->
   ∃YF:Nat->Option (Nat×Th),(∀q x,YF q=aa x->IY q=aa x)/\cz P ρ ⟨o.dst,o.op,o.type,o.pos,o.after,ae⟩ w (lV H F w YF n GZ.e)
 soft:∀q∈GZ.soft,q∈GZ.mut->∃x y,ob q=aa x/\find GZ.e.make q=aa y/\iN x y
def IZ{ob KS:Nat->Option (Nat×Th)}{D:aI}{k:KY}(TL:∀q x,ob q=aa x->∃x',KS q=aa x'/\iN x x')(h:sy ob D=aa k):∃k',sy KS D=aa k'/\uE k'=uE k:=by
 unfold sy at h;split at h
 .cases h;exact⟨_,rfl,rfl⟩
 .cases h;exact⟨_,rfl,rfl⟩
 .rename_i o
  cases ho:ob o with
  |none=>rw[ho]at h;cases h
  |some x=>
   obtain⟨s,t⟩:=x;obtain⟨⟨s',t'⟩,h1,h2⟩:=TL o _ ho;rw[ho]at h
   rcases h2 with e|⟨T,d,l,a,b,e1,e2⟩
   .cases e;exact⟨k,by show(match KS o with|some (s, .own T r l)=>_|some (_, .vh _ r l)=>_|some (_, .fdeep _ d l)=>_|some (s, .deep T d l h)=>_|_=>_)=_;rw[h1];exact h,rfl⟩
   .simp only at e1 e2;subst e1 e2;cases h;exact⟨.deep o s' T d l b,by show(match KS o with|some (s, .own T r l)=>_|some (_, .vh _ r l)=>_|some (_, .fdeep _ d l)=>_|some (s, .deep T d l h)=>_|_=>_)=_;rw[h1],rfl⟩
 .rename_i o s r m
  have hk:uE k=(m.length:Int):=by
   split at h
   .rename_i s' _ _ _ _
    cases hb:aiK s' s<;>rw[hb]at h<;>cases h<;>rfl
   .cases h;rfl
  rw[hk]
  show∃k',(match KS o with|some (s', .vh ..)=>bif aiK s' s then aa (KY.read r m)else aa (.view o s r m)|_=>aa (.view o s r m))=aa k'/\uE k'=_
  split
  .rename_i s' _ _ _ _
   cases hb:aiK s' s with
   |true=>exact⟨KY.read r m,rfl,rfl⟩
   |false=>exact⟨KY.view o s r m,rfl,rfl⟩
  .exact⟨KY.view o s r m,rfl,rfl⟩
 .cases h
def I0{P:Program}(T:bk P){ob KS:Nat->Option (Nat×Th)}{t:TypeId}{D D':aI}(TL:∀q x,ob q=aa x->∃x',KS q=aa x'/\iN x x')(h:It T ob t D=aa D'):It T KS t D=aa D':=by
 unfold It at h⊢;split at h
 .split at h
  case h_2=>cases h
  rename_i k hk;obtain⟨k',h1,h2⟩:=IZ TL hk
  grind
 .exact h
 .cases h
def I1{P:Program}(T:bk P){ob:Nat->Option (Nat×Th)}{n:Nat}{t:TypeId}{o:Nat}{d:DR}{i:Int}{p:List Bool}{off:Nat}{e:eB}(h:p8 T ob n t (.dlm o d i p off) aa=aa e)(hm:o∈e.eat++uM e.make):
 ∃x y,ob o=aa x/\find e.make o=aa y/\iN x y:=by
 unfold p8 rI at h;simp only at h;split at h
 .cases h
 split at h
 case h_2=>cases h
 rename_i s T0 dr l hh ho;obtain⟨_,h⟩:=bf h;split at h
 .obtain⟨_,h⟩:=bf h;obtain⟨_,_,h⟩:=bind_some h;cases h;simp[uM]at hm
 .obtain⟨_,h⟩:=bf h;split at h
  .obtain⟨_,_,h⟩:=bind_some h;cases h;exact⟨_,(n, .deep T0 dr l _),ho,by rw[ba,aj rfl], .inr ⟨T0,dr,l,ae,_,rfl,rfl⟩⟩
  .obtain⟨_,h⟩:=bf h;split at h
   .obtain⟨_,_,h⟩:=bind_some h;cases h;simp[uM]at hm
   .cases h
 .cases h
def LO{P:Program}{E:Env P}{U:Nat->Prop}{R:Type}{o:Oper}{gs:List Nat}{st:State}{k:eB->mi->Option R}{q:R}(h:ze E o.dst o.op gs st k=aa q):
 ∃e GZ,k e GZ=aa q/\GZ.e=e/\(∀g∈gs,g∈GZ.ts)/\PY P U o (find st.aJ) (find st.objs) st.nxt GZ:=by
 unfold ze at h;split at h
 case h_2=>cases h
 rename_i bh yb;obtain⟨BJ,h'⟩:=bf h;clear h;rw[LM]at h';obtain⟨e,he,hk⟩:=bind_some h'
 have UG:∀t d,find (jU (tmpsOf o.op.operands.toList) st.aJ) t=aa d->t∈tmpsOf o.op.operands.toList/\find st.aJ t=aa d:=λt d ht=>zc.1 ht
 have Oq:∀q x,find (jU (iB st o.op) st.objs) q=aa x->q∈iB st o.op/\find st.objs q=aa x:=λq x hx=>zc.1 hx
 refine⟨_,_,hk,rfl,λg hg=>by simp[hg],rfl,⟨find (jU (tmpsOf o.op.operands.toList) st.aJ),find (jU (iB st o.op) st.objs),(by grind),λq x hx=>⟨?_,(Oq q x hx).2⟩,λH F w ρ IY TL gN cH=>?_⟩,λq hq hm=>?_⟩
 .grind
 .cases hl:E7 o.op with
  |false=>
   simp only[hl,cond_false]at TL
   have iA:∀q x,find (jU (iB st o.op) st.objs) q=aa x->IY q=aa x:=(by grind)
   have vl:aL U H F w (find (jU (iB st o.op) st.objs)) st.nxt:=⟨λo s t ho=>cH.obj o s t (iA _ _ ho),λo o' s s' t t' v v' du ho jS=>cH.apart o o' s s' t t' v v' du (iA _ _ ho) (iA _ _ jS),cH.fresh,cH.lt,cH.new,cH.gl⟩
   refine⟨_,iA,?_⟩;obtain⟨F1,sF,Ek,Nr⟩:=oO yb vl
   have gq:Step F w F1 w:=λb hb=>⟨Ek b hb,rfl⟩
   obtain⟨e',he',hs⟩:=LC (ρ:=ρ) (ty:=o.type) (pos:=o.pos) (aft:=o.after) E (λx d hx=>vS sF.gl (λt d ht=>(gN t d ht).keep (aK.le.refl H) gq) x d hx) (λhn c hc=>by rw[hn,hc]at BJ;exact BJ) he sF;obtain rfl:=aiF he'
   exact hs.mono λv w' hp=>IX yb sF Ek Nr hp
  |true=>
   refine⟨IY,λ_ _ h=>h,?_⟩;obtain⟨Rh,YG,oty,YH,YI,ogd⟩:=o;simp only at*
   cases YG<;>try(cases hl;done)
   rename_i c;obtain⟨callee,args,wG⟩:=c
   cases callee<;>try(cases hl;done)
   rename_i b
   cases b<;>try(cases hl;done)
   cases Rh with
   |none=>cases BJ
   |some d=>
    have N2:rN E (J8 (jU (tmpsOf (Op.operands (.call {callee:= .builtin .len,args:=args,argTypes:=wG})).toList) st.aJ)) (jU (iB st (.call {callee:= .builtin .len,args:=args,argTypes:=wG})) st.objs) (.call {callee:= .builtin .len,args:=args,argTypes:=wG})=[]:=by unfold rN;cases E.deep<;>rfl
    rw[N2]at yb⊢;obtain rfl:=aiF yb;have Ot:rm E _ _ st.nxt (.builtin .len) args wG aa=aa e:=he;unfold rm at Ot;simp only at Ot;split at Ot
    case h_2=>cases Ot
    rename_i x t ha ht;obtain rfl:=ee ha;obtain rfl:=ee ht;split at Ot
    case h_2=>cases Ot
    rename_i D hD;split at Ot
    case h_2=>cases Ot
    rename_i D' Gs;cases Ot;have hlen:=I0 E.T (λq x hx=>by obtain⟨x',h1,h2,_⟩:=TL q x hx;exact⟨x',h1,h2⟩) Gs;exact GB E.T hlen cH (vS cH.gl gN _ _ hD)
 .obtain⟨Rh,YG,oty,YH,YI,ogd⟩:=o;simp only at*
  cases YG<;>try(cases hq;done)
  rename_i t x;unfold PX at hq;simp only at hq;split at hq
  case h_2=>cases hq
  rename_i o' d0 i p off gE;obtain rfl:=List.mem_singleton.1 hq
  have N2:rN E (J8 (jU (tmpsOf (Op.operands (.load t x)).toList) st.aJ)) (jU (iB st (.load t x)) st.objs) (.load t x)=[]:=by unfold rN;cases E.deep<;>rfl
  rw[N2]at yb hm⊢;obtain rfl:=aiF yb
  cases Rh with
  |none=>cases he
  |some d=>
   unfold Oj at he;simp only[gE]at he
   have Ri:q∈e.eat++uM e.make:=by
    simpa[mi.mut,zd,pO,del]using hm
   obtain⟨x1,y1,h1,h2,h3⟩:=I1 E.T he Ri;refine⟨x1,y1,(Oq _ _ h1).2,?_,h3⟩
   show find (e.make++_) q=_
   rw[jb,h2];rfl
end Go.Proofs.YtleifhfeahnocaaGreatDoor
namespace Go.Proofs.YtleifhfeahnocaaGreatDoor
open Go Go.RowKit
def ym(acc:List Nat)(i:Nat):List Edge->Option Nat
 |[]=>aa 0
 |e::l=>match ym acc i l with
  |some m=>bif akb .any e then(bif ajg e.on i then aa (m|||2 ^ e.on|||acc.getD e.on 0)else ae)else aa m
  |none=>ae
def I2(acc:List Nat):List Oper->Option (List Nat)
 |[]=>aa acc
 |o::l=>match ym acc acc.length o.after.toList with
  |some m=>I2 (acc++[m]) l
  |none=>ae
def ow(d:Option Nat)(l:List Nat):Bool:=
 match d with
 |some t=>pg t l
 |none=>ag
def CX(l l':List Nat):Bool:=l.any λo=>pg o l'
def mi.UH(x:mi):List Nat:=x.mut.filter λo=> !pg o x.soft
def conflict(a b:mi):Bool:=
 ow a.dst b.ts||ow b.dst a.ts||ow a.dst (b.dst.toList)||CX a.mut (b.os++b.mut)||CX a.UH b.ls||CX (a.os++a.ls++a.mut) b.mut
def AO(ms:List Nat)(i:Nat)(x:mi):Nat->List mi->Bool
 |_,[]=>af
 |j,y::l=>(bif conflict x y then Nat.testBit (ms.getD j 0) i else af)&&AO ms i x (j+1) l
def vF(ms:List Nat):Nat->List mi->Bool
 |_,[]=>af
 |i,x::l=>AO ms i x (i+1) l&&vF ms (i+1) l
def ua(ops:List Oper)(es:List mi):Bool:=
 match I2 [] ops with
 |some ms=>vF ms 0 es
 |none=>ag
section
variable {ops:Array Oper}
def E8(ops:Array Oper)(S:Nat->Prop):Prop:=∀i,S i->∀o,ops[i]? =aa o->∀e∈o.after,akb .any e=af->S e.on
def AP{acc:List Nat}{i:Nat}:{l:List Edge}->{m:Nat}->ym acc i l=aa m->∀j,m.testBit j=af->∃e∈l,akb .any e=af/\e.on<i/\(e.on=j\/(acc.getD e.on 0).testBit j=af)
 |[],m,h,j,hj=>by
  obtain rfl:=aiF h;simp at hj
 |e::l,m,h,j,hj=>by
  unfold ym at h;split at h
  case h_2=>cases h
  rename_i m0 h0
  cases hb:akb .any e with
  |false=>
   rw[hb,cond_false]at h;obtain rfl:=aiF h;obtain⟨e',a1,a2⟩:=AP h0 j hj;exact⟨e',by simp[a1],a2⟩
  |true=>
   rw[hb,cond_true]at h
   cases aH:ajg e.on i with
   |false=>rw[aH]at h;cases h
   |true=>
    rw[aH,cond_true]at h;obtain rfl:=aiF h;rw[Nat.testBit_or,Nat.testBit_or,Bool.or_eq_true,Bool.or_eq_true]at hj
    have Ou:e.on<i:=by simpa using aH
    rcases hj with(hj|hj)|hj
    .obtain⟨e',a1,a2⟩:=AP h0 j hj;exact⟨e',by simp[a1],a2⟩
    all_goals grind
def G0{acc:List Nat}{i:Nat}:{l:List Edge}->{m:Nat}->ym acc i l=aa m->∀e∈l,akb .any e=af->e.on<i
 |[],m,h,e,he,_=>by cases he
 |e0::l,m,h,e,he,hb=>by
  unfold ym at h;split at h
  case h_2=>cases h
  rename_i m0 h0
  rcases aju.1 he with rfl|he
  .rw[hb,cond_true]at h
   cases aH:ajg e.on i<;>simp_all
  .exact G0 h0 e he hb
def AQ:{l:List Oper}->{acc ms:List Nat}->I2 acc l=aa ms->ms.length=acc.length+l.length/\(∀i,i<acc.length->ms.getD i 0=acc.getD i 0)/\
 ∀k o,l[k]? =aa o->∃m,ym ms (acc.length+k) o.after.toList=aa m/\ms.getD (acc.length+k) 0=m
 |[],acc,ms,h=>by
  obtain rfl:=aiF h
  grind
 |o0::l,acc,ms,h=>by
  unfold I2 at h;split at h
  case h_2=>cases h
  rename_i m hm;obtain⟨a1,a2,a3⟩:=AQ h;rw[List.length_append,List.length_singleton]at a1 a2 a3
  have YJ:∀i,i<acc.length->ms.getD i 0=acc.getD i 0:=(by grind)
  have aej:∀(l:List Edge)(m:Nat),ym acc acc.length l=aa m->ym ms acc.length l=aa m:=by
   intro l
   induction l with
   |nil=>intro m h;exact h
   |cons e l ih=>
    intro m h;unfold ym at h⊢;split at h
    case h_2=>cases h
    rename_i m0 h0;rw[ih m0 h0];simp only
    cases hb:akb .any e with
    |false=>rw[hb]at h;exact h
    |true=>
     rw[hb,cond_true]at h
     cases aH:ajg e.on acc.length<;>simp_all
  grind
theorem LP{ms:List Nat}(h:I2 [] ops.toList=aa ms){S:Nat->Prop}(hS:E8 ops S):∀i o,ops[i]? =aa o->(∀e∈o.after,akb .any e=af->S e.on)->∀j,(ms.getD i 0).testBit j=af->S j:=by
 obtain⟨_,_,a3⟩:=AQ h;intro i
 induction i using Nat.strongRecOn with
 |_ i ih=>
  intro o ho hd j hj;obtain⟨m,h1,h2⟩:=a3 i o (by rw[Array.getElem?_toList];exact ho);simp only[ajl,ajh]at h1 h2;rw[h2]at hj;obtain⟨e,he,hb,aH,h3⟩:=AP h1 j hj;have N4:=hd e (by simpa using he) hb
  rcases h3 with rfl|h3
  .exact N4
  .have UI:e.on<ops.size:=by
    have:=(aja.1 ho).1;omega
   exact ih e.on aH _ (ajb UI) (λe' he' pX=>hS e.on N4 _ (ajb UI) e' he' pX) j h3
end
def gQ(S:Nat->Bool):Nat->List mi->(Nat->Option aI)->Nat->Option aI
 |_,[],f=>f
 |i,x::l,f=>gQ S (i+1) l (λt=>bif S i&&ow (aa t) x.dst.toList then aa x.e.dst else f t)
def fY(S:Nat->Bool):Nat->List mi->(Nat->Option (Nat×Th))->Nat->Option (Nat×Th)
 |_,[],f=>f
 |i,x::l,f=>fY S (i+1) l (λo=>bif S i then(find x.e.make o).or (bif pg o x.e.eat then ae else f o)else f o)
theorem qS{l:List (Nat×(Nat×Th))}{o:Nat}{x:Nat×Th}(h:find l o=aa x):o∈uM l:=by
 induction l with
 |nil=>cases h
 |cons p l ih=>
  obtain⟨o',y⟩:=p;rw[ba]at h;split at h
  .rename_i e;subst e;exact List.mem_cons_self
  .exact List.mem_cons_of_mem _ (ih h)
theorem mj{d:Option Nat}{t:Nat}:ow (aa t) d.toList=af↔d=aa t:=by
 grind [ow,fM]
theorem mG{S S':Nat->Bool}{t:Nat}:{l:List mi}->{i:Nat}->{f f':Nat->Option aI}->f t=f' t->(∀k x,l[k]? =aa x->x.dst=aa t->S (i+k)=S' (i+k))->gQ S i l f t=gQ S' i l f' t
 |[],_,_,_,hf,_=>hf
 |x::l,i,f,f',hf,h=>by
  show gQ S (i+1) l _ t=gQ S' (i+1) l _ t
  refine mG ?_ λk y hy hd=>by
   have:=h (k+1) y (by simpa using hy) hd
   rwa [show i+(k+1)=i+1+k from by omega]at this
  by_cases hd:x.dst=aa t
  .have:=h 0 x rfl hd;simp only[ajO]at this;rw[this,hf]
  grind [mj]
theorem l7{S S':Nat->Bool}{o:Nat}:{l:List mi}->{i:Nat}->{f f':Nat->Option (Nat×Th)}->f o=f' o->(∀k x,l[k]? =aa x->o∈x.mut->S (i+k)=S' (i+k))->fY S i l f o=fY S' i l f' o
 |[],_,_,_,hf,_=>hf
 |x::l,i,f,f',hf,h=>by
  show fY S (i+1) l _ o=fY S' (i+1) l _ o
  refine l7 ?_ λk y hy hd=>by
   have:=h (k+1) y (by simpa using hy) hd
   rwa [show i+(k+1)=i+1+k from by omega]at this
  by_cases hd:o∈x.mut
  .have:=h 0 x rfl hd;simp only[ajO]at this;rw[this,hf]
  .have h1:find x.e.make o=ae:=by
    cases hm:find x.e.make o with
    |none=>rfl
    |some y=>exact absurd (by simp[mi.mut,qS hm]) hd
   have h2:pg o x.e.eat=ag:=by
    cases hb:pg o x.e.eat with
    |false=>rfl
    |true=>exact absurd (by simp[mi.mut,fM.1 hb]) hd
   grind
theorem pj{S:Nat->Bool}{t:Nat}:{l:List mi}->{i:Nat}->{f:Nat->Option aI}->(∀k x,l[k]? =aa x->x.dst=aa t->S (i+k)=ag)->gQ S i l f t=f t
 |[],_,_,_=>rfl
 |x::l,i,f,h=>by
  show gQ S (i+1) l _ t=_
  rw[pj λk y hy hd=>by
   have:=h (k+1) y (by simpa using hy) hd
   rwa [show i+(k+1)=i+1+k from by omega]at this]
  by_cases hd:x.dst=aa t
  .have:=h 0 x rfl hd;simp only[ajO]at this;simp[this]
  grind [mj]
def oS{S:Nat->Bool}{o:Nat}:{l:List mi}->{i:Nat}->{f:Nat->Option (Nat×Th)}->(∀k x,l[k]? =aa x->o∈x.mut->S (i+k)=ag)->fY S i l f o=f o
 |[],_,_,_=>rfl
 |x::l,i,f,h=>by
  show fY S (i+1) l _ o=_
  rw[oS λk y hy hd=>by
   have:=h (k+1) y (by simpa using hy) hd
   rwa [show i+(k+1)=i+1+k from by omega]at this]
  by_cases hd:o∈x.mut
  .have:=h 0 x rfl hd;simp only[ajO]at this;simp[this]
  .have h1:find x.e.make o=ae:=by
    cases hm:find x.e.make o with
    |none=>rfl
    |some y=>exact absurd (by simp[mi.mut,qS hm]) hd
   have h2:pg o x.e.eat=ag:=by
    cases hb:pg o x.e.eat with
    |false=>rfl
    |true=>exact absurd (by simp[mi.mut,fM.1 hb]) hd
   grind
def pn{S:Nat->Bool}{l l':List mi}{i:Nat}{f:Nat->Option aI}:gQ S i (l++l') f=gQ S (i+l.length) l' (gQ S i l f):=by
 induction l generalizing i f with
 |nil=>rfl
 |cons x l ih=>
  grind [gQ]
def lf{S:Nat->Bool}{l l':List mi}{i:Nat}{f:Nat->Option (Nat×Th)}:fY S i (l++l') f=fY S (i+l.length) l' (fY S i l f):=by
 induction l generalizing i f with
 |nil=>rfl
 |cons x l ih=>
  grind [fY]
end Go.Proofs.YtleifhfeahnocaaGreatDoor
end
section
open _root_.Bool renaming false->ag,true->af,false_eq_true->aiX
open _root_.Option renaming none->ae,some->aa
open _root_.Array renaming getD_eq_getD_getElem?->ajn,getElem?_eq_getElem->ajb,getElem?_eq_some_iff->aja
open _root_.List renaming drop_eq_getElem_cons->ai5,getElem?_drop->ajE,getElem?_eq_getElem->aiG,getElem?_eq_some_iff->aiW,getElem_of_mem->aiR,length_cons->aiU,length_nil->ajl,range->ajp,take_append_drop->ajU
open _root_.Nat renaming beq->aiK,blt->ajg,le_refl->aiM,zero_add->ajh
open _root_.Option.some renaming inj->aiF
open _root_.Go.Region renaming binds->akb,wanted->aj3
namespace Go.Proofs.YtleifhfeahnocaaGreatDoor
open Go Go.RowKit
def wP{ms:List Nat}{i:Nat}{x:mi}:{l:List mi}->{j:Nat}->AO ms i x j l=af->∀k y,l[k]? =aa y->conflict x y=af->(ms.getD (j+k) 0).testBit i=af
 |[],_,_,k,y,h,_=>by simp at h
 |z::l,j,hl,k,y,h,hc=>by
  obtain⟨h1,h2⟩:=dc hl
  cases k with
  |zero=>
   grind
  |succ k=>
   have:=wP h2 k y (by simpa using h) hc
   grind
def rO{ms:List Nat}:{l:List mi}->{i:Nat}->vF ms i l=af->∀a b x y,a<b->l[a]? =aa x->l[b]? =aa y->conflict x y=af->(ms.getD (i+b) 0).testBit (i+a)=af
 |[],_,_,a,b,x,y,_,h,_,_=>by simp at h
 |z::l,i,hl,a,b,x,y,Tu,hx,hy,hc=>by
  obtain⟨h1,h2⟩:=dc hl
  cases a with
  |zero=>
   obtain rfl:z=x:=by simpa using hx
   cases b with
   |zero=>omega
   |succ b=>
    have:=wP h1 b y (by simpa using hy) hc
    grind
  |succ a=>
   cases b with
   |zero=>omega
   |succ b=>
    have:=rO h2 a b x y (by omega) (by simpa using hx) (by simpa using hy) hc
    grind
inductive Rj(ops:Array Oper)(nt:Nat)(ts:List Nat)(sl:Nat->Option aI):Option (Nat×Bool)->Bool->Prop
 |none:Rj ops nt ts sl ae af
 |lit {j g:Nat} {b t:Bool} {d:aI} (h1:GY ops j=aa g) (h2:ajg g nt=af) (h3:g∈ts) (h4:sl g=aa d) (h5:asBool d=aa t):Rj ops nt ts sl (aa (j,b)) (decide (t=b))
 |undef {j g:Nat} {b:Bool} (h1:GY ops j=aa g) (h2:ajg g nt=af) (h3:g∈ts) (h4:sl g=aa .undef):Rj ops nt ts sl (aa (j,b)) ag
structure Rk(P:Program)(ops:Array Oper)(nt:Nat)(U:Nat->Prop)(o:Oper)(sl:Nat->Option aI)(ob:Nat->Option (Nat×Th))(n:Nat)(x:mi):Prop where
 dst:x.dst=o.dst
 yo:CK nt o.dst=af
 on:∃b,Rj ops nt x.ts sl o.guard b/\(b=af->PY P U o sl ob n x)/\(b=ag->x.e={dst:= .undef})
section
variable {P:Program} {nt:Nat} {ops:Array Oper}
def Ov{ρ:Nat->Value}{o:Oper}{w:World}{QQ:Value->World->Prop}{a:Act}{K:Act->World->Prop}{Q:Exit->Act->World->Prop}(h:cz P ρ ⟨o.dst,o.op,o.type,o.pos,o.after,ae⟩ w QQ)(hf:Fr nt a ρ)
 (hk:∀v w',QQ v w'->K (a.put o.dst v) w'):o.wp P a w K Q:=by
 unfold Oper.wp;rw[hf.eval];unfold cz at h;have e:execOp (ev ρ) o=execOp (ev ρ) ⟨o.dst,o.op,o.type,o.pos,o.after,ae⟩:=rfl;rw[e];generalize(execOp (ev ρ) ⟨o.dst,o.op,o.type,o.pos,o.after,ae⟩).run P w=r at*
 cases r with
 |halt x w'=>exact h.elim
 |ok x w'=>
  cases x<;>first
   |exact h.elim
   |skip
  case value v=>exact hk v w' h.2
  case skip=>exact hk undef w' h.2
  case enter f args=>
   refine h.mono λe BI ⟨v,he,hv⟩=>?_
   grind
def aL.sub{U:Nat->Prop}{H:aK}{F:Nat->Prop}{w:World}{ob Nk:Nat->Option (Nat×Th)}{n m:Nat}(h:aL U H F w ob n)(hR:∀o x,Nk o=aa x->ob o=aa x)(xM:∀k,m<=k->k<m+16->H.val k=ae/\H.con k=ae):aL U H F w Nk m:=
 ⟨λo s t ho=>h.obj o s t (hR _ _ ho),λo o' s s' t t' v v' du ho jS=>h.apart o o' s s' t t' v v' du (hR _ _ ho) (hR _ _ jS),xM,h.lt,h.new,h.gl⟩
structure Inv(G:Nat->Prop)(w0:World)(F0:Nat->Prop)(es:List mi)(sl0:Nat->Option aI)(ob0:Nat->Option (Nat×Th))(n0:Nat)(H:aK)(F:Nat->Prop)(w:World)(ρ:Nat->Value)(S:Nat->Bool)(H':aK)(F':Nat->Prop)(w':World)(dE:Nat->Value):Prop where
 slot:∀t d,gQ S 0 es sl0 t=aa d->aG H' F' w' d (dE t)
 ob:aL (UU G w0) H' F' w' (fY S 0 es ob0) (n0+16*es.length)
 all:jd H' (n0+16*es.length)
 fresh:∀i,i<es.length->S i=ag->∀m,n0+16*i<=m->m<n0+16*i+16->H'.val m=ae/\H'.con m=ae
 glob:Ll G w0 F0 w' F'
 keeps:cQ H F w H' F' w'
 same:∀t,(∀x∈es,x.dst≠aa t)->dE t=ρ t
def ins(S:Nat->Bool)(i:Nat):Nat->Bool:=λj=>bif aiK j i then af else S j
theorem qd{S:Nat->Bool}{i:Nat}:ins S i i=af:=by simp[ins]
theorem qe{S:Nat->Bool}{i j:Nat}(h:j≠i):ins S i j=S j:=by
 grind [ins,beq_true]
section
variable {G:Nat->Prop} {w0:World} {F0:Nat->Prop} {es:List mi} {sl0:Nat->Option aI} {ob0:Nat->Option (Nat×Th)} {n0:Nat} {H:aK} {F:Nat->Prop} {w:World} {ρ:Nat->Value} {ms:List Nat}
def CY{i:Nat}{x:mi}(h:es[i]? =aa x):es=es.take i++x::es.drop (i+1)/\(es.take i).length=i:=by
 grind [ai5,ajU]
def zf{S:Nat->Bool}{i:Nat}{x:mi}(hx:es[i]? =aa x)(UJ:∀t,x.dst=aa t->∀j y,es[j]? =aa y->y.dst=aa t->S j=af->j<i)(t:Nat):
 gQ (ins S i) 0 es sl0 t=if x.dst=aa t then aa x.e.dst else gQ S 0 es sl0 t:=by
 by_cases hd:x.dst=aa t
 .rw[aj hd];obtain⟨e1,e2⟩:=CY hx;rw[e1,pn,e2,ajh]
  show gQ (ins S i) (i+1) (es.drop (i+1)) _ t=_
  grind [pj,qe,qd,mj]
 grind [mG,qe]
def CZ{S:Nat->Bool}{i:Nat}{x:mi}(hx:es[i]? =aa x)(hS:S i=ag)(UJ:∀o,o∈x.mut->∀j y,es[j]? =aa y->o∈y.mut->S j=af->j<i)(o s:Nat)(t:Th)(h:fY (ins S i) 0 es ob0 o=aa (s,t)):
 find x.e.make o=aa (s,t)\/(o∉x.e.eat/\fY S 0 es ob0 o=aa (s,t)/\find x.e.make o=ae):=by
 by_cases hd:o∈x.mut
 .obtain⟨e1,e2⟩:=CY hx
  have late:∀S':Nat->Bool,(∀j,j≠i->S' j=S j)->∀f,fY S' (i+1) (es.drop (i+1)) f o=f o:=λS' hS' f=>oS (by grind)
  have pre:fY (ins S i) 0 (es.take i) ob0 o=fY S 0 (es.take i) ob0 o:=l7 rfl λk y hy _=>by
   grind [qe]
  have all:fY S 0 es ob0 o=fY S 0 (es.take i) ob0 o:=by
   conv=>lhs;rw[e1]
   rw[lf,e2,ajh]
   show fY S (i+1) (es.drop (i+1)) _ o=_
   rw[late S (λ_ _=>rfl),hS];rfl
  conv at h=>lhs;rw[e1]
  rw[lf,e2,ajh]at h;change fY (ins S i) (i+1) (es.drop (i+1)) _ o=_ at h;rw[late (ins S i) (λj hj=>qe hj),qd,cond_true,pre,<-all]at h
  cases hm:find x.e.make o with
  |some y=>grind
  |none=>
   rw[hm,Option.none_or]at h
   cases he:pg o x.e.eat with
   |true=>rw[he]at h;cases h
   |false=>
    grind [fM]
 .right
  have h1:find x.e.make o=ae:=by
   cases hm:find x.e.make o with
   |none=>rfl
   |some y=>grind [mi.mut,qS]
  grind [mi.mut,l7,qe]
theorem oT{l l':List Nat}{o:Nat}(h:o∈l)(h':o∈l'):CX l l'=af:=by
 grind [CX,fM]
theorem wQ{i j:Nat}(h:i<=j):ajg j i=ag:=by
 cases hb:ajg j i with
 |false=>rfl
 |true=>have:j<i:=by simpa using hb
        omega
def I3(_:Nat):Bool:=af
def E9{es:List mi}{i:Nat}(hi:i<=es.length):gQ (λj=>ajg j i) 0 es sl0=gQ I3 0 (es.take i) sl0:=by
 funext t
 conv=>lhs;rw[<-ajU i es]
 rw[pn,pj (S:=λj=>ajg j i) λk x _ _=>wQ (by simp;omega)]
 refine mG rfl λk x hx _=>?_
 have:=(aiW.1 hx).1;simp at this;simp[I3];omega
def zg{es:List mi}{i:Nat}(hi:i<=es.length):fY (λj=>ajg j i) 0 es ob0=fY I3 0 (es.take i) ob0:=by
 funext t
 conv=>lhs;rw[<-ajU i es]
 rw[lf,oS (S:=λj=>ajg j i) λk x _ _=>wQ (by simp;omega)]
 refine l7 rfl λk x hx _=>?_
 have:=(aiW.1 hx).1;simp at this;simp[I3];omega
def I4{S:Nat->Bool}{i q:Nat}(hA:∀k y,k<i->es[k]? =aa y->q∈y.mut->S k=af\/q∈y.soft)
 (hs:∀k y,es[k]? =aa y->q∈y.soft->q∈y.mut->∃z z',fY I3 0 (es.take k) ob0 q=aa z/\find y.e.make q=aa z'/\iN z z'):
 ∀m,m<=i->m<=es.length->∀z,fY I3 0 (es.take m) ob0 q=aa z->∃z',fY S 0 (es.take m) ob0 q=aa z'/\iN z z':=by
 intro m
 induction m with
 |zero=>intro _ _ z hz;exact⟨z,hz, .inl rfl⟩
 |succ m ih=>
  intro hm hl z hz
  have aH:m<es.length:=by omega
  have hy:es[m]? =aa es[m]:=aiG aH
  have e1:es.take (m+1)=es.take m++[es[m]]:=by rw[List.take_add_one,hy];rfl
  have el:(es.take m).length=m:=by simp;omega
  rw[e1,lf,el,ajh]at hz⊢;generalize hgy:es[m]=y at*;have ez:(find y.e.make q).or (bif pg q y.e.eat then ae else fY I3 0 (es.take m) ob0 q)=aa z:=hz
  show∃z',(bif S m then(find y.e.make q).or (bif pg q y.e.eat then ae else fY S 0 (es.take m) ob0 q)else fY S 0 (es.take m) ob0 q)=aa z'/\iN z z'
  by_cases UK:q∈y.mut
  .cases hSm:S m with
   |true=>
    rw[cond_true]
    cases Ow:find y.e.make q with
    |some x=>rw[Ow]at ez;exact⟨z,ez, .inl rfl⟩
    |none=>
     grind
   |false=>
    rw[cond_false]
    rcases hA m y (by omega) hy UK with h|h
    .rw[hSm]at h;cases h
    .obtain⟨x,x',h1,h2,h3⟩:=hs m y hy h UK;rw[h2]at ez;obtain rfl:=aiF ez;obtain⟨z',h4,h5⟩:=ih (by omega) (by omega) x h1;exact⟨z',h4,h3.symm.trans h5⟩
  .have h1:find y.e.make q=ae:=by
    cases hm:find y.e.make q with
    |none=>rfl
    |some y=>grind [mi.mut,qS]
   grind
def LQ(Ox:I2 [] ops.toList=aa ms)(hp:vF ms 0 es=af)(hlen:es.length=ops.size){S:Nat->Bool}(hS:E8 ops (λj=>S j=af)){i:Nat}{o:Oper}{x:mi}(ho:ops[i]? =aa o)(hx:es[i]? =aa x)(Rl:S i=ag)
 (PZ:∀e∈o.after,akb .any e=af->S e.on=af)(P1:∀k y,es[k]? =aa y->∀q,q∈y.soft->q∈y.mut->∃z z',fY I3 0 (es.take k) ob0 q=aa z/\find y.e.make q=aa z'/\iN z z')(sN:Rk P ops nt (UU G w0) o (gQ (λj=>ajg j i) 0 es sl0) (fY (λj=>ajg j i) 0 es ob0) (n0+16*i) x)
 {H':aK}{F':Nat->Prop}{w':World}{dE:Nat->Value}{a:Act}(hf:Fr nt a dE)(hinv:Inv G w0 F0 es sl0 ob0 n0 H F w ρ S H' F' w' dE){K:Act->World->Prop}{Q:Exit->Act->World->Prop}
 (hk:∀Xs C0 xU Lk BI,Fr nt Xs C0->Inv G w0 F0 es sl0 ob0 n0 H F w ρ (ins S i) xU Lk BI C0->K Xs BI):wpOp P ops Q i K a w':=by
 have UL:i<es.length:=(aiW.1 hx).1
 have up:∀j y,es[j]? =aa y->j<i->conflict y x=af->S j=af:=λj y hy hji hc=>by
  have:=rO hp j i y x hji hy hx hc
  grind [LP]
 have down:∀j y,es[j]? =aa y->i<j->conflict x y=af->S j=af->False:=λj y hy TA hc hj=>by
  have:=rO hp i j x y TA hx hy hc;rw[ajh,ajh]at this
  have Og:j<ops.size:=by have:=(aiW.1 hy).1;omega
  have h2:=LP Ox hS j _ (ajb Og) (λe he hb=>hS j hj _ (ajb Og) e he hb) i this
  grind
 have P2:∀t,x.dst=aa t->∀j y,es[j]? =aa y->y.dst=aa t->S j=af->j<i:=λt ht j y hy hyt hj=>by
  grind [conflict,ow,fM]
 have P5:∀q,q∈x.mut->∀j y,es[j]? =aa y->q∈y.mut->S j=af->j<i:=λq hq j y hy TM hj=>by
  grind [conflict,oT]
 have Rm:∀t,t∈x.ts->gQ (λj=>ajg j i) 0 es sl0 t=gQ S 0 es sl0 t:=λt ht=>mG rfl λj y hy hyt=>by
  rw[ajh]
  rcases Nat.lt_trichotomy j i with h|h|h
  .rw[up j y hy h (by unfold conflict;simp[ow,hyt,fM,ht])];simpa using h
  all_goals grind [wQ,conflict,ow,fM]
 have aem:∀q,q∈x.os->fY (λj=>ajg j i) 0 es ob0 q=fY S 0 es ob0 q:=λq hq=>l7 rfl λj y hy TM=>by
  rw[ajh]
  rcases Nat.lt_trichotomy j i with h|h|h
  .rw[up j y hy h (by grind [conflict,oT])];simpa using h
  .grind [wQ]
  .have:S j=ag:=by
    cases hj:S j with
    |false=>rfl
    |true=>exact(down j y hy h (by unfold conflict;rw[oT (l:=x.os++x.ls++x.mut) (l':=y.mut) (by simp[hq]) TM];simp) hj).elim
   rw[this];exact wQ (by omega)
 have aen:∀q z,q∈x.ls->fY (λj=>ajg j i) 0 es ob0 q=aa z->∃z',fY S 0 es ob0 q=aa z'/\iN z z':=λq z hq hz=>by
  rw[zg (by omega)]at hz
  obtain⟨z',h1,h2⟩:=I4 (S:=S) (i:=i) (q:=q) (λk y hk hy TM=>by
   by_cases hsf:q∈y.soft
   .exact .inr hsf
   .refine .inl (up k y hy hk ?_)
    have:q∈y.UH:=List.mem_filter.2 ⟨TM,by
     cases hb:pg q y.soft with
     |false=>rfl
     |true=>exact absurd (fM.1 hb) hsf⟩
    grind [conflict,oT]) (by grind) i (aiM _) (by omega) z hz
  refine⟨z',?_,h2⟩;rw[<-h1]
  conv=>lhs;rw[<-ajU i es]
  rw[lf]
  refine oS λk y hy TM=>?_
  have N5:es[i+k]? =aa y:=by rw[<-hy,ajE]
  have el:(es.take i).length=i:=by simp;omega
  rw[el,ajh]
  cases hSk:S (i+k)with
  |false=>rfl
  |true=>
   rcases Nat.eq_zero_or_pos k with rfl|hk
   .grind
   .exact(down (i+k) y N5 (by omega) (by unfold conflict;rw[oT (l:=x.os++x.ls++x.mut) (l':=y.mut) (by simp[hq]) TM];simp) hSk).elim
 obtain⟨b,hg,YK,NM⟩:=sN.on
 have UM:aj3 o (yielded ops a.tmps)=b:=by
  generalize hog:o.guard=gd at hg
  cases hg with
  |none=>unfold aj3;rw[hog]
  |lit h1 h2 h3 h4 h5=>
   rename_i j g b' t d;rw[Rm g h3]at h4;have hy:=pb hf h1 h2 (oF h5 (hinv.slot g _ h4));unfold aj3
   grind
  |undef h1 h2 h3 h4=>
   rename_i j g b';rw[Rm g h3]at h4;have hy:=om hf h1 h2 (show dE g=undef from hinv.slot g _ h4);unfold aj3
   grind
 have vR:∀v,Fr nt (a.put o.dst v) (vi dE o.dst v):=λv=>by
  have hb:=sN.yo
  cases hd:o.dst with
  |none=>exact hf
  |some d=>rw[hd]at hb;exact hf.put hb v
 have Fa:∀t,x.dst=aa t↔o.dst=aa t:=λt=>by rw[sN.dst]
 unfold wpOp;simp only[ho,UM]
 cases b with
 |false=>
  simp only[aiX,if_false];have he:=NM rfl;refine hk _ (vi dE o.dst undef) H' F' w' (vR undef) ⟨λt d ht=>?_,?_,hinv.all,λk hk yp=>?_,hinv.glob,hinv.keeps,λt ht=>?_⟩
  .rw[zf hx P2]at ht;split at ht
   .rename_i Rn;obtain rfl:=aiF ht;rw[he]
    show vi dE o.dst undef t=undef
    rw[(Fa t).1 Rn]
    show Eg dE t undef t=undef
    rw[p4,aj rfl]
   .rename_i Rn;rw[qR (λe=>Rn ((Fa t).2 e))];exact hinv.slot t d ht
  .refine hinv.ob.sub (λq y hq=>?_) (λm hm _=>hinv.all m hm)
   rcases CZ hx Rl P5 q y.1 y.2 hq with h1|⟨_,h2,_⟩
   .rw[he]at h1;cases h1
   .exact h2
  .by_cases e:k=i
   .subst e;rw[qd]at yp;cases yp
   .rw[qe e]at yp;exact hinv.fresh k hk yp
  .rw[qR (λe=>ht x (List.mem_of_getElem? hx) ((Fa t).2 e))];exact hinv.same t ht
 |true=>
  simp only[if_true]
  left
  obtain⟨_,⟨YE,Nk,UG,Oq,bG⟩,_⟩:=YK rfl
  obtain⟨YF,iA,bG⟩:=bG H' F' w' dE (fY S 0 es ob0) (λq y hq=>by
   obtain⟨h1,h2⟩:=Oq q y hq;by_cases hos:q∈x.os
   .exact⟨y,by grind, .inl rfl,λ_=>rfl⟩
   grind) (λt d ht=>by
   obtain⟨h1,h2⟩:=UG t d ht;rw[Rm t h1]at h2
   exact hinv.slot t d h2) (hinv.ob.sub (λ_ _ h=>h) (hinv.fresh i UL Rl))
  have CH:=hinv.ob.sub iA (hinv.fresh i UL Rl)
  refine Ov bG hf λv BI ⟨xU,Lk,uK⟩=>?_
  .have mU:=uK.mQ.step CH.lt CH.je
   have eV:jd xU (n0+16*es.length):=λm hm=>by
    have h1:=hinv.all m hm;have h2:=uK.fresh m (.inr (by omega));exact⟨h2.1 h1.1,h2.2 h1.2⟩
   refine hk _ (vi dE o.dst v) xU Lk BI (vR v) ⟨λt d ht=>?_,?_,eV,λk hk yp m hm1 YL=>?_,hinv.glob.mQ uK.mQ CH.iF,hinv.keeps.trans ⟨uK.mQ.kg,mU⟩,λt ht=>?_⟩
   .rw[zf hx P2]at ht;split at ht
    .rename_i Rn;obtain rfl:=aiF ht;rw[(Fa t).1 Rn]
     show aG xU Lk BI _ (Eg dE t v t)
     grind [p4,mP.dst]
    .rename_i Rn;rw[qR (λe=>Rn ((Fa t).2 e))];exact(hinv.slot t d ht).keep uK.mQ.kg mU
   .exact hinv.ob.KR iA uK (λq s t hq=>CZ hx Rl P5 q s t hq) λm hm _=>eV m hm
   .by_cases e:k=i
    .subst e;rw[qd]at yp;cases yp
    .rw[qe e]at yp;have h1:=hinv.fresh k hk yp m hm1 YL;have h2:=uK.fresh m (by omega);exact⟨h2.1 h1.1,h2.2 h1.2⟩
   .rw[qR (λe=>ht x (List.mem_of_getElem? hx) ((Fa t).2 e))];exact hinv.same t ht
end
end
end Go.Proofs.YtleifhfeahnocaaGreatDoor
namespace Go.Proofs.YtleifhfeahnocaaGreatDoor
open Go Go.RowKit
def ub(dst:Option Nat)(g:Nat):mi:={dst:=dst,ts:=[g],os:=[],e:={dst:= .undef}}
noncomputable def nT{R:Type}{P:Program}(E:Env P)(nt:Nat)(ops:Array Oper):List Oper->State->List mi->(State->Option R)->Option R
 |[],st,acc,k=>bif ua ops.toList acc then k st else ae
 |o::os,st,acc,k=>bif CK nt o.dst then(match o.guard with
  |none=>ze E o.dst o.op [] st (λe x=>nT E nt ops os (st.apply o.dst e) (acc++[x]) k)
  |some (j,b)=>match GY ops j with
   |none=>ae
   |some g=>bif ajg g nt then(match find st.aJ g with
    |some .undef=>nT E nt ops os (st.apply o.dst {dst:= .undef}) (acc++[ub o.dst g]) k
    |some d=>match asBool d with
     |some t=>if t=af then
       (bif b then ze E o.dst o.op [g] (st.put (aa g) (ey af)) (λe x=>nT E nt ops os ((st.put (aa g) (ey af)).apply o.dst e) (acc++[x]) k)
         else nT E nt ops os ((st.put (aa g) (ey af)).apply o.dst {dst:= .undef}) (acc++[ub o.dst g]) k)
      else
       (bif b then nT E nt ops os ((st.put (aa g) (ey ag)).apply o.dst {dst:= .undef}) (acc++[ub o.dst g]) k
         else ze E o.dst o.op [g] (st.put (aa g) (ey ag)) (λe x=>nT E nt ops os ((st.put (aa g) (ey ag)).apply o.dst e) (acc++[x]) k))
     |none=>ae
    |none=>ae)else ae)else ae
section
variable {P:Program} {nt:Nat} {ops:Array Oper} {R:Type}
variable {G:Nat->Prop} {w0:World} {F0:Nat->Prop} {sl0:Nat->Option aI} {ob0:Nat->Option (Nat×Th)} {n0:Nat}
structure Lex(P:Program)(nt:Nat)(ops:Array Oper)(U:Nat->Prop)(sl0:Nat->Option aI)(ob0:Nat->Option (Nat×Th))(n0:Nat)(es:List mi)(st:State):Prop where
 slot:∀t,find st.aJ t=gQ I3 0 es sl0 t
 ob:∀o,find st.objs o=fY I3 0 es ob0 o
 nxt:st.nxt=n0+16*es.length
 ok:∀i o x,ops[i]? =aa o->es[i]? =aa x->Rk P ops nt U o (gQ I3 0 (es.take i) sl0) (fY I3 0 (es.take i) ob0) (n0+16*i) x
def Fb{S:Nat->Bool}{es:List mi}{x:mi}{f:Nat->Option aI}{t:Nat}(h:S es.length=af):gQ S 0 (es++[x]) f t=if x.dst=aa t then aa x.e.dst else gQ S 0 es f t:=by
 rw[pn,ajh]
 show(bif S es.length&&ow (aa t) x.dst.toList then aa x.e.dst else gQ S 0 es f t)=_
 rw[h,Bool.true_and];by_cases hd:x.dst=aa t
 all_goals grind [mj]
def I5{S:Nat->Bool}{es:List mi}{x:mi}{f:Nat->Option (Nat×Th)}{o:Nat}(h:S es.length=af):fY S 0 (es++[x]) f o=(find x.e.make o).or (bif pg o x.e.eat then ae else fY S 0 es f o):=by
 rw[lf,ajh]
 show(bif S es.length then _ else _)=_
 rw[h];rfl
def uc{st:State}{dst:Option Nat}{e:eB}{t:Nat}:find (st.apply dst e).aJ t=if dst=aa t then aa e.dst else find st.aJ t:=by
 cases dst with
 |none=>simp[State.apply]
 |some d=>
  show find ((d,e.dst)::st.aJ) t=_
  grind [ba]
def vn{st:State}{dst:Option Nat}{e:eB}{o:Nat}:find (st.apply dst e).objs o=(find e.make o).or (bif pg o e.eat then ae else find st.objs o):=by
 show find (e.make++del e.eat st.objs) o=_
 rw[jb]
 congr 1
 cases hb:pg o e.eat with
 |true=>
  rw[cond_true]
  cases h:find (del e.eat st.objs) o with
  |none=>rfl
  |some x=>grind [fM,jc]
 |false=>
  rw[cond_false]
  have hn:o∉e.eat:=λh=>by rw[fM.2 h]at hb;cases hb
  cases h:find st.objs o with
  |some x=>exact jc.2 ⟨hn,h⟩
  |none=>
   cases h2:find (del e.eat st.objs) o with
   |none=>rfl
   |some x=>rw[(jc.1 h2).2]at h;cases h
def Lex.snoc{U:Nat->Prop}{es:List mi}{st:State}{x:mi}{o:Oper}(h:Lex P nt ops U sl0 ob0 n0 es st)(ho:ops[es.length]? =aa o)(hd:x.dst=o.dst)
 (sq:Rk P ops nt U o (find st.aJ) (find st.objs) st.nxt x):Lex P nt ops U sl0 ob0 n0 (es++[x]) (st.apply o.dst x.e):=by
 refine⟨λt=>?_,λq=>?_,?_,λi o' y jS hy=>?_⟩
 .rw[uc,Fb rfl,hd,h.slot t]
 .rw[vn,I5 rfl,h.ob q]
 .show st.nxt+16=_
  grind [Lex.nxt]
 .rcases Nat.lt_or_ge i es.length with aH|hge
  .rw[List.getElem?_append_left aH]at hy;rw[List.take_append_of_le_length (by omega)];exact h.ok i o' y jS hy
  .have hi:i=es.length:=by
    have:=(aiW.1 hy).1;simp at this;omega
   subst hi;simp at hy;subst hy;rw[ho]at jS;obtain rfl:=aiF jS;rw[List.take_left']
   .rw[<-funext h.slot,<-funext h.ob,<-h.nxt];exact sq
   .rfl
def Lex.put{U:Nat->Prop}{es:List mi}{st:State}{g:Nat}{d:aI}(h:Lex P nt ops U sl0 ob0 n0 es st)(hg:find st.aJ g=aa d):Lex P nt ops U sl0 ob0 n0 es (st.put (aa g) d):=by
 refine⟨λt=>?_,h.ob,h.nxt,h.ok⟩
 show find ((g,d)::st.aJ) t=_
 rw[ba,<-h.slot t]
 grind
def I6{d:aI}{t:Bool}(h:asBool d=aa t):d=ey t:=by
 unfold asBool at h
 grind
def C1{E:Env P}{q:R}{k:State->Option R}:{l:List Oper}->{st:State}->{es:List mi}->nT E nt ops l st es k=aa q->(∀j,l[j]? =ops[es.length+j]?)->Lex P nt ops (UU G w0) sl0 ob0 n0 es st->
 ∃oD dB,k dB=aa q/\ua ops.toList oD=af/\Lex P nt ops (UU G w0) sl0 ob0 n0 oD dB/\oD.length=es.length+l.length
 |[],st,es,h,_,hl=>by
  unfold nT at h
  grind
 |o::l,st,es,h,pY,hl=>by
  have ho:ops[es.length]? =aa o:=by simpa using(pY 0).symm
  have UN:∀x:mi,∀j,l[j]? =ops[(es++[x]).length+j]? :=λx j=>by
   have:=pY (j+1)
   grind
  have go:∀{oR:State}{x:mi},nT E nt ops l oR (es++[x]) k=aa q->Lex P nt ops (UU G w0) sl0 ob0 n0 (es++[x]) oR->∃oD dB,k dB=aa q/\ua ops.toList oD=af/\Lex P nt ops (UU G w0) sl0 ob0 n0 oD dB/\oD.length=es.length+(o::l).length:=by
   intro oR x h1 h2;obtain⟨oD,dB,a1,a2,a3,a4⟩:=C1 h1 (UN x) h2;refine⟨oD,dB,a1,a2,a3,?_⟩;rw[a4,List.length_append,List.length_singleton,aiU];omega
  unfold nT at h;obtain⟨hd,h'⟩:=bf h;clear h
  have on:∀{oR:State}{gs:List Nat},ze E o.dst o.op gs oR (λe x=>nT E nt ops l (oR.apply o.dst e) (es++[x]) k)=aa q->Lex P nt ops (UU G w0) sl0 ob0 n0 es oR->(∀ts:List Nat,(∀g∈gs,g∈ts)->Rj ops nt ts (find oR.aJ) o.guard af)->∃oD dB,k dB=aa q/\ua ops.toList oD=af/\Lex P nt ops (UU G w0) sl0 ob0 n0 oD dB/\oD.length=es.length+(o::l).length:=by
   intro oR gs h1 h2 h3;obtain⟨e,x,a1,a2,a3,a4⟩:=LO (U:=UU G w0) h1;subst a2;exact go a1 (h2.snoc ho a4.dst ⟨a4.dst,hd,af,h3 _ a3,λ_=>a4,λh=>by cases h⟩)
  have off:∀{oR:State}{g:Nat},nT E nt ops l (oR.apply o.dst {dst:= .undef}) (es++[ub o.dst g]) k=aa q->Lex P nt ops (UU G w0) sl0 ob0 n0 es oR->Rj ops nt [g] (find oR.aJ) o.guard ag->∃oD dB,k dB=aa q/\ua ops.toList oD=af/\Lex P nt ops (UU G w0) sl0 ob0 n0 oD dB/\oD.length=es.length+(o::l).length:=by
   intro oR g h1 h2 h3;exact go (x:=ub o.dst g) h1 (h2.snoc (x:=ub o.dst g) ho rfl ⟨rfl,hd,ag,h3,λh=>(by cases h),λ_=>rfl⟩)
  split at h'
  .rename_i YM
   exact on h' hl λts _=>by rw[YM];exact .none
  .rename_i j b YM;split at h'
   case h_1=>cases h'
   rename_i g PU;obtain⟨PV,h⟩:=bf h';clear h';split at h
   .rename_i hu;exact off h hl (by rw[YM];exact .undef PU PV (by simp) hu)
   .rename_i d gN;split at h
    case h_2=>cases h
    rename_i t ht;obtain rfl:=I6 ht
    have UO:∀v:Bool,find (st.put (aa g) (ey v)).aJ g=aa (ey v):=λv=>by
     show find ((g,ey v)::st.aJ) g=_
     rw[ba,aj rfl]
    have aer:∀(v:Bool)(ts:List Nat)(r:Bool),g∈ts->r=decide (v=b)->Rj ops nt ts (find (st.put (aa g) (ey v)).aJ) (aa (j,b)) r:=λv ts r hg hr=>by
     rw[hr];exact .lit PU PV hg (UO v) rfl
    split at h
    .rename_i On;subst On;have Nl:=hl.put gN
     grind
    .rename_i On
     have On:t=ag:=by cases t<;>simp_all
     subst On;have Nl:=hl.put gN
     grind
   .cases h
def UP(m:Nat)(listed:Array Bool):Nat:=((ajp m).filter λj=> !listed.getD j ag).length
def G1{m i:Nat}{listed:Array Bool}(hi:i<m)(hs:listed.size=m)(h:listed.getD i ag=ag):UP m (listed.setIfInBounds i af)+1<=UP m listed:=by
 unfold UP
 have iA:∀l:List Nat,(l.filter λj=> !(listed.setIfInBounds i af).getD j ag).length<=(l.filter λj=> !listed.getD j ag).length/\(i∈l->(l.filter λj=> !(listed.setIfInBounds i af).getD j ag).length+1<=(l.filter λj=> !listed.getD j ag).length):=by
  intro l
  induction l with
  |nil=>grind
  |cons j l ih=>
   by_cases hj:i=j
   .subst hj
    have e1:(listed.setIfInBounds i af).getD i ag=af:=by simp[ajn,hs,hi]
    grind
   .have e1:(listed.setIfInBounds i af).getD j ag=listed.getD j ag:=getD_set_ne ag hj
    grind
 grind
def Oy{E:Env P}{id:Nat}{q:R}{k:State->Option R}{st:State}{H:aK}{F:Nat->Prop}{w:World}{ρ:Nat->Value}{Q:Exit->(Nat->Value)->World->Prop}(hm:P.follows .mixedOrders=af)
 (h:nT E nt ops ops.toList st [] k=aa q)(hh:c7 G w0 F0 H F w ρ st)
 (hk:∀dB H' F' w' dE,k dB=aa q->c7 G w0 F0 H' F' w' dE dB->cQ H F w H' F' w'->(∀t,(∀o∈ops.toList,o.dst≠aa t)->dE t=ρ t)->Q .normal dE w'):xI P nt (.region id ops af) Q ρ w:=by
 obtain⟨es,dB,EN,lS,Fc,hlen⟩:=C1 (G:=G) (w0:=w0) (sl0:=find st.aJ) (ob0:=find st.objs) (n0:=st.nxt) h (λj=>by simp) ⟨λ_=>rfl,λ_=>rfl,by simp,λi o x _ hx=>by simp at hx⟩;simp only[ajl,ajh,Array.length_toList]at hlen;unfold ua at lS;split at lS
 case h_2=>cases lS
 rename_i ms Ox
 have Fa:∀x∈es,∃o∈ops.toList,x.dst=o.dst:=λx hx=>by
  obtain⟨i,hi,rfl⟩:=aiR hx
  have aH:i<ops.size:=by omega
  exact⟨ops[i],by simp,(Fc.ok i ops[i] es[i] (ajb aH) (aiG hi)).dst⟩
 have P1:∀k y,es[k]? =aa y->∀q,q∈y.soft->q∈y.mut->∃z z',fY I3 0 (es.take k) (find st.objs) q=aa z/\find y.e.make q=aa z'/\iN z z':=λk y hy q h1 h2=>by
  have aH:k<es.length:=(aiW.1 hy).1;obtain⟨_,_,b,_,YK,NM⟩:=Fc.ok k _ y (ajb (by omega)) hy
  cases b with
  |true=>exact(YK rfl).soft q h1 h2
  |false=>
   grind [mi.mut,uM]
 have Xt:∀i o,ops[i]? =aa o->∀e∈o.after,akb .any e=af->e.on<i:=λi o ho e he hb=>by
  obtain⟨m,h1,_⟩:=(AQ Ox).2.2 i o (by grind);simp only[ajl,ajh]at h1;exact G0 h1 e (by simpa using he) hb
 intro a hf;refine wp_region_any hm ?_
 have main:∀fuel(listed:Array Bool)(a:Act)(w':World)H' F' dE,listed.size=ops.size->UP ops.size listed<=fuel->E8 ops (λj=>listed.getD j ag=af)->Fr nt a dE->
  Inv G w0 F0 es (find st.aJ) (find st.objs) st.nxt H F w ρ (λj=>listed.getD j ag) H' F' w' dE->wpAny P .any ops (λe a' w'=>∃dE,Fr nt a' dE/\Q e dE w') fuel listed a w':=by
  have done:∀(listed:Array Bool)(a:Act)(w':World)H' F' dE,(∀i,i<ops.size->listed.getD i ag=af)->Fr nt a dE->Inv G w0 F0 es (find st.aJ) (find st.objs) st.nxt H F w ρ (λj=>listed.getD j ag) H' F' w' dE->∃dE,Fr nt a dE/\Q .normal dE w':=by
   intro listed a w' H' F' dE eV hf hinv
   have eS:∀t,gQ (λj=>listed.getD j ag) 0 es (find st.aJ) t=find dB.aJ t:=λt=>by
    rw[Fc.slot t]
    refine mG rfl λk x hx _=>?_
    have:=(aiW.1 hx).1;rw[ajh];exact eV k (by omega)
   have eO:∀o,fY (λj=>listed.getD j ag) 0 es (find st.objs) o=find dB.objs o:=λo=>by
    rw[Fc.ob o]
    refine l7 rfl λk x hx _=>?_
    have:=(aiW.1 hx).1;rw[ajh];exact eV k (by omega)
   refine⟨dE,hf,hk dB H' F' w' dE EN ⟨⟨λt d hd=>hinv.slot t d (by rw[eS];exact hd),?_,?_⟩,hinv.glob⟩ hinv.keeps λt ht=>hinv.same t λx hx=>?_⟩
   .have:=hinv.ob;rw[funext eO]at this;rw[Fc.nxt];exact this
   .rw[Fc.nxt];exact hinv.all
   .grind
  have I7:∀(listed:Array Bool),listed.size=ops.size->Region.ready .any ops listed=[]->∀i,i<ops.size->listed.getD i ag=af:=by
   intro listed hs hr i
   induction i using Nat.strongRecOn with
   |_ i ih=>
    intro hi
    cases hl:listed.getD i ag with
    |true=>rfl
    |false=>
     have:i∈Region.ready .any ops listed:=mem_ready.2 ⟨by
      grind,ops[i],ajb hi,(by grind)⟩
     grind
  intro fuel
  induction fuel with
  |zero=>
   intro listed a w' H' F' dE hs hu hc hf hinv
   have eV:∀i,i<ops.size->listed.getD i ag=af:=λi hi=>by
    cases hl:listed.getD i ag with
    |true=>rfl
    |false=>
     have:=G1 hi hs hl;omega
   refine⟨?_,done listed a w' H' F' dE eV hf hinv⟩
   cases hr:Region.ready .any ops listed with
   |nil=>rfl
   |cons i l=>
    have hi:i∈Region.ready .any ops listed:=by rw[hr];simp
    grind [Go.mem_ready]
  |succ fuel ih=>
   intro listed a w' H' F' dE hs hu hc hf hinv;refine⟨λhr=>done listed a w' H' F' dE (I7 listed hs hr) hf hinv,λi hi=>?_⟩;obtain⟨h1,o,ho,PZ⟩:=mem_ready.1 hi;have aH:=(aja.1 ho).1
   have Rl:listed.getD i ag=ag:=by
    simp only[ajn]at h1⊢;rw[ajb (by omega)]at h1⊢;simpa using h1
   have hx:es[i]? =aa (es[i]'(by omega)):=aiG (by omega);have sN:=Fc.ok i o _ ho hx;rw[<-E9 (by omega),<-zg (by omega)]at sN
   have yp:(λj=>(listed.setIfInBounds i af).getD j ag)=ins (λj=>listed.getD j ag) i:=by
    funext j;by_cases e:j=i
    .subst e;rw[qd];simp[ajn,hs,aH]
    .rw[qe e];exact getD_set_ne ag (Ne.symm e)
   refine LQ Ox lS hlen hc ho hx Rl PZ P1 sN hf hinv λXs C0 xU Lk BI YN YO=>?_
   refine ih _ Xs BI xU Lk C0 (by simp[hs]) ?_ ?_ YN ?_
   .have:=G1 aH hs Rl;omega
   .intro j hj o' jS e he hb;by_cases ej:j=i
    .grind [Go.getD_set_true]
    .have PL:listed.getD j ag=af:=by
      have:(listed.setIfInBounds i af).getD j ag=listed.getD j ag:=getD_set_ne ag (Ne.symm ej);rw[<-this];exact hj
     exact getD_set_true (hc j PL o' jS e he hb)
   grind
 have hS0:∀j,(Array.replicate ops.size ag).getD j ag=ag:=λj=>by
  simp only[ajn]
  grind
 have hw:Step F w F w.drew:=Step.drew F w
 refine main ops.size _ a _ H F ρ (by simp) ?_ (λi hi=>by
  grind) hf ⟨λt d hd=>?_,?_,λm hm=>hh.sat.all m (by omega),λi hi _ m hm _=>hh.sat.all m (by omega),⟨⟨hh.glob.ext.os,hh.glob.ext.tape,hh.glob.ext.output,hh.glob.ext.size,hh.glob.ext.block⟩,hh.glob.le,hh.glob.new⟩,⟨aK.le.refl H,hw⟩,λ_ _=>rfl⟩
 .grind [UP]
 .rw[pj λk x _ _=>hS0 _]at hd;exact(hh.sat.slot t d hd).keep (aK.le.refl H) hw
 .have e:fY (λj=>(Array.replicate ops.size ag).getD j ag) 0 es (find st.objs)=find st.objs:=by
   funext o
   exact oS λk x _ _=>hS0 _
  rw[e];have hb:=hh.sat.ob;refine⟨λo s t ho=>?_,hb.apart,λm hm _=>hh.sat.all m (by omega),hb.lt,hb.new,hb.gl.step (λ_ h=>⟨h,rfl⟩)⟩;obtain⟨v,hv,cP⟩:=hb.obj o s t ho;exact⟨v,hv,cP.one,cP.con,cP.ok.heap (aK.le.refl H) hw λ_ _=>rfl,cP.no,cP.lt,cP.use⟩
end
end Go.Proofs.YtleifhfeahnocaaGreatDoor
end
section
open _root_.Bool renaming false->ag,true->af,and_eq_true->ajH
open _root_.Option renaming none->ae,some->aa,isSome_iff_exists->ai8
open _root_.List renaming append_nil->ajv,length_cons->aiU,mem_cons->aju
open _root_.List.cons renaming injEq->ajw
open _root_.Nat renaming add_zero->ajO,beq->aiK,le_refl->aiM
open _root_.Option.some renaming inj->aiF,injEq->aiO
open _root_.Prod.mk renaming inj->aj5
open _root_.Go.Sem renaming run_bind->ai1
open _root_.Go.Value.slice renaming injEq->ajS
open _root_.Go.World renaming cell?->ajr
namespace Go.Proofs.YtleifhfeahnocaaGreatDoor
open Go Go.RowKit
inductive Ex where
 |normal
 |exit (id:Nat)
 |ret
 |goto (l:Nat)
def Ex.uN:Ex->Exit
 | .normal=> .normal
 | .exit id=> .exit id
 | .ret=> .ret
 | .goto l=> .goto l
def noGoto{R:Type}(k:Ex->State->Option R):Ex->State->Option R
 | .goto _,_=>ae
 |e,st=>k e st
inductive wR where
 |nil
 |two (a b:wR)
 |join (J:JS) (a b:wR)
 |meet (J:JS) (a b:wR)
 |loop (L:JS) (a:wR)
abbrev wR.o(a:wR):wR:= .two .nil a
def wR.l:wR->wR
 | .two a _=>a
 |_=> .nil
def wR.r:wR->wR
 | .two _ b=>b
 |_=> .nil
def sP:List Oper->List Nat
 |[]=>[]
 |o::l=>match o.dst with
  |some d=>d::sP l
  |none=>sP l
def writes:Code->List Nat
 | .region _ ops _=>sP ops.toList
 | .seq a b=>writes a++writes b
 | .cond _ a b=>writes a++writes b
 | .block _ a=>writes a
 | .loop a=>writes a
 | .scope a=>writes a
 |_=>[]
def C2:List Nat->List (Nat×aI)->List (Nat×aI)
 |[],l=>l
 |t::ts,l=>(t, .dead)::C2 ts l
def P7:List (Nat×OS)->List Nat
 |[]=>[]
 |(j,_)::l=>j::P7 l
def G2(st:State)(J:JS):List (Nat×(Nat×Th)):=del (P7 J.objs++J.drop) st.objs
def behind(st:State)(W:List Nat)(J:JS)(x:dA J.rows):State:=
 {aJ:=(de J.aJ (dG _ x)).1++C2 W st.aJ,objs:=iL st.nxt J.objs (de J.aJ (dG _ x)).2++G2 st J,nxt:=J.nxt}
def Fe(st:State)(J:JS)(oR:State):Option (dA J.rows):=
 match yS st.nxt (G2 st J) J oR.aJ oR.objs with
 |some (x,_)=>aa x
 |none=>ae
def LR(ob:Nat->Option (Nat×Th))(n o:Nat):Option eB:=
 match ob o with
 |some (_, .deep T d l ae)=>aa {dst:= .dead,eat:=[o],make:=[(o,(n, .own T d.row l))]}
 |_=>ae
def nU(st:State):List (Nat×OS)->State
 |[]=>st
 |(j, .own _ _)::os=>match LR (find st.objs) st.nxt j with
  |some e=>nU (st.apply ae e) os
  |none=>nU st os
 |_::os=>nU st os
def LS(st:State)(t o:Nat)(r:Row):Option State:=
 match find st.objs o with
 |some (_, .box _ t0)=>match fg st.objs t0.owns with
  |some bh=>match find bh o with
   |some (_, .box _ t1)=>match flat (find bh) r t1 with
    |some x=>aa (State.apply {st with objs:=bh} (aa t) {dst:= .at r x,eat:=[o]})
    |none=>ae
   |_=>ae
  |none=>ae
 |_=>ae
noncomputable def AR{R:Type}(st:State)(k:State->Option R):List (Nat×SS)->Option R
 |[]=>k st
 |(t, .at r)::ss=>match find st.aJ t with
  |some (.ptr o [] 0)=>match LS st t o r with
   |some dB=>AR dB k ss
   |none=>ae
  |some (.dlm o d i [] 0)=>match fg st.objs [o]with
   |some bh=>match find bh o with
    |some (_, .fdeep _ d' l)=>bif aiK d.low.size d'.row.size then(idx l i).bind λx=>AR {aJ:=(t, .at d'.row x)::st.aJ,objs:=bh,nxt:=st.nxt} k ss else ae
    |_=>ae
   |none=>ae
  |_=>AR st k ss
 |_::ss=>AR st k ss
noncomputable def carry(st:State)(J:JS)(oR:State):Option (dA J.rows):=AR (nU (pP oR) J.objs) (Fe st J) J.aJ
def b9{J R:Type}(m:Option (J⊕R))(k:J->Option R):Option R:=m.bind λs=>match s with
 | .inl j=>k j
 | .inr r=>aa r
noncomputable def exec{P:Program}(E:Env P)(nt N:Nat):Code->{R:Type}->wR->State->(Ex->State->Option R)->Option R
 | .skip,_,_,st,k=>k .normal st
 | .label _,_,_,st,k=>k .normal st
 | .scope x,_,a,st,k=>exec E nt N x a.l st (noGoto k)
 | .goto l,_,_,st,k=>k (.goto l) st
 | .ret,_,_,st,k=>k .ret st
 | .exit id,_,_,st,k=>k (.exit id) st
 | .cond c x y,_,a,st,k=>match J8 st.aJ c with
   |some D=>match asBool D with
    |some b=>if b=af then exec E nt N x a.l st k else exec E nt N y a.r st k
    |none=>ae
   |none=>ae
 | .region _ ops draw,_,_,st,k=>bif draw then nT E nt ops ops.toList st [] (k .normal)else runs E nt ops ops.toList [] st (k .normal)
 | .seq x y,R,a,st,k=>match a with
   | .join J a1 a2=>b9 (exec E nt N x (R:=dA J.rows⊕R) a1 st (λe dB=>match e with
       | .normal=>(carry st J dB).map .inl
       |e=>(k e dB).map .inr)) λj=>exec E nt N y a2 (behind st (writes x) J j) k
   | .meet J a1 a2=>(exec E nt N x (R:=dA J.rows) a1 st (λe dB=>match e with
       | .normal=>carry st J dB
       |_=>ae)).bind λj=>exec E nt N y a2 (behind st (writes x) J j) k
   |a=>exec E nt N x a.l st (λe dB=>match e with
     | .normal=>exec E nt N y a.r dB k
     |e=>k e dB)
 | .block id x,R,a,st,k=>match a with
   | .join J a1 _=>b9 (exec E nt N x (R:=dA J.rows⊕R) a1 st (λe dB=>match e with
       | .normal=>(carry st J dB).map .inl
       | .exit i=>bif aiK i id then(carry st J dB).map .inl else(k (.exit i) dB).map .inr
       |e=>(k e dB).map .inr)) λj=>k .normal (behind st (writes x) J j)
   | .meet J a1 _=>(exec E nt N x (R:=dA J.rows) a1 st (λe dB=>match e with
       | .normal=>carry st J dB
       | .exit i=>bif aiK i id then carry st J dB else ae
       |_=>ae)).bind λj=>k .normal (behind st (writes x) J j)
   |a=>exec E nt N x a.l st (λe dB=>match e with
     | .exit i=>bif aiK i id then k .normal dB else k (.exit i) dB
     |e=>k e dB)
 | .loop x,R,a,st,k=>match a with
   | .loop L a1=>match carry st L st with
     |some s0=>Loop (S:=dA L.rows) (X:=R) (λs=>exec E nt N x (R:=dA L.rows⊕R) a1 (behind st (writes x) L s) (λe dB=>match e with
       | .normal=>(carry st L dB).map .inl
       |e=>(k e dB).map .inr)) N s0
     |none=>ae
   |_=>ae
 |_,_,_,_,_=>ae
section
variable {P:Program} {nt N:Nat} {R:Type}
variable {ρ:Nat->Value} {w w0:World} {H:aK} {F F0 G:Nat->Prop}
def Ff{W:List Nat}{l:List (Nat×aI)}{t:Nat}{d:aI}(h:find (C2 W l) t=aa d):d= .dead\/(t∉W/\find l t=aa d):=by
 induction W with
 |nil=>exact .inr ⟨by simp,h⟩
 |cons s W ih=>
  have h':find ((s,aI.dead)::C2 W l) t=aa d:=h
  grind [ba]
def I8{st oR:State}{W:List Nat}{J:JS}{x:dA J.rows}{H1:aK}{F1:Nat->Prop}{w1:World}{Ke:Nat->Value}(h:Fe st J oR=aa x)(hh:c7 G w0 F0 H F w ρ st)(q7:c7 G w0 F0 H1 F1 w1 Ke oR)(hk:cQ H F w H1 F1 w1)
 (Rf:∀t,t∉W->Ke t=ρ t):∃H2 F2,c7 G w0 F0 H2 F2 w1 Ke (behind st W J x)/\cQ H F w H2 F2 w1:=by
 unfold Fe at h;split at h
 case h_2=>cases h
 rename_i _ y rest hp;obtain⟨bs,bh⟩:=rest;obtain rfl:=aiF h;obtain⟨F2,H2,a1,a2,a3,_,a5,_,a6,a7,a8⟩:=wD (U':=UU G w0) hp hh.sat.ob hh.sat.all hk q7.sat.ob q7.sat.slot
 have gq:Step F1 w1 F2 w1:=λb hb=>⟨a2 b hb,rfl⟩
 have cH:=a8 q7.sat.ob.new (λo s t v k _ h2 h3 h4=>by
  obtain⟨v',dZ,cP⟩:=a1.obj _ _ _ h2;rw[h3]at dZ;obtain rfl:=aiF dZ
  exact cP.use k h4) (λo s t v k h2 h3 h4=>by
  have h5:=(jc.1 h2).2;obtain⟨v',dZ,cP⟩:=hh.sat.ob.obj _ _ _ h5;rw[hk.kg.val _ _ dZ]at h3;obtain rfl:=aiF h3
  exact cP.use k (by rwa [hk.kg.sub _ _ cP.con]at h4))
 refine⟨H2,F2,⟨⟨λt d hd=>?_,cH,a6⟩,⟨q7.glob.ext,λb hb=>a2 b (q7.glob.le b hb),λb hb=>?_⟩⟩,⟨a5,λb hb=>⟨a2 b (hk.step b hb).1,(hk.step b hb).2⟩⟩⟩
 .have BG:find ((de J.aJ (dG J.rows y)).1++C2 W st.aJ) t=aa d:=hd;rw[jb]at BG
  cases hm:find (de J.aJ (dG J.rows y)).1 t with
  |some d'=>
   grind
  |none=>
   rw[hm,Option.none_or]at BG
   rcases Ff BG with rfl|⟨h1,h2⟩
   .trivial
   .rw[Rf t h1]
    exact(hh.sat.slot t d h2).keep a5 λb hb=>⟨a2 b (hk.step b hb).1,(hk.step b hb).2⟩
 .rcases a3 b hb with h1|h1
  .exact q7.glob.new b h1
  .exact .inr (q7.sat.ob.iF b h1)
def I9{U:Nat->Prop}{ob:Nat->Option (Nat×Th)}{n:Nat}(hs:aL U H F w ob n){o:Nat}{e:eB}(h:LR ob n o=aa e):lV H F w ob n e undef w:=by
 unfold LR at h;split at h
 case h_2=>cases h
 rename_i s T d l cH;obtain rfl:=aiF h;obtain⟨v,hv,cP⟩:=hs.obj _ _ _ cH
 obtain⟨lh,Ss,⟨xs,hx,PJ⟩,h2,h3,h4⟩:=(show Ig F w T d.low (pd H F w d ae) v l (H.sub s)from cP.ok)
 have hn:∀k,H.sub s k->¬F k:=cP.no
 have Ek:Own 0 (λb=>F b\/∃i,i<l.length/\Ss i b) w T d.row v l:=by
  refine⟨λk hk hF=>?_,xs,?_,λi hi=>?_⟩
  .rcases hF with hF|⟨i,hi,hm⟩
   .exact hn k (h4.bF k hk) hF
   .exact h4.out i k hi hm hk
  .rw[<-d.size,<-h2];exact hx
  .have pJ:i<lh.length:=by omega
   have:=lk.freeze (h3 i pJ hi) (λk hk=>hn k (h4.part hi k hk)) (PJ i pJ);rw[<-d.size]
   exact this.step λb hb=>(by grind)
 have hf:=hs.fresh n (aiM _) (by omega)
 have l5:∀k,H.sub s k->cC H ob [o] k:=λk hk=>⟨o,by simp,s,_,v,cH,hv,hk⟩
 refine⟨H.bR n (.own T d.row l),λb=>F b\/∃i,i<l.length/\Ss i b,⟨⟨λ_ _ h=>h,λs' t h=>?_,λs' t h=>?_⟩,⟨rfl,rfl,rfl,aiM _,λ_ _ _=>rfl⟩,λ_ h=> .inl h,λb hb=>?_,λb hb=>?_⟩,λm hm=>⟨id,λh=>?_⟩,trivial,⟨λo' s' q hq=>?_,λo1 o2 s1 s2 q1 q2 u1 u2 du g1 g2=>?_⟩,λo' h=>?_⟩
 .grind [aK.bR]
 .rfl
 .rcases hb with hb|⟨i,hi,hb⟩
  .exact .inl hb
  .exact .inr (.inr (l5 b (h4.part hi b hb)))
 .rcases hb with hb|⟨i,hi,hb⟩
  .exact hs.lt b hb
  .exact cP.lt b (h4.part hi b hb)
 .grind [aK.bR]
 .obtain⟨rfl,e⟩:=dX hq;obtain⟨rfl,rfl⟩:=aj5 e;refine⟨v,hv,cP.one,by simp[aK.bR,Th.base],Ek.2,λk hk=>⟨Ek.1 k hk,cP.lt k (h4.bF k hk), .inr (l5 k (h4.bF k hk))⟩⟩
 all_goals grind [dX,ai8]
def c7.nU:(os:List (Nat×OS))->{st:State}->{H:aK}->{F:Nat->Prop}->c7 G w0 F0 H F w ρ st->∃H' F',c7 G w0 F0 H' F' w ρ (nU st os)/\cQ H F w H' F' w
 |[],_,H,F,h=>⟨H,F,h,cQ.refl H F w⟩
 |(j, .own _ _)::os,st,H,F,h=>by
  unfold Go.Proofs.YtleifhfeahnocaaGreatDoor.nU;split
  .rename_i e he;obtain⟨H',F',hp⟩:=I9 h.sat.ob he;have hs:=h.sat.apply (d:=ae) hp;obtain⟨H2,F2,h2,k2⟩:=c7.nU os (st:=st.apply ae e) ⟨hs,h.glob.mQ hp.mQ h.sat.ob.iF⟩;exact⟨H2,F2,h2,(cQ.CL hp.mQ h.sat.ob.lt h.sat.ob.je).trans k2⟩
  .exact c7.nU os h
 |(_, .box ..)::os,_,_,_,h=>c7.nU os h
 |(_, .map ..)::os,_,_,_,h=>c7.nU os h
 |(_, .deep ..)::os,_,_,_,h=>c7.nU os h
 |(_, .dmap ..)::os,_,_,_,h=>c7.nU os h
def c7.LS{st dB:State}{t o:Nat}{r:Row}(h:c7 G w0 F0 H F w ρ st)(gN:find st.aJ t=aa (.ptr o [] 0))(hb:LS st t o r=aa dB):∃F',c7 G w0 F0 H F' w ρ dB/\cQ H F w H F' w:=by
 unfold Go.Proofs.YtleifhfeahnocaaGreatDoor.LS at hb;split at hb
 case h_2=>cases hb
 split at hb
 case h_2=>cases hb
 rename_i bh yb;obtain⟨F1,h1,k1⟩:=h.vh yb;split at hb
 case h_2=>cases hb
 rename_i s1 T1 t1 cH;split at hb
 case h_2=>cases hb
 rename_i x hx;obtain rfl:=aiF hb;obtain⟨v,hv,cP⟩:=h1.sat.ob.obj _ _ _ cH
 obtain⟨b,es,rfl,hhp,hold⟩:=(show∃b es,v= .pointer (aa ⟨b,0,ae⟩)/\w.heap[b]? =aa (.cells es.toArray T1 (0,0))/\Holds H F1 w t1 es from cP.ok)
 obtain⟨b',dZ,q6⟩:=h.sat.slot t _ gN;rw[hv]at dZ;simp only[aiO,Value.pointer.injEq,Addr.mk.injEq,and_true]at dZ;subst dZ;have xZ:=jF h1.sat.ob hx hold
 have hg:cC H (find bh) [o] b:=⟨o,by simp,s1,_,_,cH,hv,rfl⟩
 have gq:Step F1 w (λk=>F1 k\/k=b) w:=λk hk=>⟨.inl hk,rfl⟩
 have hp:mP H F1 w (find bh) st.nxt {dst:= .at r x,eat:=[o]} (ρ t) w H (λk=>F1 k\/k=b):=
  ⟨⟨aK.le.refl H,⟨rfl,rfl,rfl,aiM _,λ_ _ _=>rfl⟩,λ_ hk=> .inl hk,(by grind),λk hk=>hk.elim (h1.sat.ob.lt k) λe=>by grind⟩,λm _=>⟨id,id⟩,
    ⟨b,0,q6, .inr rfl,es,xZ.length,λj u hu=>by
      show w.cell? ⟨b,0+j,ae⟩=aa u
      simp[ajr,hhp,hu],xZ.step gq⟩,⟨λ_ _ _ h=>(by cases h),λ_ _ _ _ _ _ _ _ _ h=>(by cases h)⟩,λ_ h=>(by cases h)⟩
 have hs:=h1.sat.apply (d:=aa t) hp
 have YP:vi ρ (aa t) (ρ t)=ρ:=by
  funext u
  show Eg ρ t (ρ t) u=ρ u
  rw[p4];split
  .rename_i e;rw[e]
  .rfl
 rw[YP]at hs;exact⟨_,⟨hs,h1.glob.mQ hp.mQ h1.sat.ob.iF⟩,k1.trans (cQ.CL hp.mQ h1.sat.ob.lt h1.sat.ob.je)⟩
def c7.AR{R:Type}{k:State->Option R}{q:R}:(ss:List (Nat×SS))->{st:State}->{H:aK}->{F:Nat->Prop}->c7 G w0 F0 H F w ρ st->AR st k ss=aa q->∃LL H' F',k LL=aa q/\c7 G w0 F0 H' F' w ρ LL/\cQ H F w H' F' w
 |[],st,H,F,h,hk=>⟨st,H,F,hk,h,cQ.refl H F w⟩
 |(t, .at r)::ss,st,H,F,h,hk=>by
  unfold Go.Proofs.YtleifhfeahnocaaGreatDoor.AR at hk;split at hk
  .rename_i o gN;split at hk
   case h_2=>cases hk
   rename_i dB hbx;obtain⟨F1,h1,k1⟩:=h.LS gN hbx;obtain⟨LL,H2,F2,g1,g2,g3⟩:=c7.AR ss h1 hk;exact⟨LL,H2,F2,g1,g2,k1.trans g3⟩
  .rename_i o d i gN;split at hk
   case h_2=>cases hk
   rename_i bh yb;obtain⟨F1,h1,k1⟩:=h.vh yb;split at hk
   case h_2=>cases hk
   rename_i s1 T1 d' l cH;obtain⟨kP,hk⟩:=bf hk;have kP:=Nat.eq_of_beq_eq_true kP;obtain⟨x,hx,hkx⟩:=bind_some hk;obtain⟨j,rfl,hj,hjx⟩:=iz hx;obtain⟨g,o0,q0,m,cap,hv,hq,q6⟩:=h1.sat.slot t _ gN;obtain⟨v,dZ,cP⟩:=h1.sat.ob.obj _ _ _ cH;rw[hv]at dZ;obtain rfl:=aiF dZ
   obtain⟨A,Ei,e1,_,_,vd⟩:=(show cG F1 w (.slice d'.row) [_] l from cP.ok)
   obtain⟨b,off,es,hA,hFb,hlen,BN,xZ⟩:=vd j hj;simp only[ajw,ajS,and_true]at e1;obtain⟨e1,_,_⟩:=e1;rw[<-e1]at hA;simp only[aiO,Addr.mk.injEq,and_true]at hA;obtain⟨rfl,rfl⟩:=hA
   have xS:aG H F1 w (.at d'.row x) (ρ t):=by
    have e:j=q0:=by omega
    subst e;refine⟨g,o0+j*d.low.size+0,q6,hFb,es,hlen,λjj u hu=>?_,by rw[<-hjx];exact xZ⟩;rw[kP];exact BN jj u hu
   obtain⟨LL,H2,F2,g1,g2,g3⟩:=c7.AR ss (st:={aJ:=(t, .at d'.row x)::st.aJ,objs:=bh,nxt:=st.nxt}) ⟨⟨λt' q' xN=>by
    have xN:find ((t,aI.at d'.row x)::st.aJ) t'=aa q':=xN;rw[ba]at xN;by_cases e:t=t'
    .grind
    .rw[ai e]at xN
     exact h1.sat.slot t' q' xN,h1.sat.ob,h1.sat.all⟩,h1.glob⟩ hkx
   exact⟨LL,H2,F2,g1,g2,k1.trans g3⟩
  .exact c7.AR ss h hk
 |(_, .val ..)::ss,_,_,_,h,hk=>c7.AR ss h hk
 |(_, .ptr ..)::ss,_,_,_,h,hk=>c7.AR ss h hk
 |(_, .undef)::ss,_,_,_,h,hk=>c7.AR ss h hk
 |(_, .fn ..)::ss,_,_,_,h,hk=>c7.AR ss h hk
 |(_, .ifc ..)::ss,_,_,_,h,hk=>c7.AR ss h hk
def oU{st oR:State}{W:List Nat}{J:JS}{x:dA J.rows}{H1:aK}{F1:Nat->Prop}{w1:World}{Ke:Nat->Value}(h:carry st J oR=aa x)(hh:c7 G w0 F0 H F w ρ st)(q7:c7 G w0 F0 H1 F1 w1 Ke oR)(hk:cQ H F w H1 F1 w1)
 (Rf:∀t,t∉W->Ke t=ρ t):∃H2 F2,c7 G w0 F0 H2 F2 w1 Ke (behind st W J x)/\cQ H F w H2 F2 w1:=by
 obtain⟨H1',F1',YQ,iK⟩:=q7.pP;obtain⟨H2',F2',YR,HY⟩:=YQ.nU J.objs;unfold carry at h;obtain⟨LL,H3',F3',h3,hh3,YS⟩:=YR.AR J.aJ h;exact I8 h3 hh hh3 (((hk.trans iK).trans HY).trans YS) Rf
def uO{l:List Oper}{o:Oper}{t:Nat}(ho:o∈l)(hd:o.dst=aa t):t∈sP l:=by
 induction l with
 |nil=>cases ho
 |cons p l ih=>
  grind [sP]
structure Ro(G:Nat->Prop)(w0:World)(F0:Nat->Prop)(W:List Nat)(H:aK)(F:Nat->Prop)(w:World)(ρ:Nat->Value)(H':aK)(F':Nat->Prop)(w':World)(dE:Nat->Value)(dB:State):Prop where
 here:c7 G w0 F0 H' F' w' dE dB
 keeps:cQ H F w H' F' w'
 same:∀t,t∉W->dE t=ρ t
def map_inl{α β:Type}{o:Option α}{f:α->β}{r:β}(h:o.map f=aa r):∃x,o=aa x/\f x=r:=Option.map_eq_some_iff.1 h
def kz{E:Env P}:(c:Code)->{R:Type}->{q:R}->{a:wR}->{st:State}->{k:Ex->State->Option R}->{H:aK}->{F:Nat->Prop}->{w:World}->{ρ:Nat->Value}->{Q:Exit->(Nat->Value)->World->Prop}->
 exec E nt N c a st k=aa q->c7 G w0 F0 H F w ρ st->
 (∀e dB H' F' w' dE,k e dB=aa q->Ro G w0 F0 (writes c) H F w ρ H' F' w' dE dB->Q e.uN dE w')->xI P nt c Q ρ w
 | .skip,R,q,a,st,k,H,F,w,ρ,Q,h,hh,hk=>Kq (hk .normal st H F w ρ h ⟨hh,cQ.refl H F w,λ_ _=>rfl⟩)
 | .ret,R,q,a,st,k,H,F,w,ρ,Q,h,hh,hk=>ND (hk .ret st H F w ρ h ⟨hh,cQ.refl H F w,λ_ _=>rfl⟩)
 | .exit id,R,q,a,st,k,H,F,w,ρ,Q,h,hh,hk=>Kr (hk (.exit id) st H F w ρ h ⟨hh,cQ.refl H F w,λ_ _=>rfl⟩)
 | .cond c x y,R,q,a,st,k,H,F,w,ρ,Q,h,hh,hk=>by
   unfold exec at h;split at h
   case h_2=>cases h
   rename_i D hD;split at h
   case h_2=>cases h
   rename_i b hb;have hv:=oF hb (vS hh.sat.ob.gl hh.sat.slot _ _ hD);split at h
   .rename_i e;subst e;exact Ks hv (kz x h hh λe dB H' F' w' dE h1 h2=>hk e dB H' F' w' dE h1 ⟨h2.here,h2.keeps,λt ht=>h2.same t λhm=>ht (by simp[writes,hm])⟩)
   .rename_i e
    have e:b=ag:=by cases b<;>simp_all
    subst e;exact HJ hv (kz y h hh λe dB H' F' w' dE h1 h2=>hk e dB H' F' w' dE h1 ⟨h2.here,h2.keeps,λt ht=>h2.same t λhm=>ht (by simp[writes,hm])⟩)
 | .region id ops draw,R,q,a,st,k,H,F,w,ρ,Q,h,hh,hk=>by
   unfold exec at h
   cases draw with
   |true=>
    rw[cond_true]at h
    exact Oy E.mix h hh λdB H' F' w' dE h1 h2 h3 h4=>hk .normal dB H' F' w' dE h1 ⟨h2,h3,λt ht=>h4 t λo ho e=>ht (uO ho e)⟩
   |false=>
    rw[cond_false]at h
    have:=AD (K:=λρ w=>Q .normal ρ w) (ops:=ops) (nt:=nt) h (λ_ _ h=>by cases h) hh λdB H' F' w' dE h1 h2 h3 h4=>hk .normal dB H' F' w' dE h1 ⟨h2,h3,λt ht=>h4 t λo ho e=>ht (uO ho e)⟩
    have h2:=Eh (id:=id) (l:=ops.toList) (P:=P) (n:=nt) (Q:=Q) (ρ:=ρ) (w:=w) (by omega);omega
 | .seq x y,R,q,a,st,k,H,F,w,ρ,Q,h,hh,hk=>by
   have fin:∀{H1:aK}{F1:Nat->Prop}{w1:World}{Ke:Nat->Value}{oR:State}{a2:wR},exec E nt N y a2 oR k=aa q->c7 G w0 F0 H1 F1 w1 Ke oR->cQ H F w H1 F1 w1->(∀t,t∉writes x->Ke t=ρ t)->xI P nt y Q Ke w1:=by
    intro H1 F1 w1 Ke oR a2 g1 g2 g3 g4
    exact kz y g1 g2 λe dB H' F' w' dE h1 h2=>hk e dB H' F' w' dE h1 ⟨h2.here,g3.trans h2.keeps,λt ht=>(h2.same t λhm=>ht (by simp[writes,hm])).trans (g4 t λhm=>ht (by simp[writes,hm]))⟩
   have out:∀{e:Ex}{dB:State}{H':aK}{F':Nat->Prop}{w':World}{dE:Nat->Value},k e dB=aa q->Ro G w0 F0 (writes x) H F w ρ H' F' w' dE dB->Q e.uN dE w':=by
    intro e dB H' F' w' dE g1 g2;exact hk e dB H' F' w' dE g1 ⟨g2.here,g2.keeps,λt ht=>g2.same t λhm=>ht (by simp[writes,hm])⟩
   unfold exec at h;split at h
   .rename_i J a1 a2;unfold b9 at h;obtain⟨s,hs,h⟩:=bind_some h;refine zY (kz x hs hh λe dB H' F' w' dE h1 h2=>?_)
    cases e with
    |normal=>
     obtain⟨j,hj,rfl⟩:=map_inl h1;obtain⟨H2,F2,g1,g2⟩:=oU (W:=writes x) hj hh h2.here h2.keeps h2.same;exact fin h g1 g2 h2.same
    |exit id=>
     obtain⟨r,hr,rfl⟩:=map_inl h1;obtain rfl:=aiF h;exact out hr h2
    |ret=>
     obtain⟨r,hr,rfl⟩:=map_inl h1;obtain rfl:=aiF h;exact out hr h2
    |goto l=>
     obtain⟨r,hr,rfl⟩:=map_inl h1;obtain rfl:=aiF h;exact out hr h2
   .rename_i J a1 a2;obtain⟨s,hs,h⟩:=bind_some h;refine zY (kz x hs hh λe dB H' F' w' dE h1 h2=>?_)
    cases e with
    |normal=>
     obtain⟨H2,F2,g1,g2⟩:=oU (W:=writes x) h1 hh h2.here h2.keeps h2.same;exact fin h g1 g2 h2.same
    |exit id=>cases h1
    |ret=>cases h1
    |goto l=>cases h1
   .refine zY (kz x h hh λe dB H' F' w' dE h1 h2=>?_)
    cases e with
    |normal=>exact fin h1 h2.here h2.keeps h2.same
    |exit id=>exact out h1 h2
    |ret=>exact out h1 h2
    |goto l=>exact out h1 h2
 | .block id x,R,q,a,st,k,H,F,w,ρ,Q,h,hh,hk=>by
   have hw:writes (.block id x)=writes x:=rfl;rw[hw]at hk
   have YT:∀{e:Ex}{dE:Nat->Value}{w':World},(match e with| .exit i=>if i=id then Q .normal dE w' else Q (.exit i) dE w'|e=>Q e.uN dE w')->Tp id Q e.uN dE w':=by
    intro e dE w' g
    cases e with
    |normal=>exact g
    |ret=>exact g
    |goto l=>exact g
    |exit i=>
     by_cases e:i=id
     .subst e;simp only[aj]at g;exact KN g
     .simp only[ai e]at g;refine HZ ?_ g
      cases hb:aiK i id<;>simp_all
   have LU:∀{i:Nat},i≠id->aiK i id=ag:=λ{i}e=>by
    cases hb:aiK i id<;>simp_all
   unfold exec at h;split at h
   .rename_i J a1 a2;unfold b9 at h;obtain⟨s,hs,h⟩:=bind_some h;refine tD (kz x hs hh λe dB H' F' w' dE h1 h2=>YT ?_)
    have inn:(carry st J dB).map Sum.inl=aa s->Q .normal dE w':=λh1=>by
     obtain⟨j,hj,rfl⟩:=map_inl h1;obtain⟨H2,F2,g1,g2⟩:=oU (W:=writes x) hj hh h2.here h2.keeps h2.same;exact hk .normal _ H2 F2 w' dE h ⟨g1,g2,h2.same⟩
    have out:∀{e:Ex},(k e dB).map Sum.inr=aa s->Q e.uN dE w':=λ{e}h1=>by
     obtain⟨r,hr,rfl⟩:=map_inl h1
     grind
    cases e with
    |normal=>exact inn h1
    |exit i=>
     show if i=id then _ else _
     by_cases e:i=id
     .subst e;rw[aj rfl];refine inn ?_;simpa using h1
     .rw[ai e];simp only[LU e,cond_false]at h1;exact out (e:= .exit i) h1
    |ret=>exact out (e:= .ret) h1
    |goto l=>grind
   .rename_i J a1 a2;obtain⟨s,hs,h⟩:=bind_some h;refine tD (kz x hs hh λe dB H' F' w' dE h1 h2=>YT ?_)
    have inn:carry st J dB=aa s->Q .normal dE w':=λh1=>by
     obtain⟨H2,F2,g1,g2⟩:=oU (W:=writes x) h1 hh h2.here h2.keeps h2.same;exact hk .normal _ H2 F2 w' dE h ⟨g1,g2,h2.same⟩
    cases e with
    |normal=>exact inn h1
    |exit i=>
     grind
    |ret=>cases h1
    |goto l=>cases h1
   .refine tD (kz x h hh λe dB H' F' w' dE h1 h2=>YT ?_)
    cases e with
    |normal=>grind
    |exit i=>
     show if i=id then _ else _
     by_cases e:i=id
     .subst e;rw[aj rfl];refine hk .normal dB H' F' w' dE ?_ h2;simpa using h1
     .rw[ai e];simp only[LU e,cond_false]at h1;exact hk (.exit i) dB H' F' w' dE h1 h2
    |ret=>grind
    |goto l=>grind
 | .loop x,R,q,a,st,k,H,F,w,ρ,Q,h,hh,hk=>by
   have hw:writes (.loop x)=writes x:=rfl;rw[hw]at hk;unfold exec at h;split at h
   case h_2=>cases h
   rename_i L a1;split at h
   case h_2=>cases h
   rename_i s0 Q6;refine Kt (λs dE w'=>∃H' F',c7 G w0 F0 H' F' w' dE (behind st (writes x) L s)/\cQ H F w H' F' w'/\∀t,t∉writes x->dE t=ρ t) h ?_ ?_
   .obtain⟨H2,F2,g1,g2⟩:=oU (W:=writes x) Q6 hh hh (cQ.refl H F w) λ_ _=>rfl
    grind
   .rintro s dE w' y ⟨H',F',g1,g2,g3⟩ hy
    refine kz x hy g1 λe dB xU Lk BI C0 h1 h2=>?_
    have sm:∀t,t∉writes x->C0 t=ρ t:=λt ht=>(h2.same t ht).trans (g3 t ht)
    have out:∀{e:Ex},e≠ .normal->(k e dB).map Sum.inr=aa y->PD (λs dE w'=>∃H' F',c7 G w0 F0 H' F' w' dE (behind st (writes x) L s)/\cQ H F w H' F' w'/\∀t,t∉writes x->dE t=ρ t) Q q y e.uN C0 BI:=λ{e}he h1=>by
     obtain⟨r,hr,rfl⟩:=map_inl h1;refine⟨by cases e<;>simp_all[Ex.uN],λhq=>?_⟩;subst hq;exact hk e dB xU Lk BI C0 hr ⟨h2.here,g2.trans h2.keeps,sm⟩
    cases e with
    |normal=>
     obtain⟨j,hj,rfl⟩:=map_inl h1;obtain⟨H2,F2,m1,m2⟩:=oU (W:=writes x) hj hh h2.here (g2.trans h2.keeps) sm;exact⟨rfl,H2,F2,m1,m2,sm⟩
    |exit i=>grind
    |ret=>grind
    |goto l=>grind
 | .label l,R,q,a,st,k,H,F,w,ρ,Q,h,hh,hk=>λact hf=>wp_label ⟨ρ,hf,hk .normal st H F w ρ h ⟨hh,cQ.refl H F w,λ_ _=>rfl⟩⟩
 | .scope x,R,q,a,st,k,H,F,w,ρ,Q,h,hh,hk=>by
   have h1:=kz (Q:=λe ρ w=>match e with| .goto _=>False|e=>Q e ρ w) x (show exec E nt N x a.l st (noGoto k)=aa q from h) hh λe dB H' F' w' dE h1 h2=>by
    cases e with
    |goto l=>cases h1
    |_=>exact hk _ dB H' F' w' dE h1 h2
   intro act hf;refine wp_scope_straight (wp_mono (h1 act hf) λe a' w' ⟨dE,uD,Xn⟩=>?_)
   cases e<;>first
    |exact Xn.elim
    |exact⟨dE,uD,Xn⟩
 | .goto l,R,q,a,st,k,H,F,w,ρ,Q,h,hh,hk=>λact hf=>wp_goto ⟨ρ,hf,hk (.goto l) st H F w ρ h ⟨hh,cQ.refl H F w,λ_ _=>rfl⟩⟩
 | .rangeFunc ..,_,_,_,_,_,_,_,_,_,_,h,_,_=>by cases h
 | .refuse _,_,_,_,_,_,_,_,_,_,_,h,_,_=>by cases h
end
end Go.Proofs.YtleifhfeahnocaaGreatDoor
namespace Go.Proofs.YtleifhfeahnocaaGreatDoor
open Go Go.RowKit
def AS{P:Program}(T:bk P)(aJ:List (Nat×aI))(objs:List (Nat×(Nat×Th)))(t:Nat)(T0:TypeId):Option aI:=
 match find T.und T0 with
 |none=>ae
 |some kk=>match find aJ t with
  |some (.ptr o p off)=>match find objs o with
   |some (_, .box _ tr)=>match tr.get p with
    |some (s,eC)=>bif aiK eC off&&nB T T0 kk s.size then aa (.val (l4 kk) s)else ae
    |none=>ae
   |_=>ae
  |_=>ae
def AT{P:Program}(T:bk P)(aJ:List (Nat×aI))(objs:List (Nat×(Nat×Th))):List ResultVar->Option (List aI)
 |[]=>aa []
 | .tmp t::l=>match find aJ t with
   |some d=>match AT T aJ objs l with
    |some ds=>aa (d::ds)
    |none=>ae
   |none=>ae
 | .cell t T0::l=>match AS T aJ objs t T0 with
   |some d=>match AT T aJ objs l with
    |some ds=>aa (d::ds)
    |none=>ae
   |none=>ae
noncomputable def Rp{P:Program}(T:bk P)(rs:List ResultVar)(nb:Nat)(out:JS)(st:State):Option (dA out.rows):=
 match AT T st.aJ st.objs rs with
 |some ds=>AR {aJ:=jk 0 ds,objs:=(pP st).objs,nxt:=(pP st).nxt} (λoR=>match yS nb [] out oR.aJ oR.objs with
  |some (x,_)=>aa x
  |none=>ae) out.aJ
 |none=>ae
def init(inn:JS)(x:dA inn.rows):State:=
 {aJ:=(de inn.aJ (dG _ x)).1,objs:=iL 0 inn.objs (de inn.aJ (dG _ x)).2,nxt:=inn.nxt}
noncomputable def UQ{P:Program}(T:bk P)(rs:List ResultVar)(nb:Nat)(out:JS):Ex->State->Option (dA out.rows)
 | .exit _,_=>ae
 | .goto _,_=>ae
 |_,st=>Rp T rs nb out st
noncomputable def Rq{P:Program}(E:Env P)(nt N:Nat)(c:Code)(rs:List ResultVar)(a:wR)(inn out:JS)(x:dA inn.rows):Option (dA out.rows):=
 exec E nt N c a (init inn x) (UQ E.T rs inn.nxt out)
section
variable {P:Program} {ρ:Nat->Value} {w:World} {H:aK} {F:Nat->Prop} {U:Nat->Prop} {n:Nat}
def C3(T:bk P){t:TypeId}{kk:J7}(hu:find T.und t=aa kk){b off:Nat}{s:Tree}{cs:List Value}(hh:Holds H F w s cs)(hc:∀j u,cs[j]? =aa u->w.cell? ⟨b,off+j,ae⟩=aa u)
 (hz:if l4 kk=af then∃r,find T.row t=aa r/\r.size=s.size else s.size=1):∃v,(loadVar t ⟨b,off,ae⟩).run P w= .ok v w/\aW H F w (l4 kk) s v:=by
 obtain⟨dd,xK,xL⟩:=(T.und_ok _ _ hu).agg;have hl:=hh.length
 cases ha:l4 kk with
 |true=>
  rw[aj ha]at hz;obtain⟨r,hr,No⟩:=hz;obtain⟨ti,z,h1,_,_,h4,_⟩:=T.row_ok _ _ hr
  have YB:(loadCells ⟨b,off,ae⟩ cs.length).run P w= .ok cs.toArray w:=
   run_loadCells_list (P:=P) w ⟨b,off,ae⟩ cs (λj v hv=>by rw[dg];exact hc j v hv)
  refine⟨.agg cs.toArray,?_,cs,hh,rfl,by simp⟩
  have kP:ti.size=cs.length:=by omega
  simp[loadVar,ai1,fF xK,xL.trans ha,sizeOf,typeInfo,h1,kP,YB]
 |false=>
  rw[ai (by simp[ha])]at hz
  obtain⟨v,rfl⟩:∃v,cs=[v]:=by
   match cs,hl.trans hz with
   |[v],_=>exact⟨v,rfl⟩
  refine⟨v,?_,[v],hh,rfl,λ_=>rfl⟩;have:=hc 0 v rfl;simp only[ajO]at this;simp[loadVar,ai1,fF xK,xL.trans ha,this,go_sem]
def Fg(T:bk P){aJ:List (Nat×aI)}{objs:List (Nat×(Nat×Th))}{t:Nat}{T0:TypeId}{D:aI}(h:AS T aJ objs t T0=aa D)(gN:∀t d,find aJ t=aa d->aG H F w d (ρ t))(hs:aL U H F w (find objs) n):
 ∃a v,ρ t= .pointer (aa a)/\(loadVar T0 a).run P w= .ok v w/\aG H F w D v:=by
 unfold AS at h;split at h
 .cases h
 rename_i kk hu;split at h
 case h_2=>cases h
 rename_i o p off hD;split at h
 case h_2=>cases h
 rename_i s0 T1 tr cH;split at h
 case h_2=>cases h
 rename_i s eC hg;obtain⟨h1,rfl⟩:=sx h;obtain⟨h1,h3⟩:=dc h1;obtain rfl:=beq_true h1;obtain⟨b,hb,e⟩:=gN _ _ hD;obtain⟨es,hh,PK⟩:=hs.box cH hb;obtain⟨g1,g2⟩:=PK.get hg
 obtain⟨v,hv,sq⟩:=C3 (b:=b) (off:=eC) T hu g1 (λj u hj=>by
  grind [vU]) (la T h3)
 exact⟨_,v,e,hv,sq⟩
def Oz(tmps:Array Value):ResultVar->Sem Value
 | .tmp t=>pure (tmps.getD t undef)
 | .cell a t=>do loadVar t (<-asAddr (tmps.getD a undef))
def AU(T:bk P){aJ:List (Nat×aI)}{objs:List (Nat×(Nat×Th))}(gN:∀t d,find aJ t=aa d->aG H F w d (ρ t))(hs:aL U H F w (find objs) n){tmps:Array Value}(hf:∀t,tmps.getD t undef=ρ t):
 {rs:List ResultVar}->{ds:List aI}->AT T aJ objs rs=aa ds->∃vs:List Value,(rs.mapM (Oz tmps)).run P w= .ok vs w/\fL H F w ds vs
 |[],ds,h=>by obtain rfl:=aiF h;exact⟨[],by simp,rfl⟩
 | .tmp t::l,ds,h=>by
   unfold AT at h;split at h
   case h_2=>cases h
   rename_i d hd;split at h
   case h_2=>cases h
   rename_i X6 xX;obtain rfl:=aiF h;obtain⟨vs,h1,h2⟩:=AU T gN hs hf xX;refine⟨ρ t::vs,?_,ρ t,vs,rfl,gN t d hd,h2⟩
   grind [Oz,Go.Sem.run_bind,Go.Sem.run_pure,Go.Result.andThen_ok]
 | .cell t T0::l,ds,h=>by
   unfold AT at h;split at h
   case h_2=>cases h
   rename_i d hd;split at h
   case h_2=>cases h
   rename_i X6 xX;obtain rfl:=aiF h;obtain⟨vs,h1,h2⟩:=AU T gN hs hf xX;obtain⟨a,v,e1,e2,e3⟩:=Fg T hd gN hs;refine⟨v::vs,?_,v,vs,rfl,e3,h2⟩;have ha:(asAddr (.pointer (aa a))).run P w= .ok a w:=rfl
   grind [Oz,Go.Sem.run_bind,Go.Result.andThen_ok,Go.Sem.run_pure]
def Fh(T:bk P){fn:Func}{rs:List ResultVar}(No:fn.results.toList=rs){aJ:List (Nat×aI)}{objs:List (Nat×(Nat×Th))}(gN:∀t d,find aJ t=aa d->aG H F w d (ρ t))(hs:aL U H F w (find objs) n){tmps:Array Value}(hf:∀t,tmps.getD t undef=ρ t)
 {ds:List aI}(h:AT T aJ objs rs=aa ds):∃vs:List Value,(results fn tmps).run P w= .ok (yc vs) w/\fL H F w ds vs:=by
 obtain⟨vs,h1,h2⟩:=AU T gN hs hf h;refine⟨vs,?_,h2⟩;have e:fn.results=rs.toArray:=ee No;have er:results fn tmps=(fn.results.mapM (Oz tmps)>>= λvs=>pure (if h:vs.size=1 then vs[0]else Value.tuple vs)):=rfl;rw[er,e,List.mapM_toArray]
 have:∀vs:List Value,(if h:vs.toArray.size=1 then vs.toArray[0]else Value.tuple vs.toArray)=yc vs:=by
  intro vs
  match vs with
  |[]=>rfl
  |[v]=>rfl
  |a::b::l=>simp[yc]
 simp_all
def G3:{l:List (Nat×SS)}->{vs:List jW}->{k t:Nat}->{d:aI}->tV k l=af->find (de l vs).1 t=aa d->t<k+l.length
 |[],_,_,_,_,_,h=>by cases h
 |(t0,s)::l,vs,k,t,d,hi,h=>by
  obtain⟨h1,h2⟩:=dc hi;have h':find ((t0,(eR s vs).1)::(de l (eR s vs).2).1) t=aa d:=h;rw[ba]at h';have:=beq_true h1;rw[aiU];split at h'
  .omega
  .have:=G3 h2 h';omega
def UR(P:Program)(nt:Nat)(c:Code)(run:{R:Type}->State->(Ex->State->Option R)->Option R):Prop:=
 ∀{R:Type}{q:R}{st:State}{k:Ex->State->Option R}{H:aK}{F:Nat->Prop}{w:World}{ρ:Nat->Value}{G:Nat->Prop}{w0:World}{F0:Nat->Prop}{Q:Exit->(Nat->Value)->World->Prop},
  run st k=aa q->c7 G w0 F0 H F w ρ st->(∀e dB H' F' w' dE,k e dB=aa q->Ro G w0 F0 (writes c) H F w ρ H' F' w' dE dB->Q e.uN dE w')->xI P nt c Q ρ w
def Rr{E:Env P}{f:FuncId}{fn:Func}{c:Code}{rs:List ResultVar}{sg:oB}{run:{R:Type}->State->(Ex->State->Option R)->Option R}(hW:UR P fn.ntmps c run)(hf:P.funcs[f]? =aa fn)(hn:(fn.name== "runtime.NumGoroutine")=ag)(hb:fn.body=aa c)(No:fn.results.toList=rs)
 (pY:tV 0 sg.inn.aJ=af)(hlen:Nat.ble sg.inn.aJ.length fn.ntmps=af)(BR:aiK rs.length sg.out.aJ.length=af)
 (BJ:∀x,sg.fn x=run (init sg.inn x) (UQ E.T rs sg.inn.nxt sg.out)):fN P f sg:=by
 refine⟨⟨fn,hf,hn,by rw[hb];rfl⟩,λx y rC args w H F G Gt gN cH eV hG=>?_⟩
 have hlen:sg.inn.aJ.length<=fn.ntmps:=by simpa using hlen
 have BR:=beq_true BR
 refine(zZ (R:=λv w'=>∃vs,v=yc vs/\vs.length=sg.out.aJ.length/\∃H' F',Ext G w w'/\H.le H'/\(∀b,F b->F' b)/\(∀b,F' b->F b\/w.heap.size<=b\/G b)/\
  (∀t d,find (de sg.out.aJ (dG _ y)).1 t=aa d->aG H' F' w' d (vs.getD t undef))/\
  aL (λk=>w.heap.size<=k\/G k) H' F' w' (find (iL sg.inn.nxt sg.out.objs (de sg.out.aJ (dG _ y)).2)) sg.out.nxt/\jd H' sg.out.nxt) hf hb (by omega) λρ Rf=>?_).mono (by grind)
 have YU:∀t,t<args.length->ρ t=args.getD t undef:=(by grind)
 have keys:∀t d,find (de sg.inn.aJ (dG sg.inn.rows x)).1 t=aa d->aG H F w d (ρ t):=λt d hd=>by
  rw[YU t (by have:=G3 pY hd;omega)];exact gN t d hd
 have hh:c7 G w F H F w ρ (init sg.inn x):=⟨⟨keys,cH,eV⟩,⟨⟨rfl,rfl,rfl,aiM _,λ_ _ _=>rfl⟩,λ_ h=>h,λ_ h=> .inl h⟩⟩
 refine hW ((BJ x).symm.trans rC) hh λe dB H' F' w' dE h1 h2=>?_
 have main:Rp E.T rs sg.inn.nxt sg.out dB=aa y->∀act,Fr fn.ntmps act dE->∃v,(results fn act.tmps).run P w'= .ok v w'/\∃vs,v=yc vs/\vs.length=sg.out.aJ.length/\∃H' F',Ext G w w'/\H.le H'/\(∀b,F b->F' b)/\(∀b,F' b->F b\/w.heap.size<=b\/G b)/\
  (∀t d,find (de sg.out.aJ (dG _ y)).1 t=aa d->aG H' F' w' d (vs.getD t undef))/\
  aL (λk=>w.heap.size<=k\/G k) H' F' w' (find (iL sg.inn.nxt sg.out.objs (de sg.out.aJ (dG _ y)).2)) sg.out.nxt/\jd H' sg.out.nxt:=by
  intro hr act xM;unfold Rp at hr;split at hr
  case h_2=>cases hr
  rename_i ds xX;obtain⟨vs,g1,g2⟩:=Fh E.T No h2.here.sat.slot h2.here.sat.ob xM.get xX;have Xu:=ll g2;refine⟨_,g1,vs,rfl,?_,?_⟩
  .have:∀{rs:List ResultVar}{ds:List aI},AT E.T dB.aJ dB.objs rs=aa ds->ds.length=rs.length:=by
    intro rs
    induction rs with
    |nil=>intro ds h;obtain rfl:=aiF h;rfl
    |cons r l ih=>
     intro ds h
     cases r<;>unfold AT at h<;>split at h<;>try cases h
     all_goals grind
   grind
  .have Q6:aL (UU G w) H F w (find (del [] [])) sg.inn.nxt:=⟨λ_ _ _ h=>(by cases h),λ_ _ _ _ _ _ _ _ _ h=>(by cases h),cH.fresh,cH.lt,cH.new,cH.gl⟩
   obtain⟨H4,F4,h4,k4⟩:=h2.here.pP;obtain⟨oR,H3,F3,hr,h3,k3⟩:=c7.AR (ρ:=λt=>vs.getD t undef) (st:={aJ:=jk 0 ds,objs:=(pP dB).objs,nxt:=(pP dB).nxt}) sg.out.aJ ⟨⟨λt d hd=>aG.keep k4.kg k4.step (by simpa using(qa g2 t d hd).2),h4.sat.ob,h4.sat.all⟩,h4.glob⟩ hr;split at hr
   case h_2=>cases hr
   rename_i _ z rest hp;obtain⟨bs,bh⟩:=rest;obtain rfl:=aiF hr;obtain⟨F2,H2,a1,a2,a3,_,a5,_,a6,a7,a8⟩:=wD (U':=UU G w) (ns:=[]) (objs0:=[]) (ρ:=λt=>vs.getD t undef) hp Q6 eV ((h2.keeps.trans k4).trans k3) h3.sat.ob (λt d hd=>h3.sat.slot t d hd)
   have vl:=a8 h3.sat.ob.new (λo s t v k _ m2 m3 m4=>by
    obtain⟨v',dZ,cP⟩:=a1.obj _ _ _ m2;rw[m3]at dZ;obtain rfl:=aiF dZ
    exact cP.use k m4) (λ_ _ _ _ _ h=>by cases h)
   rw[show del [] ([]:List (Nat×(Nat×Th)))=[]from rfl,ajv]at vl;refine⟨H2,F2,h3.glob.ext,a5,λb hb=>a2 b (h3.glob.le b hb),λb hb=>?_,a7,vl,a6⟩
   rcases a3 b hb with m1|m1
   .exact h3.glob.new b m1
   .exact .inr (h3.sat.ob.iF b m1)
 cases e with
 |normal=>exact main h1
 |ret=>exact main h1
 |exit id=>cases h1
 |goto l=>cases h1
def US{E:Env P}{f:FuncId}{fn:Func}{c:Code}{rs:List ResultVar}{N:Nat}{a:wR}{sg:oB}(hf:P.funcs[f]? =aa fn)(hn:(fn.name== "runtime.NumGoroutine")=ag)(hb:fn.body=aa c)(No:fn.results.toList=rs)
 (pY:tV 0 sg.inn.aJ=af)(hlen:Nat.ble sg.inn.aJ.length fn.ntmps=af)(BR:aiK rs.length sg.out.aJ.length=af)
 (BJ:∀x,sg.fn x=Rq E fn.ntmps N c rs a sg.inn sg.out x):fN P f sg:=
 Rr (E:=E) (run:=λst k=>exec E fn.ntmps N c a st k) (λh hh hk=>kz c h hh hk) hf hn hb No pY hlen BR BJ
structure CT(P:Program)where
 f:Nat
 sg:oB
 ok:fN P f sg
def ck{P:Program}{f:Nat}{sg:oB}(h:fN P f sg):CT P:=⟨f,sg,h⟩
def CT.tab{P:Program}:List (CT P)->List (Nat×oB)
 |[]=>[]
 |c::l=>(c.f,c.sg)::CT.tab l
def CT.AV{P:Program}:{l:List (CT P)}->∀p∈CT.tab l,fN P p.1 p.2
 |[],_,h=>by cases h
 |c::l,p,h=>by
  rcases aju.1 h with rfl|h
  .exact c.ok
  .exact CT.AV p h
def YV(fn:Func)(sg:oB):Bool:= !(fn.name== "runtime.NumGoroutine")&&fn.body.isSome&&tV 0 sg.inn.aJ&&Nat.ble sg.inn.aJ.length fn.ntmps&&aiK fn.results.toList.length sg.out.aJ.length
def fw(E:Env P){f:FuncId}{fn:Func}{N:Nat}{sg:oB}(a:wR)(hf:P.funcs[f]? =aa fn)(hc:YV fn sg=af)
 (BJ:∀x,sg.fn x=Rq E fn.ntmps N (fn.body.getD .skip) fn.results.toList a sg.inn sg.out x):fN P f sg:=by
 unfold YV at hc;simp only[ajH,Bool.not_eq_true']at hc;obtain⟨⟨⟨⟨h1,h2⟩,h3⟩,h4⟩,h5⟩:=hc;obtain⟨c,hc⟩:=ai8.1 h2;exact US (E:=E) (N:=N) (a:=a) hf h1 (by rw[hc];rfl) rfl h3 h4 h5 BJ
@[reducible] def SS.l(r:Row):SS:= .val ag (.leaf r)
@[reducible] def SS.g(r:Row):SS:= .val af (.leaf r)
def AW{f:FuncId}{fn:Func}{sg:oB}(hf:P.funcs[f]? =aa fn)(hn:(fn.name== "runtime.NumGoroutine")=ag)(hb:fn.body.isNone=ag)(BJ:∀x,sg.fn x=ae):fN P f sg:=
 ⟨⟨fn,hf,hn,hb⟩,(by grind)⟩
abbrev aB:Row:= .int .i64
def nn{α:Type}:Nat->List α->List (Nat×α)
 |_,[]=>[]
 |n,a::l=>(n,a)::nn (n+1) l
abbrev JS.j1(l:List SS)(o:List OS)(k:Nat):JS:=⟨nn 0 l,nn 0 o,[],k⟩
abbrev JS.i1(l:List SS):JS:= .j1 l [] 0
abbrev JS.w1(t:Nat)(r:Row):JS:= .j1 [.val ag (.own 0)] [.own t r] 1
abbrev u2{A B R:Type}(f:A->B->R)(x:A×B):R:=f x.1 x.2
abbrev u3{A B C R:Type}(f:A->B->C->R)(x:A×B×C):R:=f x.1 x.2.1 x.2.2
abbrev u4{A B C D R:Type}(f:A->B->C->D->R)(x:A×B×C×D):R:=f x.1 x.2.1 x.2.2.1 x.2.2.2
abbrev u5{A B C D E R:Type}(f:A->B->C->D->E->R)(x:A×B×C×D×E):R:=f x.1 x.2.1 x.2.2.1 x.2.2.2.1 x.2.2.2.2
abbrev u6{A B C D E F R:Type}(f:A->B->C->D->E->F->R)(x:A×B×C×D×E×F):R:=f x.1 x.2.1 x.2.2.1 x.2.2.2.1 x.2.2.2.2.1 x.2.2.2.2.2
inductive Tk where
 |O|T|X
 |B (i n:Nat)
 |L (i n:Nat)
 |E (n:Nat)
 |R (j:JS)
 |J (j:JS)
 |P (j:JS)
def dk:Nat->List Tk->(wR->List Tk->wR)->wR
 |k+1, .O::l,c=>dk k l λa l=>c (.two .nil a) l
 |k+1, .T::l,c=>dk k l λa l=>dk k l λb l=>c (.two a b) l
 |_+1, .X::l,c=>c .nil l
 |_+1, .B i n::l,c=>c (.meet ⟨[(i, .l .bool)],[],[],n⟩ .nil .nil) l
 |k+1, .L i n::l,c=>dk k l λa l=>c (.loop ⟨[(i, .l aB)],[],[],n⟩ a) l
 |k+1, .E n::l,c=>dk k l λa l=>dk k l λb l=>c (.join ⟨[],[],[],n⟩ a b) l
 |k+1, .R j::l,c=>dk k l λa l=>dk k l λb l=>c (.meet j a b) l
 |k+1, .J j::l,c=>dk k l λa l=>dk k l λb l=>c (.join j a b) l
 |k+1, .P j::l,c=>dk k l λa l=>c (.loop j a) l
 |_,_,c=>c .nil []
abbrev ak(l:List Tk):wR:=dk 9999 l λa _=>a
instance{P:Program}{f:Nat}{sg:oB}:CoeOut (fN P f sg) (CT P):=⟨ck⟩
end
end Go.Proofs.YtleifhfeahnocaaGreatDoor
end
namespace Go.Proofs.YtleifhfeahnocaaGreatDoor
open Go Go.RowKit
set_option maxRecDepth 100000
set_option linter.unusedSimpArgs false
set_option linter.unusedVariables false
set_option linter.defProp false
inductive Ja(F:Nat->Prop)(w:World):Nat->List (Nat×SS)->List jW->List Value->Prop where
 |nil {k:Nat}:Ja F w k [] [] []
 |cons {k:Nat} {agg:Bool} {r:Row} {x:r.den} {v:Value} {ss:List (Nat×SS)} {ds:List jW} {vs:List Value} (h:aW ⟨λ_=>ae,λ_=>ae,λ_ _=>False⟩ F w agg (.leaf r x) v) (hs:Ja F w (k+1) ss ds vs):Ja F w k ((k, .val agg (.leaf r))::ss) (⟨r,x⟩::ds) (v::vs)
def Ja.aJ{F:Nat->Prop}{w:World}{k:Nat}{ss:List (Nat×SS)}{ds:List jW}{vs:List Value}(h:Ja F w k ss ds vs):(∀t d,find (de ss ds).1 t=aa d->k<=t/\aG ⟨λ_=>ae,λ_=>ae,λ_ _=>False⟩ F w d (vs.getD (t-k) undef))/\(de ss ds).2=[]/\vs.length=ss.length:=by
 induction h with
 |nil=>exact⟨λ_ _ h=>(by cases h),rfl,rfl⟩
 | @cons k agg r x v ss ds vs h hs ih=>
   refine⟨λt d hf=>?_,ih.2.1,by simp[ih.2.2]⟩;have uD:find ((k,aI.val agg (bif r.beq r then Tree.leaf r x else .nil))::(de ss ds).1) t=aa d:=hf;rw[ba]at uD;split at uD
   .rename_i e;subst e;obtain rfl:=aiF uD;rw[Row.beq_refl,Nat.sub_self];exact⟨aiM _,h⟩
   grind
def Fi{F:Nat->Prop}{w:World}{r:Row}{l:List r.den}{v:Value}(h:cG F w (.slice r) [v] l):aW ⟨λ_=>ae,λ_=>ae,λ_ _=>False⟩ F w ag (.leaf (.slice r) l) v:=aW.mD h
def qf{F:Nat->Prop}{w:World}{r:Row}{x:r.den}{es:List Value}(h:cG F w r es x):aW ⟨λ_=>ae,λ_=>ae,λ_ _=>False⟩ F w af (.leaf r x) (.agg es.toArray):=⟨es,h,rfl,by simp⟩
def Jb{P:Program}{f:FuncId}{inn:JS}{fn:dA inn.rows->Option Bool}(h:fN P f ⟨inn,⟨[(0, .val ag (.leaf .bool))],[],[],0⟩,fn⟩){x:dA inn.rows}{y:Bool}(hy:fn x=aa y){ds:List jW}(xX:dG inn.rows x=ds){W:World}{vs:List Value}
 (ha:Ja (λb=>b<W.heap.size) W 0 inn.aJ ds vs)(ho:inn.objs=[])(hgl:rE (λb=>b<W.heap.size) W):Calls P f vs.toArray W λe W'=>e= .returned (.bool y)/\Below W.heap.size W W':=by
 obtain⟨h1,h2,h3⟩:=ha.aJ;subst xX
 refine(h.ok x y hy vs W ⟨λ_=>ae,λ_=>ae,λ_ _=>False⟩ (λb=>b<W.heap.size) (λ_=>False) h3 (by grind) ?_ (λ_ _=>⟨rfl,rfl⟩) (λ_ h=>h.elim)).mono λe W' ⟨us,he,Ra,H',F',a1,_,_,_,a5,_⟩=>?_
 .show aL _ _ _ W (find (iL 0 inn.objs _)) inn.nxt
  rw[ho];exact⟨λ_ _ _ h=>(by cases h),λ_ _ _ _ _ _ _ _ _ h=>(by cases h),λ_ _ _=>⟨rfl,rfl⟩,λ_ h=>h,λ_ h=> .inl h,hgl⟩
 .refine⟨?_,⟨a1.os,a1.tape,a1.output,a1.size,λk hk=>a1.block k hk (λh=>h)⟩⟩
  match us,Ra with
  |[u],_=>
   have:=a5 0 (ey y) rfl;have hu:u= .bool y:=aW.bool (x:=y) this;rw[he,hu];rfl
def Jc{H:Type}{enc:TypeId×Value->H}{P:Program}{W:World}{base:Nat}{spare:Nat->Bool}{held:Bool}{fuel:Nat}{t e:TypeId}{n:Nat}{k:IntKind}(ht:P.underlying t=aa (.array n e))(he:P.underlying e=aa (.int k))(hc:P.cellsOf e=1)(LV:P.cellsOf t=n)
 {cs:List Value}{ns:List Int}{q:List MemPlace}(hd:DataW.trod enc P W base spare held fuel t cs=aa (.agg (ns.map λx=> .lit (.int k x)),q)):cs=ns.map λx=> .int k x:=by
 obtain⟨xs,m,_,hx,hl,hn,vd⟩:=DataW.trod_array ht hd;simp only[Prod.mk.injEq,DataW.agg.injEq]at hx
 have hln:ns.length=n:=by rw[<-hn,<-List.length_map (f:=λx:Int=>(DataW.lit (.int k x):DataW H)),hx.1,List.length_map]
 apply List.ext_getElem?
 intro i;by_cases hi:i<n
 .have h:=vd i hi;rw[hc,Nat.mul_one,aiG (by omega:i<xs.length)]at h;obtain⟨z,h1,h2,_⟩:=DataW.trod_int he h
  have h3:(xs.map (·.1))[i]? =aa (.lit (.int k z)):=by
   rw[List.getElem?_map,aiG (by omega:i<xs.length),h2];rfl
  rw[<-hx.1,List.getElem?_map,aiG (by omega:i<ns.length)]at h3;simp only[Option.map_some,aiO,DataW.lit.injEq,Lit.int.injEq,true_and]at h3;rw[List.getElem?_map,aiG (by omega:i<ns.length),h3]
  have h4:((cs.drop i).take 1)[0]? =aa (.int k z):=by rw[h1];rfl
  grind
 grind
def OA{W:World}{b off:Nat}{v:Value}(h:W.cell? ⟨b,off,ae⟩=aa v):b<W.heap.size:=by
 unfold ajr at h
 grind
section
section
variable {P:Program} {nt N:Nat} {R:Type}
variable {ρ:Nat->Value} {w w0:World} {H:aK} {F F0 G:Nat->Prop}
end
end
end Go.Proofs.YtleifhfeahnocaaGreatDoor
