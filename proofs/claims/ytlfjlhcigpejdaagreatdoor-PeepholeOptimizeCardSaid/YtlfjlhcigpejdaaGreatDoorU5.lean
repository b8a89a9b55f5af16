/- Joined texts: Exec Draw2 Draw4. -/
import Derived.Test.YtlfjlhcigpejdaaGreatDoorU4
section
open _root_.Array renaming toArray_toList->YH
open _root_.List.cons renaming injEq->Zd
open _root_.Nat renaming beq->Yb,blt->YM
open _root_.Option.some renaming inj->X7
open _root_.Prod.mk renaming inj->Zm
open _root_.Go.Sem renaming run_bind->Ys
namespace Go.Proofs.YtlfjlhcigpejdaaGreatDoor
open Go Go.RowKit
structure Env(P:Program)where
 T:aG P
 tab:List (Nat×bf)
 ok:∀p∈tab,aC P p.1 p.2
 mix:P.follows .mixedOrders=true
 deep:Bool
 drop:Bool
def ua(rd:Operand->Option aj):List Operand->Option (List (Nat×List Bool×Nat))
 |[]=>some []
 |x::xs=>match rd x with
  |some (.ptr o p off)=>match ua rd xs with
   |some cs=>some ((o,p,off)::cs)
   |none=>none
  |_=>none
theorem sU{H:ao}{F:Nat->Prop}{w:World}{ρ:Nat->Value}{rd:Operand->Option aj}(dV:∀x d,rd x=some d->ai H F w d (ev ρ x)):{xs:List Operand}->{cs:List (Nat×List Bool×Nat)}->ua rd xs=some cs->gZ H cs (xs.map (ev ρ))
 |[],cs,h=>by obtain rfl:=X7 h;rfl
 |x::xs,cs,h=>by
  unfold ua at h;split at h
  case h_2=>cases h
  rename_i o p off hx;split at h
  case h_2=>cases h
  rename_i oa py;obtain rfl:=X7 h;exact⟨_,_,rfl,dV _ _ hx,sU dV py⟩
def iW{R:Type}(rd:Operand->Option aj)(fn:Fn)(first caps:Array Operand)(k:cU->Option R):Option R:=
 match fn,first.toList with
 | .func f,[]=>match ua rd caps.toList with
   |some cs=>k {dst:= .fn f cs}
   |none=>none
 |_,_=>none
theorem ub{R:Type}{P:Program}{U:Nat->Prop}{H:ao}{F:Nat->Prop}{w:World}{ρ:Nat->Value}{ob:Nat->Option (Nat×Th)}{n d:Nat}{ty:TypeId}{pos:String}{aft:Array Edge}{rd:Operand->Option aj}(dV:∀x d,rd x=some d->ai H F w d (ev ρ x)){fn:Fn}{first caps:Array Operand}{k:cU->Option R}{q:R}
 (h:iW rd fn first caps k=some q)(hs:aq U H F w ob n):∃e,k e=some q/\bJ P U H F w ρ ob n ⟨some d, .makeFunc fn first caps,ty,pos,aft,none⟩ e:=by
 unfold iW at h;split at h
 case h_2=>cases h
 rename_i f hf;split at h
 case h_2=>cases h
 rename_i cs py
 have IY:first= #[]:=by rw[<-YH (xs:=first),hf]
 subst IY
 have e:caps.map (ev ρ)=(caps.toList.map (ev ρ)).toArray:=by rw[<-List.map_toArray,YH]
 exact⟨_,h,aU hs (v:= .func (.func f) #[] (caps.toList.map (ev ρ)).toArray) (by simp[execOp,Instr.makeFunc,e]) ⟨_,rfl,sU dV py⟩⟩
noncomputable def mJ{R:Type}{P:Program}(E:Env P)(rd:Operand->Option aj)(objs:List (Nat×(Nat×Th)))(n:Nat)(callee:Callee)(args:Array Operand)(rH:Array TypeId)(k:cU->Option R):Option R:=
 match callee with
 | .builtin .len=>match args.toList,rH.toList with
   |[x],[t]=>match rd x with
    |some D=>match Bf E.T (find objs) t D with
     |some D'=>k {dst:=D'}
     |none=>none
    |none=>none
   |_,_=>none
 | .builtin .append=>match args.toList,rH.toList with
   |[x,y],[t,t']=>bif Yb t t' then(match rd x with
    |some X=>match rd y with
     |some Y=>jT E.T (find objs) n t X Y k
     |none=>none
    |none=>none)else none
   |_,_=>none
 | .builtin .max=>match args.toList,rH.toList with
   |[x,y],[_,_]=>match rd x with
    |some X=>match rd y with
     |some Y=>match pR true X Y with
      |some D=>k {dst:=D}
      |none=>none
     |none=>none
    |none=>none
   |_,_=>none
 | .builtin .min=>match args.toList,rH.toList with
   |[x,y],[_,_]=>match rd x with
    |some X=>match rd y with
     |some Y=>match pR false X Y with
      |some D=>k {dst:=D}
      |none=>none
     |none=>none
    |none=>none
   |_,_=>none
 | .value g=>sR E.tab rd objs n g args.toList k
 | .invoke x name=>mb E.T E.tab rd objs n x name args.toList k
 |_=>none
noncomputable def GG{R:Type}{P:Program}(E:Env P)(rd:Operand->Option aj)(objs:List (Nat×(Nat×Th)))(n:Nat)(dst:Option Nat)(op:Op)(k:cU->Option R):Option R:=
 match dst with
 |none=>match op with
  | .store t x y=>match rd x with
    |some X=>match rd y with
     |some Y=>l9 E.T (find objs) n t X Y k
     |none=>none
    |none=>none
  | .call c=>mJ E rd objs n c.callee c.args c.argTypes k
  | .mapUpdate t m x y=>match rd m with
    |some M=>match rd x with
     |some X=>match rd y with
      |some Y=>gn E.T (find objs) n t M X Y k
      |none=>none
     |none=>none
    |none=>none
  |_=>none
 |some _=>match op with
  | .move x=>match rd x with
    |some D=>k {dst:=D}
    |none=>none
  | .assign x=>match rd x with
    |some D=>k {dst:=D}
    |none=>none
  | .pick c x y=>match rd c with
    |some C=>match asBool C with
     |some b=>match(if b=true then rd x else rd y)with
      |some D=>k {dst:=D}
      |none=>none
     |none=>none
    |none=>none
  | .alloc t=>oj E.T n t k
  | .box t x=>match rd x with
    |some X=>Bb n t X k
    |none=>none
  | .build t ps=>om E.T rd t ps k
  | .buildSlice t m ps=>pU E.deep E.T rd (find objs) n t m ps k
  | .load t x=>match rd x with
    |some X=>lq E.T (find objs) n t X k
    |none=>none
  | .nilCheck x=>match rd x with
    |some (.ptr o p off)=>k {dst:= .ptr o p off}
    |some (.elem o s r i z p off)=>k {dst:= .elem o s r i z p off}
    |some (.dlm o d i p off)=>k {dst:= .dlm o d i p off}
    |some (.at r z)=>k {dst:= .at r z}
    |_=>none
  | .binOp o t x y _=>match rd x with
    |some X=>match rd y with
     |some Y=>Bl E.T (find objs) o t (Kn y) X Y k
     |none=>none
    |none=>none
  | .unOp o _ x=>match rd x with
    |some X=>match Ns o X with
     |some D=>k {dst:=D}
     |none=>none
    |none=>none
  | .convert s t x=>match rd x with
    |some X=>match DO E.T s t X with
     |some D=>k {dst:=D}
     |none=>none
    |none=>none
  | .makeSlice t a b=>match rd a with
    |some A=>match asInt A with
     |some (_,i)=>match rd b with
      |some B=>match asInt B with
       |some (_,j)=>qD E.deep E.T n t (lk a b) i j k
       |none=>none
      |none=>none
     |none=>none
    |none=>none
  | .slice t x lo hi none=>match rd x with
    |some X=>oo E.drop E.T rd (find objs) n t X lo hi k
    |none=>none
  | .fieldAddr t x f=>match rd x with
    |some X=>match xL E.T t f X with
     |some D=>k {dst:=D}
     |none=>none
    |none=>none
  | .field t x f=>match rd x with
    |some X=>match tM E.T t f X with
     |some D=>k {dst:=D}
     |none=>none
    |none=>none
  | .indexAddr t x y=>match rd x with
    |some X=>match rd y with
     |some Y=>match asInt Y with
      |some (_,i)=>oh E.T (find objs) t X i k
      |none=>none
     |none=>none
    |none=>none
  | .index t x y=>match rd x with
    |some X=>match rd y with
     |some Y=>match asInt Y with
      |some (_,i)=>lW E.T (find objs) t X i k
      |none=>none
     |none=>none
    |none=>none
  | .extract x i=>match rd x with
    |some X=>match qs X i with
     |some D=>k {dst:=D}
     |none=>none
    |none=>none
  | .call c=>mJ E rd objs n c.callee c.args c.argTypes k
  | .makeFunc fn first caps=>iW rd fn first caps k
  | .makeMap t none=>iV E.deep E.T n t k
  | .lookup t m x ok=>match rd m with
    |some M=>match rd x with
     |some X=>jR E.T (find objs) n t ok M X k
     |none=>none
    |none=>none
  | .makeInterface t x=>match rd x with
    |some X=>BF E.T t X k
    |none=>none
  | .typeAssert x _ t ok=>match rd x with
    |some X=>ma E.T t ok X k
    |none=>none
  |_=>none
section
variable {P:Program} {ρ:Nat->Value} {w w':World} {H H':ao} {F F':Nat->Prop} {U:Nat->Prop} {n:Nat} {R:Type}
variable {ty:TypeId} {pos:String} {aft:Array Edge} {dst:Option Nat} {d:Nat}
theorem dq{α:Type}{a:Array α}{l:List α}(h:a.toList=l):a=l.toArray:=by rw[<-h,YH]
theorem Em(E:Env P){rd:Operand->Option aj}(dV:∀x d,rd x=some d->ai H F w d (ev ρ x)){objs:List (Nat×(Nat×Th))}{c:Call}{k:cU->Option R}{q:R}
 (h:mJ E rd objs n c.callee c.args c.argTypes k=some q)(hs:aq U H F w (find objs) n):∃e,k e=some q/\bJ P U H F w ρ (find objs) n ⟨some d, .call c,ty,pos,aft,none⟩ e:=by
 obtain⟨callee,args,rH⟩:=c;simp only at h;unfold mJ at h;split at h
 .split at h
  case h_2=>cases h
  rename_i x t ha ht;obtain rfl:=dq ha;obtain rfl:=dq ht;split at h
  case h_2=>cases h
  rename_i D hD;split at h
  case h_2=>cases h
  rename_i D' F6;exact⟨_,h,zt E.T F6 hs (dV _ _ hD)⟩
 .split at h
  case h_2=>cases h
  rename_i x y t t' ha ht;obtain rfl:=dq ha;obtain rfl:=dq ht;obtain⟨hb,h'⟩:=ay h;clear h;obtain rfl:=beq_true hb;split at h'
  case h_2=>cases h'
  rename_i X hX;split at h'
  case h_2=>cases h'
  rename_i Y hY;exact vL E.T h' hs (dV _ _ hX) (dV _ _ hY)
 .split at h
  case h_2=>cases h
  rename_i x y t t' ha ht;obtain rfl:=dq ha;obtain rfl:=dq ht;split at h
  case h_2=>cases h
  rename_i X hX;split at h
  case h_2=>cases h
  rename_i Y hY;split at h
  case h_2=>cases h
  rename_i D hD;exact⟨_,h,qt (mx:=true) hD hs (dV _ _ hX) (dV _ _ hY)⟩
 .split at h
  case h_2=>cases h
  rename_i x y t t' ha ht;obtain rfl:=dq ha;obtain rfl:=dq ht;split at h
  case h_2=>cases h
  rename_i X hX;split at h
  case h_2=>cases h
  rename_i Y hY;split at h
  case h_2=>cases h
  rename_i D hD;exact⟨_,h,qt (mx:=false) hD hs (dV _ _ hX) (dV _ _ hY)⟩
 .exact v8 E.ok dV h hs
 .exact qP E.T E.ok dV h hs
 .cases h
def GH:Callee->Bool
 | .value _=>true
 | .invoke .. =>true
 |_=>false
theorem rW(E:Env P){rd:Operand->Option aj}(dV:∀x d,rd x=some d->ai H F w d (ev ρ x)){objs:List (Nat×(Nat×Th))}{c:Call}{k:cU->Option R}{q:R}(hc:GH c.callee=true)
 (h:mJ E rd objs n c.callee c.args c.argTypes k=some q)(hs:aq U H F w (find objs) n):∃e,k e=some q/\bJ P U H F w ρ (find objs) n ⟨none, .call c,ty,pos,aft,none⟩ e:=by
 obtain⟨callee,args,rH⟩:=c;simp only at h hc
 cases callee with
 |value g=>exact v8 E.ok dV h hs
 |invoke x name=>exact qP E.T E.ok dV h hs
 |builtin b=>cases hc
end
section
variable {P:Program} {ρ:Nat->Value} {w w':World} {H H':ao} {F F':Nat->Prop} {U:Nat->Prop} {n:Nat} {R:Type}
variable {ty:TypeId} {pos:String} {aft:Array Edge} {dst:Option Nat} {d:Nat}
theorem BI{c x y:Operand}{b:Bool}{D:aj}{ob:Nat->Option (Nat×Th)}(hs:aq U H F w ob n)(hc:ev ρ c= .bool b)(hx:ai H F w D (ev ρ (if b=true then x else y))):bJ P U H F w ρ ob n ⟨some d, .pick c x y,ty,pos,aft,none⟩ {dst:=D}:=by
 cases b with
 |true=>exact aA hs (p6 hc rfl) hx
 |false=>exact aA hs (px hc rfl) hx
theorem En(E:Env P){rd:Operand->Option aj}(dV:∀x d,rd x=some d->ai H F w d (ev ρ x)){objs:List (Nat×(Nat×Th))}{op:Op}{k:cU->Option R}{q:R}
 (wa:dst=none->∀c,op= .call c->GH c.callee=true)(h:GG E rd objs n dst op k=some q)(hs:aq U H F w (find objs) n):∃e,k e=some q/\bJ P U H F w ρ (find objs) n ⟨dst,op,ty,pos,aft,none⟩ e:=by
 cases dst with
 |none=>
  unfold GG at h;simp only at h;split at h
  .split at h
   case h_2=>cases h
   rename_i X hX;split at h
   case h_2=>cases h
   rename_i Y hY;exact xY E.T h hs (dV _ _ hX) (dV _ _ hY)
  .rename_i c;exact rW E dV (wa rfl c rfl) h hs
  .split at h
   case h_2=>cases h
   rename_i M hM;split at h
   case h_2=>cases h
   rename_i X hX;split at h
   case h_2=>cases h
   rename_i Y hY;exact qH E.T h hs (dV _ _ hM) (dV _ _ hX) (dV _ _ hY)
  .cases h
 |some d=>
  unfold GG at h;simp only at h;split at h
  .split at h
   case h_2=>cases h
   rename_i D hD;exact⟨_,h,Bm hs (dV _ _ hD)⟩
  .split at h
   case h_2=>cases h
   rename_i D hD;exact⟨_,h,vx hs (dV _ _ hD)⟩
  .split at h
   case h_2=>cases h
   rename_i C hC;split at h
   case h_2=>cases h
   rename_i b hb;split at h
   case h_2=>cases h
   rename_i D hD;refine⟨_,h,BI hs (jM hb (dV _ _ hC)) ?_⟩;split at hD
   .rename_i e;rw[if_pos e];exact dV _ _ hD
   .rename_i e;rw[if_neg e];exact dV _ _ hD
  .exact Ba E.T h hs
  .split at h
   case h_2=>cases h
   rename_i X hX;exact Gd h hs (dV _ _ hX)
  .exact Bi E.T dV h hs
  .exact xZ E.deep E.T dV h hs
  .split at h
   case h_2=>cases h
   rename_i X hX;exact Bx E.T h hs (dV _ _ hX)
  .split at h
   .rename_i o p off hX;obtain⟨b,h1,h2⟩:=dV _ _ hX;exact⟨_,h,aU hs (v:= .pointer (some ⟨b,off,none⟩)) (by simp[execOp,h2]) ⟨b,h1,rfl⟩⟩
   .rename_i o s r i z p off hX;have hd:=dV _ _ hX;obtain⟨g,o0,q,T,m,cap,l,_,_,_,_,h2⟩:=id hd;exact⟨_,h,aU hs (v:= .pointer (some ⟨g,o0+q*r.size+off,none⟩)) (by simp[execOp,h2]) (by rw[<-h2];exact hd)⟩
   .rename_i o d i p off hX;have hd:=dV _ _ hX;obtain⟨g,o0,q,m,cap,_,_,h2⟩:=id hd;exact⟨_,h,aU hs (v:= .pointer (some ⟨g,o0+q*d.low.size+off,none⟩)) (by simp[execOp,h2]) (by rw[<-h2];exact hd)⟩
   .rename_i r z hX;have hd:=dV _ _ hX;obtain⟨b,off,h2,_⟩:=id hd;exact⟨_,h,aU hs (v:= .pointer (some ⟨b,off,none⟩)) (by simp[execOp,h2]) (by rw[<-h2];exact hd)⟩
   .cases h
  .split at h
   case h_2=>cases h
   rename_i X hX;split at h
   case h_2=>cases h
   rename_i Y hY;exact Gg E.T h hs (dV _ _ hX) (dV _ _ hY)
  .split at h
   case h_2=>cases h
   rename_i X hX;split at h
   case h_2=>cases h
   rename_i D hD;exact⟨_,h,IF hD hs (dV _ _ hX)⟩
  .split at h
   case h_2=>cases h
   rename_i X hX;split at h
   case h_2=>cases h
   rename_i D hD;exact⟨_,h,DP E.T hD hs (dV _ _ hX)⟩
  .split at h
   case h_2=>cases h
   rename_i A hA;split at h
   case h_2=>cases h
   rename_i i hi;split at h
   case h_2=>cases h
   rename_i B hB;split at h
   case h_2=>cases h
   rename_i j hj;exact Bw E.deep E.T h hs (ff hi (dV _ _ hA)) (ff hj (dV _ _ hB))
  .split at h
   case h_2=>cases h
   rename_i X hX;exact Bk E.drop E.T dV h hs (dV _ _ hX)
  .split at h
   case h_2=>cases h
   rename_i X hX;split at h
   case h_2=>cases h
   rename_i D hD;exact⟨_,h,A5 E.T hD hs (dV _ _ hX)⟩
  .split at h
   case h_2=>cases h
   rename_i X hX;split at h
   case h_2=>cases h
   rename_i D hD;exact⟨_,h,xQ E.T hD hs (dV _ _ hX)⟩
  .split at h
   case h_2=>cases h
   rename_i X hX;split at h
   case h_2=>cases h
   rename_i Y hY;split at h
   case h_2=>cases h
   rename_i i hi;exact A6 E.T h hs (dV _ _ hX) (ff hi (dV _ _ hY))
  .split at h
   case h_2=>cases h
   rename_i X hX;split at h
   case h_2=>cases h
   rename_i Y hY;split at h
   case h_2=>cases h
   rename_i k' i hi;exact xS E.T h hs (dV _ _ hX) (ff hi (dV _ _ hY))
  .split at h
   case h_2=>cases h
   rename_i X hX;split at h
   case h_2=>cases h
   rename_i D hD;exact⟨_,h,vw hD hs (dV _ _ hX)⟩
  .exact Em E dV h hs
  .exact ub dV h hs
  .exact tW E.deep E.T h hs
  .split at h
   case h_2=>cases h
   rename_i M hM;split at h
   case h_2=>cases h
   rename_i X hX;exact vJ E.T h hs (dV _ _ hM) (dV _ _ hX)
  .split at h
   case h_2=>cases h
   rename_i X hX;exact GF E.T h hs (dV _ _ hX)
  .split at h
   case h_2=>cases h
   rename_i X hX;exact yo E.T h hs (dV _ _ hX)
  .cases h
end
def lv(rd:Operand->Option aj)(x:Operand):List Nat:=
 match rd x with
 |some (.val _ t)=>t.owns
 |_=>[]
def uc(rd:Operand->Option aj)(x:Operand):List Nat:=
 match rd x with
 |some (.val _ (.view o _ _ _))=>[o]
 |_=>[]
def zP(rd:Operand->Option aj):List Operand->List Nat
 |[]=>[]
 |x::xs=>lv rd x++zP rd xs
def oF:Operand->Bool
 | .const (.slice none 0 0)=>true
 |_=>false
def zQ(rd:Operand->Option aj):Op->List Nat
 | .store _ x y=>match rd x with
   |some (.elem ..)=>lv rd y
   |_=>[]
 | .buildSlice _ _ ps=>zP rd (ps.toList.map (·.2))
 | .binOp .eql _ x y _=>bif oF y then[]else lv rd x++lv rd y
 | .binOp .neq _ x y _=>bif oF y then[]else lv rd x++lv rd y
 | .slice _ x _ _ _=>uc rd x
 | .indexAddr _ x _=>uc rd x
 | .call c=>match c.callee,c.args.toList with
   | .builtin .append,[_,y]=>uc rd y
   |_,_=>[]
 | .mapUpdate _ _ _ y=>lv rd y
 |_=>[]
def wb(nt:Nat):Option Nat->Bool
 |some d=>YM d nt
 |none=>true
def Rh(dst:Option Nat)(op:Op):Bool:=
 match dst with
 |some _=>true
 |none=>match op with
  | .call c=>GH c.callee
  |_=>true
open Classical in
noncomputable def yr{α:Type}(a b:Option α):Option α:=if a=b then a else none
theorem Eo{α:Type}{a b:Option α}{q:α}(h:yr a b=some q):a=some q:=by
 unfold yr at h;split at h
 .exact h
 .cases h
theorem IZ{α:Type}{a b:Option α}{q:α}(h:yr a b=some q):b=some q:=by
 have ha:=Eo h;unfold yr at h;split at h
 .rename_i e;rw[<-e];exact ha
 .cases h
def Ep{P:Program}(T:aG P)(rd:Operand->Option aj)(ob:Nat->Option (Nat×Th)):Op->Option (Bool×Nat)
 | .binOp o t x y _=>match o with
   | .eql=>bif oF y then(match find T.und t with
     |some (.slice _)=>match rd x with
      |some X=>match pD ob X with
       |some (.read _ l)=>some (false,l.length)
       |some (.own _ _ _ _ l)=>some (false,l.length)
       |_=>none
      |none=>none
     |_=>none)else none
   | .neq=>bif oF y then(match find T.und t with
     |some (.slice _)=>match rd x with
      |some X=>match pD ob X with
       |some (.read _ l)=>some (true,l.length)
       |some (.own _ _ _ _ l)=>some (true,l.length)
       |_=>none
      |none=>none
     |_=>none)else none
   |_=>none
 |_=>none
def HR(objs:List (Nat×(Nat×Th))):Option aj->Bool
 |some (.val false (.own o))=>match find objs o with
  |some (_, .dmap ..)=>true
  |_=>false
 |_=>false
def Er(rd:Operand->Option aj)(objs:List (Nat×(Nat×Th))):Op->List Nat
 | .mapUpdate t m x y=>bif HR objs (rd m)then[]else zQ rd (.mapUpdate t m x y)
 | .lookup t m x false=>bif HR objs (rd m)then lv rd m else[]
 |op=>zQ rd op
def mX{P:Program}(E:Env P)(rd:Operand->Option aj)(objs:List (Nat×(Nat×Th)))(op:Op):List Nat:=
 match E.deep,op with
 |true, .buildSlice .. =>[]
 |_,_=>Er rd objs op
noncomputable def qQ(st:State)(o:Nat):State:=
 match D4 (find st.objs) st.nxt o with
 |some e=>st.apply none e
 |none=>st
noncomputable def pd(st:State):List Nat->State
 |[]=>st
 |o::os=>pd (qQ st o) os
def HS:List (Nat×(Nat×Th))->Bool
 |[]=>false
 |(_,(_, .deep _ _ _ (some _)))::_=>true
 |(_,(_, .dmap _ _ _ _ _ (some _)))::_=>true
 |_::l=>HS l
noncomputable def kX(st:State):State:=
 match HS st.objs with
 |true=>pd (pd st (st.objs.map (·.1))) (st.objs.map (·.1))
 |false=>st
def K0:Op->Bool
 | .call c=>GH c.callee
 |_=>false
def ud(o:Nat):List (Nat×(Nat×Th))->Bool
 |[]=>false
 |(_,(_, .deep _ _ _ (some h)))::l=>Yb h.o o||ud o l
 |(_,(_, .dmap _ _ _ _ _ (some h)))::l=>Yb h.2 o||ud o l
 |_::l=>ud o l
def GI(st:State)(x:Operand):Bool:=
 match CN st.ah x with
 |some (.val _ (.own o))=>ud o st.objs
 |_=>false
def Es(st:State):Op->Bool
 | .call c=>c.args.toList.any (GI st)
 |_=>false
noncomputable def zR{R:Type}{P:Program}(E:Env P)(dst:Option Nat)(op:Op)(st:State)(k:State->Option R):Option R:=
 match dp st.objs (mX E (CN st.ah) st.objs op)with
 |some aD=>match Ep E.T (CN st.ah) (find aD) op with
  |some (b,m)=>match dst with
   |some d=>if Yb m 0=true then yr (k (State.apply {st with objs:=aD} (some d) {dst:=cJ true})) (k (State.apply {st with objs:=aD} (some d) {dst:=cJ false}))
     else k (State.apply {st with objs:=aD} (some d) {dst:=cJ b})
   |none=>none
  |none=>bif Rh dst op then GG E (CN st.ah) aD st.nxt dst op (fun e=>k (State.apply {st with objs:=aD} dst e))else none
 |none=>none
noncomputable def qR{R:Type}{P:Program}(E:Env P)(dst:Option Nat)(op:Op)(st:State)(k:State->Option R):Option R:=
 match E.deep&&K0 op&& !Es st op with
 |true=>zR E dst op (kX st) k
 |false=>zR E dst op st k
def zS(all:Array Oper)(j:Nat):Option Nat:=(all[j]?).bind (·.dst)
def State.put(st:State)(dst:Option Nat)(d:aj):State:=
 match dst with
 |some t=>{st with ah:=(t,d)::st.ah}
 |none=>st
def qS(dst:Option Nat)(kn:List (Nat×Bool)):List (Nat×Bool):=
 match dst with
 |some d=>del [d] kn
 |none=>kn
noncomputable def runs{R:Type}{P:Program}(E:Env P)(nt:Nat)(all:Array Oper):List Oper->List (Nat×Bool)->State->(State->Option R)->Option R
 |[],_,st,k=>k st
 |o::os,kn,st,k=>bif wb nt o.dst then(match o.guard with
  |none=>qR E o.dst o.op st (fun bn=>runs E nt all os (qS o.dst kn) bn k)
  |some (j,b)=>match zS all j with
   |none=>none
   |some g=>bif YM g nt then(match find kn g with
    |some v=>bif (bif v then b else !b)then qR E o.dst o.op st (fun bn=>runs E nt all os (qS o.dst kn) bn k)else runs E nt all os (qS o.dst kn) (st.put o.dst .undef) k
    |none=>match find st.ah g with
     |some .undef=>runs E nt all os (qS o.dst kn) (st.put o.dst .undef) k
     |some d=>match asBool d with
      |some t=>if t=true then
        (bif b then qR E o.dst o.op (st.put (some g) (cJ true)) (fun bn=>runs E nt all os (qS o.dst ((g,true)::kn)) bn k)
          else runs E nt all os (qS o.dst ((g,true)::kn)) ((st.put (some g) (cJ true)).put o.dst .undef) k)
       else
        (bif b then runs E nt all os (qS o.dst ((g,false)::kn)) ((st.put (some g) (cJ false)).put o.dst .undef) k
          else qR E o.dst o.op (st.put (some g) (cJ false)) (fun bn=>runs E nt all os (qS o.dst ((g,false)::kn)) bn k))
      |none=>none
     |none=>none)else none)else none
section
variable {P:Program} {nt:Nat} {ops:Array Oper} {K:(Nat->Value)->World->Prop} {rest:List Oper} {R:Type}
variable {ρ:Nat->Value} {w w0:World} {H:ao} {F F0 G:Nat->Prop}
abbrev UU(G:Nat->Prop)(w0:World):Nat->Prop:=fun k=>w0.heap.size<=k\/G k
theorem D7.iI{H':ao}{F':Nat->Prop}{w':World}{g:Nat->Prop}(hg:D7 G w0 F0 w F)(he:FD H F w H' F' w' g)(hu:∀k,g k->UU G w0 k):D7 G w0 F0 w' F':=by
 have mv:=hg.ext.size;refine⟨⟨he.ext.os.trans hg.ext.os,he.ext.tape.trans hg.ext.tape,he.ext.output.trans hg.ext.output,Nat.le_trans mv he.ext.size,fun k hk hn=>?_⟩,fun b hb=>he.le b (hg.le b hb),fun b hb=>?_⟩
 .rw[he.ext.block k (by omega) fun h=>?_]
  .exact hg.ext.block k hk hn
  .rcases hu k h with h1|h1
   .omega
   .exact hn h1
 .rcases he.grow b hb with h1|h1|h1
  .exact hg.new b h1
  .exact .inr (.inl (Nat.le_trans mv h1))
  .exact .inr (hu b h1)
structure bK(G:Nat->Prop)(w0:World)(F0:Nat->Prop)(H:ao)(F:Nat->Prop)(w:World)(ρ:Nat->Value)(st:State):Prop where
 sat:Sat (UU G w0) H F w ρ st
 glob:D7 G w0 F0 w F
theorem bD.wc{H':ao}{F':Nat->Prop}{w':World}{g:Nat->Prop}(he:FD H F w H' F' w' g)(hF:∀b,F b->b<w.heap.size)(hg:∀k,g k->¬F k):bD H F w H' F' w':=⟨he.fP,he.step hF hg⟩
theorem bK.oe{st:State}{os:List Nat}{aD:List (Nat×(Nat×Th))}(h:bK G w0 F0 H F w ρ st)(hf:dp st.objs os=some aD):
 ∃F',bK G w0 F0 H F' w ρ {st with objs:=aD}/\bD H F w H F' w:=by
 obtain⟨F',a1,a2,a3⟩:=jU hf h.sat.ob
 have dH:Step F w F' w:=fun b hb=>⟨a2 b hb,rfl⟩
 refine⟨F',⟨⟨fun t d hd=>(h.sat.slot t d hd).aO (ao.le.refl H) dH,a1,h.sat.all⟩,⟨h.glob.ext,fun b hb=>a2 b (h.glob.le b hb),fun b hb=>?_⟩⟩,⟨ao.le.refl H,dH⟩⟩
 rcases a3 b hb with h1|h1
 .exact h.glob.new b h1
 .exact .inr (h.sat.ob.eJ b h1)
theorem yt{P:Program}{ρ:Nat->Value}{w:World}{o:BinOp}(fQ:o= .eql\/o= .neq){t u e:TypeId}{x y:Operand}{d:Nat}{ty:TypeId}{pos:String}{aft:Array Edge}(hu:P.underlying t=some (.slice e)){A:Option Addr}{m c:Nat}(hx:ev ρ x= .slice A m c)(hy:ev ρ y= .slice none 0 0):
 (execOp (ev ρ) ⟨some d, .binOp o t x y u,ty,pos,aft,none⟩).run P w= .ok (.value (.bool (bif decide (o= .eql)then A.isNone else !A.isNone))) w:=by
 have hm:Op.maxDepth=9999+1:=rfl
 have he:(Op.equal t (.slice A m c) (.slice none 0 0)).run P w= .ok A.isNone w:=by
  unfold Op.equal;rw[hm];unfold Op.equalIn;rw[Ys,run_underlying hu]
  cases A<;>rfl
 rcases fQ with rfl|rfl
 .simp[execOp,eqGuard,binOp,hx,hy,he]
 .simp[execOp,eqGuard,binOp,hx,hy,he]
theorem Et{P:Program}(T:aG P){U:Nat->Prop}{H:ao}{F:Nat->Prop}{w:World}{ρ:Nat->Value}{n:Nat}{ob:Nat->Option (Nat×Th)}{rd:Operand->Option aj}(dV:∀x d,rd x=some d->ai H F w d (ev ρ x))(hs:aq U H F w ob n){op:Op}{b:Bool}{m:Nat}(h:Ep T rd ob op=some (b,m)){d:Nat}{ty:TypeId}{pos:String}{aft:Array Edge}:
 ∃r:Bool,(m≠0->r=b)/\(execOp (ev ρ) ⟨some d,op,ty,pos,aft,none⟩).run P w= .ok (.value (.bool r)) w:=by
 have Td:∀{y:Operand},oF y=true->ev ρ y= .slice none 0 0:=by
  intro y hy;unfold oF at hy;split at hy
  .rfl
  .cases hy
 have key:∀{k:DG}{v:Value},Gb U H F w ob v k->∀m,(match k with| .read _ l=>l.length=m| .own _ _ _ _ l=>l.length=m|_=>False)->∃A n c,v= .slice A n c/\(m≠0->A.isNone=false):=by
  intro k v hk m hm
  cases k with
  |read r l=>
   obtain⟨A,cap,hv,_,_,h3⟩:=hk;simp only[Zd,and_true]at hv;refine⟨A,_,cap,hv,fun h0=>?_⟩;obtain⟨b,off,es,rfl,_⟩:=h3 0 (by dsimp only at hm;omega);rfl
  |own o s T r l=>
   obtain⟨xs,hx,_⟩:=hk.2.2.2
   rcases hx.2 with⟨rfl,h0⟩|⟨g,o0,cap,gi,rfl,_⟩
   .exact⟨none,0,0,rfl,fun h=>absurd (hm.symm.trans h0) h⟩
   .exact⟨_,_,_,rfl,fun _=>rfl⟩
  |nil=>exact hm.elim
  |view o s r m=>exact hm.elim
  |deep=>exact hm.elim
 unfold Ep at h;split at h
 case h_2=>cases h
 rename_i o t x y u;split at h
 case h_3=>cases h
 all_goals
  obtain⟨hy,h⟩:=ay h;split at h
  case h_2=>cases h
  rename_i e hu;have hu:=T.und_ok _ _ hu;split at h
  case h_2=>cases h
  rename_i X hX;split at h
  case h_3=>cases h
  all_goals
   rename_i eR;obtain⟨rfl,rfl⟩:=Zm (X7 h);obtain⟨A,n',c,hv,hA⟩:=key (fB hs eR (dV _ _ hX)) _ rfl;refine⟨_,fun h0=>?_,yt (by first|exact .inl rfl|exact .inr rfl) hu hv (Td hy)⟩;rw[hA h0];rfl
theorem bK.qQ{st:State}(h:bK G w0 F0 H F w ρ st)(o:Nat):∃H' F',bK G w0 F0 H' F' w ρ (qQ st o)/\bD H F w H' F' w:=by
 unfold Go.Proofs.YtlfjlhcigpejdaaGreatDoor.qQ;split
 .rename_i e he;obtain⟨H',F',hp⟩:=yc h.sat.ob he;have hs:=h.sat.apply (d:=none) hp;exact⟨H',F',⟨hs,h.glob.iI hp.iI h.sat.ob.eJ⟩,bD.wc hp.iI h.sat.ob.lt h.sat.ob.fe⟩
 .exact⟨H,F,h,bD.refl H F w⟩
theorem bK.pd:{os:List Nat}->{st:State}->{H:ao}->{F:Nat->Prop}->bK G w0 F0 H F w ρ st->∃H' F',bK G w0 F0 H' F' w ρ (pd st os)/\bD H F w H' F' w
 |[],_,H,F,h=>⟨H,F,h,bD.refl H F w⟩
 |o::os,st,H,F,h=>by
  obtain⟨H1,F1,h1,k1⟩:=h.qQ o;obtain⟨H2,F2,h2,k2⟩:=bK.pd (os:=os) h1;exact⟨H2,F2,h2,k1.trans k2⟩
theorem bK.kX{st:State}(h:bK G w0 F0 H F w ρ st):∃H' F',bK G w0 F0 H' F' w ρ (kX st)/\bD H F w H' F' w:=by
 unfold Go.Proofs.YtlfjlhcigpejdaaGreatDoor.kX;split
 case h_2=>exact⟨H,F,h,bD.refl H F w⟩
 obtain⟨H1,F1,h1,k1⟩:=h.pd (os:=st.objs.map (·.1));obtain⟨H2,F2,h2,k2⟩:=h1.pd (os:=st.objs.map (·.1));exact⟨H2,F2,h2,k1.trans k2⟩
theorem we{E:Env P}{dst:Option Nat}{op:Op}{ty:TypeId}{pos:String}{aft:Array Edge}{st:State}{k:State->Option R}{q:R}(h:zR E dst op st k=some q)(hd:wb nt dst=true)(hh:bK G w0 F0 H F w ρ st)
 (hk:∀bn H' F' w' bk,k bn=some q->bK G w0 F0 H' F' w' bk bn->bD H F w H' F' w'->(∀t,dst≠some t->bk t=ρ t)->wpS P nt ops K rest bk w'):wpS P nt ops K (⟨dst,op,ty,pos,aft,none⟩::rest) ρ w:=by
 unfold zR at h;split at h
 case h_2=>cases h
 rename_i aD rT;obtain⟨F1,k9,BJ⟩:=hh.oe rT;split at h
 .rename_i b m hn;split at h
  case h_2=>cases h
  rename_i d;obtain⟨r,hr,bR⟩:=Et E.T (ρ:=ρ) (d:=d) (ty:=ty) (pos:=pos) (aft:=aft) (fun x d hx=>qh k9.sat.ob.gl k9.sat.slot x d hx) k9.sat.ob hn
  have J6:k (State.apply {st with objs:=aD} (some d) {dst:=cJ r})=some q:=by
   split at h
   .cases r with
    |true=>exact Eo h
    |false=>exact IZ h
   .rename_i h0;rw[hr fun e=>h0 (by rw[e];rfl)];exact h
  have Eu:bJ P (UU G w0) H F1 w ρ (find aD) st.nxt ⟨some d,op,ty,pos,aft,none⟩ {dst:=cJ r}:=aU k9.sat.ob bR (aB.eu ..)
  refine vf Eu (fun d' sk=>by rw[sk]at hd;exact hd) fun v w' ⟨H',F',hp⟩=>?_
  have hs:=k9.sat.apply (d:=some d) hp
  refine hk _ H' F' w' _ J6 ⟨hs,k9.glob.iI hp.iI k9.sat.ob.eJ⟩ (BJ.trans (bD.wc hp.iI k9.sat.ob.lt k9.sat.ob.fe)) fun t ht=>?_
  show xD ρ d v t=ρ t
  rw[lf,if_neg (fun e=>ht (by rw[e]))]
 obtain⟨wa,h'⟩:=ay h;clear h;obtain⟨e,he,Eu⟩:=En (ρ:=ρ) (ty:=ty) (pos:=pos) (aft:=aft) E (fun x d hx=>qh k9.sat.ob.gl k9.sat.slot x d hx) (fun hn c hc=>by subst hn;subst hc;exact wa) h' k9.sat.ob
 refine vf Eu (fun d sk=>by rw[sk]at hd;exact hd) fun v w' ⟨H',F',hp⟩=>?_
 have hs:=k9.sat.apply (d:=dst) hp
 refine hk _ H' F' w' _ he ⟨hs,k9.glob.iI hp.iI k9.sat.ob.eJ⟩ (BJ.trans (bD.wc hp.iI k9.sat.ob.lt k9.sat.ob.fe)) fun t ht=>?_
 cases dst with
 |none=>rfl
 |some d=>
  show xD ρ d v t=ρ t
  rw[lf,if_neg (fun e=>ht (by rw[e]))]
theorem Ev{E:Env P}{dst:Option Nat}{op:Op}{ty:TypeId}{pos:String}{aft:Array Edge}{st:State}{k:State->Option R}{q:R}(h:qR E dst op st k=some q)(hd:wb nt dst=true)(hh:bK G w0 F0 H F w ρ st)
 (hk:∀bn H' F' w' bk,k bn=some q->bK G w0 F0 H' F' w' bk bn->bD H F w H' F' w'->(∀t,dst≠some t->bk t=ρ t)->wpS P nt ops K rest bk w'):wpS P nt ops K (⟨dst,op,ty,pos,aft,none⟩::rest) ρ w:=by
 unfold qR at h;split at h
 .obtain⟨H1,F1,h1,k1⟩:=hh.kX
  exact we h hd h1 fun bn H' F' w' bk a b c d=>hk bn H' F' w' bk a b (k1.trans c) d
 .exact we h hd hh hk
theorem bK.put{st:State}{dst:Option Nat}{d:aj}{v:Value}(h:bK G w0 F0 H F w ρ st)(hd:ai H F w d v):bK G w0 F0 H F w (pA ρ dst v) (st.put dst d):=by
 refine⟨⟨fun t q hq=>?_,?_,by cases dst<;>exact h.sat.all⟩,h.glob⟩
 .cases dst with
  |none=>exact h.sat.slot t q hq
  |some s=>
   have jr:find ((s,d)::st.ah) t=some q:=hq;rw[aw]at jr
   show ai H F w q (xD ρ s v t)
   rw[lf];by_cases e:s=t
   .rw[if_pos e]at jr;rw[if_pos e.symm];obtain rfl:=X7 jr;exact hd
   .rw[if_neg e]at jr;rw[if_neg (Ne.symm e)];exact h.sat.slot t q jr
 .cases dst<;>exact h.sat.ob
theorem bK.lit{st:State}{g:Nat}{d:aj}(h:bK G w0 F0 H F w ρ st)(hd:ai H F w d (ρ g)):bK G w0 F0 H F w ρ (st.put (some g) d):=by
 refine⟨⟨fun t q hq=>?_,h.sat.ob,h.sat.all⟩,h.glob⟩;have jr:find ((g,d)::st.ah) t=some q:=hq;rw[aw]at jr;split at jr
 .rename_i e;subst e;obtain rfl:=X7 jr;exact hd
 .exact h.sat.slot t q jr
def nJ(ρ:Nat->Value)(kn:List (Nat×Bool)):Prop:=∀g b,find kn g=some b->ρ g= .bool b
theorem nJ.del{bk:Nat->Value}{dst:Option Nat}{kn:List (Nat×Bool)}(h:nJ ρ kn)(FH:∀t,dst≠some t->bk t=ρ t):nJ bk (qS dst kn):=by
 intro g b hg
 cases dst with
 |none=>rw[FH g (by simp)];exact h g b hg
 |some d=>
  obtain⟨h1,h2⟩:=e8.1 hg;rw[FH g (fun e=>h1 (by simp[X7 e]))];exact h g b h2
theorem nJ.cons{kn:List (Nat×Bool)}{g:Nat}{b:Bool}(h:nJ ρ kn)(hb:ρ g= .bool b):nJ ρ ((g,b)::kn):=by
 intro g' b' hg;rw[aw]at hg;split at hg
 .rename_i e;subst e;obtain rfl:=X7 hg;exact hb
 .exact h g' b' hg
theorem mc{dst:Option Nat}{v:Value}{t:Nat}(h:dst≠some t):pA ρ dst v t=ρ t:=by
 cases dst with
 |none=>rfl
 |some d=>
  show xD ρ d v t=ρ t
  rw[lf,if_neg (fun e=>h (by rw[e]))]
theorem ue{E:Env P}{q:R}:{l:List Oper}->{kn:List (Nat×Bool)}->{st:State}->{k:State->Option R}->{H:ao}->{F:Nat->Prop}->{w:World}->{ρ:Nat->Value}->runs E nt ops l kn st k=some q->nJ ρ kn->bK G w0 F0 H F w ρ st->
 (∀bn H' F' w' bk,k bn=some q->bK G w0 F0 H' F' w' bk bn->bD H F w H' F' w'->(∀t,(∀o∈l,o.dst≠some t)->bk t=ρ t)->K bk w')->wpS P nt ops K l ρ w
 |[],kn,st,k,H,F,w,ρ,h,_,hh,hk=>FT (hk st H F w ρ h hh (bD.refl H F w) fun _ _=>rfl)
 |o::l,kn,st,k,H,F,w,ρ,h,CS,hh,hk=>by
  unfold runs at h;obtain⟨hd,h'⟩:=ay h;clear h
  have NQ:∀d,o.dst=some d->YM d nt=true:=fun d e=>by rw[e]at hd;exact hd
  have on:∀{jX:State}{I0:List (Nat×Bool)},qR E o.dst o.op jX (fun bn=>runs E nt ops l (qS o.dst I0) bn k)=some q->nJ ρ I0->bK G w0 F0 H F w ρ jX->wpS P nt ops K (⟨o.dst,o.op,o.type,o.pos,o.after,none⟩::l) ρ w:=by
   intro jX I0 hs uf k9
   refine Ev hs hd k9 fun bn H' F' w' bk e1 e2 e3 e4=>?_
   refine ue e1 (uf.del e4) e2 fun Ew H2 F2 w2 MJ f1 f2 f3 f4=>?_
   exact hk Ew H2 F2 w2 MJ f1 f2 (e3.trans f3) fun t ht=>(f4 t fun o' iJ=>ht o' (by simp[iJ])).trans (e4 t (ht o (by simp)))
  have off:∀{jX:State}{I0:List (Nat×Bool)},runs E nt ops l (qS o.dst I0) (jX.put o.dst .undef) k=some q->nJ ρ I0->bK G w0 F0 H F w ρ jX->wpS P nt ops K l (pA ρ o.dst undef) w:=by
   intro jX I0 hs uf k9
   refine ue hs (uf.del fun t ht=>mc ht) (k9.put rfl) fun Ew H2 F2 w2 MJ f1 f2 f3 f4=>?_
   exact hk Ew H2 F2 w2 MJ f1 f2 f3 fun t ht=>(f4 t fun o' iJ=>ht o' (by simp[iJ])).trans (mc (ht o (by simp)))
  obtain⟨dst,op,ty,pos,aft,guard⟩:=o;simp only at h' on off NQ;split at h'
  .exact on h' CS hh
  .rename_i j b;split at h'
   case h_1=>cases h'
   rename_i g HT;obtain⟨HU,h⟩:=ay h';clear h'
   have NR:ρ g= .bool b->wpS P nt ops K (⟨dst,op,ty,pos,aft,none⟩::l) ρ w->wpS P nt ops K (⟨dst,op,ty,pos,aft,some (j,b)⟩::l) ρ w:=fun hb hw=>Iu g HT HU hb hw
   have I1:∀b',ρ g= .bool b'->b'≠b->wpS P nt ops K l (pA ρ dst undef) w->wpS P nt ops K (⟨dst,op,ty,pos,aft,some (j,b)⟩::l) ρ w:=fun b' hb bu hw=>by
    cases dst with
    |none=>exact tA g HT HU hb bu hw
    |some d=>exact FU g HT HU hb bu (NQ d rfl) hw
   split at h
   .rename_i v hv;have Ri:=CS g v hv
    cases ya:(bif v then b else !b)with
    |true=>
     rw[ya,cond_true]at h
     have:v=b:=by cases v<;>cases b<;>simp_all
     subst this;exact NR Ri (on h CS hh)
    |false=>
     rw[ya,cond_false]at h
     have:v≠b:=by intro e;subst e;cases v<;>simp_all
     exact I1 v Ri this (off h CS hh)
   .split at h
    .rename_i hu;have Rj:ρ g=undef:=hh.sat.slot _ _ hu
     cases dst with
     |none=>exact rJ g HT HU Rj (off h CS hh)
     |some d=>exact C2 g HT HU Rj (NQ d rfl) (off h CS hh)
    .rename_i d sk;split at h
     case h_2=>cases h
     rename_i t ht;have hgt:=jM ht (hh.sat.slot _ _ sk);split at h
     .rename_i GJ;subst GJ;have k9:bK G w0 F0 H F w ρ (st.put (some g) (cJ true)):=hh.lit (by rw[hgt];exact aB.eu ..);have uf:=CS.cons hgt
      cases b with
      |true=>rw[cond_true]at h;exact NR hgt (on h uf k9)
      |false=>rw[cond_false]at h;exact I1 true hgt (by simp) (off h uf k9)
     .rename_i GJ
      have GJ:t=false:=by cases t<;>simp_all
      subst GJ;have k9:bK G w0 F0 H F w ρ (st.put (some g) (cJ false)):=hh.lit (by rw[hgt];exact aB.eu ..);have uf:=CS.cons hgt
      cases b with
      |true=>rw[cond_true]at h;exact I1 false hgt (by simp) (off h uf k9)
      |false=>rw[cond_false]at h;exact NR hgt (on h uf k9)
    .cases h
end
end Go.Proofs.YtlfjlhcigpejdaaGreatDoor
end
section
open _root_.Array renaming getElem?_eq_getElem->Yu
open _root_.Bool renaming cond_eq_ite->Yq
open _root_.List renaming getD->Y3,getElem?_append_left->YI,length_append->Yr,length_singleton->Y6
open _root_.Nat renaming add_zero->Y0,beq->Yb,blt->YM,zero_add->Yw
open _root_.Option renaming bind_assoc->YD,isSome_iff_exists->YA,none_or->Zi
open _root_.Option.some renaming inj->X7
open _root_.Go.Region renaming binds->Zv
namespace Go.Proofs.YtlfjlhcigpejdaaGreatDoor
open Go Go.RowKit
section
variable {P:Program} {R:Type} {ob:Nat->Option (Nat×Th)} {n:Nat} (k:cU->Option R)
theorem qT{rd:Operand->Option aj}{fn:Fn}{first caps:Array Operand}:iW rd fn first caps k=(iW rd fn first caps some).bind k:=by
 unfold iW
 repeat' first|rfl|split
theorem ug(T:aG P){m:Nat}{e:TypeId}{D:aj}{i:Int}:lR T m e D i k=(lR T m e D i some).bind k:=by
 unfold lR;simp only[Yq]
 repeat' first|rfl|(rw[YD];rfl)|split
theorem uh(T:aG P){t:TypeId}{D:aj}{i:Int}:lW T ob t D i k=(lW T ob t D i some).bind k:=by
 unfold lW;simp only[Yq]
 repeat' first|rfl|(rw[YD];rfl)|split
theorem wg(T:aG P){t:TypeId}{D:aj}{i:Int}:oh T ob t D i k=(oh T ob t D i some).bind k:=by
 unfold oh;simp only[Yq]
 repeat' first|rfl|exact ug k T|(rw[YD];rfl)|split
theorem yu(T:aG P){t:TypeId}{D:aj}:sv T ob t D k=(sv T ob t D some).bind k:=by
 unfold sv;simp only[Yq]
 repeat' first|rfl|split|(rw[YD];congr 1;funext x;repeat' first|rfl|split)
theorem wh(T:aG P){t:TypeId}{D V:aj}:oi T ob n t D V k=(oi T ob n t D V some).bind k:=by
 unfold oi;simp only[Yq]
 repeat' first|rfl|split|(rw[YD];rfl)|(rw[YD];congr 1;funext x;repeat' first|rfl|split)
theorem wi(T:aG P){t:TypeId}{D:aj}:mT T ob n t D k=(mT T ob n t D some).bind k:=by
 unfold mT;simp only[Yq]
 repeat' first|rfl|split|(rw[YD];rfl)
theorem wj(T:aG P){t:TypeId}{D:aj}:lq T ob n t D k=(lq T ob n t D some).bind k:=by
 unfold lq;split
 .exact wi k T
 .exact yu k T
theorem ui(T:aG P){t:TypeId}{D V:aj}:lX T ob n t D V k=(lX T ob n t D V some).bind k:=by
 unfold lX;simp only[Yq]
 repeat' first|rfl|split|(rw[YD];rfl)
theorem uj(T:aG P){t:TypeId}{D V:aj}:l9 T ob n t D V k=(l9 T ob n t D V some).bind k:=by
 unfold l9;split
 .exact ui k T
 .exact wh k T
theorem rX{e:TypeId}{dr:DR}{ds:List aj}:ln e dr ob n ds k=(ln e dr ob n ds some).bind k:=by
 unfold ln;simp only[Yq]
 repeat' first|rfl|split
theorem wk(T:aG P){t:TypeId}:oj T n t k=(oj T n t some).bind k:=by
 unfold oj
 repeat' first|rfl|split
theorem BK{t:TypeId}{V:aj}:Bb n t V k=(Bb n t V some).bind k:=by
 unfold Bb
 repeat' first|rfl|split
theorem qU(T:aG P){t:TypeId}{s:Bool}{a b:Int}:ql T n t s a b k=(ql T n t s a b some).bind k:=by
 unfold ql
 repeat' first|rfl|split|(rw[YD];rfl)
theorem wm(T:aG P){b:Bool}{t:TypeId}{s:Bool}{x y:Int}:qD b T n t s x y k=(qD b T n t s x y some).bind k:=by
 unfold qD;split
 .unfold tV
  repeat' first|rfl|exact qU k T|split|(rw[YD];rfl)
 .exact qU k T
theorem uk(T:aG P){t:TypeId}{X Y:aj}:lV T ob n t X Y k=(lV T ob n t X Y some).bind k:=by
 unfold lV;simp only[Yq]
 repeat' first|rfl|split|(rw[YD];rfl)
theorem oG(T:aG P){rd:Operand->Option aj}{t:TypeId}{m:Nat}{ps:Array (Nat×Operand)}:gm T rd ob n t m ps k=(gm T rd ob n t m ps some).bind k:=by
 unfold gm;simp only[Yq]
 repeat' first|rfl|split
theorem ul{b:Bool}(T:aG P){rd:Operand->Option aj}{t:TypeId}{m:Nat}{ps:Array (Nat×Operand)}:pU b T rd ob n t m ps k=(pU b T rd ob n t m ps some).bind k:=by
 cases b with
 |false=>exact oG k T
 |true=>
  show lZ T rd ob n t m ps k=(lZ T rd ob n t m ps some).bind k
  unfold lZ;simp only[Yq]
  repeat' first|rfl|exact rX k|split
theorem wo(T:aG P){rd:Operand->Option aj}{t:TypeId}{ps:Array (Nat×Operand)}:om T rd t ps k=(om T rd t ps some).bind k:=by
 unfold om;simp only[Yq]
 repeat' first|rfl|split
theorem wq(dr:Bool)(T:aG P){rd:Operand->Option aj}{t:TypeId}{D:aj}{lo hi:Option Operand}:oo dr T rd ob n t D lo hi k=(oo dr T rd ob n t D lo hi some).bind k:=by
 unfold oo;simp only[Yq]
 repeat' first|rfl|split|(rw[YD];rfl)
theorem BL(T:aG P){o:BinOp}{t:TypeId}{lit:Bool}{X Y:aj}:Bl T ob o t lit X Y k=(Bl T ob o t lit X Y some).bind k:=by
 unfold Bl;simp only[Yq]
 repeat' first|rfl|split|(rw[YD];rfl)
theorem pF(T:aG P){t:TypeId}{M X Y:aj}:fY T ob n t M X Y k=(fY T ob n t M X Y some).bind k:=by
 unfold fY;simp only[Yq]
 repeat' first|rfl|split
theorem rY(T:aG P){t:TypeId}:jP T n t k=(jP T n t some).bind k:=by
 unfold jP
 repeat' first|rfl|split
theorem um(T:aG P){t:TypeId}{ok:Bool}{M X:aj}:kB T ob t ok M X k=(kB T ob t ok M X some).bind k:=by
 unfold kB;simp only[Yq]
 repeat' first|rfl|split
theorem rZ(T:aG P){t:TypeId}{X Y:aj}:jT T ob n t X Y k=(jT T ob n t X Y some).bind k:=by
 unfold jT
 cases D6 ob Y with
 |false=>exact uk k T
 |true=>
  simp only[cond_true];unfold nB;simp only[Yq]
  repeat' first|rfl|split|(rw[YD];rfl)
theorem oH(T:aG P){t:TypeId}{M X Y:aj}:gn T ob n t M X Y k=(gn T ob n t M X Y some).bind k:=by
 unfold gn;simp only[Yq]
 repeat' first|rfl|exact pF k _|split
theorem qV(b:Bool)(T:aG P){t:TypeId}:iV b T n t k=(iV b T n t some).bind k:=by
 unfold iV;simp only[Yq]
 repeat' first|rfl|exact rY k _|split
theorem r6(T:aG P){t:TypeId}{ok:Bool}{M X:aj}:jR T ob n t ok M X k=(jR T ob n t ok M X some).bind k:=by
 unfold jR;simp only[Yq]
 repeat' first|rfl|exact um k _|split
theorem wu{sg:bf}{bs:Bs}{aD:List (Nat×(Nat×Th))}{nd:List Nat}{y:bA sg.out.rows}:oE sg n bs aD nd y k=(oE sg n bs aD nd y some).bind k:=by
 unfold oE;simp only[Yq]
 repeat' first|rfl|split
theorem lz{objs:List (Nat×(Nat×Th))}{f:FuncId}{ds:List aj}:{tab:List (Nat×bf)}->kC objs n f ds k tab=(kC objs n f ds some tab).bind k
 |[]=>rfl
 |(g,sg)::tab=>by
  unfold kC;have ih:=lz (objs:=objs) (f:=f) (ds:=ds) (tab:=tab);simp only[Yq]
  repeat' first|rfl|exact ih|split|(rw[YD];congr 1;funext y;exact wu k)
theorem yv{tab:List (Nat×bf)}{rd:Operand->Option aj}{objs:List (Nat×(Nat×Th))}{g:Operand}{args:List Operand}:sR tab rd objs n g args k=(sR tab rd objs n g args some).bind k:=by
 unfold sR
 repeat' first|rfl|exact lz k|split
theorem uo(T:aG P){tab:List (Nat×bf)}{rd:Operand->Option aj}{objs:List (Nat×(Nat×Th))}{g:Operand}{name:String}{args:List Operand}:mb T tab rd objs n g name args k=(mb T tab rd objs n g name args some).bind k:=by
 unfold mb
 repeat' first|rfl|exact lz k|split
theorem BM(T:aG P){t:TypeId}{D:aj}:BF T t D k=(BF T t D some).bind k:=by
 unfold BF;simp only[Yq]
 repeat' first|rfl|split
theorem uq(T:aG P){t:TypeId}{ok:Bool}{D:aj}:ma T t ok D k=(ma T t ok D some).bind k:=by
 unfold ma;simp only[Yq]
 repeat' first|rfl|split
theorem yw(E:Env P){rd:Operand->Option aj}{objs:List (Nat×(Nat×Th))}{c:Callee}{args:Array Operand}{rH:Array TypeId}:mJ E rd objs n c args rH k=(mJ E rd objs n c args rH some).bind k:=by
 unfold mJ;simp only[Yq]
 repeat' first|rfl|exact rZ k _|exact yv k|exact uo k _|split
theorem Ey(E:Env P){rd:Operand->Option aj}{objs:List (Nat×(Nat×Th))}{dst:Option Nat}{op:Op}:GG E rd objs n dst op k=(GG E rd objs n dst op some).bind k:=by
 unfold GG
 repeat' first|rfl|exact uj k _|exact oH k _|exact qV k _ _|exact r6 k _|exact BM k _|exact uq k _|exact yw k _|exact wk k _|exact BK k|exact wo k _|exact ul k _|exact wj k _|exact BL k _|exact wm k _|exact wq k _ _|exact wg k _|exact uh k _|exact qT k|split
end
def fL{α:Type}(ns:List Nat):List (Nat×α)->List (Nat×α)
 |[]=>[]
 |(m,a)::l=>bif jf m ns then(m,a)::fL ns l else fL ns l
theorem sV{α:Type}{ns:List Nat}{l:List (Nat×α)}{n:Nat}{a:α}:find (fL ns l) n=some a↔n∈ns/\find l n=some a:=by
 induction l with
 |nil=>simp[fL,find]
 |cons p l ih=>
  obtain⟨m,b⟩:=p;unfold fL
  cases hm:jf m ns with
  |true=>
   have bO:=cQ.1 hm;rw[cond_true,aw,aw];by_cases h:m=n
   .subst h;simp[bO]
   .simp only[if_neg h];exact ih
  |false=>
   have bO:m∉ns:=fun e=>by rw[cQ.2 e]at hm;cases hm
   rw[cond_false,ih,aw];constructor
   .rintro⟨h1,h2⟩
    have bu:m≠n:=fun e=>bO (e▸h1)
    exact⟨h1,by rw[if_neg bu];exact h2⟩
   .rintro⟨h1,h2⟩
    have bu:m≠n:=fun e=>bO (e▸h1)
    rw[if_neg bu]at h2;exact⟨h1,h2⟩
def tmpsOf:List Operand->List Nat
 |[]=>[]
 | .tmp t::l=>t::tmpsOf l
 |_::l=>tmpsOf l
def HV:List (Bool×Tree)->List Nat
 |[]=>[]
 |p::l=>p.2.owns++HV l
def K2:aj->List Nat
 | .val _ t=>t.owns
 | .ptr o _ _=>[o]
 | .elem o .. =>[o]
 | .dlm o .. =>[o]
 | .tup ds=>HV ds
 | .fn _ caps=>caps.map (·.1)
 | .ifc _ d=>K2 d
 |_=>[]
def HW(ah:List (Nat×aj)):List Nat->List Nat
 |[]=>[]
 |t::l=>(match find ah t with
  |some d=>K2 d
  |none=>[])++HW ah l
def within(objs:List (Nat×(Nat×Th))):List Nat->List Nat
 |[]=>[]
 |o::l=>(match find objs o with
  |some (_, .box _ t)=>t.owns
  |_=>[])++within objs l
def GK(ah:List (Nat×aj))(objs:List (Nat×(Nat×Th)))(ts:List Nat):List Nat:=
 (fun l=>l++within objs l) (HW ah ts)
def sW(aD:List (Nat×(Nat×Th)))(nd:List Nat)(e:cU):cU:=
 {dst:=e.dst,eat:=nd++e.eat,make:=e.make++del e.eat (kW aD nd)}
section
variable {U:Nat->Prop} {H:ao} {F:Nat->Prop} {w:World} {n:Nat}
theorem BN{obj aD:List (Nat×(Nat×Th))}{nd:List Nat}{e:cU}{v:Value}{w':World}{F1:Nat->Prop}(rT:dp obj nd=some aD)(mG:aq U H F1 w (find aD) n)(vd:∀b,F b->F1 b)(FG:∀b,F1 b->F b\/bx H (find obj) nd b)
 (h:gV H F1 w (find aD) n e v w'):gV H F w (find obj) n (sW aD nd e) v w':=by
 obtain⟨H',F',hp⟩:=h
 have gS:∀k,bx H (find aD) e.eat k->bx H (find obj) (nd++e.eat) k:=by
  rintro k ⟨o,ho,s,t,u,h1,h2,h3⟩
  rcases fh rT o s t h1 with h4|h4
  .exact⟨o,by simp[ho],s,t,u,h4,h2,h3⟩
  .exact(eK h4 h3).elim
 have part:∀o s t,find (e.make++del e.eat (kW aD nd)) o=some (s,t)->find e.make o=some (s,t)\/(o∉e.eat/\o∈nd/\find aD o=some (s,t)/\cV t=true):=by
  intro o s t ho;rw[eZ]at ho
  cases hm:find e.make o with
  |some x=>rw[hm]at ho;exact .inl ho
  |none=>
   rw[hm,Zi]at ho;obtain⟨h1,h2⟩:=e8.1 ho;obtain⟨h3,h4,h5⟩:=jg h2;exact .inr ⟨h1,h3,h4,h5⟩
 refine⟨H',F',⟨hp.iI.fP,⟨hp.iI.ext.os,hp.iI.ext.tape,hp.iI.ext.output,hp.iI.ext.size,fun k hk hn=>hp.iI.ext.block k hk fun hh=>hn (gS k hh)⟩,fun b hb=>hp.iI.le b (vd b hb),fun b hb=>?_,hp.iI.lt⟩,hp.fresh,hp.dst,⟨fun o s t ho=>?_,fun o o' s s' t t' v v' bu ho iJ hv cy k hk cx=>?_⟩,fun o ho=>?_⟩
 .rcases hp.iI.grow b hb with h1|h1|h1
  .rcases FG b h1 with h2|⟨o,ho,rest⟩
   .exact .inl h2
   .exact .inr (.inr ⟨o,by simp[sW,ho],rest⟩)
  .exact .inr (.inl h1)
  .exact .inr (.inr (gS b h1))
 .rcases part o s t ho with h1|⟨h1,h2,h3,h4⟩
  .obtain⟨u,a1,a2,a3,a4,a5⟩:=hp.made.obj o s t h1;exact⟨u,a1,a2,a3,a4,fun k hk=>⟨(a5 k hk).1,(a5 k hk).2.1,(a5 k hk).2.2.imp id (gS k)⟩⟩
  .obtain⟨u,hu,bO⟩:=mG.obj _ _ _ h3;have:=bO.iI mG hp.iI h3 h1 hu;exact⟨u,hp.iI.fP.val _ _ hu,this.one,this.con,this.ok,fun k hk=>(eK h4 hk).elim⟩
 .rcases part o s t ho with h1|⟨_,_,_,h4⟩
  .rcases part o' s' t' iJ with h2|⟨_,_,_,Te⟩
   .exact hp.made.apart o o' s s' t t' v v' bu h1 h2 hv cy k hk cx
   .exact eK Te cx
  .exact eK h4 hk
 .obtain⟨x,hx⟩:=YA.1 ho
  rcases part o x.1 x.2 hx with h1|⟨_,h2,_⟩
  .exact(hp.ids o (by rw[h1];rfl)).imp (fun h=>by simp[sW,h]) id
  .exact .inl (by simp[sW,h2])
end
def eP(x y:Nat×Th):Prop:=x=y\/∃T d l h h',x.2= .deep T d l h/\y.2= .deep T d l h'
theorem eP.symm{x y:Nat×Th}(h:eP x y):eP y x:=by
 rcases h with rfl|⟨T,d,l,h,h',h1,h2⟩
 .exact .inl rfl
 .exact .inr ⟨T,d,l,h',h,h2,h1⟩
theorem eP.trans{x y z:Nat×Th}(h:eP x y)(h':eP y z):eP x z:=by
 rcases h with rfl|⟨T,d,l,a,b,h1,h2⟩
 .exact h'
 .rcases h' with rfl|⟨T',d',l',a',b',h3,h4⟩
  .exact .inr ⟨T,d,l,a,b,h1,h2⟩
  .rw[h2]at h3;cases h3;exact .inr ⟨T,d,l,a,b',h1,h4⟩
structure g7 where
 dst:Option Nat
 ts:List Nat
 os:List Nat
 e:cU
 ls:List Nat:=[]
 soft:List Nat:=[]
def mK:List (Nat×(Nat×Th))->List Nat
 |[]=>[]
 |(o,_)::l=>o::mK l
def g7.mut(x:g7):List Nat:=x.e.eat++mK x.e.make
def ur:Op->Bool
 | .call c=>match c.callee with
   | .builtin .len=>true
   |_=>false
 |_=>false
def HX(rd:Operand->Option aj):Op->List Nat
 | .load _ x=>match rd x with
   |some (.dlm o _ _ _ _)=>[o]
   |_=>[]
 |_=>[]
def eG(st:State)(op:Op):List Nat:=
 match op with
 | .move _=>[]
 | .assign _=>[]
 |_=>GK st.ah st.objs (tmpsOf op.operands.toList)
noncomputable def sX{R:Type}{P:Program}(E:Env P)(dst:Option Nat)(op:Op)(gs:List Nat)(st:State)(k:cU->g7->Option R):Option R:=
 match dp (fL (eG st op) st.objs) (mX E (CN (fL (tmpsOf op.operands.toList) st.ah)) (fL (eG st op) st.objs) op)with
 |some aD=>bif Rh dst op then GG E (CN (fL (tmpsOf op.operands.toList) st.ah)) aD st.nxt dst op (fun e=>
   (fun e'=>k e' {dst:=dst,ts:=tmpsOf op.operands.toList++gs,os:=bif ur op then[]else eG st op,e:=e',ls:=bif ur op then eG st op else[],soft:=HX (CN (fL (tmpsOf op.operands.toList) st.ah)) op}) (sW aD (mX E (CN (fL (tmpsOf op.operands.toList) st.ah)) (fL (eG st op) st.objs) op) e))else none
 |none=>none
structure HY(P:Program)(U:Nat->Prop)(o:Oper)(sl:Nat->Option aj)(ob:Nat->Option (Nat×Th))(n:Nat)(zT:g7):Prop where
 dst:zT.dst=o.dst
 run:∃(NS:Nat->Option aj)(FE:Nat->Option (Nat×Th)),(∀t d,NS t=some d->t∈zT.ts/\sl t=some d)/\(∀q x,FE q=some x->(q∈zT.os\/q∈zT.ls)/\ob q=some x)/\
  ∀(H:ao)(F:Nat->Prop)(w:World)(ρ:Nat->Value)(BO:Nat->Option (Nat×Th)),(∀q x,FE q=some x->∃x',BO q=some x'/\eP x x'/\(q∈zT.os->x'=x))->(∀t d,NS t=some d->ai H F w d (ρ t))->aq U H F w BO n->
   ∃NT:Nat->Option (Nat×Th),(∀q x,NT q=some x->BO q=some x)/\bp P ρ ⟨o.dst,o.op,o.type,o.pos,o.after,none⟩ w (gV H F w NT n zT.e)
 soft:∀q∈zT.soft,q∈zT.mut->∃x y,ob q=some x/\find zT.e.make q=some y/\eP x y
theorem BP{ob Dz:Nat->Option (Nat×Th)}{D:aj}{k:DG}(I2:∀q x,ob q=some x->∃x',Dz q=some x'/\eP x x')(h:pD ob D=some k):∃k',pD Dz D=some k'/\nv k'=nv k:=by
 unfold pD at h;split at h
 .cases h;exact⟨_,rfl,rfl⟩
 .cases h;exact⟨_,rfl,rfl⟩
 .rename_i o
  cases ho:ob o with
  |none=>rw[ho]at h;cases h
  |some x=>
   obtain⟨s,t⟩:=x;obtain⟨⟨s',t'⟩,h1,h2⟩:=I2 o _ ho;rw[ho]at h
   rcases h2 with e|⟨T,d,l,a,b,e1,e2⟩
   .cases e;exact⟨k,by show(match Dz o with|some (s, .own T r l)=>_|some (_, .oe _ r l)=>_|some (_, .fdeep _ d l)=>_|some (s, .deep T d l h)=>_|_=>_)=_;rw[h1];exact h,rfl⟩
   .simp only at e1 e2;subst e1 e2;cases h;exact⟨.deep o s' T d l b,by show(match Dz o with|some (s, .own T r l)=>_|some (_, .oe _ r l)=>_|some (_, .fdeep _ d l)=>_|some (s, .deep T d l h)=>_|_=>_)=_;rw[h1],rfl⟩
 .rename_i o s r m
  have hk:nv k=(m.length:Int):=by
   split at h
   .rename_i s' _ _ _ _
    cases hb:Yb s' s<;>rw[hb]at h<;>cases h<;>rfl
   .cases h;rfl
  rw[hk]
  show∃k',(match Dz o with|some (s', .oe ..)=>bif Yb s' s then some (DG.read r m)else some (.view o s r m)|_=>some (.view o s r m))=some k'/\nv k'=_
  split
  .rename_i s' _ _ _ _
   cases hb:Yb s' s with
   |true=>exact⟨DG.read r m,rfl,rfl⟩
   |false=>exact⟨DG.view o s r m,rfl,rfl⟩
  .exact⟨DG.view o s r m,rfl,rfl⟩
 .cases h
theorem BQ{P:Program}(T:aG P){ob Dz:Nat->Option (Nat×Th)}{t:TypeId}{D D':aj}(I2:∀q x,ob q=some x->∃x',Dz q=some x'/\eP x x')(h:Bf T ob t D=some D'):Bf T Dz t D=some D':=by
 unfold Bf at h⊢;split at h
 .split at h
  case h_2=>cases h
  rename_i k hk;obtain⟨k',h1,h2⟩:=BP I2 hk;rw[h1];simp only[h2];exact h
 .exact h
 .cases h
theorem BR{P:Program}(T:aG P){ob:Nat->Option (Nat×Th)}{n:Nat}{t:TypeId}{o:Nat}{d:DR}{i:Int}{p:List Bool}{off:Nat}{e:cU}(h:lq T ob n t (.dlm o d i p off) some=some e)(hm:o∈e.eat++mK e.make):
 ∃x y,ob o=some x/\find e.make o=some y/\eP x y:=by
 unfold lq mT at h;simp only at h;split at h
 .cases h
 split at h
 case h_2=>cases h
 rename_i s T0 dr l hh ho;obtain⟨_,h⟩:=ay h;split at h
 .obtain⟨_,h⟩:=ay h;obtain⟨_,_,h⟩:=bind_some h;cases h;simp[mK]at hm
 .obtain⟨_,h⟩:=ay h;split at h
  .obtain⟨_,_,h⟩:=bind_some h;cases h;exact⟨_,(n, .deep T0 dr l _),ho,by rw[aw,if_pos rfl], .inr ⟨T0,dr,l,none,_,rfl,rfl⟩⟩
  .obtain⟨_,h⟩:=ay h;split at h
   .obtain⟨_,_,h⟩:=bind_some h;cases h;simp[mK]at hm
   .cases h
 .cases h
theorem Ez{P:Program}{E:Env P}{U:Nat->Prop}{R:Type}{o:Oper}{gs:List Nat}{st:State}{k:cU->g7->Option R}{q:R}(h:sX E o.dst o.op gs st k=some q):
 ∃e zT,k e zT=some q/\zT.e=e/\(∀g∈gs,g∈zT.ts)/\HY P U o (find st.ah) (find st.objs) st.nxt zT:=by
 unfold sX at h;split at h
 case h_2=>cases h
 rename_i aD rT;obtain⟨wa,h'⟩:=ay h;clear h;rw[Ey]at h';obtain⟨e,he,hk⟩:=bind_some h'
 have GL:∀t d,find (fL (tmpsOf o.op.operands.toList) st.ah) t=some d->t∈tmpsOf o.op.operands.toList/\find st.ah t=some d:=fun t d ht=>sV.1 ht
 have yx:∀q x,find (fL (eG st o.op) st.objs) q=some x->q∈eG st o.op/\find st.objs q=some x:=fun q x hx=>sV.1 hx
 refine⟨_,_,hk,rfl,fun g hg=>by simp[hg],rfl,⟨find (fL (tmpsOf o.op.operands.toList) st.ah),find (fL (eG st o.op) st.objs),fun t d ht=>⟨by simp[(GL t d ht).1],(GL t d ht).2⟩,fun q x hx=>⟨?_,(yx q x hx).2⟩,fun H F w ρ BO I2 eR cA=>?_⟩,fun q hq hm=>?_⟩
 .cases hl:ur o.op with
  |true=>exact .inr (by simp only[cond_true];exact(yx q x hx).1)
  |false=>exact .inl (by simp only[cond_false];exact(yx q x hx).1)
 .cases hl:ur o.op with
  |false=>
   simp only[hl,cond_false]at I2
   have ee:∀q x,find (fL (eG st o.op) st.objs) q=some x->BO q=some x:=fun q x hx=>by
    obtain⟨x',h1,_,h2⟩:=I2 q x hx;rw[h1,h2 (yx q x hx).1]
   have pE:aq U H F w (find (fL (eG st o.op) st.objs)) st.nxt:=⟨fun o s t ho=>cA.obj o s t (ee _ _ ho),fun o o' s s' t t' v v' bu ho iJ=>cA.apart o o' s s' t t' v v' bu (ee _ _ ho) (ee _ _ iJ),cA.fresh,cA.lt,cA.new,cA.gl⟩
   refine⟨_,ee,?_⟩;obtain⟨F1,mG,vd,FG⟩:=jU rT pE
   have dH:Step F w F1 w:=fun b hb=>⟨vd b hb,rfl⟩
   obtain⟨e',he',hs⟩:=En (ρ:=ρ) (ty:=o.type) (pos:=o.pos) (aft:=o.after) E (fun x d hx=>qh mG.gl (fun t d ht=>(eR t d ht).aO (ao.le.refl H) dH) x d hx) (fun hn c hc=>by rw[hn,hc]at wa;exact wa) he mG;obtain rfl:=X7 he'
   exact hs.mono fun v w' hp=>BN rT mG vd FG hp
  |true=>
   refine⟨BO,fun _ _ h=>h,?_⟩;obtain⟨I3,NU,Tf,NV,NW,Tg⟩:=o;simp only at*
   cases NU<;>try(cases hl;done)
   rename_i c;obtain⟨callee,args,rH⟩:=c
   cases callee<;>try(cases hl;done)
   rename_i b
   cases b<;>try(cases hl;done)
   cases I3 with
   |none=>cases wa
   |some d=>
    have IM:mX E (CN (fL (tmpsOf (Op.operands (.call {callee:= .builtin .len,args:=args,argTypes:=rH})).toList) st.ah)) (fL (eG st (.call {callee:= .builtin .len,args:=args,argTypes:=rH})) st.objs) (.call {callee:= .builtin .len,args:=args,argTypes:=rH})=[]:=by unfold mX;cases E.deep<;>rfl
    rw[IM]at rT⊢;obtain rfl:=X7 rT;have GM:mJ E _ _ st.nxt (.builtin .len) args rH some=some e:=he;unfold mJ at GM;simp only at GM;split at GM
    case h_2=>cases GM
    rename_i x t ha ht;obtain rfl:=dq ha;obtain rfl:=dq ht;split at GM
    case h_2=>cases GM
    rename_i D hD;split at GM
    case h_2=>cases GM
    rename_i D' F6;cases GM;have hlen:=BQ E.T (fun q x hx=>by obtain⟨x',h1,h2,_⟩:=I2 q x hx;exact⟨x',h1,h2⟩) F6;exact zt E.T hlen cA (qh cA.gl eR _ _ hD)
 .obtain⟨I3,NU,Tf,NV,NW,Tg⟩:=o;simp only at*
  cases NU<;>try(cases hq;done)
  rename_i t x;unfold HX at hq;simp only at hq;split at hq
  case h_2=>cases hq
  rename_i o' d0 i p off dV;obtain rfl:=List.mem_singleton.1 hq
  have IM:mX E (CN (fL (tmpsOf (Op.operands (.load t x)).toList) st.ah)) (fL (eG st (.load t x)) st.objs) (.load t x)=[]:=by unfold mX;cases E.deep<;>rfl
  rw[IM]at rT hm⊢;obtain rfl:=X7 rT
  cases I3 with
  |none=>cases he
  |some d=>
   unfold GG at he;simp only[dV]at he
   have FI:q∈e.eat++mK e.make:=by
    simpa[g7.mut,sW,kW,del]using hm
   obtain⟨x1,y1,h1,h2,h3⟩:=BR E.T he FI;refine⟨x1,y1,(yx _ _ h1).2,?_,h3⟩
   show find (e.make++_) q=_
   rw[eZ,h2];rfl
end Go.Proofs.YtlfjlhcigpejdaaGreatDoor
namespace Go.Proofs.YtlfjlhcigpejdaaGreatDoor
open Go Go.RowKit
def r7(acc:List Nat)(i:Nat):List Edge->Option Nat
 |[]=>some 0
 |e::l=>match r7 acc i l with
  |some m=>bif Zv .any e then(bif YM e.on i then some (m|||2 ^ e.on|||acc.getD e.on 0)else none)else some m
  |none=>none
def BS(acc:List Nat):List Oper->Option (List Nat)
 |[]=>some acc
 |o::l=>match r7 acc acc.length o.after.toList with
  |some m=>BS (acc++[m]) l
  |none=>none
def ga(d:Option Nat)(l:List Nat):Bool:=
 match d with
 |some t=>jf t l
 |none=>false
def wv(l l':List Nat):Bool:=l.any fun o=>jf o l'
def g7.K3(x:g7):List Nat:=x.mut.filter fun o=> !jf o x.soft
def conflict(a b:g7):Bool:=
 ga a.dst b.ts||ga b.dst a.ts||ga a.dst (b.dst.toList)||wv a.mut (b.os++b.mut)||wv a.K3 b.ls||wv (a.os++a.ls++a.mut) b.mut
def uu(ms:List Nat)(i:Nat)(x:g7):Nat->List g7->Bool
 |_,[]=>true
 |j,y::l=>(bif conflict x y then Nat.testBit (ms.getD j 0) i else true)&&uu ms i x (j+1) l
def pW(ms:List Nat):Nat->List g7->Bool
 |_,[]=>true
 |i,x::l=>uu ms i x (i+1) l&&pW ms (i+1) l
def oI(ops:List Oper)(es:List g7):Bool:=
 match BS [] ops with
 |some ms=>pW ms 0 es
 |none=>false
section
variable {ops:Array Oper}
def yy(ops:Array Oper)(S:Nat->Prop):Prop:=∀i,S i->∀o,ops[i]? =some o->∀e∈o.after,Zv .any e=true->S e.on
theorem uv{acc:List Nat}{i:Nat}:{l:List Edge}->{m:Nat}->r7 acc i l=some m->∀j,m.testBit j=true->∃e∈l,Zv .any e=true/\e.on<i/\(e.on=j\/(acc.getD e.on 0).testBit j=true)
 |[],m,h,j,hj=>by
  obtain rfl:=X7 h;simp at hj
 |e::l,m,h,j,hj=>by
  unfold r7 at h;split at h
  case h_2=>cases h
  rename_i m0 h0
  cases hb:Zv .any e with
  |false=>
   rw[hb,cond_false]at h;obtain rfl:=X7 h;obtain⟨e',a1,a2⟩:=uv h0 j hj;exact⟨e',by simp[a1],a2⟩
  |true=>
   rw[hb,cond_true]at h
   cases aW:YM e.on i with
   |false=>rw[aW]at h;cases h
   |true=>
    rw[aW,cond_true]at h;obtain rfl:=X7 h;rw[Nat.testBit_or,Nat.testBit_or,Bool.or_eq_true,Bool.or_eq_true]at hj
    have Gk:e.on<i:=by simpa using aW
    rcases hj with(hj|hj)|hj
    .obtain⟨e',a1,a2⟩:=uv h0 j hj;exact⟨e',by simp[a1],a2⟩
    .rw[Nat.testBit_two_pow]at hj;exact⟨e,by simp,hb,Gk, .inl (of_decide_eq_true hj)⟩
    .exact⟨e,by simp,hb,Gk, .inr hj⟩
theorem zU{acc:List Nat}{i:Nat}:{l:List Edge}->{m:Nat}->r7 acc i l=some m->∀e∈l,Zv .any e=true->e.on<i
 |[],m,h,e,he,_=>by cases he
 |e0::l,m,h,e,he,hb=>by
  unfold r7 at h;split at h
  case h_2=>cases h
  rename_i m0 h0
  rcases List.mem_cons.1 he with rfl|he
  .rw[hb,cond_true]at h
   cases aW:YM e.on i with
   |false=>rw[aW]at h;cases h
   |true=>simpa using aW
  .exact zU h0 e he hb
theorem uw:{l:List Oper}->{acc ms:List Nat}->BS acc l=some ms->ms.length=acc.length+l.length/\(∀i,i<acc.length->ms.getD i 0=acc.getD i 0)/\
 ∀k o,l[k]? =some o->∃m,r7 ms (acc.length+k) o.after.toList=some m/\ms.getD (acc.length+k) 0=m
 |[],acc,ms,h=>by
  obtain rfl:=X7 h;exact⟨by simp,fun _ _=>rfl,fun k o h=>by simp at h⟩
 |o0::l,acc,ms,h=>by
  unfold BS at h;split at h
  case h_2=>cases h
  rename_i m hm;obtain⟨a1,a2,a3⟩:=uw h;rw[Yr,Y6]at a1 a2 a3
  have EA:∀i,i<acc.length->ms.getD i 0=acc.getD i 0:=fun i hi=>by
   rw[a2 i (by omega)];simp[Y3,YI hi]
  have NX:∀(l:List Edge)(m:Nat),r7 acc acc.length l=some m->r7 ms acc.length l=some m:=by
   intro l
   induction l with
   |nil=>intro m h;exact h
   |cons e l ih=>
    intro m h;unfold r7 at h⊢;split at h
    case h_2=>cases h
    rename_i m0 h0;rw[ih m0 h0];simp only
    cases hb:Zv .any e with
    |false=>rw[hb]at h;exact h
    |true=>
     rw[hb,cond_true]at h
     cases aW:YM e.on acc.length with
     |false=>rw[aW]at h;cases h
     |true=>
      rw[aW,cond_true]at h;rw[cond_true,cond_true,EA _ (by simpa using aW)];exact h
  refine⟨by rw[a1,List.length_cons];omega,EA,fun k o ho=>?_⟩
  cases k with
  |zero=>
   obtain rfl:o0=o:=by simpa using ho
   refine⟨m,NX _ _ hm,?_⟩;rw[Y0,a2 _ (by omega)];simp[Y3]
  |succ k=>
   have:=a3 k o (by simpa using ho);rw[show acc.length+1+k=acc.length+(k+1)from by omega]at this;exact this
theorem EB{ms:List Nat}(h:BS [] ops.toList=some ms){S:Nat->Prop}(hS:yy ops S):∀i o,ops[i]? =some o->(∀e∈o.after,Zv .any e=true->S e.on)->∀j,(ms.getD i 0).testBit j=true->S j:=by
 obtain⟨_,_,a3⟩:=uw h;intro i
 induction i using Nat.strongRecOn with
 |_ i ih=>
  intro o ho hd j hj;obtain⟨m,h1,h2⟩:=a3 i o (by rw[Array.getElem?_toList];exact ho);simp only[List.length_nil,Yw]at h1 h2;rw[h2]at hj;obtain⟨e,he,hb,aW,h3⟩:=uv h1 j hj;have Gq:=hd e (by simpa using he) hb
  rcases h3 with rfl|h3
  .exact Gq
  .have K4:e.on<ops.size:=by
    have:=(Array.getElem?_eq_some_iff.1 ho).1;omega
   exact ih e.on aW _ (Yu K4) (fun e' he' lQ=>hS e.on Gq _ (Yu K4) e' he' lQ) j h3
end
def dU(S:Nat->Bool):Nat->List g7->(Nat->Option aj)->Nat->Option aj
 |_,[],f=>f
 |i,x::l,f=>dU S (i+1) l (fun t=>bif S i&&ga (some t) x.dst.toList then some x.e.dst else f t)
def dC(S:Nat->Bool):Nat->List g7->(Nat->Option (Nat×Th))->Nat->Option (Nat×Th)
 |_,[],f=>f
 |i,x::l,f=>dC S (i+1) l (fun o=>bif S i then(find x.e.make o).or (bif jf o x.e.eat then none else f o)else f o)
theorem me{l:List (Nat×(Nat×Th))}{o:Nat}{x:Nat×Th}(h:find l o=some x):o∈mK l:=by
 induction l with
 |nil=>cases h
 |cons p l ih=>
  obtain⟨o',y⟩:=p;rw[aw]at h;split at h
  .rename_i e;subst e;exact List.mem_cons_self
  .exact List.mem_cons_of_mem _ (ih h)
theorem nK{d:Option Nat}{t:Nat}:ga (some t) d.toList=true↔d=some t:=by
 unfold ga;simp only[cQ,Option.mem_toList]
theorem iz{S S':Nat->Bool}{t:Nat}:{l:List g7}->{i:Nat}->{f f':Nat->Option aj}->f t=f' t->(∀k x,l[k]? =some x->x.dst=some t->S (i+k)=S' (i+k))->dU S i l f t=dU S' i l f' t
 |[],_,_,_,hf,_=>hf
 |x::l,i,f,f',hf,h=>by
  show dU S (i+1) l _ t=dU S' (i+1) l _ t
  refine iz ?_ fun k y hy hd=>by
   have:=h (k+1) y (by simpa using hy) hd
   rwa [show i+(k+1)=i+1+k from by omega]at this
  by_cases hd:x.dst=some t
  .have:=h 0 x rfl hd;simp only[Y0]at this;rw[this,hf]
  .have:ga (some t) x.dst.toList=false:=by
    cases hb:ga (some t) x.dst.toList with
    |false=>rfl
    |true=>exact absurd (nK.1 hb) hd
   rw[this,Bool.and_false,Bool.and_false,cond_false,cond_false,hf]
theorem g8{S S':Nat->Bool}{o:Nat}:{l:List g7}->{i:Nat}->{f f':Nat->Option (Nat×Th)}->f o=f' o->(∀k x,l[k]? =some x->o∈x.mut->S (i+k)=S' (i+k))->dC S i l f o=dC S' i l f' o
 |[],_,_,_,hf,_=>hf
 |x::l,i,f,f',hf,h=>by
  show dC S (i+1) l _ o=dC S' (i+1) l _ o
  refine g8 ?_ fun k y hy hd=>by
   have:=h (k+1) y (by simpa using hy) hd
   rwa [show i+(k+1)=i+1+k from by omega]at this
  by_cases hd:o∈x.mut
  .have:=h 0 x rfl hd;simp only[Y0]at this;rw[this,hf]
  .have h1:find x.e.make o=none:=by
    cases hm:find x.e.make o with
    |none=>rfl
    |some y=>exact absurd (by simp[g7.mut,me hm]) hd
   have h2:jf o x.e.eat=false:=by
    cases hb:jf o x.e.eat with
    |false=>rfl
    |true=>exact absurd (by simp[g7.mut,cQ.1 hb]) hd
   rw[h1,h2,Zi,cond_false]
   cases S i<;>cases S' i<;>simp[hf]
theorem kD{S:Nat->Bool}{t:Nat}:{l:List g7}->{i:Nat}->{f:Nat->Option aj}->(∀k x,l[k]? =some x->x.dst=some t->S (i+k)=false)->dU S i l f t=f t
 |[],_,_,_=>rfl
 |x::l,i,f,h=>by
  show dU S (i+1) l _ t=_
  rw[kD fun k y hy hd=>by
   have:=h (k+1) y (by simpa using hy) hd
   rwa [show i+(k+1)=i+1+k from by omega]at this]
  by_cases hd:x.dst=some t
  .have:=h 0 x rfl hd;simp only[Y0]at this;simp[this]
  .have:ga (some t) x.dst.toList=false:=by
    cases hb:ga (some t) x.dst.toList with
    |false=>rfl
    |true=>exact absurd (nK.1 hb) hd
   simp[this]
theorem jY{S:Nat->Bool}{o:Nat}:{l:List g7}->{i:Nat}->{f:Nat->Option (Nat×Th)}->(∀k x,l[k]? =some x->o∈x.mut->S (i+k)=false)->dC S i l f o=f o
 |[],_,_,_=>rfl
 |x::l,i,f,h=>by
  show dC S (i+1) l _ o=_
  rw[jY fun k y hy hd=>by
   have:=h (k+1) y (by simpa using hy) hd
   rwa [show i+(k+1)=i+1+k from by omega]at this]
  by_cases hd:o∈x.mut
  .have:=h 0 x rfl hd;simp only[Y0]at this;simp[this]
  .have h1:find x.e.make o=none:=by
    cases hm:find x.e.make o with
    |none=>rfl
    |some y=>exact absurd (by simp[g7.mut,me hm]) hd
   have h2:jf o x.e.eat=false:=by
    cases hb:jf o x.e.eat with
    |false=>rfl
    |true=>exact absurd (by simp[g7.mut,cQ.1 hb]) hd
   simp only[h1,h2,Zi,cond_false]
   cases S i<;>rfl
theorem kE{S:Nat->Bool}{l l':List g7}{i:Nat}{f:Nat->Option aj}:dU S i (l++l') f=dU S (i+l.length) l' (dU S i l f):=by
 induction l generalizing i f with
 |nil=>rfl
 |cons x l ih=>
  show dU S (i+1) (l++l') _=dU S (i+(l.length+1)) l' (dU S (i+1) l _)
  rw[ih,show i+1+l.length=i+(l.length+1)from by omega]
theorem gp{S:Nat->Bool}{l l':List g7}{i:Nat}{f:Nat->Option (Nat×Th)}:dC S i (l++l') f=dC S (i+l.length) l' (dC S i l f):=by
 induction l generalizing i f with
 |nil=>rfl
 |cons x l ih=>
  show dC S (i+1) (l++l') _=dC S (i+(l.length+1)) l' (dC S (i+1) l _)
  rw[ih,show i+1+l.length=i+(l.length+1)from by omega]
end Go.Proofs.YtlfjlhcigpejdaaGreatDoor
end
section
open _root_.Array renaming getD_eq_getD_getElem?->YF,getElem?_eq_getElem->Yu
open _root_.Bool renaming false_eq_true->X8,not_false->YC,not_true->Yp
open _root_.List renaming getElem?_append_left->YI,getElem?_drop->Yo,getElem?_eq_getElem->X9,getElem?_eq_some_iff->Yc,length_append->Yr,length_singleton->Y6,mem_of_getElem?->Y8,take_append_drop->Zn
open _root_.Nat renaming add_zero->Y0,beq->Yb,blt->YM,le_refl->Yd,lt_or_ge->YN,zero_add->Yw
open _root_.Option renaming none_or->Zi
open _root_.Option.some renaming inj->X7
open _root_.Go.Region renaming binds->Zv,wanted->Zq
namespace Go.Proofs.YtlfjlhcigpejdaaGreatDoor
open Go Go.RowKit
theorem qW{ms:List Nat}{i:Nat}{x:g7}:{l:List g7}->{j:Nat}->uu ms i x j l=true->∀k y,l[k]? =some y->conflict x y=true->(ms.getD (j+k) 0).testBit i=true
 |[],_,_,k,y,h,_=>by simp at h
 |z::l,j,hl,k,y,h,hc=>by
  obtain⟨h1,h2⟩:=bU hl
  cases k with
  |zero=>
   obtain rfl:z=y:=by simpa using h
   rw[hc,cond_true]at h1;exact h1
  |succ k=>
   have:=qW h2 k y (by simpa using h) hc
   rwa [show j+1+k=j+(k+1)from by omega]at this
theorem mZ{ms:List Nat}:{l:List g7}->{i:Nat}->pW ms i l=true->∀a b x y,a<b->l[a]? =some x->l[b]? =some y->conflict x y=true->(ms.getD (i+b) 0).testBit (i+a)=true
 |[],_,_,a,b,x,y,_,h,_,_=>by simp at h
 |z::l,i,hl,a,b,x,y,HK,hx,hy,hc=>by
  obtain⟨h1,h2⟩:=bU hl
  cases a with
  |zero=>
   obtain rfl:z=x:=by simpa using hx
   cases b with
   |zero=>omega
   |succ b=>
    have:=qW h1 b y (by simpa using hy) hc
    rwa [show i+1+b=i+(b+1)from by omega]at this
  |succ a=>
   cases b with
   |zero=>omega
   |succ b=>
    have:=mZ h2 a b x y (by omega) (by simpa using hx) (by simpa using hy) hc
    rwa [show i+1+b=i+(b+1)from by omega,show i+1+a=i+(a+1)from by omega]at this
inductive I4(ops:Array Oper)(nt:Nat)(ts:List Nat)(sl:Nat->Option aj):Option (Nat×Bool)->Bool->Prop
 |none:I4 ops nt ts sl none true
 |lit {j g:Nat} {b t:Bool} {d:aj} (h1:zS ops j=some g) (h2:YM g nt=true) (h3:g∈ts) (h4:sl g=some d) (h5:asBool d=some t):I4 ops nt ts sl (some (j,b)) (decide (t=b))
 |undef {j g:Nat} {b:Bool} (h1:zS ops j=some g) (h2:YM g nt=true) (h3:g∈ts) (h4:sl g=some .undef):I4 ops nt ts sl (some (j,b)) false
structure I5(P:Program)(ops:Array Oper)(nt:Nat)(U:Nat->Prop)(o:Oper)(sl:Nat->Option aj)(ob:Nat->Option (Nat×Th))(n:Nat)(x:g7):Prop where
 dst:x.dst=o.dst
 bnd:wb nt o.dst=true
 on:∃b,I4 ops nt x.ts sl o.guard b/\(b=true->HY P U o sl ob n x)/\(b=false->x.e={dst:= .undef})
section
variable {P:Program} {nt:Nat} {ops:Array Oper}
theorem GN{ρ:Nat->Value}{o:Oper}{w:World}{QQ:Value->World->Prop}{a:Act}{K:Act->World->Prop}{Q:Exit->Act->World->Prop}(h:bp P ρ ⟨o.dst,o.op,o.type,o.pos,o.after,none⟩ w QQ)(hf:Fr nt a ρ)
 (hk:∀v w',QQ v w'->K (a.put o.dst v) w'):o.wp P a w K Q:=by
 unfold Oper.wp;rw[hf.eval];unfold bp at h;have e:execOp (ev ρ) o=execOp (ev ρ) ⟨o.dst,o.op,o.type,o.pos,o.after,none⟩:=rfl;rw[e];generalize(execOp (ev ρ) ⟨o.dst,o.op,o.type,o.pos,o.after,none⟩).run P w=r at*
 cases r with
 |halt x w'=>exact h.elim
 |ok x w'=>
  cases x<;>first
   |exact h.elim
   |skip
  case value v=>exact hk v w' h.2
  case skip=>exact hk undef w' h.2
  case enter f args=>
   refine h.mono fun e o6 ⟨v,he,hv⟩=>?_
   subst he;exact hk v o6 hv
theorem aq.sub{U:Nat->Prop}{H:ao}{F:Nat->Prop}{w:World}{ob FE:Nat->Option (Nat×Th)}{n m:Nat}(h:aq U H F w ob n)(hR:∀o x,FE o=some x->ob o=some x)(A3:∀k,m<=k->k<m+16->H.val k=none/\H.con k=none):aq U H F w FE m:=
 ⟨fun o s t ho=>h.obj o s t (hR _ _ ho),fun o o' s s' t t' v v' bu ho iJ=>h.apart o o' s s' t t' v v' bu (hR _ _ ho) (hR _ _ iJ),A3,h.lt,h.new,h.gl⟩
structure Inv(G:Nat->Prop)(w0:World)(F0:Nat->Prop)(es:List g7)(sl0:Nat->Option aj)(ob0:Nat->Option (Nat×Th))(n0:Nat)(H:ao)(F:Nat->Prop)(w:World)(ρ:Nat->Value)(S:Nat->Bool)(H':ao)(F':Nat->Prop)(w':World)(bk:Nat->Value):Prop where
 slot:∀t d,dU S 0 es sl0 t=some d->ai H' F' w' d (bk t)
 ob:aq (UU G w0) H' F' w' (dC S 0 es ob0) (n0+16*es.length)
 all:gx H' (n0+16*es.length)
 fresh:∀i,i<es.length->S i=false->∀m,n0+16*i<=m->m<n0+16*i+16->H'.val m=none/\H'.con m=none
 glob:D7 G w0 F0 w' F'
 keeps:bD H F w H' F' w'
 same:∀t,(∀x∈es,x.dst≠some t)->bk t=ρ t
def ins(S:Nat->Bool)(i:Nat):Nat->Bool:=fun j=>bif Yb j i then true else S j
theorem lA{S:Nat->Bool}{i:Nat}:ins S i i=true:=by simp[ins]
theorem lB{S:Nat->Bool}{i j:Nat}(h:j≠i):ins S i j=S j:=by
 unfold ins
 cases hb:Yb j i with
 |true=>exact absurd (beq_true hb) h
 |false=>rfl
section
variable {G:Nat->Prop} {w0:World} {F0:Nat->Prop} {es:List g7} {sl0:Nat->Option aj} {ob0:Nat->Option (Nat×Th)} {n0:Nat} {H:ao} {F:Nat->Prop} {w:World} {ρ:Nat->Value} {ms:List Nat}
theorem wx{i:Nat}{x:g7}(h:es[i]? =some x):es=es.take i++x::es.drop (i+1)/\(es.take i).length=i:=by
 have aW:i<es.length:=(Yc.1 h).1;have hx:es[i]=x:=(Yc.1 h).2;refine⟨?_,by simp;omega⟩;rw[<-hx,<-List.drop_eq_getElem_cons aW,Zn]
theorem sY{S:Nat->Bool}{i:Nat}{x:g7}(hx:es[i]? =some x)(EC:∀t,x.dst=some t->∀j y,es[j]? =some y->y.dst=some t->S j=true->j<i)(t:Nat):
 dU (ins S i) 0 es sl0 t=if x.dst=some t then some x.e.dst else dU S 0 es sl0 t:=by
 by_cases hd:x.dst=some t
 .rw[if_pos hd];obtain⟨e1,e2⟩:=wx hx;rw[e1,kE,e2,Yw]
  show dU (ins S i) (i+1) (es.drop (i+1)) _ t=_
  rw[kD fun k y hy I6=>by
   rw[lB (by omega)]
   cases hS:S (i+1+k)with
   |false=>rfl
   |true=>
    have:=EC t hd (i+1+k) y (by rw[<-hy,Yo]) I6 hS
    omega]
  rw[lA,nK.2 hd];rfl
 .rw[if_neg hd]
  refine iz rfl fun k y hy I6=>?_
  rw[Yw]
  refine lB fun e=>?_
  subst e;rw[hx]at hy;obtain rfl:=X7 hy;exact hd I6
theorem wy{S:Nat->Bool}{i:Nat}{x:g7}(hx:es[i]? =some x)(hS:S i=false)(EC:∀o,o∈x.mut->∀j y,es[j]? =some y->o∈y.mut->S j=true->j<i)(o s:Nat)(t:Th)(h:dC (ins S i) 0 es ob0 o=some (s,t)):
 find x.e.make o=some (s,t)\/(o∉x.e.eat/\dC S 0 es ob0 o=some (s,t)/\find x.e.make o=none):=by
 by_cases hd:o∈x.mut
 .obtain⟨e1,e2⟩:=wx hx
  have late:∀S':Nat->Bool,(∀j,j≠i->S' j=S j)->∀f,dC S' (i+1) (es.drop (i+1)) f o=f o:=fun S' Ti f=>jY fun k y hy I6=>by
   rw[Ti _ (by omega)]
   cases K5:S (i+1+k)with
   |false=>rfl
   |true=>
    have:=EC o hd (i+1+k) y (by rw[<-hy,Yo]) I6 K5;omega
  have pre:dC (ins S i) 0 (es.take i) ob0 o=dC S 0 (es.take i) ob0 o:=g8 rfl fun k y hy _=>by
   rw[Yw]
   refine lB fun e=>?_
   have:=(Yc.1 hy).1;omega
  have all:dC S 0 es ob0 o=dC S 0 (es.take i) ob0 o:=by
   conv=>lhs;rw[e1]
   rw[gp,e2,Yw]
   show dC S (i+1) (es.drop (i+1)) _ o=_
   rw[late S (fun _ _=>rfl),hS];rfl
  conv at h=>lhs;rw[e1]
  rw[gp,e2,Yw]at h;change dC (ins S i) (i+1) (es.drop (i+1)) _ o=_ at h;rw[late (ins S i) (fun j hj=>lB hj),lA,cond_true,pre,<-all]at h
  cases hm:find x.e.make o with
  |some y=>rw[hm]at h;exact .inl h
  |none=>
   rw[hm,Zi]at h
   cases he:jf o x.e.eat with
   |true=>rw[he]at h;cases h
   |false=>
    rw[he,cond_false]at h;exact .inr ⟨fun e=>(by rw[cQ.2 e]at he;cases he),h,rfl⟩
 .right
  have h1:find x.e.make o=none:=by
   cases hm:find x.e.make o with
   |none=>rfl
   |some y=>exact absurd (by simp[g7.mut,me hm]) hd
  refine⟨fun e=>hd (by simp[g7.mut,e]),?_,h1⟩;rw[<-h];refine(g8 rfl fun k y hy I6=>?_).symm;rw[Yw]
  refine lB fun e=>?_
  subst e;rw[hx]at hy;obtain rfl:=X7 hy;exact hd I6
theorem jZ{l l':List Nat}{o:Nat}(h:o∈l)(h':o∈l'):wv l l'=true:=by
 unfold wv;rw[List.any_eq_true];exact⟨o,h,cQ.2 h'⟩
theorem oJ{i j:Nat}(h:i<=j):YM j i=false:=by
 cases hb:YM j i with
 |false=>rfl
 |true=>have:j<i:=by simpa using hb
        omega
def BT(_:Nat):Bool:=true
theorem yz{es:List g7}{i:Nat}(hi:i<=es.length):dU (fun j=>YM j i) 0 es sl0=dU BT 0 (es.take i) sl0:=by
 funext t
 conv=>lhs;rw[<-Zn i es]
 rw[kE,kD (S:=fun j=>YM j i) fun k x _ _=>oJ (by simp;omega)]
 refine iz rfl fun k x hx _=>?_
 have:=(Yc.1 hx).1;simp at this;simp[BT];omega
theorem sZ{es:List g7}{i:Nat}(hi:i<=es.length):dC (fun j=>YM j i) 0 es ob0=dC BT 0 (es.take i) ob0:=by
 funext t
 conv=>lhs;rw[<-Zn i es]
 rw[gp,jY (S:=fun j=>YM j i) fun k x _ _=>oJ (by simp;omega)]
 refine g8 rfl fun k x hx _=>?_
 have:=(Yc.1 hx).1;simp at this;simp[BT];omega
theorem BU{S:Nat->Bool}{i q:Nat}(hA:∀k y,k<i->es[k]? =some y->q∈y.mut->S k=true\/q∈y.soft)
 (hs:∀k y,es[k]? =some y->q∈y.soft->q∈y.mut->∃z z',dC BT 0 (es.take k) ob0 q=some z/\find y.e.make q=some z'/\eP z z'):
 ∀m,m<=i->m<=es.length->∀z,dC BT 0 (es.take m) ob0 q=some z->∃z',dC S 0 (es.take m) ob0 q=some z'/\eP z z':=by
 intro m
 induction m with
 |zero=>intro _ _ z hz;exact⟨z,hz, .inl rfl⟩
 |succ m ih=>
  intro hm hl z hz
  have aW:m<es.length:=by omega
  have hy:es[m]? =some es[m]:=X9 aW
  have e1:es.take (m+1)=es.take m++[es[m]]:=by rw[List.take_add_one,hy];rfl
  have el:(es.take m).length=m:=by simp;omega
  rw[e1,gp,el,Yw]at hz⊢;generalize XD:es[m]=y at*;have ez:(find y.e.make q).or (bif jf q y.e.eat then none else dC BT 0 (es.take m) ob0 q)=some z:=hz
  show∃z',(bif S m then(find y.e.make q).or (bif jf q y.e.eat then none else dC S 0 (es.take m) ob0 q)else dC S 0 (es.take m) ob0 q)=some z'/\eP z z'
  by_cases ED:q∈y.mut
  .cases Tj:S m with
   |true=>
    rw[cond_true]
    cases yA:find y.e.make q with
    |some x=>rw[yA]at ez;exact⟨z,ez, .inl rfl⟩
    |none=>
     have hk:q∉mK y.e.make:=fun hk=>by
      have:∀l:List (Nat×(Nat×Th)),q∈mK l->find l q≠none:=by
       intro l
       induction l with
       |nil=>intro h;cases h
       |cons p l ih=>
        obtain⟨o',x⟩:=p;intro h;rw[aw];split
        .simp
        .rename_i bu
         rcases List.mem_cons.1 h with h|h
         .exact absurd h.symm bu
         .exact ih h
      exact this _ hk yA
     have he:jf q y.e.eat=true:=cQ.2 (by
      rcases List.mem_append.1 ED with h|h
      .exact h
      .exact absurd h hk)
     rw[yA,he]at ez;cases ez
   |false=>
    rw[cond_false]
    rcases hA m y (by omega) hy ED with h|h
    .rw[Tj]at h;cases h
    .obtain⟨x,x',h1,h2,h3⟩:=hs m y hy h ED;rw[h2]at ez;obtain rfl:=X7 ez;obtain⟨z',h4,h5⟩:=ih (by omega) (by omega) x h1;exact⟨z',h4,h3.symm.trans h5⟩
  .have h1:find y.e.make q=none:=by
    cases hm:find y.e.make q with
    |none=>rfl
    |some y=>exact absurd (by simp[g7.mut,me hm]) ED
   have h2:jf q y.e.eat=false:=by
    cases hb:jf q y.e.eat with
    |false=>rfl
    |true=>exact absurd (by simp[g7.mut,cQ.1 hb]) ED
   rw[h1,h2,Zi,cond_false]at ez;obtain⟨z',h4,h5⟩:=ih (by omega) (by omega) z ez;refine⟨z',?_,h5⟩;rw[h1,h2,Zi,cond_false,h4]
   cases S m<;>rfl
theorem EE(GO:BS [] ops.toList=some ms)(hp:pW ms 0 es=true)(hlen:es.length=ops.size){S:Nat->Bool}(hS:yy ops (fun j=>S j=true)){i:Nat}{o:Oper}{x:g7}(ho:ops[i]? =some o)(hx:es[i]? =some x)(BV:S i=false)
 (zV:∀e∈o.after,Zv .any e=true->S e.on=true)(EF:∀k y,es[k]? =some y->∀q,q∈y.soft->q∈y.mut->∃z z',dC BT 0 (es.take k) ob0 q=some z/\find y.e.make q=some z'/\eP z z')(fQ:I5 P ops nt (UU G w0) o (dU (fun j=>YM j i) 0 es sl0) (dC (fun j=>YM j i) 0 es ob0) (n0+16*i) x)
 {H':ao}{F':Nat->Prop}{w':World}{bk:Nat->Value}{a:Act}(hf:Fr nt a bk)(hinv:Inv G w0 F0 es sl0 ob0 n0 H F w ρ S H' F' w' bk){K:Act->World->Prop}{Q:Exit->Act->World->Prop}
 (hk:∀MK nL og vM o6,Fr nt MK nL->Inv G w0 F0 es sl0 ob0 n0 H F w ρ (ins S i) og vM o6 nL->K MK o6):wpOp P ops Q i K a w':=by
 have K6:i<es.length:=(Yc.1 hx).1
 have up:∀j y,es[j]? =some y->j<i->conflict y x=true->S j=true:=fun j y hy Tk hc=>by
  have:=mZ hp j i y x Tk hy hx hc;rw[Yw,Yw]at this;exact EB GO hS i o ho zV j this
 have down:∀j y,es[j]? =some y->i<j->conflict x y=true->S j=true->False:=fun j y hy HL hc hj=>by
  have:=mZ hp i j x y HL hx hy hc;rw[Yw,Yw]at this
  have GC:j<ops.size:=by have:=(Yc.1 hy).1;omega
  have h2:=EB GO hS j _ (Yu GC) (fun e he hb=>hS j hj _ (Yu GC) e he hb) i this;rw[BV]at h2;cases h2
 have HZ:∀t,x.dst=some t->∀j y,es[j]? =some y->y.dst=some t->S j=true->j<i:=fun t ht j y hy ML hj=>by
  rcases Nat.lt_trichotomy j i with h|h|h
  .exact h
  .subst h;rw[BV]at hj;cases hj
  .exact(down j y hy h (by unfold conflict;simp[ga,ht,ML,cQ]) hj).elim
 have Ia:∀q,q∈x.mut->∀j y,es[j]? =some y->q∈y.mut->S j=true->j<i:=fun q hq j y hy Ib hj=>by
  rcases Nat.lt_trichotomy j i with h|h|h
  .exact h
  .subst h;rw[BV]at hj;cases hj
  .exact(down j y hy h (by unfold conflict;rw[jZ hq (by simp[Ib])];simp) hj).elim
 have I7:∀t,t∈x.ts->dU (fun j=>YM j i) 0 es sl0 t=dU S 0 es sl0 t:=fun t ht=>iz rfl fun j y hy ML=>by
  rw[Yw]
  rcases Nat.lt_trichotomy j i with h|h|h
  .rw[up j y hy h (by unfold conflict;simp[ga,ML,cQ,ht])];simpa using h
  .subst h;rw[BV];exact oJ (Yd _)
  .have:S j=false:=by
    cases hj:S j with
    |false=>rfl
    |true=>exact(down j y hy h (by unfold conflict;simp[ga,ML,cQ,ht]) hj).elim
   rw[this];exact oJ (by omega)
 have NY:∀q,q∈x.os->dC (fun j=>YM j i) 0 es ob0 q=dC S 0 es ob0 q:=fun q hq=>g8 rfl fun j y hy Ib=>by
  rw[Yw]
  rcases Nat.lt_trichotomy j i with h|h|h
  .rw[up j y hy h (by unfold conflict;rw[jZ Ib (by simp[hq])];simp)];simpa using h
  .subst h;rw[BV];exact oJ (Yd _)
  .have:S j=false:=by
    cases hj:S j with
    |false=>rfl
    |true=>exact(down j y hy h (by unfold conflict;rw[jZ (l:=x.os++x.ls++x.mut) (l':=y.mut) (by simp[hq]) Ib];simp) hj).elim
   rw[this];exact oJ (by omega)
 have NZ:∀q z,q∈x.ls->dC (fun j=>YM j i) 0 es ob0 q=some z->∃z',dC S 0 es ob0 q=some z'/\eP z z':=fun q z hq hz=>by
  rw[sZ (by omega)]at hz
  obtain⟨z',h1,h2⟩:=BU (S:=S) (i:=i) (q:=q) (fun k y hk hy Ib=>by
   by_cases Rk:q∈y.soft
   .exact .inr Rk
   .refine .inl (up k y hy hk ?_)
    have:q∈y.K3:=List.mem_filter.2 ⟨Ib,by
     cases hb:jf q y.soft with
     |false=>rfl
     |true=>exact absurd (cQ.1 hb) Rk⟩
    unfold conflict;rw[jZ this hq]
    simp) (fun k y hy h1 h2=>EF k y hy q h1 h2) i (Yd _) (by omega) z hz
  refine⟨z',?_,h2⟩;rw[<-h1]
  conv=>lhs;rw[<-Zn i es]
  rw[gp]
  refine jY fun k y hy Ib=>?_
  have Bz:es[i+k]? =some y:=by rw[<-hy,Yo]
  have el:(es.take i).length=i:=by simp;omega
  rw[el,Yw]
  cases K5:S (i+k)with
  |false=>rfl
  |true=>
   rcases Nat.eq_zero_or_pos k with rfl|hk
   .rw[Y0,BV]at K5;cases K5
   .exact(down (i+k) y Bz (by omega) (by unfold conflict;rw[jZ (l:=x.os++x.ls++x.mut) (l':=y.mut) (by simp[hq]) Ib];simp) K5).elim
 obtain⟨b,hg,N0,DK⟩:=fQ.on
 have K7:Zq o (yielded ops a.tmps)=b:=by
  generalize N1:o.guard=gd at hg
  cases hg with
  |none=>unfold Zq;rw[N1]
  |lit h1 h2 h3 h4 h5=>
   rename_i j g b' t d;rw[I7 g h3]at h4;have hy:=kq hf h1 h2 (jM h5 (hinv.slot g _ h4));unfold Zq;rw[N1];simp only[hy]
   cases t<;>cases b'<;>rfl
  |undef h1 h2 h3 h4=>
   rename_i j g b';rw[I7 g h3]at h4;have hy:=jF hf h1 h2 (show bk g=undef from hinv.slot g _ h4);unfold Zq;rw[N1];simp only[hy]
   cases b'<;>rfl
 have qg:∀v,Fr nt (a.put o.dst v) (pA bk o.dst v):=fun v=>by
  have hb:=fQ.bnd
  cases hd:o.dst with
  |none=>exact hf
  |some d=>rw[hd]at hb;exact hf.put hb v
 have wz:∀t,x.dst=some t↔o.dst=some t:=fun t=>by rw[fQ.dst]
 unfold wpOp;simp only[ho,K7]
 cases b with
 |false=>
  simp only[X8,if_false];have he:=DK rfl;refine hk _ (pA bk o.dst undef) H' F' w' (qg undef) ⟨fun t d ht=>?_,?_,hinv.all,fun k hk qX=>?_,hinv.glob,hinv.keeps,fun t ht=>?_⟩
  .rw[sY hx HZ]at ht;split at ht
   .rename_i I8;obtain rfl:=X7 ht;rw[he]
    show pA bk o.dst undef t=undef
    rw[(wz t).1 I8]
    show xD bk t undef t=undef
    rw[lf,if_pos rfl]
   .rename_i I8;rw[mc (fun e=>I8 ((wz t).2 e))];exact hinv.slot t d ht
  .refine hinv.ob.sub (fun q y hq=>?_) (fun m hm _=>hinv.all m hm)
   rcases wy hx BV Ia q y.1 y.2 hq with h1|⟨_,h2,_⟩
   .rw[he]at h1;cases h1
   .exact h2
  .by_cases e:k=i
   .subst e;rw[lA]at qX;cases qX
   .rw[lB e]at qX;exact hinv.fresh k hk qX
  .rw[mc (fun e=>ht x (Y8 hx) ((wz t).2 e))];exact hinv.same t ht
 |true=>
  simp only[if_true]
  left
  obtain⟨_,⟨NS,FE,GL,yx,bR⟩,_⟩:=N0 rfl
  obtain⟨NT,ee,bR⟩:=bR H' F' w' bk (dC S 0 es ob0) (fun q y hq=>by
   obtain⟨h1,h2⟩:=yx q y hq;by_cases N2:q∈x.os
   .exact⟨y,by rw[<-NY q N2];exact h2, .inl rfl,fun _=>rfl⟩
   .rcases h1 with h1|h1
    .exact absurd h1 N2
    .obtain⟨z',h3,h4⟩:=NZ q y h1 h2
     exact⟨z',h3,h4,fun h=>absurd h N2⟩) (fun t d ht=>by
   obtain⟨h1,h2⟩:=GL t d ht;rw[I7 t h1]at h2
   exact hinv.slot t d h2) (hinv.ob.sub (fun _ _ h=>h) (hinv.fresh i K6 BV))
  have v7:=hinv.ob.sub ee (hinv.fresh i K6 BV)
  refine GN bR hf fun v o6 ⟨og,vM,mI⟩=>?_
  .have gw:=mI.iI.step v7.lt v7.fe
   have k7:gx og (n0+16*es.length):=fun m hm=>by
    have h1:=hinv.all m hm;have h2:=mI.fresh m (.inr (by omega));exact⟨h2.1 h1.1,h2.2 h1.2⟩
   refine hk _ (pA bk o.dst v) og vM o6 (qg v) ⟨fun t d ht=>?_,?_,k7,fun k hk qX m Tl Rl=>?_,hinv.glob.iI mI.iI v7.eJ,hinv.keeps.trans ⟨mI.iI.fP,gw⟩,fun t ht=>?_⟩
   .rw[sY hx HZ]at ht;split at ht
    .rename_i I8;obtain rfl:=X7 ht;rw[(wz t).1 I8]
     show ai og vM o6 _ (xD bk t v t)
     rw[lf,if_pos rfl];exact mI.dst
    .rename_i I8;rw[mc (fun e=>I8 ((wz t).2 e))];exact(hinv.slot t d ht).aO mI.iI.fP gw
   .exact hinv.ob.Dy ee mI (fun q s t hq=>wy hx BV Ia q s t hq) fun m hm _=>k7 m hm
   .by_cases e:k=i
    .subst e;rw[lA]at qX;cases qX
    .rw[lB e]at qX;have h1:=hinv.fresh k hk qX m Tl Rl;have h2:=mI.fresh m (by omega);exact⟨h2.1 h1.1,h2.2 h1.2⟩
   .rw[mc (fun e=>ht x (Y8 hx) ((wz t).2 e))];exact hinv.same t ht
end
end
end Go.Proofs.YtlfjlhcigpejdaaGreatDoor
namespace Go.Proofs.YtlfjlhcigpejdaaGreatDoor
open Go Go.RowKit
def oK(dst:Option Nat)(g:Nat):g7:={dst:=dst,ts:=[g],os:=[],e:={dst:= .undef}}
noncomputable def jw{R:Type}{P:Program}(E:Env P)(nt:Nat)(ops:Array Oper):List Oper->State->List g7->(State->Option R)->Option R
 |[],st,acc,k=>bif oI ops.toList acc then k st else none
 |o::os,st,acc,k=>bif wb nt o.dst then(match o.guard with
  |none=>sX E o.dst o.op [] st (fun e x=>jw E nt ops os (st.apply o.dst e) (acc++[x]) k)
  |some (j,b)=>match zS ops j with
   |none=>none
   |some g=>bif YM g nt then(match find st.ah g with
    |some .undef=>jw E nt ops os (st.apply o.dst {dst:= .undef}) (acc++[oK o.dst g]) k
    |some d=>match asBool d with
     |some t=>if t=true then
       (bif b then sX E o.dst o.op [g] (st.put (some g) (cJ true)) (fun e x=>jw E nt ops os ((st.put (some g) (cJ true)).apply o.dst e) (acc++[x]) k)
         else jw E nt ops os ((st.put (some g) (cJ true)).apply o.dst {dst:= .undef}) (acc++[oK o.dst g]) k)
      else
       (bif b then jw E nt ops os ((st.put (some g) (cJ false)).apply o.dst {dst:= .undef}) (acc++[oK o.dst g]) k
         else sX E o.dst o.op [g] (st.put (some g) (cJ false)) (fun e x=>jw E nt ops os ((st.put (some g) (cJ false)).apply o.dst e) (acc++[x]) k))
     |none=>none
    |none=>none)else none)else none
section
variable {P:Program} {nt:Nat} {ops:Array Oper} {R:Type}
variable {G:Nat->Prop} {w0:World} {F0:Nat->Prop} {sl0:Nat->Option aj} {ob0:Nat->Option (Nat×Th)} {n0:Nat}
structure Lex(P:Program)(nt:Nat)(ops:Array Oper)(U:Nat->Prop)(sl0:Nat->Option aj)(ob0:Nat->Option (Nat×Th))(n0:Nat)(es:List g7)(st:State):Prop where
 slot:∀t,find st.ah t=dU BT 0 es sl0 t
 ob:∀o,find st.objs o=dC BT 0 es ob0 o
 nxt:st.nxt=n0+16*es.length
 ok:∀i o x,ops[i]? =some o->es[i]? =some x->I5 P ops nt U o (dU BT 0 (es.take i) sl0) (dC BT 0 (es.take i) ob0) (n0+16*i) x
theorem yB{S:Nat->Bool}{es:List g7}{x:g7}{f:Nat->Option aj}{t:Nat}(h:S es.length=true):dU S 0 (es++[x]) f t=if x.dst=some t then some x.e.dst else dU S 0 es f t:=by
 rw[kE,Yw]
 show(bif S es.length&&ga (some t) x.dst.toList then some x.e.dst else dU S 0 es f t)=_
 rw[h,Bool.true_and];by_cases hd:x.dst=some t
 .rw[if_pos hd,nK.2 hd];rfl
 .rw[if_neg hd]
  cases hb:ga (some t) x.dst.toList with
  |false=>rfl
  |true=>exact absurd (nK.1 hb) hd
theorem BW{S:Nat->Bool}{es:List g7}{x:g7}{f:Nat->Option (Nat×Th)}{o:Nat}(h:S es.length=true):dC S 0 (es++[x]) f o=(find x.e.make o).or (bif jf o x.e.eat then none else dC S 0 es f o):=by
 rw[gp,Yw]
 show(bif S es.length then _ else _)=_
 rw[h];rfl
theorem oL{st:State}{dst:Option Nat}{e:cU}{t:Nat}:find (st.apply dst e).ah t=if dst=some t then some e.dst else find st.ah t:=by
 cases dst with
 |none=>simp[State.apply]
 |some d=>
  show find ((d,e.dst)::st.ah) t=_
  rw[aw];by_cases h:d=t
  .simp[h]
  .simp[h]
theorem pG{st:State}{dst:Option Nat}{e:cU}{o:Nat}:find (st.apply dst e).objs o=(find e.make o).or (bif jf o e.eat then none else find st.objs o):=by
 show find (e.make++del e.eat st.objs) o=_
 rw[eZ]
 congr 1
 cases hb:jf o e.eat with
 |true=>
  rw[cond_true]
  cases h:find (del e.eat st.objs) o with
  |none=>rfl
  |some x=>exact absurd (cQ.1 hb) (e8.1 h).1
 |false=>
  rw[cond_false]
  have hn:o∉e.eat:=fun h=>by rw[cQ.2 h]at hb;cases hb
  cases h:find st.objs o with
  |some x=>exact e8.2 ⟨hn,h⟩
  |none=>
   cases h2:find (del e.eat st.objs) o with
   |none=>rfl
   |some x=>rw[(e8.1 h2).2]at h;cases h
theorem Lex.snoc{U:Nat->Prop}{es:List g7}{st:State}{x:g7}{o:Oper}(h:Lex P nt ops U sl0 ob0 n0 es st)(ho:ops[es.length]? =some o)(hd:x.dst=o.dst)
 (mP:I5 P ops nt U o (find st.ah) (find st.objs) st.nxt x):Lex P nt ops U sl0 ob0 n0 (es++[x]) (st.apply o.dst x.e):=by
 refine⟨fun t=>?_,fun q=>?_,?_,fun i o' y iJ hy=>?_⟩
 .rw[oL,yB rfl,hd,h.slot t]
 .rw[pG,BW rfl,h.ob q]
 .show st.nxt+16=_
  rw[h.nxt,Yr,Y6];omega
 .rcases YN i es.length with aW|hge
  .rw[YI aW]at hy;rw[List.take_append_of_le_length (by omega)];exact h.ok i o' y iJ hy
  .have hi:i=es.length:=by
    have:=(Yc.1 hy).1;simp at this;omega
   subst hi;simp at hy;subst hy;rw[ho]at iJ;obtain rfl:=X7 iJ;rw[List.take_left']
   .rw[<-funext h.slot,<-funext h.ob,<-h.nxt];exact mP
   .rfl
theorem Lex.put{U:Nat->Prop}{es:List g7}{st:State}{g:Nat}{d:aj}(h:Lex P nt ops U sl0 ob0 n0 es st)(hg:find st.ah g=some d):Lex P nt ops U sl0 ob0 n0 es (st.put (some g) d):=by
 refine⟨fun t=>?_,h.ob,h.nxt,h.ok⟩
 show find ((g,d)::st.ah) t=_
 rw[aw,<-h.slot t];split
 .rename_i e;subst e;exact hg.symm
 .rfl
theorem BX{d:aj}{t:Bool}(h:asBool d=some t):d=cJ t:=by
 unfold asBool at h
 split at h<;>cases h
 rfl
theorem wA{E:Env P}{q:R}{k:State->Option R}:{l:List Oper}->{st:State}->{es:List g7}->jw E nt ops l st es k=some q->(∀j,l[j]? =ops[es.length+j]?)->Lex P nt ops (UU G w0) sl0 ob0 n0 es st->
 ∃jq bn,k bn=some q/\oI ops.toList jq=true/\Lex P nt ops (UU G w0) sl0 ob0 n0 jq bn/\jq.length=es.length+l.length
 |[],st,es,h,_,hl=>by
  unfold jw at h;obtain⟨h1,h2⟩:=ay h;exact⟨es,st,h2,h1,hl,rfl⟩
 |o::l,st,es,h,kw,hl=>by
  have ho:ops[es.length]? =some o:=by simpa using(kw 0).symm
  have K8:∀x:g7,∀j,l[j]? =ops[(es++[x]).length+j]? :=fun x j=>by
   have:=kw (j+1);rw[Yr,Y6,show es.length+1+j=es.length+(j+1)from by omega];simpa using this
  have go:∀{jX:State}{x:g7},jw E nt ops l jX (es++[x]) k=some q->Lex P nt ops (UU G w0) sl0 ob0 n0 (es++[x]) jX->∃jq bn,k bn=some q/\oI ops.toList jq=true/\Lex P nt ops (UU G w0) sl0 ob0 n0 jq bn/\jq.length=es.length+(o::l).length:=by
   intro jX x h1 h2;obtain⟨jq,bn,a1,a2,a3,a4⟩:=wA h1 (K8 x) h2;refine⟨jq,bn,a1,a2,a3,?_⟩;rw[a4,Yr,Y6,List.length_cons];omega
  unfold jw at h;obtain⟨hd,h'⟩:=ay h;clear h
  have on:∀{jX:State}{gs:List Nat},sX E o.dst o.op gs jX (fun e x=>jw E nt ops l (jX.apply o.dst e) (es++[x]) k)=some q->Lex P nt ops (UU G w0) sl0 ob0 n0 es jX->(∀ts:List Nat,(∀g∈gs,g∈ts)->I4 ops nt ts (find jX.ah) o.guard true)->∃jq bn,k bn=some q/\oI ops.toList jq=true/\Lex P nt ops (UU G w0) sl0 ob0 n0 jq bn/\jq.length=es.length+(o::l).length:=by
   intro jX gs h1 h2 h3;obtain⟨e,x,a1,a2,a3,a4⟩:=Ez (U:=UU G w0) h1;subst a2;exact go a1 (h2.snoc ho a4.dst ⟨a4.dst,hd,true,h3 _ a3,fun _=>a4,fun h=>by cases h⟩)
  have off:∀{jX:State}{g:Nat},jw E nt ops l (jX.apply o.dst {dst:= .undef}) (es++[oK o.dst g]) k=some q->Lex P nt ops (UU G w0) sl0 ob0 n0 es jX->I4 ops nt [g] (find jX.ah) o.guard false->∃jq bn,k bn=some q/\oI ops.toList jq=true/\Lex P nt ops (UU G w0) sl0 ob0 n0 jq bn/\jq.length=es.length+(o::l).length:=by
   intro jX g h1 h2 h3;exact go (x:=oK o.dst g) h1 (h2.snoc (x:=oK o.dst g) ho rfl ⟨rfl,hd,false,h3,fun h=>(by cases h),fun _=>rfl⟩)
  split at h'
  .rename_i s8
   exact on h' hl fun ts _=>by rw[s8];exact .none
  .rename_i j b s8;split at h'
   case h_1=>cases h'
   rename_i g HT;obtain⟨HU,h⟩:=ay h';clear h';split at h
   .rename_i hu;exact off h hl (by rw[s8];exact .undef HT HU (by simp) hu)
   .rename_i d eR;split at h
    case h_2=>cases h
    rename_i t ht;obtain rfl:=BX ht
    have K9:∀v:Bool,find (st.put (some g) (cJ v)).ah g=some (cJ v):=fun v=>by
     show find ((g,cJ v)::st.ah) g=_
     rw[aw,if_pos rfl]
    have GP:∀(v:Bool)(ts:List Nat)(r:Bool),g∈ts->r=decide (v=b)->I4 ops nt ts (find (st.put (some g) (cJ v)).ah) (some (j,b)) r:=fun v ts r hg hr=>by
     rw[hr];exact .lit HT HU hg (K9 v) rfl
    split at h
    .rename_i GJ;subst GJ;have CO:=hl.put eR
     cases b with
     |true=>rw[cond_true]at h;exact on h CO fun ts N3=>by rw[s8];exact GP true ts true (N3 g (by simp)) rfl
     |false=>rw[cond_false]at h;exact off h CO (by rw[s8];exact GP true [g] false (by simp) rfl)
    .rename_i GJ
     have GJ:t=false:=by cases t<;>simp_all
     subst GJ;have CO:=hl.put eR
     cases b with
     |true=>rw[cond_true]at h;exact off h CO (by rw[s8];exact GP false [g] false (by simp) rfl)
     |false=>rw[cond_false]at h;exact on h CO fun ts N3=>by rw[s8];exact GP false ts true (N3 g (by simp)) rfl
   .cases h
def La(m:Nat)(listed:Array Bool):Nat:=((List.range m).filter fun j=> !listed.getD j false).length
theorem zW{m i:Nat}{listed:Array Bool}(hi:i<m)(hs:listed.size=m)(h:listed.getD i false=false):La m (listed.setIfInBounds i true)+1<=La m listed:=by
 unfold La
 have ee:∀l:List Nat,(l.filter fun j=> !(listed.setIfInBounds i true).getD j false).length<=(l.filter fun j=> !listed.getD j false).length/\(i∈l->(l.filter fun j=> !(listed.setIfInBounds i true).getD j false).length+1<=(l.filter fun j=> !listed.getD j false).length):=by
  intro l
  induction l with
  |nil=>exact⟨Yd _,fun h=>by cases h⟩
  |cons j l ih=>
   by_cases hj:i=j
   .subst hj
    have e1:(listed.setIfInBounds i true).getD i false=true:=by simp[YF,hs,hi]
    rw[List.filter_cons,List.filter_cons,e1,h];simp only[Yp,X8,if_false,YC,if_true,List.length_cons];exact⟨by omega,fun _=>by omega⟩
   .have e1:(listed.setIfInBounds i true).getD j false=listed.getD j false:=getD_set_ne false hj;rw[List.filter_cons,List.filter_cons,e1]
    cases listed.getD j false with
    |true=>
     simp only[Yp,X8,if_false];exact⟨ih.1,fun hm=>ih.2 (by simpa[hj]using hm)⟩
    |false=>
     simp only[YC,if_true,List.length_cons];exact⟨by omega,fun hm=>by have:=ih.2 (by simpa[hj]using hm);omega⟩
 exact(ee _).2 (by simpa using hi)
theorem GQ{E:Env P}{id:Nat}{q:R}{k:State->Option R}{st:State}{H:ao}{F:Nat->Prop}{w:World}{ρ:Nat->Value}{Q:Exit->(Nat->Value)->World->Prop}(hm:P.follows .mixedOrders=true)
 (h:jw E nt ops ops.toList st [] k=some q)(hh:bK G w0 F0 H F w ρ st)
 (hk:∀bn H' F' w' bk,k bn=some q->bK G w0 F0 H' F' w' bk bn->bD H F w H' F' w'->(∀t,(∀o∈ops.toList,o.dst≠some t)->bk t=ρ t)->Q .normal bk w'):mO P nt (.region id ops true) Q ρ w:=by
 obtain⟨es,bn,D2,gU,yC,hlen⟩:=wA (G:=G) (w0:=w0) (sl0:=find st.ah) (ob0:=find st.objs) (n0:=st.nxt) h (fun j=>by simp) ⟨fun _=>rfl,fun _=>rfl,by simp,fun i o x _ hx=>by simp at hx⟩;simp only[List.length_nil,Yw,Array.length_toList]at hlen;unfold oI at gU;split at gU
 case h_2=>cases gU
 rename_i ms GO
 have wz:∀x∈es,∃o∈ops.toList,x.dst=o.dst:=fun x hx=>by
  obtain⟨i,hi,rfl⟩:=List.getElem_of_mem hx
  have aW:i<ops.size:=by omega
  exact⟨ops[i],by simp,(yC.ok i ops[i] es[i] (Yu aW) (X9 hi)).dst⟩
 have EF:∀k y,es[k]? =some y->∀q,q∈y.soft->q∈y.mut->∃z z',dC BT 0 (es.take k) (find st.objs) q=some z/\find y.e.make q=some z'/\eP z z':=fun k y hy q h1 h2=>by
  have aW:k<es.length:=(Yc.1 hy).1;obtain⟨_,_,b,_,N0,DK⟩:=yC.ok k _ y (Yu (by omega)) hy
  cases b with
  |true=>exact(N0 rfl).soft q h1 h2
  |false=>
   rw[g7.mut,DK rfl]at h2;simp[mK]at h2
 have zX:∀i o,ops[i]? =some o->∀e∈o.after,Zv .any e=true->e.on<i:=fun i o ho e he hb=>by
  obtain⟨m,h1,_⟩:=(uw GO).2.2 i o (by rw[Array.getElem?_toList];exact ho);simp only[List.length_nil,Yw]at h1;exact zU h1 e (by simpa using he) hb
 intro a hf;refine wp_region_any hm ?_
 have main:∀fuel(listed:Array Bool)(a:Act)(w':World)H' F' bk,listed.size=ops.size->La ops.size listed<=fuel->yy ops (fun j=>listed.getD j false=true)->Fr nt a bk->
  Inv G w0 F0 es (find st.ah) (find st.objs) st.nxt H F w ρ (fun j=>listed.getD j false) H' F' w' bk->wpAny P .any ops (fun e a' w'=>∃bk,Fr nt a' bk/\Q e bk w') fuel listed a w':=by
  have done:∀(listed:Array Bool)(a:Act)(w':World)H' F' bk,(∀i,i<ops.size->listed.getD i false=true)->Fr nt a bk->Inv G w0 F0 es (find st.ah) (find st.objs) st.nxt H F w ρ (fun j=>listed.getD j false) H' F' w' bk->∃bk,Fr nt a bk/\Q .normal bk w':=by
   intro listed a w' H' F' bk k7 hf hinv
   have eS:∀t,dU (fun j=>listed.getD j false) 0 es (find st.ah) t=find bn.ah t:=fun t=>by
    rw[yC.slot t]
    refine iz rfl fun k x hx _=>?_
    have:=(Yc.1 hx).1;rw[Yw];exact k7 k (by omega)
   have eO:∀o,dC (fun j=>listed.getD j false) 0 es (find st.objs) o=find bn.objs o:=fun o=>by
    rw[yC.ob o]
    refine g8 rfl fun k x hx _=>?_
    have:=(Yc.1 hx).1;rw[Yw];exact k7 k (by omega)
   refine⟨bk,hf,hk bn H' F' w' bk D2 ⟨⟨fun t d hd=>hinv.slot t d (by rw[eS];exact hd),?_,?_⟩,hinv.glob⟩ hinv.keeps fun t ht=>hinv.same t fun x hx=>?_⟩
   .have:=hinv.ob;rw[funext eO]at this;rw[yC.nxt];exact this
   .rw[yC.nxt];exact hinv.all
   .obtain⟨o,ho,e⟩:=wz x hx;rw[e];exact ht o ho
  have BY:∀(listed:Array Bool),listed.size=ops.size->Region.ready .any ops listed=[]->∀i,i<ops.size->listed.getD i false=true:=by
   intro listed hs hr i
   induction i using Nat.strongRecOn with
   |_ i ih=>
    intro hi
    cases hl:listed.getD i false with
    |true=>rfl
    |false=>
     have:i∈Region.ready .any ops listed:=mem_ready.2 ⟨by
      simp only[YF]at hl⊢;rw[Yu (by omega)]at hl⊢
      simpa using hl,ops[i],Yu hi,fun e he hb=>ih e.on (zX i _ (Yu hi) e he hb) (by
       have:=zX i _ (Yu hi) e he hb
       omega)⟩
     rw[hr]at this;cases this
  intro fuel
  induction fuel with
  |zero=>
   intro listed a w' H' F' bk hs hu hc hf hinv
   have k7:∀i,i<ops.size->listed.getD i false=true:=fun i hi=>by
    cases hl:listed.getD i false with
    |true=>rfl
    |false=>
     have:=zW hi hs hl;omega
   refine⟨?_,done listed a w' H' F' bk k7 hf hinv⟩
   cases hr:Region.ready .any ops listed with
   |nil=>rfl
   |cons i l=>
    have hi:i∈Region.ready .any ops listed:=by rw[hr];simp
    obtain⟨h1,o,h2,_⟩:=mem_ready.1 hi;have aW:=(Array.getElem?_eq_some_iff.1 h2).1;have h3:=k7 i aW;simp only[YF]at h1 h3;rw[Yu (by omega)]at h1 h3;simp at h1 h3;rw[h1]at h3;cases h3
  |succ fuel ih=>
   intro listed a w' H' F' bk hs hu hc hf hinv;refine⟨fun hr=>done listed a w' H' F' bk (BY listed hs hr) hf hinv,fun i hi=>?_⟩;obtain⟨h1,o,ho,zV⟩:=mem_ready.1 hi;have aW:=(Array.getElem?_eq_some_iff.1 ho).1
   have BV:listed.getD i false=false:=by
    simp only[YF]at h1⊢;rw[Yu (by omega)]at h1⊢;simpa using h1
   have hx:es[i]? =some (es[i]'(by omega)):=X9 (by omega);have fQ:=yC.ok i o _ ho hx;rw[<-yz (by omega),<-sZ (by omega)]at fQ
   have qX:(fun j=>(listed.setIfInBounds i true).getD j false)=ins (fun j=>listed.getD j false) i:=by
    funext j;by_cases e:j=i
    .subst e;rw[lA];simp[YF,hs,aW]
    .rw[lB e];exact getD_set_ne false (Ne.symm e)
   refine EE GO gU hlen hc ho hx BV zV EF fQ hf hinv fun MK nL og vM o6 N4 I9=>?_
   refine ih _ MK o6 og vM nL (by simp[hs]) ?_ ?_ N4 ?_
   .have:=zW aW hs BV;omega
   .intro j hj o' iJ e he hb;by_cases ej:j=i
    .subst ej;rw[ho]at iJ;obtain rfl:=X7 iJ;exact getD_set_true (zV e he hb)
    .have uU:listed.getD j false=true:=by
      have:(listed.setIfInBounds i true).getD j false=listed.getD j false:=getD_set_ne false (Ne.symm ej);rw[<-this];exact hj
     exact getD_set_true (hc j uU o' iJ e he hb)
   .rw[qX];exact I9
 have N5:∀j,(Array.replicate ops.size false).getD j false=false:=fun j=>by
  simp only[YF];by_cases hj:j<ops.size
  .simp[hj]
  .simp[hj]
 have hw:Step F w F w.drew:=Step.drew F w
 refine main ops.size _ a _ H F ρ (by simp) ?_ (fun i hi=>by
  have dA:(Array.replicate ops.size false).getD i false=true:=hi;rw[N5]at dA
  cases dA) hf ⟨fun t d hd=>?_,?_,fun m hm=>hh.sat.all m (by omega),fun i hi _ m hm _=>hh.sat.all m (by omega),⟨⟨hh.glob.ext.os,hh.glob.ext.tape,hh.glob.ext.output,hh.glob.ext.size,hh.glob.ext.block⟩,hh.glob.le,hh.glob.new⟩,⟨ao.le.refl H,hw⟩,fun _ _=>rfl⟩
 .unfold La;exact Nat.le_trans (List.length_filter_le _ _) (by simp)
 .rw[kD fun k x _ _=>N5 _]at hd;exact(hh.sat.slot t d hd).aO (ao.le.refl H) hw
 .have e:dC (fun j=>(Array.replicate ops.size false).getD j false) 0 es (find st.objs)=find st.objs:=by
   funext o
   exact jY fun k x _ _=>N5 _
  rw[e];have hb:=hh.sat.ob;refine⟨fun o s t ho=>?_,hb.apart,fun m hm _=>hh.sat.all m (by omega),hb.lt,hb.new,hb.gl.step (fun _ h=>⟨h,rfl⟩)⟩;obtain⟨v,hv,bO⟩:=hb.obj o s t ho;exact⟨v,hv,bO.one,bO.con,bO.ok.heap (ao.le.refl H) hw fun _ _=>rfl,bO.no,bO.lt,bO.use⟩
end
end Go.Proofs.YtlfjlhcigpejdaaGreatDoor
end
