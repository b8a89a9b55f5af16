/- Joined texts: Ifc Exec Draw2 Draw4. -/
import Derived.Test.YtilaieogabgamaaGreatDoorU4
section
open _root_.List renaming getElem?_drop->ajp,getElem?_take->ajF
open _root_.Nat renaming beq->aje
open _root_.Option.some renaming injEq->ajg
open _root_.Prod.mk renaming injEq->aj3
open _root_.Go.Result renaming andThen->ajI
open _root_.Go.Sem renaming run_bind->ajx
namespace Go.Proofs.YtilaieogabgamaaGreatDoor
open Go Go.RowKit
section
variable {P:Program} {ρ:Nat->Value} {w w':World} {H H':ao} {F F':Nat->Prop} {U:Nat->Prop} {ob:Nat->Option (Nat×Th)} {n:Nat} {R:Type}
variable {op:Op} {ty:TypeId} {pos:String} {aft:Array Edge} {d:Nat} {dst:Option Nat}
def Iz.Fg:Iz->Bool
 | .other=>false
 |_=>true
theorem xz.Fg{t:TypeId}{k:Iz}(h:xz P t k)(hk:k.Fg=true):∃D,P.underlying t=some D/\∀ms,D≠ .interface ms:=by
 cases k with
 |other=>cases hk
 |struct fs=>obtain⟨arr,h,_⟩:=h;exact⟨_,h,fun _ e=>by cases e⟩
 |_=>exact⟨_,h,fun _ e=>by cases e⟩
def yW(T:bc P)(t:TypeId):Bool:=match find T.und t with
 |some k=>k.Fg
 |none=>false
theorem xX(T:bc P){t:TypeId}(h:yW T t=true):∃D,P.underlying t=some D/\∀ms,D≠ .interface ms:=by
 unfold yW at h;split at h
 .rename_i k hk;exact(T.und_ok _ _ hk).Fg h
 .cases h
def Hf(T:bc P)(t:TypeId)(D:ak)(k:dN->Option R):Option R:=bif yW T t then k {dst:= .ifc t D}else none
theorem MT(T:bc P){t:TypeId}{D:ak}{x:Operand}{k:dN->Option R}{q:R}(h:Hf T t D k=some q)(hs:au U H F w ob n)(hx:ai H F w D (ev ρ x)):
 ∃e,k e=some q/\cD P U H F w ρ ob n ⟨some d, .makeInterface t x,ty,pos,aft,none⟩ e:=by
 unfold Hf at h;obtain⟨h1,h2⟩:=aD h;obtain⟨D0,hD,hn⟩:=xX T h1;refine⟨_,h2,bP hs (v:= .iface t (ev ρ x)) ?_ ⟨_,rfl,hx⟩⟩
 cases D0 with
 |interface ms=>exact absurd rfl (hn ms)
 |_=>simp[execOp,Instr.makeInterface,run_underlying hD,ajI]
def pB(T:bc P)(t:TypeId)(ok:Bool)(D:ak)(k:dN->Option R):Option R:=
 match D with
 | .ifc t' d=>bif aje t' t&&yW T t then(match ok,d with
   |true, .val agg tr=>k {dst:= .tup [(agg,tr),(false, .leaf .bool true)]}
   |true,_=>none
   |false,d=>k {dst:=d})else none
 |_=>none
theorem DF(T:bc P){xt t:TypeId}{ok:Bool}{D:ak}{x:Operand}{k:dN->Option R}{q:R}(h:pB T t ok D k=some q)(hs:au U H F w ob n)(hx:ai H F w D (ev ρ x)):
 ∃e,k e=some q/\cD P U H F w ρ ob n ⟨some d, .typeAssert x xt t ok,ty,pos,aft,none⟩ e:=by
 unfold pB at h;split at h
 case h_2=>cases h
 rename_i t' dd;obtain⟨h1,h2⟩:=aD h;obtain⟨h1,h3⟩:=cO h1;obtain rfl:=beq_true h1;obtain⟨D0,hD,hn⟩:=xX T h3;obtain⟨u,hu,hd⟩:=hx
 have bx:(Instr.typeAssert (ev ρ x) xt t' ok).run P w= .ok (if ok then .tuple #[u, .bool true]else u) w:=by
  rw[hu]
  cases D0 with
  |interface ms=>exact absurd rfl (hn ms)
  |_=>simp[Instr.typeAssert,run_underlying hD,ajI]
 split at h2
 .exact⟨_,h2,bP hs (v:= .tuple #[u, .bool true]) (by simp[execOp,bx,ajI]) ⟨[u, .bool true],rfl,_,_,rfl,hd,_,_,rfl,aE.fT ..,rfl⟩⟩
 .cases h2
 .exact⟨_,h2,bP hs (v:=u) (by simp[execOp,bx,ajI]) hd⟩
def Fh:List (TypeId×(String×(FuncId×Bool)))->TypeId->String->Option (FuncId×Bool)
 |[],_,_=>none
 |(t',(nm,p))::l,t,name=>bif aje t' t&&(nm==name)then some p else Fh l t name
theorem Bj{t:TypeId}{name:String}{f:FuncId}{pr:Bool}:{l:List (TypeId×(String×(FuncId×Bool)))}->Fh l t name=some (f,pr)->(t,(name,(f,pr)))∈l
 |[],h=>by cases h
 |(t',(nm,p))::l,h=>by
  unfold Fh at h
  cases hb:aje t' t&&(nm==name)with
  |true=>
   rw[hb,cond_true]at h;obtain⟨h1,h2⟩:=cO hb;obtain rfl:=beq_true h1
   obtain rfl:nm=name:=by simpa using h2
   cases h;simp
  |false=>
   rw[hb,cond_false]at h;exact List.mem_cons_of_mem _ (Bj h)
theorem DG{t:TypeId}{name:String}{f:FuncId}{pr:Bool}{v u:Value}{fuel:Nat}(h:p7 P t name f pr)(hr:∀nm,(receiverAt t (.val v) pr (some nm)).run P w= .ok u w):(method (fuel+1) t v name).run P w= .ok (f,u) w:=by
 unfold p7 at h
 cases hi:P.info? t with
 |none=>rw[hi]at h;cases h
 |some ti=>
  rw[hi]at h;have h:(ti.methods.find? fun m=>m.name==name).map (fun m=>(m.path.toList.length,m.func))=some (0,some (f,pr)):=h
  cases hm:ti.methods.find? fun m=>m.name==name with
  |none=>rw[hm]at h;cases h
  |some m=>
   rw[hm]at h;simp only[Option.map_some,ajg,aj3]at h
   have hp:m.path= #[]:=by
    have:=h.1;simpa using this
   simp[method,typeInfo,hi,hm,hp,follow,h.2,hr,ajI,ajx]
theorem Hg{t e:TypeId}{nm:String}{v:Value}(hu:P.underlying t=some (.pointer e)):(receiverAt t (.val v) true (some nm)).run P w= .ok v w:=by
 simp[receiverAt,run_underlying hu,Place.get,ajI,ajx]
theorem Hh{t e:TypeId}{nm:String}{a:Addr}{u:Value}(hu:P.underlying t=some (.pointer e))(hl:(loadVar e a).run P w= .ok u w):(receiverAt t (.val (.pointer (some a))) false (some nm)).run P w= .ok u w:=by
 have hw:Builtin.ssaWrapNilChk_ #[t] t #[.pointer (some a),strVal "",strVal nm]=pure (.pointer (some a)):=rfl;simp[receiverAt,run_underlying hu,Place.get,hw,asAddr,hl,ajI,ajx]
theorem vz{t:TypeId}{name:String}{f:FuncId}{fn:Func}{pr:Bool}{v u:Value}{x:Operand}{args:Array Operand}{wJ:Array TypeId}(h:p7 P t name f pr)(hx:ev ρ x= .iface t v)(hr:∀nm,(receiverAt t (.val v) pr (some nm)).run P w= .ok u w)
 (hf:P.funcs[f]? =some fn)(hn:(fn.name== "runtime.NumGoroutine")=false)(hb:fn.body.isNone=false):
 (execOp (ev ρ) ⟨dst, .call {callee:= .invoke x name,args:=args,argTypes:=wJ},ty,pos,aft,none⟩).run P w= .ok (.enter f (u::args.toList.map (ev ρ)).toArray) w:=by
 have Mi:¬fn.name= "runtime.NumGoroutine" :=by simpa using hn
 have p5:¬fn.body=none:=by
  intro e;rw[e]at hb;cases hb
 have hm:=DG (fuel:=P.types.size+99) h hr;have hfu:P.types.size+100=P.types.size+99+1:=rfl
 have e1:(#[Value.iface t v]++Array.map (ev ρ) args).extract 1 (1+args.size)=Array.map (ev ρ) args:=by
  apply Array.ext';simp;exact List.take_of_length_le (by simp)
 have e0:(#[Value.iface t v]++Array.map (ev ρ) args)[0]? =some (Value.iface t v):=by simp[Array.getElem?_append]
 have e2:(#[u]++Array.map (ev ρ) args)=(u::args.toList.map (ev ρ)).toArray:=by apply Array.ext';simp
 simp[execOp,resolve,hx,invoke,callMethod,hfu,hm,callFunc,hf,Mi,p5,go_sem,e0,e1,e2]
def uD(T:bc P)(ob:Nat->Option (Nat×Th))(e:TypeId)(D:ak):Option ak:=
 match find T.und e with
 |none=>none
 |some kk=>match D with
  | .ptr o p off=>match ob o with
    |some (_, .box _ tr)=>match tr.get p with
     |some (s,dx)=>bif aje dx off&&lX T e kk s.size then some (.val (kA kk) s)else none
     |none=>none
    |_=>none
  |_=>none
theorem DH(T:bc P){e:TypeId}{D D':ak}{v:Value}(h:uD T ob e D=some D')(hs:au U H F w ob n)(hx:ai H F w D v):∃a u,v= .pointer (some a)/\(loadVar e a).run P w= .ok u w/\ai H F w D' u:=by
 unfold uD at h;split at h
 .cases h
 rename_i kk hu;split at h
 case h_2=>cases h
 rename_i o p off;split at h
 case h_2=>cases h
 rename_i st0 T0 tr cC;split at h
 case h_2=>cases h
 rename_i s dx hg;obtain⟨h1,h2⟩:=aD h;cases h2;obtain⟨h1,h3⟩:=cO h1;obtain rfl:=beq_true h1;obtain⟨b,hb,rfl⟩:=hx;obtain⟨es,hh,Oe⟩:=hs.box cC hb;obtain⟨g1,g2⟩:=Oe.get hg
 have hc:∀j u,((es.drop dx).take s.size)[j]? =some u->w.cell? ⟨b,dx+j,none⟩=some u:=fun j u hj=>by
  rw[uW hh];rw[ajF]at hj;split at hj
  .rwa [ajp]at hj
  .cases hj
 obtain⟨dd,wQ,xy⟩:=(T.und_ok _ _ hu).agg;have hz:=jv T h3;have hl:=g1.length;generalize(es.drop dx).take s.size=cs at g1 hc hl
 cases ha:kA kk with
 |true=>
  rw[if_pos ha]at hz;obtain⟨r,hr,IC⟩:=hz;obtain⟨ti,z,h1,_,_,h4,_⟩:=T.row_ok _ _ hr;have RQ:(loadCells ⟨b,dx,none⟩ cs.length).run P w= .ok cs.toArray w:=run_loadCells_list (P:=P) w ⟨b,dx,none⟩ cs (fun j v hv=>by rw[cI];exact hc j v hv)
  have kz:ti.size=cs.length:=by omega
  exact⟨_, .agg cs.toArray,rfl,by simp[loadVar,ajx,eY wQ,xy,ha,sizeOf,typeInfo,h1,kz,RQ],⟨cs,g1,rfl,by simp⟩⟩
 |false=>
  rw[if_neg (by simp[ha])]at hz
  obtain⟨v,rfl⟩:∃v,cs=[v]:=by
   match cs,hl.trans hz with
   |[v],_=>exact⟨v,rfl⟩
  have hcv:w.cell? ⟨b,dx,none⟩=some v:=hc 0 v rfl;exact⟨_,v,rfl,by simp[loadVar,ajx,eY wQ,xy,ha,hcv,go_sem],⟨[v],g1,rfl,fun _=>rfl⟩⟩
def pC(T:bc P)(tab:List (Nat×bp))(rd:Operand->Option ak)(objs:List (Nat×(Nat×Th)))(n:Nat)(x:Operand)(name:String)(args:List Operand)(k:dN->Option R):Option R:=
 match rd x with
 |some (.ifc t d)=>match Fh T.mth t name with
  |some (f,pr)=>match find T.und t with
   |some (.ptr e)=>match(bif pr then some d else uD T (find objs) e d)with
    |some d'=>match rb rd args with
     |some ds=>nW objs n f (d'::ds) k tab
     |none=>none
    |none=>none
   |_=>none
  |none=>none
 |_=>none
theorem vA(T:bc P){tab:List (Nat×bp)}(w6:∀p∈tab,aq P p.1 p.2){rd:Operand->Option ak}(fE:∀x d,rd x=some d->ai H F w d (ev ρ x)){objs:List (Nat×(Nat×Th))}{x:Operand}{name:String}{args:Array Operand}{wJ:Array TypeId}{k:dN->Option R}{q:R}
 (h:pC T tab rd objs n x name args.toList k=some q)(hs:au U H F w (find objs) n):
 ∃e,k e=some q/\cD P U H F w ρ (find objs) n ⟨dst, .call {callee:= .invoke x name,args:=args,argTypes:=wJ},ty,pos,aft,none⟩ e:=by
 unfold pC at h;split at h
 case h_2=>cases h
 rename_i t d0 hx;split at h
 case h_2=>cases h
 rename_i f pr hm;split at h
 case h_2=>cases h
 rename_i e hu;split at h
 case h_2=>cases h
 rename_i d' xu;split at h
 case h_2=>cases h
 rename_i ds uw;obtain⟨v,hv,hdv⟩:=fE _ _ hx;have hM:=T.mth_ok _ (Bj hm);have hu:=T.und_ok _ _ hu;have Vd:=nn (w:=w) (H:=H) (F:=F) (ρ:=ρ) fE uw
 cases pr with
 |true=>
  cases xu
  have MD:fc H F w (d0::ds) (v::args.toList.map (ev ρ)):=⟨v,_,rfl,hdv,Vd⟩
  exact nz w6 MD (fun fn g1 g2 g3=>vz hM hv (fun nm=>Hg hu) g1 g2 g3) hs (fun _ h=>h) h
 |false=>
  obtain⟨a,u,rfl,hl,hdu⟩:=DH T (show uD T (find objs) e d0=some d' from xu) hs hdv
  have MD:fc H F w (d'::ds) (u::args.toList.map (ev ρ)):=⟨u,_,rfl,hdu,Vd⟩
  exact nz w6 MD (fun fn g1 g2 g3=>vz hM hv (fun nm=>Hh hu hl) g1 g2 g3) hs (fun _ h=>h) h
end
end Go.Proofs.YtilaieogabgamaaGreatDoor
end
section
open _root_.Array renaming toArray_toList->ajR
open _root_.List.cons renaming injEq->aka
open _root_.Nat renaming beq->aje,blt->ajX,le_trans->ajE
open _root_.Option.some renaming inj->ai4
open _root_.Prod.mk renaming inj->akx
open _root_.Go.Sem renaming run_bind->ajx
namespace Go.Proofs.YtilaieogabgamaaGreatDoor
open Go Go.RowKit
structure Env(P:Program)where
 T:bc P
 tab:List (Nat×bp)
 ok:∀p∈tab,aq P p.1 p.2
 mix:P.follows .mixedOrders=true
 deep:Bool
 drop:Bool
def yX(rd:Operand->Option ak):List Operand->Option (List (Nat×List Bool×Nat))
 |[]=>some []
 |x::xs=>match rd x with
  |some (.ptr o p off)=>match yX rd xs with
   |some cs=>some ((o,p,off)::cs)
   |none=>none
  |_=>none
theorem xY{H:ao}{F:Nat->Prop}{w:World}{ρ:Nat->Value}{rd:Operand->Option ak}(fE:∀x d,rd x=some d->ai H F w d (ev ρ x)):{xs:List Operand}->{cs:List (Nat×List Bool×Nat)}->yX rd xs=some cs->kJ H cs (xs.map (ev ρ))
 |[],cs,h=>by obtain rfl:=ai4 h;rfl
 |x::xs,cs,h=>by
  unfold yX at h;split at h
  case h_2=>cases h
  rename_i o p off hx;split at h
  case h_2=>cases h
  rename_i qZ qp;obtain rfl:=ai4 h;exact⟨_,_,rfl,fE _ _ hx,xY fE qp⟩
def lP{R:Type}(rd:Operand->Option ak)(fn:Fn)(first caps:Array Operand)(k:dN->Option R):Option R:=
 match fn,first.toList with
 | .func f,[]=>match yX rd caps.toList with
   |some cs=>k {dst:= .fn f cs}
   |none=>none
 |_,_=>none
theorem yY{R:Type}{P:Program}{U:Nat->Prop}{H:ao}{F:Nat->Prop}{w:World}{ρ:Nat->Value}{ob:Nat->Option (Nat×Th)}{n d:Nat}{ty:TypeId}{pos:String}{aft:Array Edge}{rd:Operand->Option ak}(fE:∀x d,rd x=some d->ai H F w d (ev ρ x)){fn:Fn}{first caps:Array Operand}{k:dN->Option R}{q:R}
 (h:lP rd fn first caps k=some q)(hs:au U H F w ob n):∃e,k e=some q/\cD P U H F w ρ ob n ⟨some d, .makeFunc fn first caps,ty,pos,aft,none⟩ e:=by
 unfold lP at h;split at h
 case h_2=>cases h
 rename_i f hf;split at h
 case h_2=>cases h
 rename_i cs qp
 have Px:first= #[]:=by rw[<-ajR (xs:=first),hf]
 subst Px
 have e:caps.map (ev ρ)=(caps.toList.map (ev ρ)).toArray:=by rw[<-List.map_toArray,ajR]
 exact⟨_,h,bP hs (v:= .func (.func f) #[] (caps.toList.map (ev ρ)).toArray) (by simp[execOp,Instr.makeFunc,e]) ⟨_,rfl,xY fE qp⟩⟩
noncomputable def qd{R:Type}{P:Program}(E:Env P)(rd:Operand->Option ak)(objs:List (Nat×(Nat×Th)))(n:Nat)(callee:Callee)(args:Array Operand)(wJ:Array TypeId)(k:dN->Option R):Option R:=
 match callee with
 | .builtin .len=>match args.toList,wJ.toList with
   |[x],[t]=>match rd x with
    |some D=>match GP E.T (find objs) t D with
     |some D'=>k {dst:=D'}
     |none=>none
    |none=>none
   |_,_=>none
 | .builtin .append=>match args.toList,wJ.toList with
   |[x,y],[t,t']=>bif aje t t' then(match rd x with
    |some X=>match rd y with
     |some Y=>nw E.T (find objs) n t X Y k
     |none=>none
    |none=>none)else none
   |_,_=>none
 | .builtin .max=>match args.toList,wJ.toList with
   |[x,y],[_,_]=>match rd x with
    |some X=>match rd y with
     |some Y=>match uy true X Y with
      |some D=>k {dst:=D}
      |none=>none
     |none=>none
    |none=>none
   |_,_=>none
 | .builtin .min=>match args.toList,wJ.toList with
   |[x,y],[_,_]=>match rd x with
    |some X=>match rd y with
     |some Y=>match uy false X Y with
      |some D=>k {dst:=D}
      |none=>none
     |none=>none
    |none=>none
   |_,_=>none
 | .value g=>xV E.tab rd objs n g args.toList k
 | .invoke x name=>pC E.T E.tab rd objs n x name args.toList k
 |_=>none
noncomputable def MU{R:Type}{P:Program}(E:Env P)(rd:Operand->Option ak)(objs:List (Nat×(Nat×Th)))(n:Nat)(dst:Option Nat)(op:Op)(k:dN->Option R):Option R:=
 match dst with
 |none=>match op with
  | .store t x y=>match rd x with
    |some X=>match rd y with
     |some Y=>pA E.T (find objs) n t X Y k
     |none=>none
    |none=>none
  | .call c=>qd E rd objs n c.callee c.args c.argTypes k
  | .mapUpdate t m x y=>match rd m with
    |some M=>match rd x with
     |some X=>match rd y with
      |some Y=>jx E.T (find objs) n t M X Y k
      |none=>none
     |none=>none
    |none=>none
  |_=>none
 |some _=>match op with
  | .move x=>match rd x with
    |some D=>k {dst:=D}
    |none=>none
  | .assign x=>match rd x with
    |some D=>k {dst:=D}
    |none=>none
  | .pick c x y=>match rd c with
    |some C=>match asBool C with
     |some b=>match(if b=true then rd x else rd y)with
      |some D=>k {dst:=D}
      |none=>none
     |none=>none
    |none=>none
  | .alloc t=>sr E.T n t k
  | .box t x=>match rd x with
    |some X=>GN n t X k
    |none=>none
  | .build t ps=>sv E.T rd t ps k
  | .buildSlice t m ps=>uC E.deep E.T rd (find objs) n t m ps k
  | .load t x=>match rd x with
    |some X=>oJ E.T (find objs) n t X k
    |none=>none
  | .nilCheck x=>match rd x with
    |some (.ptr o p off)=>k {dst:= .ptr o p off}
    |some (.elem o s r i z p off)=>k {dst:= .elem o s r i z p off}
    |some (.dlm o d i p off)=>k {dst:= .dlm o d i p off}
    |some (.at r z)=>k {dst:= .at r z}
    |_=>none
  | .binOp o t x y _=>match rd x with
    |some X=>match rd y with
     |some Y=>GW E.T (find objs) o t (Sk y) X Y k
     |none=>none
    |none=>none
  | .unOp o _ x=>match rd x with
    |some X=>match V6 o X with
     |some D=>k {dst:=D}
     |none=>none
    |none=>none
  | .convert s t x=>match rd x with
    |some X=>match JB E.T s t X with
     |some D=>k {dst:=D}
     |none=>none
    |none=>none
  | .makeSlice t a b=>match rd a with
    |some A=>match asInt A with
     |some (_,i)=>match rd b with
      |some B=>match asInt B with
       |some (_,j)=>vm E.deep E.T n t (oF a b) i j k
       |none=>none
      |none=>none
     |none=>none
    |none=>none
  | .slice t x lo hi none=>match rd x with
    |some X=>sx E.drop E.T rd (find objs) n t X lo hi k
    |none=>none
  | .fieldAddr t x f=>match rd x with
    |some X=>match C8 E.T t f X with
     |some D=>k {dst:=D}
     |none=>none
    |none=>none
  | .field t x f=>match rd x with
    |some X=>match yJ E.T t f X with
     |some D=>k {dst:=D}
     |none=>none
    |none=>none
  | .indexAddr t x y=>match rd x with
    |some X=>match rd y with
     |some Y=>match asInt Y with
      |some (_,i)=>sj E.T (find objs) t X i k
      |none=>none
     |none=>none
    |none=>none
  | .index t x y=>match rd x with
    |some X=>match rd y with
     |some Y=>match asInt Y with
      |some (_,i)=>pw E.T (find objs) t X i k
      |none=>none
     |none=>none
    |none=>none
  | .extract x i=>match rd x with
    |some X=>match u9 X i with
     |some D=>k {dst:=D}
     |none=>none
    |none=>none
  | .call c=>qd E rd objs n c.callee c.args c.argTypes k
  | .makeFunc fn first caps=>lP rd fn first caps k
  | .makeMap t none=>lO E.deep E.T n t k
  | .lookup t m x ok=>match rd m with
    |some M=>match rd x with
     |some X=>nu E.T (find objs) n t ok M X k
     |none=>none
    |none=>none
  | .makeInterface t x=>match rd x with
    |some X=>Hf E.T t X k
    |none=>none
  | .typeAssert x _ t ok=>match rd x with
    |some X=>pB E.T t ok X k
    |none=>none
  |_=>none
section
variable {P:Program} {ρ:Nat->Value} {w w':World} {H H':ao} {F F':Nat->Prop} {U:Nat->Prop} {n:Nat} {R:Type}
variable {ty:TypeId} {pos:String} {aft:Array Edge} {dst:Option Nat} {d:Nat}
theorem eD{α:Type}{a:Array α}{l:List α}(h:a.toList=l):a=l.toArray:=by rw[<-h,ajR]
theorem J9(E:Env P){rd:Operand->Option ak}(fE:∀x d,rd x=some d->ai H F w d (ev ρ x)){objs:List (Nat×(Nat×Th))}{c:Call}{k:dN->Option R}{q:R}
 (h:qd E rd objs n c.callee c.args c.argTypes k=some q)(hs:au U H F w (find objs) n):∃e,k e=some q/\cD P U H F w ρ (find objs) n ⟨some d, .call c,ty,pos,aft,none⟩ e:=by
 obtain⟨callee,args,wJ⟩:=c;simp only at h;unfold qd at h;split at h
 .split at h
  case h_2=>cases h
  rename_i x t ha ht;obtain rfl:=eD ha;obtain rfl:=eD ht;split at h
  case h_2=>cases h
  rename_i D hD;split at h
  case h_2=>cases h
  rename_i D' Mh;exact⟨_,h,EY E.T Mh hs (fE _ _ hD)⟩
 .split at h
  case h_2=>cases h
  rename_i x y t t' ha ht;obtain rfl:=eD ha;obtain rfl:=eD ht;obtain⟨hb,h'⟩:=aD h;clear h;obtain rfl:=beq_true hb;split at h'
  case h_2=>cases h'
  rename_i X hX;split at h'
  case h_2=>cases h'
  rename_i Y hY;exact AW E.T h' hs (fE _ _ hX) (fE _ _ hY)
 .split at h
  case h_2=>cases h
  rename_i x y t t' ha ht;obtain rfl:=eD ha;obtain rfl:=eD ht;split at h
  case h_2=>cases h
  rename_i X hX;split at h
  case h_2=>cases h
  rename_i Y hY;split at h
  case h_2=>cases h
  rename_i D hD;exact⟨_,h,va (mx:=true) hD hs (fE _ _ hX) (fE _ _ hY)⟩
 .split at h
  case h_2=>cases h
  rename_i x y t t' ha ht;obtain rfl:=eD ha;obtain rfl:=eD ht;split at h
  case h_2=>cases h
  rename_i X hX;split at h
  case h_2=>cases h
  rename_i Y hY;split at h
  case h_2=>cases h
  rename_i D hD;exact⟨_,h,va (mx:=false) hD hs (fE _ _ hX) (fE _ _ hY)⟩
 .exact Bi E.ok fE h hs
 .exact vA E.T E.ok fE h hs
 .cases h
def MV:Callee->Bool
 | .value _=>true
 | .invoke .. =>true
 |_=>false
theorem w7(E:Env P){rd:Operand->Option ak}(fE:∀x d,rd x=some d->ai H F w d (ev ρ x)){objs:List (Nat×(Nat×Th))}{c:Call}{k:dN->Option R}{q:R}(hc:MV c.callee=true)
 (h:qd E rd objs n c.callee c.args c.argTypes k=some q)(hs:au U H F w (find objs) n):∃e,k e=some q/\cD P U H F w ρ (find objs) n ⟨none, .call c,ty,pos,aft,none⟩ e:=by
 obtain⟨callee,args,wJ⟩:=c;simp only at h hc
 cases callee with
 |value g=>exact Bi E.ok fE h hs
 |invoke x name=>exact vA E.T E.ok fE h hs
 |builtin b=>cases hc
end
section
variable {P:Program} {ρ:Nat->Value} {w w':World} {H H':ao} {F F':Nat->Prop} {U:Nat->Prop} {n:Nat} {R:Type}
variable {ty:TypeId} {pos:String} {aft:Array Edge} {dst:Option Nat} {d:Nat}
theorem Hi{c x y:Operand}{b:Bool}{D:ak}{ob:Nat->Option (Nat×Th)}(hs:au U H F w ob n)(hc:ev ρ c= .bool b)(hx:ai H F w D (ev ρ (if b=true then x else y))):cD P U H F w ρ ob n ⟨some d, .pick c x y,ty,pos,aft,none⟩ {dst:=D}:=by
 cases b with
 |true=>exact aI hs (uK hc rfl) hx
 |false=>exact aI hs (tZ hc rfl) hx
theorem Ka(E:Env P){rd:Operand->Option ak}(fE:∀x d,rd x=some d->ai H F w d (ev ρ x)){objs:List (Nat×(Nat×Th))}{op:Op}{k:dN->Option R}{q:R}
 (w8:dst=none->∀c,op= .call c->MV c.callee=true)(h:MU E rd objs n dst op k=some q)(hs:au U H F w (find objs) n):∃e,k e=some q/\cD P U H F w ρ (find objs) n ⟨dst,op,ty,pos,aft,none⟩ e:=by
 cases dst with
 |none=>
  unfold MU at h;simp only at h;split at h
  .split at h
   case h_2=>cases h
   rename_i X hX;split at h
   case h_2=>cases h
   rename_i Y hY;exact Dn E.T h hs (fE _ _ hX) (fE _ _ hY)
  .rename_i c;exact w7 E fE (w8 rfl c rfl) h hs
  .split at h
   case h_2=>cases h
   rename_i M hM;split at h
   case h_2=>cases h
   rename_i X hX;split at h
   case h_2=>cases h
   rename_i Y hY;exact vq E.T h hs (fE _ _ hM) (fE _ _ hX) (fE _ _ hY)
  .cases h
 |some d=>
  unfold MU at h;simp only at h;split at h
  .split at h
   case h_2=>cases h
   rename_i D hD;exact⟨_,h,GX hs (fE _ _ hD)⟩
  .split at h
   case h_2=>cases h
   rename_i D hD;exact⟨_,h,AH hs (fE _ _ hD)⟩
  .split at h
   case h_2=>cases h
   rename_i C hC;split at h
   case h_2=>cases h
   rename_i b hb;split at h
   case h_2=>cases h
   rename_i D hD;refine⟨_,h,Hi hs (nk hb (fE _ _ hC)) ?_⟩;split at hD
   .rename_i e;rw[if_pos e];exact fE _ _ hD
   .rename_i e;rw[if_neg e];exact fE _ _ hD
  .exact GM E.T h hs
  .split at h
   case h_2=>cases h
   rename_i X hX;exact Mp h hs (fE _ _ hX)
  .exact GS E.T fE h hs
  .exact Dq E.deep E.T fE h hs
  .split at h
   case h_2=>cases h
   rename_i X hX;exact G8 E.T h hs (fE _ _ hX)
  .split at h
   .rename_i o p off hX;obtain⟨b,h1,h2⟩:=fE _ _ hX;exact⟨_,h,bP hs (v:= .pointer (some ⟨b,off,none⟩)) (by simp[execOp,h2]) ⟨b,h1,rfl⟩⟩
   .rename_i o s r i z p off hX;have hd:=fE _ _ hX;obtain⟨g,o0,q,T,m,cap,l,_,_,_,_,h2⟩:=id hd;exact⟨_,h,bP hs (v:= .pointer (some ⟨g,o0+q*r.size+off,none⟩)) (by simp[execOp,h2]) (by rw[<-h2];exact hd)⟩
   .rename_i o d i p off hX;have hd:=fE _ _ hX;obtain⟨g,o0,q,m,cap,_,_,h2⟩:=id hd;exact⟨_,h,bP hs (v:= .pointer (some ⟨g,o0+q*d.low.size+off,none⟩)) (by simp[execOp,h2]) (by rw[<-h2];exact hd)⟩
   .rename_i r z hX;have hd:=fE _ _ hX;obtain⟨b,off,h2,_⟩:=id hd;exact⟨_,h,bP hs (v:= .pointer (some ⟨b,off,none⟩)) (by simp[execOp,h2]) (by rw[<-h2];exact hd)⟩
   .cases h
  .split at h
   case h_2=>cases h
   rename_i X hX;split at h
   case h_2=>cases h
   rename_i Y hY;exact Mv E.T h hs (fE _ _ hX) (fE _ _ hY)
  .split at h
   case h_2=>cases h
   rename_i X hX;split at h
   case h_2=>cases h
   rename_i D hD;exact⟨_,h,Pf hD hs (fE _ _ hX)⟩
  .split at h
   case h_2=>cases h
   rename_i X hX;split at h
   case h_2=>cases h
   rename_i D hD;exact⟨_,h,JC E.T hD hs (fE _ _ hX)⟩
  .split at h
   case h_2=>cases h
   rename_i A hA;split at h
   case h_2=>cases h
   rename_i i hi;split at h
   case h_2=>cases h
   rename_i B hB;split at h
   case h_2=>cases h
   rename_i j hj;exact G7 E.deep E.T h hs (gM hi (fE _ _ hA)) (gM hj (fE _ _ hB))
  .split at h
   case h_2=>cases h
   rename_i X hX;exact GV E.drop E.T fE h hs (fE _ _ hX)
  .split at h
   case h_2=>cases h
   rename_i X hX;split at h
   case h_2=>cases h
   rename_i D hD;exact⟨_,h,GH E.T hD hs (fE _ _ hX)⟩
  .split at h
   case h_2=>cases h
   rename_i X hX;split at h
   case h_2=>cases h
   rename_i D hD;exact⟨_,h,Dg E.T hD hs (fE _ _ hX)⟩
  .split at h
   case h_2=>cases h
   rename_i X hX;split at h
   case h_2=>cases h
   rename_i Y hY;split at h
   case h_2=>cases h
   rename_i i hi;exact GI E.T h hs (fE _ _ hX) (gM hi (fE _ _ hY))
  .split at h
   case h_2=>cases h
   rename_i X hX;split at h
   case h_2=>cases h
   rename_i Y hY;split at h
   case h_2=>cases h
   rename_i k' i hi;exact Di E.T h hs (fE _ _ hX) (gM hi (fE _ _ hY))
  .split at h
   case h_2=>cases h
   rename_i X hX;split at h
   case h_2=>cases h
   rename_i D hD;exact⟨_,h,AG hD hs (fE _ _ hX)⟩
  .exact J9 E fE h hs
  .exact yY fE h hs
  .exact yT E.deep E.T h hs
  .split at h
   case h_2=>cases h
   rename_i M hM;split at h
   case h_2=>cases h
   rename_i X hX;exact AS E.T h hs (fE _ _ hM) (fE _ _ hX)
  .split at h
   case h_2=>cases h
   rename_i X hX;exact MT E.T h hs (fE _ _ hX)
  .split at h
   case h_2=>cases h
   rename_i X hX;exact DF E.T h hs (fE _ _ hX)
  .cases h
end
def oM(rd:Operand->Option ak)(x:Operand):List Nat:=
 match rd x with
 |some (.val _ t)=>t.owns
 |_=>[]
def yZ(rd:Operand->Option ak)(x:Operand):List Nat:=
 match rd x with
 |some (.val _ (.view o _ _ _))=>[o]
 |_=>[]
def Fi(rd:Operand->Option ak):List Operand->List Nat
 |[]=>[]
 |x::xs=>oM rd x++Fi rd xs
def sM:Operand->Bool
 | .const (.slice none 0 0)=>true
 |_=>false
def Fj(rd:Operand->Option ak):Op->List Nat
 | .store _ x y=>match rd x with
   |some (.elem ..)=>oM rd y
   |_=>[]
 | .buildSlice _ _ ps=>Fi rd (ps.toList.map (·.2))
 | .binOp .eql _ x y _=>bif sM y then[]else oM rd x++oM rd y
 | .binOp .neq _ x y _=>bif sM y then[]else oM rd x++oM rd y
 | .slice _ x _ _ _=>yZ rd x
 | .indexAddr _ x _=>yZ rd x
 | .call c=>match c.callee,c.args.toList with
   | .builtin .append,[_,y]=>yZ rd y
   |_,_=>[]
 | .mapUpdate _ _ _ y=>oM rd y
 |_=>[]
def Bk(nt:Nat):Option Nat->Bool
 |some d=>ajX d nt
 |none=>true
def fnB(dst:Option Nat)(op:Op):Bool:=
 match dst with
 |some _=>true
 |none=>match op with
  | .call c=>MV c.callee
  |_=>true
open Classical in
noncomputable def vB{α:Type}(a b:Option α):Option α:=if a=b then a else none
theorem Kb{α:Type}{a b:Option α}{q:α}(h:vB a b=some q):a=some q:=by
 unfold vB at h;split at h
 .exact h
 .cases h
theorem Py{α:Type}{a b:Option α}{q:α}(h:vB a b=some q):b=some q:=by
 have ha:=Kb h;unfold vB at h;split at h
 .rename_i e;rw[<-e];exact ha
 .cases h
def Kc{P:Program}(T:bc P)(rd:Operand->Option ak)(ob:Nat->Option (Nat×Th)):Op->Option (Bool×Nat)
 | .binOp o t x y _=>match o with
   | .eql=>bif sM y then(match find T.und t with
     |some (.slice _)=>match rd x with
      |some X=>match uc ob X with
       |some (.read _ l)=>some (false,l.length)
       |some (.own _ _ _ _ l)=>some (false,l.length)
       |_=>none
      |none=>none
     |_=>none)else none
   | .neq=>bif sM y then(match find T.und t with
     |some (.slice _)=>match rd x with
      |some X=>match uc ob X with
       |some (.read _ l)=>some (true,l.length)
       |some (.own _ _ _ _ l)=>some (true,l.length)
       |_=>none
      |none=>none
     |_=>none)else none
   |_=>none
 |_=>none
def Om(objs:List (Nat×(Nat×Th))):Option ak->Bool
 |some (.val false (.own o))=>match find objs o with
  |some (_, .dmap ..)=>true
  |_=>false
 |_=>false
def Kd(rd:Operand->Option ak)(objs:List (Nat×(Nat×Th))):Op->List Nat
 | .mapUpdate t m x y=>bif Om objs (rd m)then[]else Fj rd (.mapUpdate t m x y)
 | .lookup t m x false=>bif Om objs (rd m)then oM rd m else[]
 |op=>Fj rd op
def qB{P:Program}(E:Env P)(rd:Operand->Option ak)(objs:List (Nat×(Nat×Th)))(op:Op):List Nat:=
 match E.deep,op with
 |true, .buildSlice .. =>[]
 |_,_=>Kd rd objs op
noncomputable def vC(st:State)(o:Nat):State:=
 match JQ (find st.objs) st.nxt o with
 |some e=>st.apply none e
 |none=>st
noncomputable def tI(st:State):List Nat->State
 |[]=>st
 |o::os=>tI (vC st o) os
def On:List (Nat×(Nat×Th))->Bool
 |[]=>false
 |(_,(_, .deep _ _ _ (some _)))::_=>true
 |(_,(_, .dmap _ _ _ _ _ (some _)))::_=>true
 |_::l=>On l
noncomputable def oq(st:State):State:=
 match On st.objs with
 |true=>tI (tI st (st.objs.map (·.1))) (st.objs.map (·.1))
 |false=>st
def S4:Op->Bool
 | .call c=>MV c.callee
 |_=>false
def za(o:Nat):List (Nat×(Nat×Th))->Bool
 |[]=>false
 |(_,(_, .deep _ _ _ (some h)))::l=>aje h.o o||za o l
 |(_,(_, .dmap _ _ _ _ _ (some h)))::l=>aje h.2 o||za o l
 |_::l=>za o l
def MW(st:State)(x:Operand):Bool:=
 match IA st.ah x with
 |some (.val _ (.own o))=>za o st.objs
 |_=>false
def Ke(st:State):Op->Bool
 | .call c=>c.args.toList.any (MW st)
 |_=>false
noncomputable def Fk{R:Type}{P:Program}(E:Env P)(dst:Option Nat)(op:Op)(st:State)(k:State->Option R):Option R:=
 match eC st.objs (qB E (IA st.ah) st.objs op)with
 |some aM=>match Kc E.T (IA st.ah) (find aM) op with
  |some (b,m)=>match dst with
   |some d=>if aje m 0=true then vB (k (State.apply {st with objs:=aM} (some d) {dst:=dD true})) (k (State.apply {st with objs:=aM} (some d) {dst:=dD false}))
     else k (State.apply {st with objs:=aM} (some d) {dst:=dD b})
   |none=>none
  |none=>bif fnB dst op then MU E (IA st.ah) aM st.nxt dst op (fun e=>k (State.apply {st with objs:=aM} dst e))else none
 |none=>none
noncomputable def vD{R:Type}{P:Program}(E:Env P)(dst:Option Nat)(op:Op)(st:State)(k:State->Option R):Option R:=
 match E.deep&&S4 op&& !Ke st op with
 |true=>Fk E dst op (oq st) k
 |false=>Fk E dst op st k
def Fl(all:Array Oper)(j:Nat):Option Nat:=(all[j]?).bind (·.dst)
def State.put(st:State)(dst:Option Nat)(d:ak):State:=
 match dst with
 |some t=>{st with ah:=(t,d)::st.ah}
 |none=>st
def vE(dst:Option Nat)(kn:List (Nat×Bool)):List (Nat×Bool):=
 match dst with
 |some d=>del [d] kn
 |none=>kn
noncomputable def runs{R:Type}{P:Program}(E:Env P)(nt:Nat)(all:Array Oper):List Oper->List (Nat×Bool)->State->(State->Option R)->Option R
 |[],_,st,k=>k st
 |o::os,kn,st,k=>bif Bk nt o.dst then(match o.guard with
  |none=>vD E o.dst o.op st (fun bU=>runs E nt all os (vE o.dst kn) bU k)
  |some (j,b)=>match Fl all j with
   |none=>none
   |some g=>bif ajX g nt then(match find kn g with
    |some v=>bif (bif v then b else !b)then vD E o.dst o.op st (fun bU=>runs E nt all os (vE o.dst kn) bU k)else runs E nt all os (vE o.dst kn) (st.put o.dst .undef) k
    |none=>match find st.ah g with
     |some .undef=>runs E nt all os (vE o.dst kn) (st.put o.dst .undef) k
     |some d=>match asBool d with
      |some t=>if t=true then
        (bif b then vD E o.dst o.op (st.put (some g) (dD true)) (fun bU=>runs E nt all os (vE o.dst ((g,true)::kn)) bU k)
          else runs E nt all os (vE o.dst ((g,true)::kn)) ((st.put (some g) (dD true)).put o.dst .undef) k)
       else
        (bif b then runs E nt all os (vE o.dst ((g,false)::kn)) ((st.put (some g) (dD false)).put o.dst .undef) k
          else vD E o.dst o.op (st.put (some g) (dD false)) (fun bU=>runs E nt all os (vE o.dst ((g,false)::kn)) bU k))
      |none=>none
     |none=>none)else none)else none
section
variable {P:Program} {nt:Nat} {ops:Array Oper} {K:(Nat->Value)->World->Prop} {rest:List Oper} {R:Type}
variable {ρ:Nat->Value} {w w0:World} {H:ao} {F F0 G:Nat->Prop}
abbrev UU(G:Nat->Prop)(w0:World):Nat->Prop:=fun k=>w0.heap.size<=k\/G k
theorem JU.lr{H':ao}{F':Nat->Prop}{w':World}{g:Nat->Prop}(hg:JU G w0 F0 w F)(he:LX H F w H' F' w' g)(hu:∀k,g k->UU G w0 k):JU G w0 F0 w' F':=by
 have kz:=hg.ext.size;refine⟨⟨he.ext.os.trans hg.ext.os,he.ext.tape.trans hg.ext.tape,he.ext.output.trans hg.ext.output,ajE kz he.ext.size,fun k hk hn=>?_⟩,fun b hb=>he.le b (hg.le b hb),fun b hb=>?_⟩
 .rw[he.ext.block k (by omega) fun h=>?_]
  .exact hg.ext.block k hk hn
  .rcases hu k h with h1|h1
   .omega
   .exact hn h1
 .rcases he.grow b hb with h1|h1|h1
  .exact hg.new b h1
  .exact .inr (.inl (ajE kz h1))
  .exact .inr (hu b h1)
structure cE(G:Nat->Prop)(w0:World)(F0:Nat->Prop)(H:ao)(F:Nat->Prop)(w:World)(ρ:Nat->Value)(st:State):Prop where
 sat:Sat (UU G w0) H F w ρ st
 glob:JU G w0 F0 w F
theorem cz.Bl{H':ao}{F':Nat->Prop}{w':World}{g:Nat->Prop}(he:LX H F w H' F' w' g)(hF:∀b,F b->b<w.heap.size)(hg:∀k,g k->¬F k):cz H F w H' F' w':=⟨he.iM,he.step hF hg⟩
theorem cE.sf{st:State}{os:List Nat}{aM:List (Nat×(Nat×Th))}(h:cE G w0 F0 H F w ρ st)(hf:eC st.objs os=some aM):
 ∃F',cE G w0 F0 H F' w ρ {st with objs:=aM}/\cz H F w H F' w:=by
 obtain⟨F',a1,a2,a3⟩:=nx hf h.sat.ob
 have eB:Step F w F' w:=fun b hb=>⟨a2 b hb,rfl⟩
 refine⟨F',⟨⟨fun t d hd=>(h.sat.slot t d hd).keep (ao.le.refl H) eB,a1,h.sat.all⟩,⟨h.glob.ext,fun b hb=>a2 b (h.glob.le b hb),fun b hb=>?_⟩⟩,⟨ao.le.refl H,eB⟩⟩
 rcases a3 b hb with h1|h1
 .exact h.glob.new b h1
 .exact .inr (h.sat.ob.gp b h1)
theorem DI{P:Program}{ρ:Nat->Value}{w:World}{o:BinOp}(iK:o= .eql\/o= .neq){t u e:TypeId}{x y:Operand}{d:Nat}{ty:TypeId}{pos:String}{aft:Array Edge}(hu:P.underlying t=some (.slice e)){A:Option Addr}{m c:Nat}(hx:ev ρ x= .slice A m c)(hy:ev ρ y= .slice none 0 0):
 (execOp (ev ρ) ⟨some d, .binOp o t x y u,ty,pos,aft,none⟩).run P w= .ok (.value (.bool (bif decide (o= .eql)then A.isNone else !A.isNone))) w:=by
 have hm:Op.maxDepth=9999+1:=rfl
 have he:(Op.equal t (.slice A m c) (.slice none 0 0)).run P w= .ok A.isNone w:=by
  unfold Op.equal;rw[hm];unfold Op.equalIn;rw[ajx,run_underlying hu]
  cases A<;>rfl
 rcases iK with rfl|rfl
 .simp[execOp,eqGuard,binOp,hx,hy,he]
 .simp[execOp,eqGuard,binOp,hx,hy,he]
theorem Kf{P:Program}(T:bc P){U:Nat->Prop}{H:ao}{F:Nat->Prop}{w:World}{ρ:Nat->Value}{n:Nat}{ob:Nat->Option (Nat×Th)}{rd:Operand->Option ak}(fE:∀x d,rd x=some d->ai H F w d (ev ρ x))(hs:au U H F w ob n){op:Op}{b:Bool}{m:Nat}(h:Kc T rd ob op=some (b,m)){d:Nat}{ty:TypeId}{pos:String}{aft:Array Edge}:
 ∃r:Bool,(m≠0->r=b)/\(execOp (ev ρ) ⟨some d,op,ty,pos,aft,none⟩).run P w= .ok (.value (.bool r)) w:=by
 have isn:∀{y:Operand},sM y=true->ev ρ y= .slice none 0 0:=by
  intro y hy;unfold sM at hy;split at hy
  .rfl
  .cases hy
 have key:∀{k:Ju}{v:Value},Mm U H F w ob v k->∀m,(match k with| .read _ l=>l.length=m| .own _ _ _ _ l=>l.length=m|_=>False)->∃A n c,v= .slice A n c/\(m≠0->A.isNone=false):=by
  intro k v hk m hm
  cases k with
  |read r l=>
   obtain⟨A,cap,hv,_,_,h3⟩:=hk;simp only[aka,and_true]at hv;refine⟨A,_,cap,hv,fun h0=>?_⟩;obtain⟨b,off,es,rfl,_⟩:=h3 0 (by dsimp only at hm;omega);rfl
  |own o s T r l=>
   obtain⟨xs,hx,_⟩:=hk.2.2.2
   rcases hx.2 with⟨rfl,h0⟩|⟨g,o0,cap,cur,rfl,_⟩
   .exact⟨none,0,0,rfl,fun h=>absurd (hm.symm.trans h0) h⟩
   .exact⟨_,_,_,rfl,fun _=>rfl⟩
  |nil=>exact hm.elim
  |view o s r m=>exact hm.elim
  |deep=>exact hm.elim
 unfold Kc at h;split at h
 case h_2=>cases h
 rename_i o t x y u;split at h
 case h_3=>cases h
 all_goals
  obtain⟨hy,h⟩:=aD h;split at h
  case h_2=>cases h
  rename_i e hu;have hu:=T.und_ok _ _ hu;split at h
  case h_2=>cases h
  rename_i X hX;split at h
  case h_3=>cases h
  all_goals
   rename_i fO;obtain⟨rfl,rfl⟩:=akx (ai4 h);obtain⟨A,n',c,hv,hA⟩:=key (iq hs fO (fE _ _ hX)) _ rfl;refine⟨_,fun h0=>?_,DI (by first|exact .inl rfl|exact .inr rfl) hu hv (isn hy)⟩;rw[hA h0];rfl
theorem cE.vC{st:State}(h:cE G w0 F0 H F w ρ st)(o:Nat):∃H' F',cE G w0 F0 H' F' w ρ (vC st o)/\cz H F w H' F' w:=by
 unfold Go.Proofs.YtilaieogabgamaaGreatDoor.vC;split
 .rename_i e he;obtain⟨H',F',hp⟩:=Du h.sat.ob he;have hs:=h.sat.apply (d:=none) hp;exact⟨H',F',⟨hs,h.glob.lr hp.lr h.sat.ob.gp⟩,cz.Bl hp.lr h.sat.ob.lt h.sat.ob.gK⟩
 .exact⟨H,F,h,cz.refl H F w⟩
theorem cE.tI:{os:List Nat}->{st:State}->{H:ao}->{F:Nat->Prop}->cE G w0 F0 H F w ρ st->∃H' F',cE G w0 F0 H' F' w ρ (tI st os)/\cz H F w H' F' w
 |[],_,H,F,h=>⟨H,F,h,cz.refl H F w⟩
 |o::os,st,H,F,h=>by
  obtain⟨H1,F1,h1,k1⟩:=h.vC o;obtain⟨H2,F2,h2,k2⟩:=cE.tI (os:=os) h1;exact⟨H2,F2,h2,k1.trans k2⟩
theorem cE.oq{st:State}(h:cE G w0 F0 H F w ρ st):∃H' F',cE G w0 F0 H' F' w ρ (oq st)/\cz H F w H' F' w:=by
 unfold Go.Proofs.YtilaieogabgamaaGreatDoor.oq;split
 case h_2=>exact⟨H,F,h,cz.refl H F w⟩
 obtain⟨H1,F1,h1,k1⟩:=h.tI (os:=st.objs.map (·.1));obtain⟨H2,F2,h2,k2⟩:=h1.tI (os:=st.objs.map (·.1));exact⟨H2,F2,h2,k1.trans k2⟩
theorem Bm{E:Env P}{dst:Option Nat}{op:Op}{ty:TypeId}{pos:String}{aft:Array Edge}{st:State}{k:State->Option R}{q:R}(h:Fk E dst op st k=some q)(hd:Bk nt dst=true)(hh:cE G w0 F0 H F w ρ st)
 (hk:∀bU H' F' w' b7,k bU=some q->cE G w0 F0 H' F' w' b7 bU->cz H F w H' F' w'->(∀t,dst≠some t->b7 t=ρ t)->wpS P nt ops K rest b7 w'):wpS P nt ops K (⟨dst,op,ty,pos,aft,none⟩::rest) ρ w:=by
 unfold Fk at h;split at h
 case h_2=>cases h
 rename_i aM w4;obtain⟨F1,ov,Hj⟩:=hh.sf w4;split at h
 .rename_i b m hn;split at h
  case h_2=>cases h
  rename_i d;obtain⟨r,hr,bx⟩:=Kf E.T (ρ:=ρ) (d:=d) (ty:=ty) (pos:=pos) (aft:=aft) (fun x d hx=>uT ov.sat.ob.gl ov.sat.slot x d hx) ov.sat.ob hn
  have hkr:k (State.apply {st with objs:=aM} (some d) {dst:=dD r})=some q:=by
   split at h
   .cases r with
    |true=>exact Kb h
    |false=>exact Py h
   .rename_i h0;rw[hr fun e=>h0 (by rw[e];rfl)];exact h
  have Kg:cD P (UU G w0) H F1 w ρ (find aM) st.nxt ⟨some d,op,ty,pos,aft,none⟩ {dst:=dD r}:=bP ov.sat.ob bx (aE.fT ..)
  refine Ar Kg (fun d' xu=>by rw[xu]at hd;exact hd) fun v w' ⟨H',F',hp⟩=>?_
  have hs:=ov.sat.apply (d:=some d) hp
  refine hk _ H' F' w' _ hkr ⟨hs,ov.glob.lr hp.lr ov.sat.ob.gp⟩ (Hj.trans (cz.Bl hp.lr ov.sat.ob.lt ov.sat.ob.gK)) fun t ht=>?_
  show CU ρ d v t=ρ t
  rw[oD,if_neg (fun e=>ht (by rw[e]))]
 obtain⟨w8,h'⟩:=aD h;clear h;obtain⟨e,he,Kg⟩:=Ka (ρ:=ρ) (ty:=ty) (pos:=pos) (aft:=aft) E (fun x d hx=>uT ov.sat.ob.gl ov.sat.slot x d hx) (fun hn c hc=>by subst hn;subst hc;exact w8) h' ov.sat.ob
 refine Ar Kg (fun d xu=>by rw[xu]at hd;exact hd) fun v w' ⟨H',F',hp⟩=>?_
 have hs:=ov.sat.apply (d:=dst) hp
 refine hk _ H' F' w' _ he ⟨hs,ov.glob.lr hp.lr ov.sat.ob.gp⟩ (Hj.trans (cz.Bl hp.lr ov.sat.ob.lt ov.sat.ob.gK)) fun t ht=>?_
 cases dst with
 |none=>rfl
 |some d=>
  show CU ρ d v t=ρ t
  rw[oD,if_neg (fun e=>ht (by rw[e]))]
theorem Kh{E:Env P}{dst:Option Nat}{op:Op}{ty:TypeId}{pos:String}{aft:Array Edge}{st:State}{k:State->Option R}{q:R}(h:vD E dst op st k=some q)(hd:Bk nt dst=true)(hh:cE G w0 F0 H F w ρ st)
 (hk:∀bU H' F' w' b7,k bU=some q->cE G w0 F0 H' F' w' b7 bU->cz H F w H' F' w'->(∀t,dst≠some t->b7 t=ρ t)->wpS P nt ops K rest b7 w'):wpS P nt ops K (⟨dst,op,ty,pos,aft,none⟩::rest) ρ w:=by
 unfold vD at h;split at h
 .obtain⟨H1,F1,h1,k1⟩:=hh.oq
  exact Bm h hd h1 fun bU H' F' w' b7 a b c d=>hk bU H' F' w' b7 a b (k1.trans c) d
 .exact Bm h hd hh hk
theorem cE.put{st:State}{dst:Option Nat}{d:ak}{v:Value}(h:cE G w0 F0 H F w ρ st)(hd:ai H F w d v):cE G w0 F0 H F w (ub ρ dst v) (st.put dst d):=by
 refine⟨⟨fun t q hq=>?_,?_,by cases dst<;>exact h.sat.all⟩,h.glob⟩
 .cases dst with
  |none=>exact h.sat.slot t q hq
  |some s=>
   have mz:find ((s,d)::st.ah) t=some q:=hq;rw[aA]at mz
   show ai H F w q (CU ρ s v t)
   rw[oD];by_cases e:s=t
   .rw[if_pos e]at mz;rw[if_pos e.symm];obtain rfl:=ai4 mz;exact hd
   .rw[if_neg e]at mz;rw[if_neg (Ne.symm e)];exact h.sat.slot t q mz
 .cases dst<;>exact h.sat.ob
theorem cE.lit{st:State}{g:Nat}{d:ak}(h:cE G w0 F0 H F w ρ st)(hd:ai H F w d (ρ g)):cE G w0 F0 H F w ρ (st.put (some g) d):=by
 refine⟨⟨fun t q hq=>?_,h.sat.ob,h.sat.all⟩,h.glob⟩;have mz:find ((g,d)::st.ah) t=some q:=hq;rw[aA]at mz;split at mz
 .rename_i e;subst e;obtain rfl:=ai4 mz;exact hd
 .exact h.sat.slot t q mz
def rA(ρ:Nat->Value)(kn:List (Nat×Bool)):Prop:=∀g b,find kn g=some b->ρ g= .bool b
theorem rA.del{b7:Nat->Value}{dst:Option Nat}{kn:List (Nat×Bool)}(h:rA ρ kn)(Oo:∀t,dst≠some t->b7 t=ρ t):rA b7 (vE dst kn):=by
 intro g b hg
 cases dst with
 |none=>rw[Oo g (by simp)];exact h g b hg
 |some d=>
  obtain⟨h1,h2⟩:=gH.1 hg;rw[Oo g (fun e=>h1 (by simp[ai4 e]))];exact h g b h2
theorem rA.cons{kn:List (Nat×Bool)}{g:Nat}{b:Bool}(h:rA ρ kn)(hb:ρ g= .bool b):rA ρ ((g,b)::kn):=by
 intro g' b' hg;rw[aA]at hg;split at hg
 .rename_i e;subst e;obtain rfl:=ai4 hg;exact hb
 .exact h g' b' hg
theorem pD{dst:Option Nat}{v:Value}{t:Nat}(h:dst≠some t):ub ρ dst v t=ρ t:=by
 cases dst with
 |none=>rfl
 |some d=>
  show CU ρ d v t=ρ t
  rw[oD,if_neg (fun e=>h (by rw[e]))]
theorem zb{E:Env P}{q:R}:{l:List Oper}->{kn:List (Nat×Bool)}->{st:State}->{k:State->Option R}->{H:ao}->{F:Nat->Prop}->{w:World}->{ρ:Nat->Value}->runs E nt ops l kn st k=some q->rA ρ kn->cE G w0 F0 H F w ρ st->
 (∀bU H' F' w' b7,k bU=some q->cE G w0 F0 H' F' w' b7 bU->cz H F w H' F' w'->(∀t,(∀o∈l,o.dst≠some t)->b7 t=ρ t)->K b7 w')->wpS P nt ops K l ρ w
 |[],kn,st,k,H,F,w,ρ,h,_,hh,hk=>Mc (hk st H F w ρ h hh (cz.refl H F w) fun _ _=>rfl)
 |o::l,kn,st,k,H,F,w,ρ,h,zc,hh,hk=>by
  unfold runs at h;obtain⟨hd,h'⟩:=aD h;clear h
  have Wt:∀d,o.dst=some d->ajX d nt=true:=fun d e=>by rw[e]at hd;exact hd
  have on:∀{nA:State}{Pz:List (Nat×Bool)},vD E o.dst o.op nA (fun bU=>runs E nt ops l (vE o.dst Pz) bU k)=some q->rA ρ Pz->cE G w0 F0 H F w ρ nA->wpS P nt ops K (⟨o.dst,o.op,o.type,o.pos,o.after,none⟩::l) ρ w:=by
   intro nA Pz hs zd ov
   refine Kh hs hd ov fun bU H' F' w' b7 e1 e2 e3 e4=>?_
   refine zb e1 (zd.del e4) e2 fun Ki H2 F2 w2 Ve f1 f2 f3 f4=>?_
   exact hk Ki H2 F2 w2 Ve f1 f2 (e3.trans f3) fun t ht=>(f4 t fun o' iN=>ht o' (by simp[iN])).trans (e4 t (ht o (by simp)))
  have off:∀{nA:State}{Pz:List (Nat×Bool)},runs E nt ops l (vE o.dst Pz) (nA.put o.dst .undef) k=some q->rA ρ Pz->cE G w0 F0 H F w ρ nA->wpS P nt ops K l (ub ρ o.dst undef) w:=by
   intro nA Pz hs zd ov
   refine zb hs (zd.del fun t ht=>pD ht) (ov.put rfl) fun Ki H2 F2 w2 Ve f1 f2 f3 f4=>?_
   exact hk Ki H2 F2 w2 Ve f1 f2 f3 fun t ht=>(f4 t fun o' iN=>ht o' (by simp[iN])).trans (pD (ht o (by simp)))
  obtain⟨dst,op,ty,pos,aft,guard⟩:=o;simp only at h' on off Wt;split at h'
  .exact on h' zc hh
  .rename_i j b;split at h'
   case h_1=>cases h'
   rename_i g Oq;obtain⟨Ot,h⟩:=aD h';clear h'
   have Wu:ρ g= .bool b->wpS P nt ops K (⟨dst,op,ty,pos,aft,none⟩::l) ρ w->wpS P nt ops K (⟨dst,op,ty,pos,aft,some (j,b)⟩::l) ρ w:=fun hb hw=>OZ g Oq Ot hb hw
   have PA:∀b',ρ g= .bool b'->b'≠b->wpS P nt ops K l (ub ρ dst undef) w->wpS P nt ops K (⟨dst,op,ty,pos,aft,some (j,b)⟩::l) ρ w:=fun b' hb bN hw=>by
    cases dst with
    |none=>exact yz g Oq Ot hb bN hw
    |some d=>exact Md g Oq Ot hb bN (Wt d rfl) hw
   split at h
   .rename_i v hv;have hgv:=zc g v hv
    cases Dr:(bif v then b else !b)with
    |true=>
     rw[Dr,cond_true]at h
     have:v=b:=by cases v<;>cases b<;>simp_all
     subst this;exact Wu hgv (on h zc hh)
    |false=>
     rw[Dr,cond_false]at h
     have:v≠b:=by intro e;subst e;cases v<;>simp_all
     exact PA v hgv this (off h zc hh)
   .split at h
    .rename_i hu;have hgu:ρ g=undef:=hh.sat.slot _ _ hu
     cases dst with
     |none=>exact wN g Oq Ot hgu (off h zc hh)
     |some d=>exact IS g Oq Ot hgu (Wt d rfl) (off h zc hh)
    .rename_i d xu;split at h
     case h_2=>cases h
     rename_i t ht;have hgt:=nk ht (hh.sat.slot _ _ xu);split at h
     .rename_i MX;subst MX;have ov:cE G w0 F0 H F w ρ (st.put (some g) (dD true)):=hh.lit (by rw[hgt];exact aE.fT ..);have zd:=zc.cons hgt
      cases b with
      |true=>rw[cond_true]at h;exact Wu hgt (on h zd ov)
      |false=>rw[cond_false]at h;exact PA true hgt (by simp) (off h zd ov)
     .rename_i MX
      have MX:t=false:=by cases t<;>simp_all
      subst MX;have ov:cE G w0 F0 H F w ρ (st.put (some g) (dD false)):=hh.lit (by rw[hgt];exact aE.fT ..);have zd:=zc.cons hgt
      cases b with
      |true=>rw[cond_true]at h;exact PA false hgt (by simp) (off h zd ov)
      |false=>rw[cond_false]at h;exact Wu hgt (on h zd ov)
    .cases h
end
end Go.Proofs.YtilaieogabgamaaGreatDoor
end
section
open _root_.Array renaming getElem?_eq_getElem->ajB,getElem?_eq_some_iff->aj0
open _root_.Bool renaming cond_eq_ite->ajv
open _root_.List renaming getD->ajD,getElem?_append_left->ajA,length_append->ai6,length_cons->ajk,length_singleton->ajh,mem_cons->ajq,mem_singleton->ajj
open _root_.Nat renaming add_zero->aj7,beq->aje,blt->ajX,zero_add->ajC
open _root_.Option renaming bind_assoc->ajV,isSome_iff_exists->ajH,none_or->akc
open _root_.Option.some renaming inj->ai4
open _root_.Go.Region renaming binds->akG
namespace Go.Proofs.YtilaieogabgamaaGreatDoor
open Go Go.RowKit
section
variable {P:Program} {R:Type} {ob:Nat->Option (Nat×Th)} {n:Nat} (k:dN->Option R)
theorem vF{rd:Operand->Option ak}{fn:Fn}{first caps:Array Operand}:lP rd fn first caps k=(lP rd fn first caps some).bind k:=by
 unfold lP
 repeat' first|rfl|split
theorem ze(T:bc P){m:Nat}{e:TypeId}{D:ak}{i:Int}:pn T m e D i k=(pn T m e D i some).bind k:=by
 unfold pn;simp only[ajv]
 repeat' first|rfl|(rw[ajV];rfl)|split
theorem zf(T:bc P){t:TypeId}{D:ak}{i:Int}:pw T ob t D i k=(pw T ob t D i some).bind k:=by
 unfold pw;simp only[ajv]
 repeat' first|rfl|(rw[ajV];rfl)|split
theorem Bn(T:bc P){t:TypeId}{D:ak}{i:Int}:sj T ob t D i k=(sj T ob t D i some).bind k:=by
 unfold sj;simp only[ajv]
 repeat' first|rfl|exact ze k T|(rw[ajV];rfl)|split
theorem DJ(T:bc P){t:TypeId}{D:ak}:xB T ob t D k=(xB T ob t D some).bind k:=by
 unfold xB;simp only[ajv]
 repeat' first|rfl|split|(rw[ajV];congr 1;funext x;repeat' first|rfl|split)
theorem Bo(T:bc P){t:TypeId}{D V:ak}:sq T ob n t D V k=(sq T ob n t D V some).bind k:=by
 unfold sq;simp only[ajv]
 repeat' first|rfl|split|(rw[ajV];rfl)|(rw[ajV];congr 1;funext x;repeat' first|rfl|split)
theorem Bp(T:bc P){t:TypeId}{D:ak}:qx T ob n t D k=(qx T ob n t D some).bind k:=by
 unfold qx;simp only[ajv]
 repeat' first|rfl|split|(rw[ajV];rfl)
theorem Bq(T:bc P){t:TypeId}{D:ak}:oJ T ob n t D k=(oJ T ob n t D some).bind k:=by
 unfold oJ;split
 .exact Bp k T
 .exact DJ k T
theorem zg(T:bc P){t:TypeId}{D V:ak}:px T ob n t D V k=(px T ob n t D V some).bind k:=by
 unfold px;simp only[ajv]
 repeat' first|rfl|split|(rw[ajV];rfl)
theorem zh(T:bc P){t:TypeId}{D V:ak}:pA T ob n t D V k=(pA T ob n t D V some).bind k:=by
 unfold pA;split
 .exact zg k T
 .exact Bo k T
theorem w9{e:TypeId}{dr:DR}{ds:List ak}:oI e dr ob n ds k=(oI e dr ob n ds some).bind k:=by
 unfold oI;simp only[ajv]
 repeat' first|rfl|split
theorem Br(T:bc P){t:TypeId}:sr T n t k=(sr T n t some).bind k:=by
 unfold sr
 repeat' first|rfl|split
theorem Hk{t:TypeId}{V:ak}:GN n t V k=(GN n t V some).bind k:=by
 unfold GN
 repeat' first|rfl|split
theorem vG(T:bc P){t:TypeId}{s:Bool}{a b:Int}:uY T n t s a b k=(uY T n t s a b some).bind k:=by
 unfold uY
 repeat' first|rfl|split|(rw[ajV];rfl)
theorem Bt(T:bc P){b:Bool}{t:TypeId}{s:Bool}{x y:Int}:vm b T n t s x y k=(vm b T n t s x y some).bind k:=by
 unfold vm;split
 .unfold yS
  repeat' first|rfl|exact vG k T|split|(rw[ajV];rfl)
 .exact vG k T
theorem zi(T:bc P){t:TypeId}{X Y:ak}:pu T ob n t X Y k=(pu T ob n t X Y some).bind k:=by
 unfold pu;simp only[ajv]
 repeat' first|rfl|split|(rw[ajV];rfl)
theorem sN(T:bc P){rd:Operand->Option ak}{t:TypeId}{m:Nat}{ps:Array (Nat×Operand)}:jw T rd ob n t m ps k=(jw T rd ob n t m ps some).bind k:=by
 unfold jw;simp only[ajv]
 repeat' first|rfl|split
theorem zj{b:Bool}(T:bc P){rd:Operand->Option ak}{t:TypeId}{m:Nat}{ps:Array (Nat×Operand)}:uC b T rd ob n t m ps k=(uC b T rd ob n t m ps some).bind k:=by
 cases b with
 |false=>exact sN k T
 |true=>
  show pz T rd ob n t m ps k=(pz T rd ob n t m ps some).bind k
  unfold pz;simp only[ajv]
  repeat' first|rfl|exact w9 k|split
theorem Bu(T:bc P){rd:Operand->Option ak}{t:TypeId}{ps:Array (Nat×Operand)}:sv T rd t ps k=(sv T rd t ps some).bind k:=by
 unfold sv;simp only[ajv]
 repeat' first|rfl|split
theorem Bv(dr:Bool)(T:bc P){rd:Operand->Option ak}{t:TypeId}{D:ak}{lo hi:Option Operand}:sx dr T rd ob n t D lo hi k=(sx dr T rd ob n t D lo hi some).bind k:=by
 unfold sx;simp only[ajv]
 repeat' first|rfl|split|(rw[ajV];rfl)
theorem Hl(T:bc P){o:BinOp}{t:TypeId}{lit:Bool}{X Y:ak}:GW T ob o t lit X Y k=(GW T ob o t lit X Y some).bind k:=by
 unfold GW;simp only[ajv]
 repeat' first|rfl|split|(rw[ajV];rfl)
theorem ue(T:bc P){t:TypeId}{M X Y:ak}:jc T ob n t M X Y k=(jc T ob n t M X Y some).bind k:=by
 unfold jc;simp only[ajv]
 repeat' first|rfl|split
theorem xc(T:bc P){t:TypeId}:np T n t k=(np T n t some).bind k:=by
 unfold np
 repeat' first|rfl|split
theorem zk(T:bc P){t:TypeId}{ok:Bool}{M X:ak}:nV T ob t ok M X k=(nV T ob t ok M X some).bind k:=by
 unfold nV;simp only[ajv]
 repeat' first|rfl|split
theorem xd(T:bc P){t:TypeId}{X Y:ak}:nw T ob n t X Y k=(nw T ob n t X Y some).bind k:=by
 unfold nw
 cases JT ob Y with
 |false=>exact zi k T
 |true=>
  simp only[cond_true];unfold rm;simp only[ajv]
  repeat' first|rfl|split|(rw[ajV];rfl)
theorem sO(T:bc P){t:TypeId}{M X Y:ak}:jx T ob n t M X Y k=(jx T ob n t M X Y some).bind k:=by
 unfold jx;simp only[ajv]
 repeat' first|rfl|exact ue k _|split
theorem vH(b:Bool)(T:bc P){t:TypeId}:lO b T n t k=(lO b T n t some).bind k:=by
 unfold lO;simp only[ajv]
 repeat' first|rfl|exact xc k _|split
theorem xe(T:bc P){t:TypeId}{ok:Bool}{M X:ak}:nu T ob n t ok M X k=(nu T ob n t ok M X some).bind k:=by
 unfold nu;simp only[ajv]
 repeat' first|rfl|exact zk k _|split
theorem Bw{sg:bp}{bs:Bs}{aM:List (Nat×(Nat×Th))}{nd:List Nat}{y:cx sg.out.rows}:sK sg n bs aM nd y k=(sK sg n bs aM nd y some).bind k:=by
 unfold sK;simp only[ajv]
 repeat' first|rfl|split
theorem oN{objs:List (Nat×(Nat×Th))}{f:FuncId}{ds:List ak}:{tab:List (Nat×bp)}->nW objs n f ds k tab=(nW objs n f ds some tab).bind k
 |[]=>rfl
 |(g,sg)::tab=>by
  unfold nW;have ih:=oN (objs:=objs) (f:=f) (ds:=ds) (tab:=tab);simp only[ajv]
  repeat' first|rfl|exact ih|split|(rw[ajV];congr 1;funext y;exact Bw k)
theorem DK{tab:List (Nat×bp)}{rd:Operand->Option ak}{objs:List (Nat×(Nat×Th))}{g:Operand}{args:List Operand}:xV tab rd objs n g args k=(xV tab rd objs n g args some).bind k:=by
 unfold xV
 repeat' first|rfl|exact oN k|split
theorem zn(T:bc P){tab:List (Nat×bp)}{rd:Operand->Option ak}{objs:List (Nat×(Nat×Th))}{g:Operand}{name:String}{args:List Operand}:pC T tab rd objs n g name args k=(pC T tab rd objs n g name args some).bind k:=by
 unfold pC
 repeat' first|rfl|exact oN k|split
theorem Hm(T:bc P){t:TypeId}{D:ak}:Hf T t D k=(Hf T t D some).bind k:=by
 unfold Hf;simp only[ajv]
 repeat' first|rfl|split
theorem zo(T:bc P){t:TypeId}{ok:Bool}{D:ak}:pB T t ok D k=(pB T t ok D some).bind k:=by
 unfold pB;simp only[ajv]
 repeat' first|rfl|split
theorem DL(E:Env P){rd:Operand->Option ak}{objs:List (Nat×(Nat×Th))}{c:Callee}{args:Array Operand}{wJ:Array TypeId}:qd E rd objs n c args wJ k=(qd E rd objs n c args wJ some).bind k:=by
 unfold qd;simp only[ajv]
 repeat' first|rfl|exact xd k _|exact DK k|exact zn k _|split
theorem Kj(E:Env P){rd:Operand->Option ak}{objs:List (Nat×(Nat×Th))}{dst:Option Nat}{op:Op}:MU E rd objs n dst op k=(MU E rd objs n dst op some).bind k:=by
 unfold MU
 repeat' first|rfl|exact zh k _|exact sO k _|exact vH k _ _|exact xe k _|exact Hm k _|exact zo k _|exact DL k _|exact Br k _|exact Hk k|exact Bu k _|exact zj k _|exact Bq k _|exact Hl k _|exact Bt k _|exact Bv k _ _|exact Bn k _|exact zf k _|exact vF k|split
end
def iD{α:Type}(ns:List Nat):List (Nat×α)->List (Nat×α)
 |[]=>[]
 |(m,a)::l=>bif ma m ns then(m,a)::iD ns l else iD ns l
theorem xZ{α:Type}{ns:List Nat}{l:List (Nat×α)}{n:Nat}{a:α}:find (iD ns l) n=some a↔n∈ns/\find l n=some a:=by
 induction l with
 |nil=>simp[iD,find]
 |cons p l ih=>
  obtain⟨m,b⟩:=p;unfold iD
  cases hm:ma m ns with
  |true=>
   have cc:=dJ.1 hm;rw[cond_true,aA,aA];by_cases h:m=n
   .subst h;simp[cc]
   .simp only[if_neg h];exact ih
  |false=>
   have cc:m∉ns:=fun e=>by rw[dJ.2 e]at hm;cases hm
   rw[cond_false,ih,aA];constructor
   .rintro⟨h1,h2⟩
    have bN:m≠n:=fun e=>cc (e▸h1)
    exact⟨h1,by rw[if_neg bN];exact h2⟩
   .rintro⟨h1,h2⟩
    have bN:m≠n:=fun e=>cc (e▸h1)
    rw[if_neg bN]at h2;exact⟨h1,h2⟩
def tmpsOf:List Operand->List Nat
 |[]=>[]
 | .tmp t::l=>t::tmpsOf l
 |_::l=>tmpsOf l
def Ou:List (Bool×Tree)->List Nat
 |[]=>[]
 |p::l=>p.2.owns++Ou l
def Ta:ak->List Nat
 | .val _ t=>t.owns
 | .ptr o _ _=>[o]
 | .elem o .. =>[o]
 | .dlm o .. =>[o]
 | .tup ds=>Ou ds
 | .fn _ caps=>caps.map (·.1)
 | .ifc _ d=>Ta d
 |_=>[]
def Ov(ah:List (Nat×ak)):List Nat->List Nat
 |[]=>[]
 |t::l=>(match find ah t with
  |some d=>Ta d
  |none=>[])++Ov ah l
def within(objs:List (Nat×(Nat×Th))):List Nat->List Nat
 |[]=>[]
 |o::l=>(match find objs o with
  |some (_, .box _ t)=>t.owns
  |_=>[])++within objs l
def MY(ah:List (Nat×ak))(objs:List (Nat×(Nat×Th)))(ts:List Nat):List Nat:=
 (fun l=>l++within objs l) (Ov ah ts)
def ya(aM:List (Nat×(Nat×Th)))(nd:List Nat)(e:dN):dN:=
 {dst:=e.dst,eat:=nd++e.eat,make:=e.make++del e.eat (oo aM nd)}
section
variable {U:Nat->Prop} {H:ao} {F:Nat->Prop} {w:World} {n:Nat}
theorem Hn{obj aM:List (Nat×(Nat×Th))}{nd:List Nat}{e:dN}{v:Value}{w':World}{F1:Nat->Prop}(w4:eC obj nd=some aM)(qa:au U H F1 w (find aM) n)(C0:∀b,F b->F1 b)(L0:∀b,F1 b->F b\/cm H (find obj) nd b)
 (h:kE H F1 w (find aM) n e v w'):kE H F w (find obj) n (ya aM nd e) v w':=by
 obtain⟨H',F',hp⟩:=h
 have kB:∀k,cm H (find aM) e.eat k->cm H (find obj) (nd++e.eat) k:=by
  rintro k ⟨o,ho,s,t,u,h1,h2,h3⟩
  rcases gP w4 o s t h1 with h4|h4
  .exact⟨o,by simp[ho],s,t,u,h4,h2,h3⟩
  .exact(gq h4 h3).elim
 have part:∀o s t,find (e.make++del e.eat (oo aM nd)) o=some (s,t)->find e.make o=some (s,t)\/(o∉e.eat/\o∈nd/\find aM o=some (s,t)/\dP t=true):=by
  intro o s t ho;rw[gG]at ho
  cases hm:find e.make o with
  |some x=>rw[hm]at ho;exact .inl ho
  |none=>
   rw[hm,akc]at ho;obtain⟨h1,h2⟩:=gH.1 ho;obtain⟨h3,h4,h5⟩:=mb h2;exact .inr ⟨h1,h3,h4,h5⟩
 refine⟨H',F',⟨hp.lr.iM,⟨hp.lr.ext.os,hp.lr.ext.tape,hp.lr.ext.output,hp.lr.ext.size,fun k hk hn=>hp.lr.ext.block k hk fun hh=>hn (kB k hh)⟩,fun b hb=>hp.lr.le b (C0 b hb),fun b hb=>?_,hp.lr.lt⟩,hp.fresh,hp.dst,⟨fun o s t ho=>?_,fun o o' s s' t t' v v' bN ho iN hv di k hk dO=>?_⟩,fun o ho=>?_⟩
 .rcases hp.lr.grow b hb with h1|h1|h1
  .rcases L0 b h1 with h2|⟨o,ho,rest⟩
   .exact .inl h2
   .exact .inr (.inr ⟨o,by simp[ya,ho],rest⟩)
  .exact .inr (.inl h1)
  .exact .inr (.inr (kB b h1))
 .rcases part o s t ho with h1|⟨h1,h2,h3,h4⟩
  .obtain⟨u,a1,a2,a3,a4,a5⟩:=hp.made.obj o s t h1;exact⟨u,a1,a2,a3,a4,fun k hk=>⟨(a5 k hk).1,(a5 k hk).2.1,(a5 k hk).2.2.imp id (kB k)⟩⟩
  .obtain⟨u,hu,cc⟩:=qa.obj _ _ _ h3;have:=cc.lr qa hp.lr h3 h1 hu;exact⟨u,hp.lr.iM.val _ _ hu,this.one,this.con,this.ok,fun k hk=>(gq h4 hk).elim⟩
 .rcases part o s t ho with h1|⟨_,_,_,h4⟩
  .rcases part o' s' t' iN with h2|⟨_,_,_,h4'⟩
   .exact hp.made.apart o o' s s' t t' v v' bN h1 h2 hv di k hk dO
   .exact gq h4' dO
  .exact gq h4 hk
 .obtain⟨x,hx⟩:=ajH.1 ho
  rcases part o x.1 x.2 hx with h1|⟨_,h2,_⟩
  .exact(hp.ids o (by rw[h1];rfl)).imp (fun h=>by simp[ya,h]) id
  .exact .inl (by simp[ya,h2])
end
def gx(x y:Nat×Th):Prop:=x=y\/∃T d l h h',x.2= .deep T d l h/\y.2= .deep T d l h'
theorem gx.symm{x y:Nat×Th}(h:gx x y):gx y x:=by
 rcases h with rfl|⟨T,d,l,h,h',h1,h2⟩
 .exact .inl rfl
 .exact .inr ⟨T,d,l,h',h,h2,h1⟩
theorem gx.trans{x y z:Nat×Th}(h:gx x y)(h':gx y z):gx x z:=by
 rcases h with rfl|⟨T,d,l,a,b,h1,h2⟩
 .exact h'
 .rcases h' with rfl|⟨T',d',l',a',b',h3,h4⟩
  .exact .inr ⟨T,d,l,a,b,h1,h2⟩
  .rw[h2]at h3;cases h3;exact .inr ⟨T,d,l,a,b',h1,h4⟩
structure kM where
 dst:Option Nat
 ts:List Nat
 os:List Nat
 e:dN
 ls:List Nat:=[]
 soft:List Nat:=[]
def qe:List (Nat×(Nat×Th))->List Nat
 |[]=>[]
 |(o,_)::l=>o::qe l
def kM.mut(x:kM):List Nat:=x.e.eat++qe x.e.make
def zp:Op->Bool
 | .call c=>match c.callee with
   | .builtin .len=>true
   |_=>false
 |_=>false
def Ow(rd:Operand->Option ak):Op->List Nat
 | .load _ x=>match rd x with
   |some (.dlm o _ _ _ _)=>[o]
   |_=>[]
 |_=>[]
def gj(st:State)(op:Op):List Nat:=
 match op with
 | .move _=>[]
 | .assign _=>[]
 |_=>MY st.ah st.objs (tmpsOf op.operands.toList)
noncomputable def yb{R:Type}{P:Program}(E:Env P)(dst:Option Nat)(op:Op)(gs:List Nat)(st:State)(k:dN->kM->Option R):Option R:=
 match eC (iD (gj st op) st.objs) (qB E (IA (iD (tmpsOf op.operands.toList) st.ah)) (iD (gj st op) st.objs) op)with
 |some aM=>bif fnB dst op then MU E (IA (iD (tmpsOf op.operands.toList) st.ah)) aM st.nxt dst op (fun e=>
   (fun e'=>k e' {dst:=dst,ts:=tmpsOf op.operands.toList++gs,os:=bif zp op then[]else gj st op,e:=e',ls:=bif zp op then gj st op else[],soft:=Ow (IA (iD (tmpsOf op.operands.toList) st.ah)) op}) (ya aM (qB E (IA (iD (tmpsOf op.operands.toList) st.ah)) (iD (gj st op) st.objs) op) e))else none
 |none=>none
structure Ox(P:Program)(U:Nat->Prop)(o:Oper)(sl:Nat->Option ak)(ob:Nat->Option (Nat×Th))(n:Nat)(Fo:kM):Prop where
 dst:Fo.dst=o.dst
 run:∃(Wv:Nat->Option ak)(LY:Nat->Option (Nat×Th)),(∀t d,Wv t=some d->t∈Fo.ts/\sl t=some d)/\(∀q x,LY q=some x->(q∈Fo.os\/q∈Fo.ls)/\ob q=some x)/\
  ∀(H:ao)(F:Nat->Prop)(w:World)(ρ:Nat->Value)(Ho:Nat->Option (Nat×Th)),(∀q x,LY q=some x->∃x',Ho q=some x'/\gx x x'/\(q∈Fo.os->x'=x))->(∀t d,Wv t=some d->ai H F w d (ρ t))->au U H F w Ho n->
   ∃Ww:Nat->Option (Nat×Th),(∀q x,Ww q=some x->Ho q=some x)/\cd P ρ ⟨o.dst,o.op,o.type,o.pos,o.after,none⟩ w (kE H F w Ww n Fo.e)
 soft:∀q∈Fo.soft,q∈Fo.mut->∃x y,ob q=some x/\find Fo.e.make q=some y/\gx x y
theorem Hp{ob Jo:Nat->Option (Nat×Th)}{D:ak}{k:Ju}(MZ:∀q x,ob q=some x->∃x',Jo q=some x'/\gx x x')(h:uc ob D=some k):∃k',uc Jo D=some k'/\ra k'=ra k:=by
 unfold uc at h;split at h
 .cases h;exact⟨_,rfl,rfl⟩
 .cases h;exact⟨_,rfl,rfl⟩
 .rename_i o
  cases ho:ob o with
  |none=>rw[ho]at h;cases h
  |some x=>
   obtain⟨s,t⟩:=x;obtain⟨⟨s',t'⟩,h1,h2⟩:=MZ o _ ho;rw[ho]at h
   rcases h2 with e|⟨T,d,l,a,b,e1,e2⟩
   .cases e;exact⟨k,by show(match Jo o with|some (s, .own T r l)=>_|some (_, .sf _ r l)=>_|some (_, .fdeep _ d l)=>_|some (s, .deep T d l h)=>_|_=>_)=_;rw[h1];exact h,rfl⟩
   .simp only at e1 e2;subst e1 e2;cases h;exact⟨.deep o s' T d l b,by show(match Jo o with|some (s, .own T r l)=>_|some (_, .sf _ r l)=>_|some (_, .fdeep _ d l)=>_|some (s, .deep T d l h)=>_|_=>_)=_;rw[h1],rfl⟩
 .rename_i o s r m
  have hk:ra k=(m.length:Int):=by
   split at h
   .rename_i s' _ _ _ _
    cases hb:aje s' s<;>rw[hb]at h<;>cases h<;>rfl
   .cases h;rfl
  rw[hk]
  show∃k',(match Jo o with|some (s', .sf ..)=>bif aje s' s then some (Ju.read r m)else some (.view o s r m)|_=>some (.view o s r m))=some k'/\ra k'=_
  split
  .rename_i s' _ _ _ _
   cases hb:aje s' s with
   |true=>exact⟨Ju.read r m,rfl,rfl⟩
   |false=>exact⟨Ju.view o s r m,rfl,rfl⟩
  .exact⟨Ju.view o s r m,rfl,rfl⟩
 .cases h
theorem Hq{P:Program}(T:bc P){ob Jo:Nat->Option (Nat×Th)}{t:TypeId}{D D':ak}(MZ:∀q x,ob q=some x->∃x',Jo q=some x'/\gx x x')(h:GP T ob t D=some D'):GP T Jo t D=some D':=by
 unfold GP at h⊢;split at h
 .split at h
  case h_2=>cases h
  rename_i k hk;obtain⟨k',h1,h2⟩:=Hp MZ hk;rw[h1];simp only[h2];exact h
 .exact h
 .cases h
theorem Hr{P:Program}(T:bc P){ob:Nat->Option (Nat×Th)}{n:Nat}{t:TypeId}{o:Nat}{d:DR}{i:Int}{p:List Bool}{off:Nat}{e:dN}(h:oJ T ob n t (.dlm o d i p off) some=some e)(hm:o∈e.eat++qe e.make):
 ∃x y,ob o=some x/\find e.make o=some y/\gx x y:=by
 unfold oJ qx at h;simp only at h;split at h
 .cases h
 split at h
 case h_2=>cases h
 rename_i s T0 dr l hh ho;obtain⟨_,h⟩:=aD h;split at h
 .obtain⟨_,h⟩:=aD h;obtain⟨_,_,h⟩:=bind_some h;cases h;simp[qe]at hm
 .obtain⟨_,h⟩:=aD h;split at h
  .obtain⟨_,_,h⟩:=bind_some h;cases h;exact⟨_,(n, .deep T0 dr l _),ho,by rw[aA,if_pos rfl], .inr ⟨T0,dr,l,none,_,rfl,rfl⟩⟩
  .obtain⟨_,h⟩:=aD h;split at h
   .obtain⟨_,_,h⟩:=bind_some h;cases h;simp[qe]at hm
   .cases h
 .cases h
theorem Kl{P:Program}{E:Env P}{U:Nat->Prop}{R:Type}{o:Oper}{gs:List Nat}{st:State}{k:dN->kM->Option R}{q:R}(h:yb E o.dst o.op gs st k=some q):
 ∃e Fo,k e Fo=some q/\Fo.e=e/\(∀g∈gs,g∈Fo.ts)/\Ox P U o (find st.ah) (find st.objs) st.nxt Fo:=by
 unfold yb at h;split at h
 case h_2=>cases h
 rename_i aM w4;obtain⟨w8,h'⟩:=aD h;clear h;rw[Kj]at h';obtain⟨e,he,hk⟩:=bind_some h'
 have M0:∀t d,find (iD (tmpsOf o.op.operands.toList) st.ah) t=some d->t∈tmpsOf o.op.operands.toList/\find st.ah t=some d:=fun t d ht=>xZ.1 ht
 have DM:∀q x,find (iD (gj st o.op) st.objs) q=some x->q∈gj st o.op/\find st.objs q=some x:=fun q x hx=>xZ.1 hx
 refine⟨_,_,hk,rfl,fun g hg=>by simp[hg],rfl,⟨find (iD (tmpsOf o.op.operands.toList) st.ah),find (iD (gj st o.op) st.objs),fun t d ht=>⟨by simp[(M0 t d ht).1],(M0 t d ht).2⟩,fun q x hx=>⟨?_,(DM q x hx).2⟩,fun H F w ρ Ho MZ fO cC=>?_⟩,fun q hq hm=>?_⟩
 .cases hl:zp o.op with
  |true=>exact .inr (by simp only[cond_true];exact(DM q x hx).1)
  |false=>exact .inl (by simp only[cond_false];exact(DM q x hx).1)
 .cases hl:zp o.op with
  |false=>
   simp only[hl,cond_false]at MZ
   have fN:∀q x,find (iD (gj st o.op) st.objs) q=some x->Ho q=some x:=fun q x hx=>by
    obtain⟨x',h1,_,h2⟩:=MZ q x hx;rw[h1,h2 (DM q x hx).1]
   have ud:au U H F w (find (iD (gj st o.op) st.objs)) st.nxt:=⟨fun o s t ho=>cC.obj o s t (fN _ _ ho),fun o o' s s' t t' v v' bN ho iN=>cC.apart o o' s s' t t' v v' bN (fN _ _ ho) (fN _ _ iN),cC.fresh,cC.lt,cC.new,cC.gl⟩
   refine⟨_,fN,?_⟩;obtain⟨F1,qa,C0,L0⟩:=nx w4 ud
   have eB:Step F w F1 w:=fun b hb=>⟨C0 b hb,rfl⟩
   obtain⟨e',he',hs⟩:=Ka (ρ:=ρ) (ty:=o.type) (pos:=o.pos) (aft:=o.after) E (fun x d hx=>uT qa.gl (fun t d ht=>(fO t d ht).keep (ao.le.refl H) eB) x d hx) (fun hn c hc=>by rw[hn,hc]at w8;exact w8) he qa;obtain rfl:=ai4 he'
   exact hs.mono fun v w' hp=>Hn w4 qa C0 L0 hp
  |true=>
   refine⟨Ho,fun _ _ h=>h,?_⟩;obtain⟨PB,Wx,oty,Wy,Wz,ogd⟩:=o;simp only at*
   cases Wx<;>try(cases hl;done)
   rename_i c;obtain⟨callee,args,wJ⟩:=c
   cases callee<;>try(cases hl;done)
   rename_i b
   cases b<;>try(cases hl;done)
   cases PB with
   |none=>cases w8
   |some d=>
    have MC:qB E (IA (iD (tmpsOf (Op.operands (.call {callee:= .builtin .len,args:=args,argTypes:=wJ})).toList) st.ah)) (iD (gj st (.call {callee:= .builtin .len,args:=args,argTypes:=wJ})) st.objs) (.call {callee:= .builtin .len,args:=args,argTypes:=wJ})=[]:=by unfold qB;cases E.deep<;>rfl
    rw[MC]at w4⊢;obtain rfl:=ai4 w4;have M1:qd E _ _ st.nxt (.builtin .len) args wJ some=some e:=he;unfold qd at M1;simp only at M1;split at M1
    case h_2=>cases M1
    rename_i x t ha ht;obtain rfl:=eD ha;obtain rfl:=eD ht;split at M1
    case h_2=>cases M1
    rename_i D hD;split at M1
    case h_2=>cases M1
    rename_i D' Mh;cases M1;have hlen:=Hq E.T (fun q x hx=>by obtain⟨x',h1,h2,_⟩:=MZ q x hx;exact⟨x',h1,h2⟩) Mh;exact EY E.T hlen cC (uT cC.gl fO _ _ hD)
 .obtain⟨PB,Wx,oty,Wy,Wz,ogd⟩:=o;simp only at*
  cases Wx<;>try(cases hq;done)
  rename_i t x;unfold Ow at hq;simp only at hq;split at hq
  case h_2=>cases hq
  rename_i o' d0 i p off fE;obtain rfl:=ajj.1 hq
  have MC:qB E (IA (iD (tmpsOf (Op.operands (.load t x)).toList) st.ah)) (iD (gj st (.load t x)) st.objs) (.load t x)=[]:=by unfold qB;cases E.deep<;>rfl
  rw[MC]at w4 hm⊢;obtain rfl:=ai4 w4
  cases PB with
  |none=>cases he
  |some d=>
   unfold MU at he;simp only[fE]at he
   have IF:q∈e.eat++qe e.make:=by
    simpa[kM.mut,ya,oo,del]using hm
   obtain⟨x1,y1,h1,h2,h3⟩:=Hr E.T he IF;refine⟨x1,y1,(DM _ _ h1).2,?_,h3⟩
   show find (e.make++_) q=_
   rw[gG,h2];rfl
end Go.Proofs.YtilaieogabgamaaGreatDoor
namespace Go.Proofs.YtilaieogabgamaaGreatDoor
open Go Go.RowKit
def xf(acc:List Nat)(i:Nat):List Edge->Option Nat
 |[]=>some 0
 |e::l=>match xf acc i l with
  |some m=>bif akG .any e then(bif ajX e.on i then some (m|||2 ^ e.on|||acc.getD e.on 0)else none)else some m
  |none=>none
def Hs(acc:List Nat):List Oper->Option (List Nat)
 |[]=>some acc
 |o::l=>match xf acc acc.length o.after.toList with
  |some m=>Hs (acc++[m]) l
  |none=>none
def je(d:Option Nat)(l:List Nat):Bool:=
 match d with
 |some t=>ma t l
 |none=>false
def Bx(l l':List Nat):Bool:=l.any fun o=>ma o l'
def kM.Tc(x:kM):List Nat:=x.mut.filter fun o=> !ma o x.soft
def conflict(a b:kM):Bool:=
 je a.dst b.ts||je b.dst a.ts||je a.dst (b.dst.toList)||Bx a.mut (b.os++b.mut)||Bx a.Tc b.ls||Bx (a.os++a.ls++a.mut) b.mut
def zq(ms:List Nat)(i:Nat)(x:kM):Nat->List kM->Bool
 |_,[]=>true
 |j,y::l=>(bif conflict x y then Nat.testBit (ms.getD j 0) i else true)&&zq ms i x (j+1) l
def uE(ms:List Nat):Nat->List kM->Bool
 |_,[]=>true
 |i,x::l=>zq ms i x (i+1) l&&uE ms (i+1) l
def sP(ops:List Oper)(es:List kM):Bool:=
 match Hs [] ops with
 |some ms=>uE ms 0 es
 |none=>false
section
variable {ops:Array Oper}
def DN(ops:Array Oper)(S:Nat->Prop):Prop:=∀i,S i->∀o,ops[i]? =some o->∀e∈o.after,akG .any e=true->S e.on
theorem zt{acc:List Nat}{i:Nat}:{l:List Edge}->{m:Nat}->xf acc i l=some m->∀j,m.testBit j=true->∃e∈l,akG .any e=true/\e.on<i/\(e.on=j\/(acc.getD e.on 0).testBit j=true)
 |[],m,h,j,hj=>by
  obtain rfl:=ai4 h;simp at hj
 |e::l,m,h,j,hj=>by
  unfold xf at h;split at h
  case h_2=>cases h
  rename_i m0 h0
  cases hb:akG .any e with
  |false=>
   rw[hb,cond_false]at h;obtain rfl:=ai4 h;obtain⟨e',a1,a2⟩:=zt h0 j hj;exact⟨e',by simp[a1],a2⟩
  |true=>
   rw[hb,cond_true]at h
   cases al:ajX e.on i with
   |false=>rw[al]at h;cases h
   |true=>
    rw[al,cond_true]at h;obtain rfl:=ai4 h;rw[Nat.testBit_or,Nat.testBit_or,Bool.or_eq_true,Bool.or_eq_true]at hj
    have pT:e.on<i:=by simpa using al
    rcases hj with(hj|hj)|hj
    .obtain⟨e',a1,a2⟩:=zt h0 j hj;exact⟨e',by simp[a1],a2⟩
    .rw[Nat.testBit_two_pow]at hj;exact⟨e,by simp,hb,pT, .inl (of_decide_eq_true hj)⟩
    .exact⟨e,by simp,hb,pT, .inr hj⟩
theorem Fp{acc:List Nat}{i:Nat}:{l:List Edge}->{m:Nat}->xf acc i l=some m->∀e∈l,akG .any e=true->e.on<i
 |[],m,h,e,he,_=>by cases he
 |e0::l,m,h,e,he,hb=>by
  unfold xf at h;split at h
  case h_2=>cases h
  rename_i m0 h0
  rcases ajq.1 he with rfl|he
  .rw[hb,cond_true]at h
   cases al:ajX e.on i with
   |false=>rw[al]at h;cases h
   |true=>simpa using al
  .exact Fp h0 e he hb
theorem zu:{l:List Oper}->{acc ms:List Nat}->Hs acc l=some ms->ms.length=acc.length+l.length/\(∀i,i<acc.length->ms.getD i 0=acc.getD i 0)/\
 ∀k o,l[k]? =some o->∃m,xf ms (acc.length+k) o.after.toList=some m/\ms.getD (acc.length+k) 0=m
 |[],acc,ms,h=>by
  obtain rfl:=ai4 h;exact⟨by simp,fun _ _=>rfl,fun k o h=>by simp at h⟩
 |o0::l,acc,ms,h=>by
  unfold Hs at h;split at h
  case h_2=>cases h
  rename_i m hm;obtain⟨a1,a2,a3⟩:=zu h;rw[ai6,ajh]at a1 a2 a3
  have Km:∀i,i<acc.length->ms.getD i 0=acc.getD i 0:=fun i hi=>by
   rw[a2 i (by omega)];simp[ajD,ajA hi]
  have WA:∀(l:List Edge)(m:Nat),xf acc acc.length l=some m->xf ms acc.length l=some m:=by
   intro l
   induction l with
   |nil=>intro m h;exact h
   |cons e l ih=>
    intro m h;unfold xf at h⊢;split at h
    case h_2=>cases h
    rename_i m0 h0;rw[ih m0 h0];simp only
    cases hb:akG .any e with
    |false=>rw[hb]at h;exact h
    |true=>
     rw[hb,cond_true]at h
     cases al:ajX e.on acc.length with
     |false=>rw[al]at h;cases h
     |true=>
      rw[al,cond_true]at h;rw[cond_true,cond_true,Km _ (by simpa using al)];exact h
  refine⟨by rw[a1,ajk];omega,Km,fun k o ho=>?_⟩
  cases k with
  |zero=>
   obtain rfl:o0=o:=by simpa using ho
   refine⟨m,WA _ _ hm,?_⟩;rw[aj7,a2 _ (by omega)];simp[ajD]
  |succ k=>
   have:=a3 k o (by simpa using ho);rw[show acc.length+1+k=acc.length+(k+1)from by omega]at this;exact this
theorem Ko{ms:List Nat}(h:Hs [] ops.toList=some ms){S:Nat->Prop}(hS:DN ops S):∀i o,ops[i]? =some o->(∀e∈o.after,akG .any e=true->S e.on)->∀j,(ms.getD i 0).testBit j=true->S j:=by
 obtain⟨_,_,a3⟩:=zu h;intro i
 induction i using Nat.strongRecOn with
 |_ i ih=>
  intro o ho hd j hj;obtain⟨m,h1,h2⟩:=a3 i o (by rw[Array.getElem?_toList];exact ho);simp only[List.length_nil,ajC]at h1 h2;rw[h2]at hj;obtain⟨e,he,hb,al,h3⟩:=zt h1 j hj;have ME:=hd e (by simpa using he) hb
  rcases h3 with rfl|h3
  .exact ME
  .have Td:e.on<ops.size:=by
    have:=(aj0.1 ho).1;omega
   exact ih e.on al _ (ajB Td) (fun e' he' p5=>hS e.on ME _ (ajB Td) e' he' p5) j h3
end
def fC(S:Nat->Bool):Nat->List kM->(Nat->Option ak)->Nat->Option ak
 |_,[],f=>f
 |i,x::l,f=>fC S (i+1) l (fun t=>bif S i&&je (some t) x.dst.toList then some x.e.dst else f t)
def eV(S:Nat->Bool):Nat->List kM->(Nat->Option (Nat×Th))->Nat->Option (Nat×Th)
 |_,[],f=>f
 |i,x::l,f=>eV S (i+1) l (fun o=>bif S i then(find x.e.make o).or (bif ma o x.e.eat then none else f o)else f o)
theorem pE{l:List (Nat×(Nat×Th))}{o:Nat}{x:Nat×Th}(h:find l o=some x):o∈qe l:=by
 induction l with
 |nil=>cases h
 |cons p l ih=>
  obtain⟨o',y⟩:=p;rw[aA]at h;split at h
  .rename_i e;subst e;exact List.mem_cons_self
  .exact List.mem_cons_of_mem _ (ih h)
theorem rB{d:Option Nat}{t:Nat}:je (some t) d.toList=true↔d=some t:=by
 unfold je;simp only[dJ,Option.mem_toList]
theorem ld{S S':Nat->Bool}{t:Nat}:{l:List kM}->{i:Nat}->{f f':Nat->Option ak}->f t=f' t->(∀k x,l[k]? =some x->x.dst=some t->S (i+k)=S' (i+k))->fC S i l f t=fC S' i l f' t
 |[],_,_,_,hf,_=>hf
 |x::l,i,f,f',hf,h=>by
  show fC S (i+1) l _ t=fC S' (i+1) l _ t
  refine ld ?_ fun k y hy hd=>by
   have:=h (k+1) y (by simpa using hy) hd
   rwa [show i+(k+1)=i+1+k from by omega]at this
  by_cases hd:x.dst=some t
  .have:=h 0 x rfl hd;simp only[aj7]at this;rw[this,hf]
  .have:je (some t) x.dst.toList=false:=by
    cases hb:je (some t) x.dst.toList with
    |false=>rfl
    |true=>exact absurd (rB.1 hb) hd
   rw[this,Bool.and_false,Bool.and_false,cond_false,cond_false,hf]
theorem kN{S S':Nat->Bool}{o:Nat}:{l:List kM}->{i:Nat}->{f f':Nat->Option (Nat×Th)}->f o=f' o->(∀k x,l[k]? =some x->o∈x.mut->S (i+k)=S' (i+k))->eV S i l f o=eV S' i l f' o
 |[],_,_,_,hf,_=>hf
 |x::l,i,f,f',hf,h=>by
  show eV S (i+1) l _ o=eV S' (i+1) l _ o
  refine kN ?_ fun k y hy hd=>by
   have:=h (k+1) y (by simpa using hy) hd
   rwa [show i+(k+1)=i+1+k from by omega]at this
  by_cases hd:o∈x.mut
  .have:=h 0 x rfl hd;simp only[aj7]at this;rw[this,hf]
  .have h1:find x.e.make o=none:=by
    cases hm:find x.e.make o with
    |none=>rfl
    |some y=>exact absurd (by simp[kM.mut,pE hm]) hd
   have h2:ma o x.e.eat=false:=by
    cases hb:ma o x.e.eat with
    |false=>rfl
    |true=>exact absurd (by simp[kM.mut,dJ.1 hb]) hd
   rw[h1,h2,akc,cond_false]
   cases S i<;>cases S' i<;>simp[hf]
theorem nX{S:Nat->Bool}{t:Nat}:{l:List kM}->{i:Nat}->{f:Nat->Option ak}->(∀k x,l[k]? =some x->x.dst=some t->S (i+k)=false)->fC S i l f t=f t
 |[],_,_,_=>rfl
 |x::l,i,f,h=>by
  show fC S (i+1) l _ t=_
  rw[nX fun k y hy hd=>by
   have:=h (k+1) y (by simpa using hy) hd
   rwa [show i+(k+1)=i+1+k from by omega]at this]
  by_cases hd:x.dst=some t
  .have:=h 0 x rfl hd;simp only[aj7]at this;simp[this]
  .have:je (some t) x.dst.toList=false:=by
    cases hb:je (some t) x.dst.toList with
    |false=>rfl
    |true=>exact absurd (rB.1 hb) hd
   simp[this]
theorem nB{S:Nat->Bool}{o:Nat}:{l:List kM}->{i:Nat}->{f:Nat->Option (Nat×Th)}->(∀k x,l[k]? =some x->o∈x.mut->S (i+k)=false)->eV S i l f o=f o
 |[],_,_,_=>rfl
 |x::l,i,f,h=>by
  show eV S (i+1) l _ o=_
  rw[nB fun k y hy hd=>by
   have:=h (k+1) y (by simpa using hy) hd
   rwa [show i+(k+1)=i+1+k from by omega]at this]
  by_cases hd:o∈x.mut
  .have:=h 0 x rfl hd;simp only[aj7]at this;simp[this]
  .have h1:find x.e.make o=none:=by
    cases hm:find x.e.make o with
    |none=>rfl
    |some y=>exact absurd (by simp[kM.mut,pE hm]) hd
   have h2:ma o x.e.eat=false:=by
    cases hb:ma o x.e.eat with
    |false=>rfl
    |true=>exact absurd (by simp[kM.mut,dJ.1 hb]) hd
   simp only[h1,h2,akc,cond_false]
   cases S i<;>rfl
theorem nY{S:Nat->Bool}{l l':List kM}{i:Nat}{f:Nat->Option ak}:fC S i (l++l') f=fC S (i+l.length) l' (fC S i l f):=by
 induction l generalizing i f with
 |nil=>rfl
 |cons x l ih=>
  show fC S (i+1) (l++l') _=fC S (i+(l.length+1)) l' (fC S (i+1) l _)
  rw[ih,show i+1+l.length=i+(l.length+1)from by omega]
theorem jy{S:Nat->Bool}{l l':List kM}{i:Nat}{f:Nat->Option (Nat×Th)}:eV S i (l++l') f=eV S (i+l.length) l' (eV S i l f):=by
 induction l generalizing i f with
 |nil=>rfl
 |cons x l ih=>
  show eV S (i+1) (l++l') _=eV S (i+(l.length+1)) l' (eV S (i+1) l _)
  rw[ih,show i+1+l.length=i+(l.length+1)from by omega]
end Go.Proofs.YtilaieogabgamaaGreatDoor
end
section
open _root_.Array renaming getD_eq_getD_getElem?->ajM,getElem?_eq_getElem->ajB,getElem?_eq_some_iff->aj0
open _root_.Bool renaming false_eq_true->ajb
open _root_.List renaming drop_eq_getElem_cons->ajK,getElem?_append_left->ajA,getElem?_drop->ajp,getElem?_eq_getElem->ai5,getElem?_eq_some_iff->ai7,getElem_of_mem->aji,length_append->ai6,length_cons->ajk,length_singleton->ajh,mem_append->ajs,mem_cons->ajq,mem_of_getElem?->akj,take_append_drop->akz,take_append_of_le_length->ajy
open _root_.Nat renaming add_zero->aj7,beq->aje,blt->ajX,le_refl->ai8,le_trans->ajE,zero_add->ajC
open _root_.Option renaming none_or->akc
open _root_.Option.some renaming inj->ai4
open _root_.Go.Region renaming binds->akG,wanted->akA
namespace Go.Proofs.YtilaieogabgamaaGreatDoor
open Go Go.RowKit
theorem vI{ms:List Nat}{i:Nat}{x:kM}:{l:List kM}->{j:Nat}->zq ms i x j l=true->∀k y,l[k]? =some y->conflict x y=true->(ms.getD (j+k) 0).testBit i=true
 |[],_,_,k,y,h,_=>by simp at h
 |z::l,j,hl,k,y,h,hc=>by
  obtain⟨h1,h2⟩:=cO hl
  cases k with
  |zero=>
   obtain rfl:z=y:=by simpa using h
   rw[hc,cond_true]at h1;exact h1
  |succ k=>
   have:=vI h2 k y (by simpa using h) hc
   rwa [show j+1+k=j+(k+1)from by omega]at this
theorem qC{ms:List Nat}:{l:List kM}->{i:Nat}->uE ms i l=true->∀a b x y,a<b->l[a]? =some x->l[b]? =some y->conflict x y=true->(ms.getD (i+b) 0).testBit (i+a)=true
 |[],_,_,a,b,x,y,_,h,_,_=>by simp at h
 |z::l,i,hl,a,b,x,y,wX,hx,hy,hc=>by
  obtain⟨h1,h2⟩:=cO hl
  cases a with
  |zero=>
   obtain rfl:z=x:=by simpa using hx
   cases b with
   |zero=>omega
   |succ b=>
    have:=vI h1 b y (by simpa using hy) hc
    rwa [show i+1+b=i+(b+1)from by omega]at this
  |succ a=>
   cases b with
   |zero=>omega
   |succ b=>
    have:=qC h2 a b x y (by omega) (by simpa using hx) (by simpa using hy) hc
    rwa [show i+1+b=i+(b+1)from by omega,show i+1+a=i+(a+1)from by omega]at this
inductive PC(ops:Array Oper)(nt:Nat)(ts:List Nat)(sl:Nat->Option ak):Option (Nat×Bool)->Bool->Prop
 |none:PC ops nt ts sl none true
 |lit {j g:Nat} {b t:Bool} {d:ak} (h1:Fl ops j=some g) (h2:ajX g nt=true) (h3:g∈ts) (h4:sl g=some d) (h5:asBool d=some t):PC ops nt ts sl (some (j,b)) (decide (t=b))
 |undef {j g:Nat} {b:Bool} (h1:Fl ops j=some g) (h2:ajX g nt=true) (h3:g∈ts) (h4:sl g=some .undef):PC ops nt ts sl (some (j,b)) false
structure PD(P:Program)(ops:Array Oper)(nt:Nat)(U:Nat->Prop)(o:Oper)(sl:Nat->Option ak)(ob:Nat->Option (Nat×Th))(n:Nat)(x:kM):Prop where
 dst:x.dst=o.dst
 Ht:Bk nt o.dst=true
 on:∃b,PC ops nt x.ts sl o.guard b/\(b=true->Ox P U o sl ob n x)/\(b=false->x.e={dst:= .undef})
section
variable {P:Program} {nt:Nat} {ops:Array Oper}
theorem M2{ρ:Nat->Value}{o:Oper}{w:World}{QQ:Value->World->Prop}{a:Act}{K:Act->World->Prop}{Q:Exit->Act->World->Prop}(h:cd P ρ ⟨o.dst,o.op,o.type,o.pos,o.after,none⟩ w QQ)(hf:Fr nt a ρ)
 (hk:∀v w',QQ v w'->K (a.put o.dst v) w'):o.wp P a w K Q:=by
 unfold Oper.wp;rw[hf.eval];unfold cd at h;have e:execOp (ev ρ) o=execOp (ev ρ) ⟨o.dst,o.op,o.type,o.pos,o.after,none⟩:=rfl;rw[e];generalize(execOp (ev ρ) ⟨o.dst,o.op,o.type,o.pos,o.after,none⟩).run P w=r at*
 cases r with
 |halt x w'=>exact h.elim
 |ok x w'=>
  cases x<;>first
   |exact h.elim
   |skip
  case value v=>exact hk v w' h.2
  case skip=>exact hk undef w' h.2
  case enter f args=>
   refine h.mono fun e tC ⟨v,he,hv⟩=>?_
   subst he;exact hk v tC hv
theorem au.sub{U:Nat->Prop}{H:ao}{F:Nat->Prop}{w:World}{ob LY:Nat->Option (Nat×Th)}{n m:Nat}(h:au U H F w ob n)(hR:∀o x,LY o=some x->ob o=some x)(wT:∀k,m<=k->k<m+16->H.val k=none/\H.con k=none):au U H F w LY m:=
 ⟨fun o s t ho=>h.obj o s t (hR _ _ ho),fun o o' s s' t t' v v' bN ho iN=>h.apart o o' s s' t t' v v' bN (hR _ _ ho) (hR _ _ iN),wT,h.lt,h.new,h.gl⟩
structure Inv(G:Nat->Prop)(w0:World)(F0:Nat->Prop)(es:List kM)(sl0:Nat->Option ak)(ob0:Nat->Option (Nat×Th))(n0:Nat)(H:ao)(F:Nat->Prop)(w:World)(ρ:Nat->Value)(S:Nat->Bool)(H':ao)(F':Nat->Prop)(w':World)(b7:Nat->Value):Prop where
 slot:∀t d,fC S 0 es sl0 t=some d->ai H' F' w' d (b7 t)
 ob:au (UU G w0) H' F' w' (eV S 0 es ob0) (n0+16*es.length)
 all:gJ H' (n0+16*es.length)
 fresh:∀i,i<es.length->S i=false->∀m,n0+16*i<=m->m<n0+16*i+16->H'.val m=none/\H'.con m=none
 glob:JU G w0 F0 w' F'
 keeps:cz H F w H' F' w'
 same:∀t,(∀x∈es,x.dst≠some t)->b7 t=ρ t
def ins(S:Nat->Bool)(i:Nat):Nat->Bool:=fun j=>bif aje j i then true else S j
theorem oO{S:Nat->Bool}{i:Nat}:ins S i i=true:=by simp[ins]
theorem oP{S:Nat->Bool}{i j:Nat}(h:j≠i):ins S i j=S j:=by
 unfold ins
 cases hb:aje j i with
 |true=>exact absurd (beq_true hb) h
 |false=>rfl
section
variable {G:Nat->Prop} {w0:World} {F0:Nat->Prop} {es:List kM} {sl0:Nat->Option ak} {ob0:Nat->Option (Nat×Th)} {n0:Nat} {H:ao} {F:Nat->Prop} {w:World} {ρ:Nat->Value} {ms:List Nat}
theorem By{i:Nat}{x:kM}(h:es[i]? =some x):es=es.take i++x::es.drop (i+1)/\(es.take i).length=i:=by
 have al:i<es.length:=(ai7.1 h).1;have hx:es[i]=x:=(ai7.1 h).2;refine⟨?_,by simp;omega⟩;rw[<-hx,<-ajK al,akz]
theorem yc{S:Nat->Bool}{i:Nat}{x:kM}(hx:es[i]? =some x)(Kp:∀t,x.dst=some t->∀j y,es[j]? =some y->y.dst=some t->S j=true->j<i)(t:Nat):
 fC (ins S i) 0 es sl0 t=if x.dst=some t then some x.e.dst else fC S 0 es sl0 t:=by
 by_cases hd:x.dst=some t
 .rw[if_pos hd];obtain⟨e1,e2⟩:=By hx;rw[e1,nY,e2,ajC]
  show fC (ins S i) (i+1) (es.drop (i+1)) _ t=_
  rw[nX fun k y hy PE=>by
   rw[oP (by omega)]
   cases hS:S (i+1+k)with
   |false=>rfl
   |true=>
    have:=Kp t hd (i+1+k) y (by rw[<-hy,ajp]) PE hS
    omega]
  rw[oO,rB.2 hd];rfl
 .rw[if_neg hd]
  refine ld rfl fun k y hy PE=>?_
  rw[ajC]
  refine oP fun e=>?_
  subst e;rw[hx]at hy;obtain rfl:=ai4 hy;exact hd PE
theorem Bz{S:Nat->Bool}{i:Nat}{x:kM}(hx:es[i]? =some x)(hS:S i=false)(Kp:∀o,o∈x.mut->∀j y,es[j]? =some y->o∈y.mut->S j=true->j<i)(o s:Nat)(t:Th)(h:eV (ins S i) 0 es ob0 o=some (s,t)):
 find x.e.make o=some (s,t)\/(o∉x.e.eat/\eV S 0 es ob0 o=some (s,t)/\find x.e.make o=none):=by
 by_cases hd:o∈x.mut
 .obtain⟨e1,e2⟩:=By hx
  have late:∀S':Nat->Bool,(∀j,j≠i->S' j=S j)->∀f,eV S' (i+1) (es.drop (i+1)) f o=f o:=fun S' hS' f=>nB fun k y hy PE=>by
   rw[hS' _ (by omega)]
   cases Te:S (i+1+k)with
   |false=>rfl
   |true=>
    have:=Kp o hd (i+1+k) y (by rw[<-hy,ajp]) PE Te;omega
  have pre:eV (ins S i) 0 (es.take i) ob0 o=eV S 0 (es.take i) ob0 o:=kN rfl fun k y hy _=>by
   rw[ajC]
   refine oP fun e=>?_
   have:=(ai7.1 hy).1;omega
  have all:eV S 0 es ob0 o=eV S 0 (es.take i) ob0 o:=by
   conv=>lhs;rw[e1]
   rw[jy,e2,ajC]
   show eV S (i+1) (es.drop (i+1)) _ o=_
   rw[late S (fun _ _=>rfl),hS];rfl
  conv at h=>lhs;rw[e1]
  rw[jy,e2,ajC]at h;change eV (ins S i) (i+1) (es.drop (i+1)) _ o=_ at h;rw[late (ins S i) (fun j hj=>oP hj),oO,cond_true,pre,<-all]at h
  cases hm:find x.e.make o with
  |some y=>rw[hm]at h;exact .inl h
  |none=>
   rw[hm,akc]at h
   cases he:ma o x.e.eat with
   |true=>rw[he]at h;cases h
   |false=>
    rw[he,cond_false]at h;exact .inr ⟨fun e=>(by rw[dJ.2 e]at he;cases he),h,rfl⟩
 .right
  have h1:find x.e.make o=none:=by
   cases hm:find x.e.make o with
   |none=>rfl
   |some y=>exact absurd (by simp[kM.mut,pE hm]) hd
  refine⟨fun e=>hd (by simp[kM.mut,e]),?_,h1⟩;rw[<-h];refine(kN rfl fun k y hy PE=>?_).symm;rw[ajC]
  refine oP fun e=>?_
  subst e;rw[hx]at hy;obtain rfl:=ai4 hy;exact hd PE
theorem nC{l l':List Nat}{o:Nat}(h:o∈l)(h':o∈l'):Bx l l'=true:=by
 unfold Bx;rw[List.any_eq_true];exact⟨o,h,dJ.2 h'⟩
theorem sQ{i j:Nat}(h:i<=j):ajX j i=false:=by
 cases hb:ajX j i with
 |false=>rfl
 |true=>have:j<i:=by simpa using hb
        omega
def Hu(_:Nat):Bool:=true
theorem DO{es:List kM}{i:Nat}(hi:i<=es.length):fC (fun j=>ajX j i) 0 es sl0=fC Hu 0 (es.take i) sl0:=by
 funext t
 conv=>lhs;rw[<-akz i es]
 rw[nY,nX (S:=fun j=>ajX j i) fun k x _ _=>sQ (by simp;omega)]
 refine ld rfl fun k x hx _=>?_
 have:=(ai7.1 hx).1;simp at this;simp[Hu];omega
theorem yd{es:List kM}{i:Nat}(hi:i<=es.length):eV (fun j=>ajX j i) 0 es ob0=eV Hu 0 (es.take i) ob0:=by
 funext t
 conv=>lhs;rw[<-akz i es]
 rw[jy,nB (S:=fun j=>ajX j i) fun k x _ _=>sQ (by simp;omega)]
 refine kN rfl fun k x hx _=>?_
 have:=(ai7.1 hx).1;simp at this;simp[Hu];omega
theorem Hv{S:Nat->Bool}{i q:Nat}(hA:∀k y,k<i->es[k]? =some y->q∈y.mut->S k=true\/q∈y.soft)
 (hs:∀k y,es[k]? =some y->q∈y.soft->q∈y.mut->∃z z',eV Hu 0 (es.take k) ob0 q=some z/\find y.e.make q=some z'/\gx z z'):
 ∀m,m<=i->m<=es.length->∀z,eV Hu 0 (es.take m) ob0 q=some z->∃z',eV S 0 (es.take m) ob0 q=some z'/\gx z z':=by
 intro m
 induction m with
 |zero=>intro _ _ z hz;exact⟨z,hz, .inl rfl⟩
 |succ m ih=>
  intro hm hl z hz
  have al:m<es.length:=by omega
  have hy:es[m]? =some es[m]:=ai5 al
  have e1:es.take (m+1)=es.take m++[es[m]]:=by rw[List.take_add_one,hy];rfl
  have el:(es.take m).length=m:=by simp;omega
  rw[e1,jy,el,ajC]at hz⊢;generalize hgy:es[m]=y at*;have ez:(find y.e.make q).or (bif ma q y.e.eat then none else eV Hu 0 (es.take m) ob0 q)=some z:=hz
  show∃z',(bif S m then(find y.e.make q).or (bif ma q y.e.eat then none else eV S 0 (es.take m) ob0 q)else eV S 0 (es.take m) ob0 q)=some z'/\gx z z'
  by_cases Kq:q∈y.mut
  .cases hSm:S m with
   |true=>
    rw[cond_true]
    cases wK:find y.e.make q with
    |some x=>rw[wK]at ez;exact⟨z,ez, .inl rfl⟩
    |none=>
     have hk:q∉qe y.e.make:=fun hk=>by
      have:∀l:List (Nat×(Nat×Th)),q∈qe l->find l q≠none:=by
       intro l
       induction l with
       |nil=>intro h;cases h
       |cons p l ih=>
        obtain⟨o',x⟩:=p;intro h;rw[aA];split
        .simp
        .rename_i bN
         rcases ajq.1 h with h|h
         .exact absurd h.symm bN
         .exact ih h
      exact this _ hk wK
     have he:ma q y.e.eat=true:=dJ.2 (by
      rcases ajs.1 Kq with h|h
      .exact h
      .exact absurd h hk)
     rw[wK,he]at ez;cases ez
   |false=>
    rw[cond_false]
    rcases hA m y (by omega) hy Kq with h|h
    .rw[hSm]at h;cases h
    .obtain⟨x,x',h1,h2,h3⟩:=hs m y hy h Kq;rw[h2]at ez;obtain rfl:=ai4 ez;obtain⟨z',h4,h5⟩:=ih (by omega) (by omega) x h1;exact⟨z',h4,h3.symm.trans h5⟩
  .have h1:find y.e.make q=none:=by
    cases hm:find y.e.make q with
    |none=>rfl
    |some y=>exact absurd (by simp[kM.mut,pE hm]) Kq
   have h2:ma q y.e.eat=false:=by
    cases hb:ma q y.e.eat with
    |false=>rfl
    |true=>exact absurd (by simp[kM.mut,dJ.1 hb]) Kq
   rw[h1,h2,akc,cond_false]at ez;obtain⟨z',h4,h5⟩:=ih (by omega) (by omega) z ez;refine⟨z',?_,h5⟩;rw[h1,h2,akc,cond_false,h4]
   cases S m<;>rfl
theorem Kr(PF:Hs [] ops.toList=some ms)(hp:uE ms 0 es=true)(hlen:es.length=ops.size){S:Nat->Bool}(hS:DN ops (fun j=>S j=true)){i:Nat}{o:Oper}{x:kM}(ho:ops[i]? =some o)(hx:es[i]? =some x)(Hw:S i=false)
 (Fq:∀e∈o.after,akG .any e=true->S e.on=true)(Ks:∀k y,es[k]? =some y->∀q,q∈y.soft->q∈y.mut->∃z z',eV Hu 0 (es.take k) ob0 q=some z/\find y.e.make q=some z'/\gx z z')(iK:PD P ops nt (UU G w0) o (fC (fun j=>ajX j i) 0 es sl0) (eV (fun j=>ajX j i) 0 es ob0) (n0+16*i) x)
 {H':ao}{F':Nat->Prop}{w':World}{b7:Nat->Value}{a:Act}(hf:Fr nt a b7)(hinv:Inv G w0 F0 es sl0 ob0 n0 H F w ρ S H' F' w' b7){K:Act->World->Prop}{Q:Exit->Act->World->Prop}
 (hk:∀Vf rC si AX tC,Fr nt Vf rC->Inv G w0 F0 es sl0 ob0 n0 H F w ρ (ins S i) si AX tC rC->K Vf tC):wpOp P ops Q i K a w':=by
 have Tf:i<es.length:=(ai7.1 hx).1
 have up:∀j y,es[j]? =some y->j<i->conflict y x=true->S j=true:=fun j y hy WB hc=>by
  have:=qC hp j i y x WB hy hx hc;rw[ajC,ajC]at this;exact Ko PF hS i o ho Fq j this
 have down:∀j y,es[j]? =some y->i<j->conflict x y=true->S j=true->False:=fun j y hy JK hc hj=>by
  have:=qC hp i j x y JK hx hy hc;rw[ajC,ajC]at this
  have MR:j<ops.size:=by have:=(ai7.1 hy).1;omega
  have h2:=Ko PF hS j _ (ajB MR) (fun e he hb=>hS j hj _ (ajB MR) e he hb) i this;rw[Hw]at h2;cases h2
 have Oy:∀t,x.dst=some t->∀j y,es[j]? =some y->y.dst=some t->S j=true->j<i:=fun t ht j y hy Vg hj=>by
  rcases Nat.lt_trichotomy j i with h|h|h
  .exact h
  .subst h;rw[Hw]at hj;cases hj
  .exact(down j y hy h (by unfold conflict;simp[je,ht,Vg,dJ]) hj).elim
 have Oz:∀q,q∈x.mut->∀j y,es[j]? =some y->q∈y.mut->S j=true->j<i:=fun q hq j y hy OA hj=>by
  rcases Nat.lt_trichotomy j i with h|h|h
  .exact h
  .subst h;rw[Hw]at hj;cases hj
  .exact(down j y hy h (by unfold conflict;rw[nC hq (by simp[OA])];simp) hj).elim
 have PG:∀t,t∈x.ts->fC (fun j=>ajX j i) 0 es sl0 t=fC S 0 es sl0 t:=fun t ht=>ld rfl fun j y hy Vg=>by
  rw[ajC]
  rcases Nat.lt_trichotomy j i with h|h|h
  .rw[up j y hy h (by unfold conflict;simp[je,Vg,dJ,ht])];simpa using h
  .subst h;rw[Hw];exact sQ (ai8 _)
  .have:S j=false:=by
    cases hj:S j with
    |false=>rfl
    |true=>exact(down j y hy h (by unfold conflict;simp[je,Vg,dJ,ht]) hj).elim
   rw[this];exact sQ (by omega)
 have WC:∀q,q∈x.os->eV (fun j=>ajX j i) 0 es ob0 q=eV S 0 es ob0 q:=fun q hq=>kN rfl fun j y hy OA=>by
  rw[ajC]
  rcases Nat.lt_trichotomy j i with h|h|h
  .rw[up j y hy h (by unfold conflict;rw[nC OA (by simp[hq])];simp)];simpa using h
  .subst h;rw[Hw];exact sQ (ai8 _)
  .have:S j=false:=by
    cases hj:S j with
    |false=>rfl
    |true=>exact(down j y hy h (by unfold conflict;rw[nC (l:=x.os++x.ls++x.mut) (l':=y.mut) (by simp[hq]) OA];simp) hj).elim
   rw[this];exact sQ (by omega)
 have WD:∀q z,q∈x.ls->eV (fun j=>ajX j i) 0 es ob0 q=some z->∃z',eV S 0 es ob0 q=some z'/\gx z z':=fun q z hq hz=>by
  rw[yd (by omega)]at hz
  obtain⟨z',h1,h2⟩:=Hv (S:=S) (i:=i) (q:=q) (fun k y hk hy OA=>by
   by_cases hsf:q∈y.soft
   .exact .inr hsf
   .refine .inl (up k y hy hk ?_)
    have:q∈y.Tc:=List.mem_filter.2 ⟨OA,by
     cases hb:ma q y.soft with
     |false=>rfl
     |true=>exact absurd (dJ.1 hb) hsf⟩
    unfold conflict;rw[nC this hq]
    simp) (fun k y hy h1 h2=>Ks k y hy q h1 h2) i (ai8 _) (by omega) z hz
  refine⟨z',?_,h2⟩;rw[<-h1]
  conv=>lhs;rw[<-akz i es]
  rw[jy]
  refine nB fun k y hy OA=>?_
  have Ds:es[i+k]? =some y:=by rw[<-hy,ajp]
  have el:(es.take i).length=i:=by simp;omega
  rw[el,ajC]
  cases Te:S (i+k)with
  |false=>rfl
  |true=>
   rcases Nat.eq_zero_or_pos k with rfl|hk
   .rw[aj7,Hw]at Te;cases Te
   .exact(down (i+k) y Ds (by omega) (by unfold conflict;rw[nC (l:=x.os++x.ls++x.mut) (l':=y.mut) (by simp[hq]) OA];simp) Te).elim
 obtain⟨b,hg,WE,Jx⟩:=iK.on
 have Tg:akA o (yielded ops a.tmps)=b:=by
  generalize WG:o.guard=gd at hg
  cases hg with
  |none=>unfold akA;rw[WG]
  |lit h1 h2 h3 h4 h5=>
   rename_i j g b' t d;rw[PG g h3]at h4;have hy:=nP hf h1 h2 (nk h5 (hinv.slot g _ h4));unfold akA;rw[WG];simp only[hy]
   cases t<;>cases b'<;>rfl
  |undef h1 h2 h3 h4=>
   rename_i j g b';rw[PG g h3]at h4;have hy:=mT hf h1 h2 (show b7 g=undef from hinv.slot g _ h4);unfold akA;rw[WG];simp only[hy]
   cases b'<;>rfl
 have uS:∀v,Fr nt (a.put o.dst v) (ub b7 o.dst v):=fun v=>by
  have hb:=iK.Ht
  cases hd:o.dst with
  |none=>exact hf
  |some d=>rw[hd]at hb;exact hf.put hb v
 have BA:∀t,x.dst=some t↔o.dst=some t:=fun t=>by rw[iK.dst]
 unfold wpOp;simp only[ho,Tg]
 cases b with
 |false=>
  simp only[ajb,if_false];have he:=Jx rfl;refine hk _ (ub b7 o.dst undef) H' F' w' (uS undef) ⟨fun t d ht=>?_,?_,hinv.all,fun k hk vJ=>?_,hinv.glob,hinv.keeps,fun t ht=>?_⟩
  .rw[yc hx Oy]at ht;split at ht
   .rename_i PH;obtain rfl:=ai4 ht;rw[he]
    show ub b7 o.dst undef t=undef
    rw[(BA t).1 PH]
    show CU b7 t undef t=undef
    rw[oD,if_pos rfl]
   .rename_i PH;rw[pD (fun e=>PH ((BA t).2 e))];exact hinv.slot t d ht
  .refine hinv.ob.sub (fun q y hq=>?_) (fun m hm _=>hinv.all m hm)
   rcases Bz hx Hw Oz q y.1 y.2 hq with h1|⟨_,h2,_⟩
   .rw[he]at h1;cases h1
   .exact h2
  .by_cases e:k=i
   .subst e;rw[oO]at vJ;cases vJ
   .rw[oP e]at vJ;exact hinv.fresh k hk vJ
  .rw[pD (fun e=>ht x (akj hx) ((BA t).2 e))];exact hinv.same t ht
 |true=>
  simp only[if_true]
  left
  obtain⟨_,⟨Wv,LY,M0,DM,bx⟩,_⟩:=WE rfl
  obtain⟨Ww,fN,bx⟩:=bx H' F' w' b7 (eV S 0 es ob0) (fun q y hq=>by
   obtain⟨h1,h2⟩:=DM q y hq;by_cases Kt:q∈x.os
   .exact⟨y,by rw[<-WC q Kt];exact h2, .inl rfl,fun _=>rfl⟩
   .rcases h1 with h1|h1
    .exact absurd h1 Kt
    .obtain⟨z',h3,h4⟩:=WD q y h1 h2
     exact⟨z',h3,h4,fun h=>absurd h Kt⟩) (fun t d ht=>by
   obtain⟨h1,h2⟩:=M0 t d ht;rw[PG t h1]at h2
   exact hinv.slot t d h2) (hinv.ob.sub (fun _ _ h=>h) (hinv.fresh i Tf Hw))
  have Bh:=hinv.ob.sub fN (hinv.fresh i Tf Hw)
  refine M2 bx hf fun v tC ⟨si,AX,qc⟩=>?_
  .have kD:=qc.lr.step Bh.lt Bh.gK
   have dX:gJ si (n0+16*es.length):=fun m hm=>by
    have h1:=hinv.all m hm;have h2:=qc.fresh m (.inr (by omega));exact⟨h2.1 h1.1,h2.2 h1.2⟩
   refine hk _ (ub b7 o.dst v) si AX tC (uS v) ⟨fun t d ht=>?_,?_,dX,fun k hk vJ m WH WI=>?_,hinv.glob.lr qc.lr Bh.gp,hinv.keeps.trans ⟨qc.lr.iM,kD⟩,fun t ht=>?_⟩
   .rw[yc hx Oy]at ht;split at ht
    .rename_i PH;obtain rfl:=ai4 ht;rw[(BA t).1 PH]
     show ai si AX tC _ (CU b7 t v t)
     rw[oD,if_pos rfl];exact qc.dst
    .rename_i PH;rw[pD (fun e=>PH ((BA t).2 e))];exact(hinv.slot t d ht).keep qc.lr.iM kD
   .exact hinv.ob.Jn fN qc (fun q s t hq=>Bz hx Hw Oz q s t hq) fun m hm _=>dX m hm
   .by_cases e:k=i
    .subst e;rw[oO]at vJ;cases vJ
    .rw[oP e]at vJ;have h1:=hinv.fresh k hk vJ m WH WI;have h2:=qc.fresh m (by omega);exact⟨h2.1 h1.1,h2.2 h1.2⟩
   .rw[pD (fun e=>ht x (akj hx) ((BA t).2 e))];exact hinv.same t ht
end
end
end Go.Proofs.YtilaieogabgamaaGreatDoor
namespace Go.Proofs.YtilaieogabgamaaGreatDoor
open Go Go.RowKit
def sR(dst:Option Nat)(g:Nat):kM:={dst:=dst,ts:=[g],os:=[],e:={dst:= .undef}}
noncomputable def mE{R:Type}{P:Program}(E:Env P)(nt:Nat)(ops:Array Oper):List Oper->State->List kM->(State->Option R)->Option R
 |[],st,acc,k=>bif sP ops.toList acc then k st else none
 |o::os,st,acc,k=>bif Bk nt o.dst then(match o.guard with
  |none=>yb E o.dst o.op [] st (fun e x=>mE E nt ops os (st.apply o.dst e) (acc++[x]) k)
  |some (j,b)=>match Fl ops j with
   |none=>none
   |some g=>bif ajX g nt then(match find st.ah g with
    |some .undef=>mE E nt ops os (st.apply o.dst {dst:= .undef}) (acc++[sR o.dst g]) k
    |some d=>match asBool d with
     |some t=>if t=true then
       (bif b then yb E o.dst o.op [g] (st.put (some g) (dD true)) (fun e x=>mE E nt ops os ((st.put (some g) (dD true)).apply o.dst e) (acc++[x]) k)
         else mE E nt ops os ((st.put (some g) (dD true)).apply o.dst {dst:= .undef}) (acc++[sR o.dst g]) k)
      else
       (bif b then mE E nt ops os ((st.put (some g) (dD false)).apply o.dst {dst:= .undef}) (acc++[sR o.dst g]) k
         else yb E o.dst o.op [g] (st.put (some g) (dD false)) (fun e x=>mE E nt ops os ((st.put (some g) (dD false)).apply o.dst e) (acc++[x]) k))
     |none=>none
    |none=>none)else none)else none
section
variable {P:Program} {nt:Nat} {ops:Array Oper} {R:Type}
variable {G:Nat->Prop} {w0:World} {F0:Nat->Prop} {sl0:Nat->Option ak} {ob0:Nat->Option (Nat×Th)} {n0:Nat}
structure Lex(P:Program)(nt:Nat)(ops:Array Oper)(U:Nat->Prop)(sl0:Nat->Option ak)(ob0:Nat->Option (Nat×Th))(n0:Nat)(es:List kM)(st:State):Prop where
 slot:∀t,find st.ah t=fC Hu 0 es sl0 t
 ob:∀o,find st.objs o=eV Hu 0 es ob0 o
 nxt:st.nxt=n0+16*es.length
 ok:∀i o x,ops[i]? =some o->es[i]? =some x->PD P ops nt U o (fC Hu 0 (es.take i) sl0) (eV Hu 0 (es.take i) ob0) (n0+16*i) x
theorem DP{S:Nat->Bool}{es:List kM}{x:kM}{f:Nat->Option ak}{t:Nat}(h:S es.length=true):fC S 0 (es++[x]) f t=if x.dst=some t then some x.e.dst else fC S 0 es f t:=by
 rw[nY,ajC]
 show(bif S es.length&&je (some t) x.dst.toList then some x.e.dst else fC S 0 es f t)=_
 rw[h,Bool.true_and];by_cases hd:x.dst=some t
 .rw[if_pos hd,rB.2 hd];rfl
 .rw[if_neg hd]
  cases hb:je (some t) x.dst.toList with
  |false=>rfl
  |true=>exact absurd (rB.1 hb) hd
theorem Hx{S:Nat->Bool}{es:List kM}{x:kM}{f:Nat->Option (Nat×Th)}{o:Nat}(h:S es.length=true):eV S 0 (es++[x]) f o=(find x.e.make o).or (bif ma o x.e.eat then none else eV S 0 es f o):=by
 rw[jy,ajC]
 show(bif S es.length then _ else _)=_
 rw[h];rfl
theorem sS{st:State}{dst:Option Nat}{e:dN}{t:Nat}:find (st.apply dst e).ah t=if dst=some t then some e.dst else find st.ah t:=by
 cases dst with
 |none=>simp[State.apply]
 |some d=>
  show find ((d,e.dst)::st.ah) t=_
  rw[aA];by_cases h:d=t
  .simp[h]
  .simp[h]
theorem uf{st:State}{dst:Option Nat}{e:dN}{o:Nat}:find (st.apply dst e).objs o=(find e.make o).or (bif ma o e.eat then none else find st.objs o):=by
 show find (e.make++del e.eat st.objs) o=_
 rw[gG]
 congr 1
 cases hb:ma o e.eat with
 |true=>
  rw[cond_true]
  cases h:find (del e.eat st.objs) o with
  |none=>rfl
  |some x=>exact absurd (dJ.1 hb) (gH.1 h).1
 |false=>
  rw[cond_false]
  have hn:o∉e.eat:=fun h=>by rw[dJ.2 h]at hb;cases hb
  cases h:find st.objs o with
  |some x=>exact gH.2 ⟨hn,h⟩
  |none=>
   cases h2:find (del e.eat st.objs) o with
   |none=>rfl
   |some x=>rw[(gH.1 h2).2]at h;cases h
theorem Lex.snoc{U:Nat->Prop}{es:List kM}{st:State}{x:kM}{o:Oper}(h:Lex P nt ops U sl0 ob0 n0 es st)(ho:ops[es.length]? =some o)(hd:x.dst=o.dst)
 (my:PD P ops nt U o (find st.ah) (find st.objs) st.nxt x):Lex P nt ops U sl0 ob0 n0 (es++[x]) (st.apply o.dst x.e):=by
 refine⟨fun t=>?_,fun q=>?_,?_,fun i o' y iN hy=>?_⟩
 .rw[sS,DP rfl,hd,h.slot t]
 .rw[uf,Hx rfl,h.ob q]
 .show st.nxt+16=_
  rw[h.nxt,ai6,ajh];omega
 .rcases Nat.lt_or_ge i es.length with al|hge
  .rw[ajA al]at hy;rw[ajy (by omega)];exact h.ok i o' y iN hy
  .have hi:i=es.length:=by
    have:=(ai7.1 hy).1;simp at this;omega
   subst hi;simp at hy;subst hy;rw[ho]at iN;obtain rfl:=ai4 iN;rw[List.take_left']
   .rw[<-funext h.slot,<-funext h.ob,<-h.nxt];exact my
   .rfl
theorem Lex.put{U:Nat->Prop}{es:List kM}{st:State}{g:Nat}{d:ak}(h:Lex P nt ops U sl0 ob0 n0 es st)(hg:find st.ah g=some d):Lex P nt ops U sl0 ob0 n0 es (st.put (some g) d):=by
 refine⟨fun t=>?_,h.ob,h.nxt,h.ok⟩
 show find ((g,d)::st.ah) t=_
 rw[aA,<-h.slot t];split
 .rename_i e;subst e;exact hg.symm
 .rfl
theorem Hy{d:ak}{t:Bool}(h:asBool d=some t):d=dD t:=by
 unfold asBool at h
 split at h<;>cases h
 rfl
theorem BB{E:Env P}{q:R}{k:State->Option R}:{l:List Oper}->{st:State}->{es:List kM}->mE E nt ops l st es k=some q->(∀j,l[j]? =ops[es.length+j]?)->Lex P nt ops (UU G w0) sl0 ob0 n0 es st->
 ∃mw bU,k bU=some q/\sP ops.toList mw=true/\Lex P nt ops (UU G w0) sl0 ob0 n0 mw bU/\mw.length=es.length+l.length
 |[],st,es,h,_,hl=>by
  unfold mE at h;obtain⟨h1,h2⟩:=aD h;exact⟨es,st,h2,h1,hl,rfl⟩
 |o::l,st,es,h,nS,hl=>by
  have ho:ops[es.length]? =some o:=by simpa using(nS 0).symm
  have Ti:∀x:kM,∀j,l[j]? =ops[(es++[x]).length+j]? :=fun x j=>by
   have:=nS (j+1);rw[ai6,ajh,show es.length+1+j=es.length+(j+1)from by omega];simpa using this
  have go:∀{nA:State}{x:kM},mE E nt ops l nA (es++[x]) k=some q->Lex P nt ops (UU G w0) sl0 ob0 n0 (es++[x]) nA->∃mw bU,k bU=some q/\sP ops.toList mw=true/\Lex P nt ops (UU G w0) sl0 ob0 n0 mw bU/\mw.length=es.length+(o::l).length:=by
   intro nA x h1 h2;obtain⟨mw,bU,a1,a2,a3,a4⟩:=BB h1 (Ti x) h2;refine⟨mw,bU,a1,a2,a3,?_⟩;rw[a4,ai6,ajh,ajk];omega
  unfold mE at h;obtain⟨hd,h'⟩:=aD h;clear h
  have on:∀{nA:State}{gs:List Nat},yb E o.dst o.op gs nA (fun e x=>mE E nt ops l (nA.apply o.dst e) (es++[x]) k)=some q->Lex P nt ops (UU G w0) sl0 ob0 n0 es nA->(∀ts:List Nat,(∀g∈gs,g∈ts)->PC ops nt ts (find nA.ah) o.guard true)->∃mw bU,k bU=some q/\sP ops.toList mw=true/\Lex P nt ops (UU G w0) sl0 ob0 n0 mw bU/\mw.length=es.length+(o::l).length:=by
   intro nA gs h1 h2 h3;obtain⟨e,x,a1,a2,a3,a4⟩:=Kl (U:=UU G w0) h1;subst a2;exact go a1 (h2.snoc ho a4.dst ⟨a4.dst,hd,true,h3 _ a3,fun _=>a4,fun h=>by cases h⟩)
  have off:∀{nA:State}{g:Nat},mE E nt ops l (nA.apply o.dst {dst:= .undef}) (es++[sR o.dst g]) k=some q->Lex P nt ops (UU G w0) sl0 ob0 n0 es nA->PC ops nt [g] (find nA.ah) o.guard false->∃mw bU,k bU=some q/\sP ops.toList mw=true/\Lex P nt ops (UU G w0) sl0 ob0 n0 mw bU/\mw.length=es.length+(o::l).length:=by
   intro nA g h1 h2 h3;exact go (x:=sR o.dst g) h1 (h2.snoc (x:=sR o.dst g) ho rfl ⟨rfl,hd,false,h3,fun h=>(by cases h),fun _=>rfl⟩)
  split at h'
  .rename_i Hz
   exact on h' hl fun ts _=>by rw[Hz];exact .none
  .rename_i j b Hz;split at h'
   case h_1=>cases h'
   rename_i g Oq;obtain⟨Ot,h⟩:=aD h';clear h';split at h
   .rename_i hu;exact off h hl (by rw[Hz];exact .undef Oq Ot (by simp) hu)
   .rename_i d fO;split at h
    case h_2=>cases h
    rename_i t ht;obtain rfl:=Hy ht
    have Tj:∀v:Bool,find (st.put (some g) (dD v)).ah g=some (dD v):=fun v=>by
     show find ((g,dD v)::st.ah) g=_
     rw[aA,if_pos rfl]
    have M3:∀(v:Bool)(ts:List Nat)(r:Bool),g∈ts->r=decide (v=b)->PC ops nt ts (find (st.put (some g) (dD v)).ah) (some (j,b)) r:=fun v ts r hg hr=>by
     rw[hr];exact .lit Oq Ot hg (Tj v) rfl
    split at h
    .rename_i MX;subst MX;have IB:=hl.put fO
     cases b with
     |true=>rw[cond_true]at h;exact on h IB fun ts WJ=>by rw[Hz];exact M3 true ts true (WJ g (by simp)) rfl
     |false=>rw[cond_false]at h;exact off h IB (by rw[Hz];exact M3 true [g] false (by simp) rfl)
    .rename_i MX
     have MX:t=false:=by cases t<;>simp_all
     subst MX;have IB:=hl.put fO
     cases b with
     |true=>rw[cond_true]at h;exact off h IB (by rw[Hz];exact M3 false [g] false (by simp) rfl)
     |false=>rw[cond_false]at h;exact on h IB fun ts WJ=>by rw[Hz];exact M3 false ts true (WJ g (by simp)) rfl
   .cases h
def Tk(m:Nat)(listed:Array Bool):Nat:=((List.range m).filter fun j=> !listed.getD j false).length
theorem Fs{m i:Nat}{listed:Array Bool}(hi:i<m)(hs:listed.size=m)(h:listed.getD i false=false):Tk m (listed.setIfInBounds i true)+1<=Tk m listed:=by
 unfold Tk
 have fN:∀l:List Nat,(l.filter fun j=> !(listed.setIfInBounds i true).getD j false).length<=(l.filter fun j=> !listed.getD j false).length/\(i∈l->(l.filter fun j=> !(listed.setIfInBounds i true).getD j false).length+1<=(l.filter fun j=> !listed.getD j false).length):=by
  intro l
  induction l with
  |nil=>exact⟨ai8 _,fun h=>by cases h⟩
  |cons j l ih=>
   by_cases hj:i=j
   .subst hj
    have e1:(listed.setIfInBounds i true).getD i false=true:=by simp[ajM,hs,hi]
    rw[List.filter_cons,List.filter_cons,e1,h];simp only[Bool.not_true,ajb,if_false,Bool.not_false,if_true,ajk];exact⟨by omega,fun _=>by omega⟩
   .have e1:(listed.setIfInBounds i true).getD j false=listed.getD j false:=getD_set_ne false hj;rw[List.filter_cons,List.filter_cons,e1]
    cases listed.getD j false with
    |true=>
     simp only[Bool.not_true,ajb,if_false];exact⟨ih.1,fun hm=>ih.2 (by simpa[hj]using hm)⟩
    |false=>
     simp only[Bool.not_false,if_true,ajk];exact⟨by omega,fun hm=>by have:=ih.2 (by simpa[hj]using hm);omega⟩
 exact(fN _).2 (by simpa using hi)
theorem M4{E:Env P}{id:Nat}{q:R}{k:State->Option R}{st:State}{H:ao}{F:Nat->Prop}{w:World}{ρ:Nat->Value}{Q:Exit->(Nat->Value)->World->Prop}(hm:P.follows .mixedOrders=true)
 (h:mE E nt ops ops.toList st [] k=some q)(hh:cE G w0 F0 H F w ρ st)
 (hk:∀bU H' F' w' b7,k bU=some q->cE G w0 F0 H' F' w' b7 bU->cz H F w H' F' w'->(∀t,(∀o∈ops.toList,o.dst≠some t)->b7 t=ρ t)->Q .normal b7 w'):qn P nt (.region id ops true) Q ρ w:=by
 obtain⟨es,bU,JO,jJ,DQ,hlen⟩:=BB (G:=G) (w0:=w0) (sl0:=find st.ah) (ob0:=find st.objs) (n0:=st.nxt) h (fun j=>by simp) ⟨fun _=>rfl,fun _=>rfl,by simp,fun i o x _ hx=>by simp at hx⟩;simp only[List.length_nil,ajC,Array.length_toList]at hlen;unfold sP at jJ;split at jJ
 case h_2=>cases jJ
 rename_i ms PF
 have BA:∀x∈es,∃o∈ops.toList,x.dst=o.dst:=fun x hx=>by
  obtain⟨i,hi,rfl⟩:=aji hx
  have al:i<ops.size:=by omega
  exact⟨ops[i],by simp,(DQ.ok i ops[i] es[i] (ajB al) (ai5 hi)).dst⟩
 have Ks:∀k y,es[k]? =some y->∀q,q∈y.soft->q∈y.mut->∃z z',eV Hu 0 (es.take k) (find st.objs) q=some z/\find y.e.make q=some z'/\gx z z':=fun k y hy q h1 h2=>by
  have al:k<es.length:=(ai7.1 hy).1;obtain⟨_,_,b,_,WE,Jx⟩:=DQ.ok k _ y (ajB (by omega)) hy
  cases b with
  |true=>exact(WE rfl).soft q h1 h2
  |false=>
   rw[kM.mut,Jx rfl]at h2;simp[qe]at h2
 have Ft:∀i o,ops[i]? =some o->∀e∈o.after,akG .any e=true->e.on<i:=fun i o ho e he hb=>by
  obtain⟨m,h1,_⟩:=(zu PF).2.2 i o (by rw[Array.getElem?_toList];exact ho);simp only[List.length_nil,ajC]at h1;exact Fp h1 e (by simpa using he) hb
 intro a hf;refine wp_region_any hm ?_
 have main:∀fuel(listed:Array Bool)(a:Act)(w':World)H' F' b7,listed.size=ops.size->Tk ops.size listed<=fuel->DN ops (fun j=>listed.getD j false=true)->Fr nt a b7->
  Inv G w0 F0 es (find st.ah) (find st.objs) st.nxt H F w ρ (fun j=>listed.getD j false) H' F' w' b7->wpAny P .any ops (fun e a' w'=>∃b7,Fr nt a' b7/\Q e b7 w') fuel listed a w':=by
  have done:∀(listed:Array Bool)(a:Act)(w':World)H' F' b7,(∀i,i<ops.size->listed.getD i false=true)->Fr nt a b7->Inv G w0 F0 es (find st.ah) (find st.objs) st.nxt H F w ρ (fun j=>listed.getD j false) H' F' w' b7->∃b7,Fr nt a b7/\Q .normal b7 w':=by
   intro listed a w' H' F' b7 dX hf hinv
   have eS:∀t,fC (fun j=>listed.getD j false) 0 es (find st.ah) t=find bU.ah t:=fun t=>by
    rw[DQ.slot t]
    refine ld rfl fun k x hx _=>?_
    have:=(ai7.1 hx).1;rw[ajC];exact dX k (by omega)
   have eO:∀o,eV (fun j=>listed.getD j false) 0 es (find st.objs) o=find bU.objs o:=fun o=>by
    rw[DQ.ob o]
    refine kN rfl fun k x hx _=>?_
    have:=(ai7.1 hx).1;rw[ajC];exact dX k (by omega)
   refine⟨b7,hf,hk bU H' F' w' b7 JO ⟨⟨fun t d hd=>hinv.slot t d (by rw[eS];exact hd),?_,?_⟩,hinv.glob⟩ hinv.keeps fun t ht=>hinv.same t fun x hx=>?_⟩
   .have:=hinv.ob;rw[funext eO]at this;rw[DQ.nxt];exact this
   .rw[DQ.nxt];exact hinv.all
   .obtain⟨o,ho,e⟩:=BA x hx;rw[e];exact ht o ho
  have HA:∀(listed:Array Bool),listed.size=ops.size->Region.ready .any ops listed=[]->∀i,i<ops.size->listed.getD i false=true:=by
   intro listed hs hr i
   induction i using Nat.strongRecOn with
   |_ i ih=>
    intro hi
    cases hl:listed.getD i false with
    |true=>rfl
    |false=>
     have:i∈Region.ready .any ops listed:=mem_ready.2 ⟨by
      simp only[ajM]at hl⊢;rw[ajB (by omega)]at hl⊢
      simpa using hl,ops[i],ajB hi,fun e he hb=>ih e.on (Ft i _ (ajB hi) e he hb) (by
       have:=Ft i _ (ajB hi) e he hb
       omega)⟩
     rw[hr]at this;cases this
  intro fuel
  induction fuel with
  |zero=>
   intro listed a w' H' F' b7 hs hu hc hf hinv
   have dX:∀i,i<ops.size->listed.getD i false=true:=fun i hi=>by
    cases hl:listed.getD i false with
    |true=>rfl
    |false=>
     have:=Fs hi hs hl;omega
   refine⟨?_,done listed a w' H' F' b7 dX hf hinv⟩
   cases hr:Region.ready .any ops listed with
   |nil=>rfl
   |cons i l=>
    have hi:i∈Region.ready .any ops listed:=by rw[hr];simp
    obtain⟨h1,o,h2,_⟩:=mem_ready.1 hi;have al:=(aj0.1 h2).1;have h3:=dX i al;simp only[ajM]at h1 h3;rw[ajB (by omega)]at h1 h3;simp at h1 h3;rw[h1]at h3;cases h3
  |succ fuel ih=>
   intro listed a w' H' F' b7 hs hu hc hf hinv;refine⟨fun hr=>done listed a w' H' F' b7 (HA listed hs hr) hf hinv,fun i hi=>?_⟩;obtain⟨h1,o,ho,Fq⟩:=mem_ready.1 hi;have al:=(aj0.1 ho).1
   have Hw:listed.getD i false=false:=by
    simp only[ajM]at h1⊢;rw[ajB (by omega)]at h1⊢;simpa using h1
   have hx:es[i]? =some (es[i]'(by omega)):=ai5 (by omega);have iK:=DQ.ok i o _ ho hx;rw[<-DO (by omega),<-yd (by omega)]at iK
   have vJ:(fun j=>(listed.setIfInBounds i true).getD j false)=ins (fun j=>listed.getD j false) i:=by
    funext j;by_cases e:j=i
    .subst e;rw[oO];simp[ajM,hs,al]
    .rw[oP e];exact getD_set_ne false (Ne.symm e)
   refine Kr PF jJ hlen hc ho hx Hw Fq Ks iK hf hinv fun Vf rC si AX tC WK PI=>?_
   refine ih _ Vf tC si AX rC (by simp[hs]) ?_ ?_ WK ?_
   .have:=Fs al hs Hw;omega
   .intro j hj o' iN e he hb;by_cases ej:j=i
    .subst ej;rw[ho]at iN;obtain rfl:=ai4 iN;exact getD_set_true (Fq e he hb)
    .have IE:listed.getD j false=true:=by
      have:(listed.setIfInBounds i true).getD j false=listed.getD j false:=getD_set_ne false (Ne.symm ej);rw[<-this];exact hj
     exact getD_set_true (hc j IE o' iN e he hb)
   .rw[vJ];exact PI
 have WL:∀j,(Array.replicate ops.size false).getD j false=false:=fun j=>by
  simp only[ajM];by_cases hj:j<ops.size
  .simp[hj]
  .simp[hj]
 have hw:Step F w F w.drew:=Step.drew F w
 refine main ops.size _ a _ H F ρ (by simp) ?_ (fun i hi=>by
  have gv:(Array.replicate ops.size false).getD i false=true:=hi;rw[WL]at gv
  cases gv) hf ⟨fun t d hd=>?_,?_,fun m hm=>hh.sat.all m (by omega),fun i hi _ m hm _=>hh.sat.all m (by omega),⟨⟨hh.glob.ext.os,hh.glob.ext.tape,hh.glob.ext.output,hh.glob.ext.size,hh.glob.ext.block⟩,hh.glob.le,hh.glob.new⟩,⟨ao.le.refl H,hw⟩,fun _ _=>rfl⟩
 .unfold Tk;exact ajE (List.length_filter_le _ _) (by simp)
 .rw[nX fun k x _ _=>WL _]at hd;exact(hh.sat.slot t d hd).keep (ao.le.refl H) hw
 .have e:eV (fun j=>(Array.replicate ops.size false).getD j false) 0 es (find st.objs)=find st.objs:=by
   funext o
   exact nB fun k x _ _=>WL _
  rw[e];have hb:=hh.sat.ob;refine⟨fun o s t ho=>?_,hb.apart,fun m hm _=>hh.sat.all m (by omega),hb.lt,hb.new,hb.gl.step (fun _ h=>⟨h,rfl⟩)⟩;obtain⟨v,hv,cc⟩:=hb.obj o s t ho;exact⟨v,hv,cc.one,cc.con,cc.ok.heap (ao.le.refl H) hw fun _ _=>rfl,cc.no,cc.lt,cc.use⟩
end
end Go.Proofs.YtilaieogabgamaaGreatDoor
end
