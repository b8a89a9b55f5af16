/- Joined texts: Ifc Exec Draw2 Draw4. -/
import Derived.Test.YtmihpkfkbfgigaaGreatDoorU4
section
open _root_.List renaming getElem?_drop->ajF,getElem?_take->ajU
open _root_.Nat renaming beq->aju
open _root_.Option.some renaming injEq->ajx
open _root_.Prod.mk renaming injEq->akl
open _root_.Go.Result renaming andThen->aj0
open _root_.Go.Sem renaming run_bind->ajR
namespace Go.Proofs.YtmihpkfkbfgigaaGreatDoor
open Go Go.RowKit
section
variable {P:Program} {ρ:Nat->Value} {w w':World} {H H':aq} {F F':Nat->Prop} {U:Nat->Prop} {ob:Nat->Option (Nat×Th)} {n:Nat} {R:Type}
variable {op:Op} {ty:TypeId} {pos:String} {aft:Array Edge} {d:Nat} {dst:Option Nat}
def IK.Fh:IK->Bool
 | .other=>false
 |_=>true
theorem xy.Fh{t:TypeId}{k:IK}(h:xy P t k)(hk:k.Fh=true):∃D,P.underlying t=some D/\∀ms,D≠ .interface ms:=by
 cases k with
 |other=>cases hk
 |struct fs=>obtain⟨arr,h,_⟩:=h;exact⟨_,h,fun _ e=>by cases e⟩
 |_=>exact⟨_,h,fun _ e=>by cases e⟩
def zc(T:be P)(t:TypeId):Bool:=match find T.und t with
 |some k=>k.Fh
 |none=>false
theorem xX(T:be P){t:TypeId}(h:zc T t=true):∃D,P.underlying t=some D/\∀ms,D≠ .interface ms:=by
 unfold zc at h;split at h
 .rename_i k hk;exact(T.und_ok _ _ hk).Fh h
 .cases h
def Hq(T:be P)(t:TypeId)(D:al)(k:dY->Option R):Option R:=bif zc T t then k {dst:= .ifc t D}else none
theorem Nb(T:be P){t:TypeId}{D:al}{x:Operand}{k:dY->Option R}{q:R}(h:Hq T t D k=some q)(hs:au U H F w ob n)(hx:aj H F w D (ev ρ x)):
 ∃e,k e=some q/\cG P U H F w ρ ob n ⟨some d, .makeInterface t x,ty,pos,aft,none⟩ e:=by
 unfold Hq at h;obtain⟨h1,h2⟩:=aG h;obtain⟨D0,hD,hn⟩:=xX T h1;refine⟨_,h2,bT hs (v:= .iface t (ev ρ x)) ?_ ⟨_,rfl,hx⟩⟩
 cases D0 with
 |interface ms=>exact absurd rfl (hn ms)
 |_=>simp[execOp,Instr.makeInterface,run_underlying hD,aj0]
def pJ(T:be P)(t:TypeId)(ok:Bool)(D:al)(k:dY->Option R):Option R:=
 match D with
 | .ifc t' d=>bif aju t' t&&zc T t then(match ok,d with
   |true, .val agg tr=>k {dst:= .tup [(agg,tr),(false, .leaf .bool true)]}
   |true,_=>none
   |false,d=>k {dst:=d})else none
 |_=>none
theorem DN(T:be P){xt t:TypeId}{ok:Bool}{D:al}{x:Operand}{k:dY->Option R}{q:R}(h:pJ T t ok D k=some q)(hs:au U H F w ob n)(hx:aj H F w D (ev ρ x)):
 ∃e,k e=some q/\cG P U H F w ρ ob n ⟨some d, .typeAssert x xt t ok,ty,pos,aft,none⟩ e:=by
 unfold pJ at h;split at h
 case h_2=>cases h
 rename_i t' dd;obtain⟨h1,h2⟩:=aG h;obtain⟨h1,h3⟩:=cV h1;obtain rfl:=beq_true h1;obtain⟨D0,hD,hn⟩:=xX T h3;obtain⟨u,hu,hd⟩:=hx
 have bw:(Instr.typeAssert (ev ρ x) xt t' ok).run P w= .ok (if ok then .tuple #[u, .bool true]else u) w:=by
  rw[hu]
  cases D0 with
  |interface ms=>exact absurd rfl (hn ms)
  |_=>simp[Instr.typeAssert,run_underlying hD,aj0]
 split at h2
 .exact⟨_,h2,bT hs (v:= .tuple #[u, .bool true]) (by simp[execOp,bw,aj0]) ⟨[u, .bool true],rfl,_,_,rfl,hd,_,_,rfl,aH.gk ..,rfl⟩⟩
 .cases h2
 .exact⟨_,h2,bT hs (v:=u) (by simp[execOp,bw,aj0]) hd⟩
def Fi:List (TypeId×(String×(FuncId×Bool)))->TypeId->String->Option (FuncId×Bool)
 |[],_,_=>none
 |(t',(nm,p))::l,t,name=>bif aju t' t&&(nm==name)then some p else Fi l t name
theorem Bk{t:TypeId}{name:String}{f:FuncId}{pr:Bool}:{l:List (TypeId×(String×(FuncId×Bool)))}->Fi l t name=some (f,pr)->(t,(name,(f,pr)))∈l
 |[],h=>by cases h
 |(t',(nm,p))::l,h=>by
  unfold Fi at h
  cases hb:aju t' t&&(nm==name)with
  |true=>
   rw[hb,cond_true]at h;obtain⟨h1,h2⟩:=cV hb;obtain rfl:=beq_true h1
   obtain rfl:nm=name:=by simpa using h2
   cases h;simp
  |false=>
   rw[hb,cond_false]at h;exact List.mem_cons_of_mem _ (Bk h)
theorem DO{t:TypeId}{name:String}{f:FuncId}{pr:Bool}{v u:Value}{fuel:Nat}(h:p7 P t name f pr)(hr:∀nm,(receiverAt t (.val v) pr (some nm)).run P w= .ok u w):(method (fuel+1) t v name).run P w= .ok (f,u) w:=by
 unfold p7 at h
 cases hi:P.info? t with
 |none=>rw[hi]at h;cases h
 |some ti=>
  rw[hi]at h;have h:(ti.methods.find? fun m=>m.name==name).map (fun m=>(m.path.toList.length,m.func))=some (0,some (f,pr)):=h
  cases hm:ti.methods.find? fun m=>m.name==name with
  |none=>rw[hm]at h;cases h
  |some m=>
   rw[hm]at h;simp only[Option.map_some,ajx,akl]at h
   have hp:m.path= #[]:=by
    have:=h.1;simpa using this
   simp[method,typeInfo,hi,hm,hp,follow,h.2,hr,aj0,ajR]
theorem Hr{t e:TypeId}{nm:String}{v:Value}(hu:P.underlying t=some (.pointer e)):(receiverAt t (.val v) true (some nm)).run P w= .ok v w:=by
 simp[receiverAt,run_underlying hu,Place.get,aj0,ajR]
theorem Hs{t e:TypeId}{nm:String}{a:Addr}{u:Value}(hu:P.underlying t=some (.pointer e))(hl:(loadVar e a).run P w= .ok u w):(receiverAt t (.val (.pointer (some a))) false (some nm)).run P w= .ok u w:=by
 have hw:Builtin.ssaWrapNilChk_ #[t] t #[.pointer (some a),strVal "",strVal nm]=pure (.pointer (some a)):=rfl;simp[receiverAt,run_underlying hu,Place.get,hw,asAddr,hl,aj0,ajR]
theorem vG{t:TypeId}{name:String}{f:FuncId}{fn:Func}{pr:Bool}{v u:Value}{x:Operand}{args:Array Operand}{wR:Array TypeId}(h:p7 P t name f pr)(hx:ev ρ x= .iface t v)(hr:∀nm,(receiverAt t (.val v) pr (some nm)).run P w= .ok u w)
 (hf:P.funcs[f]? =some fn)(hn:(fn.name== "runtime.NumGoroutine")=false)(hb:fn.body.isNone=false):
 (execOp (ev ρ) ⟨dst, .call {callee:= .invoke x name,args:=args,argTypes:=wR},ty,pos,aft,none⟩).run P w= .ok (.enter f (u::args.toList.map (ev ρ)).toArray) w:=by
 have MA:¬fn.name= "runtime.NumGoroutine" :=by simpa using hn
 have p5:¬fn.body=none:=by
  intro e;rw[e]at hb;cases hb
 have hm:=DO (fuel:=P.types.size+99) h hr;have hfu:P.types.size+100=P.types.size+99+1:=rfl
 have e1:(#[Value.iface t v]++Array.map (ev ρ) args).extract 1 (1+args.size)=Array.map (ev ρ) args:=by
  apply Array.ext';simp;exact List.take_of_length_le (by simp)
 have e0:(#[Value.iface t v]++Array.map (ev ρ) args)[0]? =some (Value.iface t v):=by simp[Array.getElem?_append]
 have e2:(#[u]++Array.map (ev ρ) args)=(u::args.toList.map (ev ρ)).toArray:=by apply Array.ext';simp
 simp[execOp,resolve,hx,invoke,callMethod,hfu,hm,callFunc,hf,MA,p5,go_sem,e0,e1,e2]
def uG(T:be P)(ob:Nat->Option (Nat×Th))(e:TypeId)(D:al):Option al:=
 match find T.und e with
 |none=>none
 |some kk=>match D with
  | .ptr o p off=>match ob o with
    |some (_, .box _ tr)=>match tr.get p with
     |some (s,dI)=>bif aju dI off&&mu T e kk s.size then some (.val (kP kk) s)else none
     |none=>none
    |_=>none
  |_=>none
theorem DP(T:be P){e:TypeId}{D D':al}{v:Value}(h:uG T ob e D=some D')(hs:au U H F w ob n)(hx:aj H F w D v):∃a u,v= .pointer (some a)/\(loadVar e a).run P w= .ok u w/\aj H F w D' u:=by
 unfold uG at h;split at h
 .cases h
 rename_i kk hu;split at h
 case h_2=>cases h
 rename_i o p off;split at h
 case h_2=>cases h
 rename_i st0 T0 tr cU;split at h
 case h_2=>cases h
 rename_i s dI hg;obtain⟨h1,h2⟩:=aG h;cases h2;obtain⟨h1,h3⟩:=cV h1;obtain rfl:=beq_true h1;obtain⟨b,hb,rfl⟩:=hx;obtain⟨es,hh,OB⟩:=hs.box cU hb;obtain⟨g1,g2⟩:=OB.get hg
 have hc:∀j u,((es.drop dI).take s.size)[j]? =some u->w.cell? ⟨b,dI+j,none⟩=some u:=fun j u hj=>by
  rw[u7 hh];rw[ajU]at hj;split at hj
  .rwa [ajF]at hj
  .cases hj
 obtain⟨dd,wW,xx⟩:=(T.und_ok _ _ hu).agg;have hz:=jG T h3;have hl:=g1.length;generalize(es.drop dI).take s.size=cs at g1 hc hl
 cases ha:kP kk with
 |true=>
  rw[if_pos ha]at hz;obtain⟨r,hr,IN⟩:=hz;obtain⟨ti,z,h1,_,_,h4,_⟩:=T.row_ok _ _ hr;have RJ:(loadCells ⟨b,dI,none⟩ cs.length).run P w= .ok cs.toArray w:=run_loadCells_list (P:=P) w ⟨b,dI,none⟩ cs (fun j v hv=>by rw[cL];exact hc j v hv)
  have lM:ti.size=cs.length:=by omega
  exact⟨_, .agg cs.toArray,rfl,by simp[loadVar,ajR,fh wW,xx,ha,sizeOf,typeInfo,h1,lM,RJ],⟨cs,g1,rfl,by simp⟩⟩
 |false=>
  rw[if_neg (by simp[ha])]at hz
  obtain⟨v,rfl⟩:∃v,cs=[v]:=by
   match cs,hl.trans hz with
   |[v],_=>exact⟨v,rfl⟩
  have hcv:w.cell? ⟨b,dI,none⟩=some v:=hc 0 v rfl;exact⟨_,v,rfl,by simp[loadVar,ajR,fh wW,xx,ha,hcv,go_sem],⟨[v],g1,rfl,fun _=>rfl⟩⟩
def pK(T:be P)(tab:List (Nat×br))(rd:Operand->Option al)(objs:List (Nat×(Nat×Th)))(n:Nat)(x:Operand)(name:String)(args:List Operand)(k:dY->Option R):Option R:=
 match rd x with
 |some (.ifc t d)=>match Fi T.mth t name with
  |some (f,pr)=>match find T.und t with
   |some (.ptr e)=>match(bif pr then some d else uG T (find objs) e d)with
    |some d'=>match rk rd args with
     |some ds=>n4 objs n f (d'::ds) k tab
     |none=>none
    |none=>none
   |_=>none
  |none=>none
 |_=>none
theorem vH(T:be P){tab:List (Nat×br)}(w9:∀p∈tab,av P p.1 p.2){rd:Operand->Option al}(fN:∀x d,rd x=some d->aj H F w d (ev ρ x)){objs:List (Nat×(Nat×Th))}{x:Operand}{name:String}{args:Array Operand}{wR:Array TypeId}{k:dY->Option R}{q:R}
 (h:pK T tab rd objs n x name args.toList k=some q)(hs:au U H F w (find objs) n):
 ∃e,k e=some q/\cG P U H F w ρ (find objs) n ⟨dst, .call {callee:= .invoke x name,args:=args,argTypes:=wR},ty,pos,aft,none⟩ e:=by
 unfold pK at h;split at h
 case h_2=>cases h
 rename_i t d0 hx;split at h
 case h_2=>cases h
 rename_i f pr hm;split at h
 case h_2=>cases h
 rename_i e hu;split at h
 case h_2=>cases h
 rename_i d' xq;split at h
 case h_2=>cases h
 rename_i ds uz;obtain⟨v,hv,hdv⟩:=fN _ _ hx;have hM:=T.mth_ok _ (Bk hm);have hu:=T.und_ok _ _ hu;have VB:=nw (w:=w) (H:=H) (F:=F) (ρ:=ρ) fN uz
 cases pr with
 |true=>
  cases xq
  have MW:fl H F w (d0::ds) (v::args.toList.map (ev ρ)):=⟨v,_,rfl,hdv,VB⟩
  exact nE w9 MW (fun fn g1 g2 g3=>vG hM hv (fun nm=>Hr hu) g1 g2 g3) hs (fun _ h=>h) h
 |false=>
  obtain⟨a,u,rfl,hl,hdu⟩:=DP T (show uG T (find objs) e d0=some d' from xq) hs hdv
  have MW:fl H F w (d'::ds) (u::args.toList.map (ev ρ)):=⟨u,_,rfl,hdu,VB⟩
  exact nE w9 MW (fun fn g1 g2 g3=>vG hM hv (fun nm=>Hs hu hl) g1 g2 g3) hs (fun _ h=>h) h
end
end Go.Proofs.YtmihpkfkbfgigaaGreatDoor
end
section
open _root_.Array renaming toArray_toList->aj9
open _root_.List.cons renaming injEq->ake
open _root_.Nat renaming beq->aju,blt->akf
open _root_.Option.some renaming inj->ajk
open _root_.Prod.mk renaming inj->akO
open _root_.Go.Sem renaming run_bind->ajR
namespace Go.Proofs.YtmihpkfkbfgigaaGreatDoor
open Go Go.RowKit
structure Env(P:Program)where
 T:be P
 tab:List (Nat×br)
 ok:∀p∈tab,av P p.1 p.2
 mix:P.follows .mixedOrders=true
 deep:Bool
 drop:Bool
def zd(rd:Operand->Option al):List Operand->Option (List (Nat×List Bool×Nat))
 |[]=>some []
 |x::xs=>match rd x with
  |some (.ptr o p off)=>match zd rd xs with
   |some cs=>some ((o,p,off)::cs)
   |none=>none
  |_=>none
theorem xY{H:aq}{F:Nat->Prop}{w:World}{ρ:Nat->Value}{rd:Operand->Option al}(fN:∀x d,rd x=some d->aj H F w d (ev ρ x)):{xs:List Operand}->{cs:List (Nat×List Bool×Nat)}->zd rd xs=some cs->kX H cs (xs.map (ev ρ))
 |[],cs,h=>by obtain rfl:=ajk h;rfl
 |x::xs,cs,h=>by
  unfold zd at h;split at h
  case h_2=>cases h
  rename_i o p off hx;split at h
  case h_2=>cases h
  rename_i q8 qY;obtain rfl:=ajk h;exact⟨_,_,rfl,fN _ _ hx,xY fN qY⟩
def mh{R:Type}(rd:Operand->Option al)(fn:Fn)(first caps:Array Operand)(k:dY->Option R):Option R:=
 match fn,first.toList with
 | .func f,[]=>match zd rd caps.toList with
   |some cs=>k {dst:= .fn f cs}
   |none=>none
 |_,_=>none
theorem ze{R:Type}{P:Program}{U:Nat->Prop}{H:aq}{F:Nat->Prop}{w:World}{ρ:Nat->Value}{ob:Nat->Option (Nat×Th)}{n d:Nat}{ty:TypeId}{pos:String}{aft:Array Edge}{rd:Operand->Option al}(fN:∀x d,rd x=some d->aj H F w d (ev ρ x)){fn:Fn}{first caps:Array Operand}{k:dY->Option R}{q:R}
 (h:mh rd fn first caps k=some q)(hs:au U H F w ob n):∃e,k e=some q/\cG P U H F w ρ ob n ⟨some d, .makeFunc fn first caps,ty,pos,aft,none⟩ e:=by
 unfold mh at h;split at h
 case h_2=>cases h
 rename_i f hf;split at h
 case h_2=>cases h
 rename_i cs qY
 have PT:first= #[]:=by rw[<-aj9 (xs:=first),hf]
 subst PT
 have e:caps.map (ev ρ)=(caps.toList.map (ev ρ)).toArray:=by rw[<-List.map_toArray,aj9]
 exact⟨_,h,bT hs (v:= .func (.func f) #[] (caps.toList.map (ev ρ)).toArray) (by simp[execOp,Instr.makeFunc,e]) ⟨_,rfl,xY fN qY⟩⟩
noncomputable def qd{R:Type}{P:Program}(E:Env P)(rd:Operand->Option al)(objs:List (Nat×(Nat×Th)))(n:Nat)(callee:Callee)(args:Array Operand)(wR:Array TypeId)(k:dY->Option R):Option R:=
 match callee with
 | .builtin .len=>match args.toList,wR.toList with
   |[x],[t]=>match rd x with
    |some D=>match G1 E.T (find objs) t D with
     |some D'=>k {dst:=D'}
     |none=>none
    |none=>none
   |_,_=>none
 | .builtin .append=>match args.toList,wR.toList with
   |[x,y],[t,t']=>bif aju t t' then(match rd x with
    |some X=>match rd y with
     |some Y=>nB E.T (find objs) n t X Y k
     |none=>none
    |none=>none)else none
   |_,_=>none
 | .builtin .max=>match args.toList,wR.toList with
   |[x,y],[_,_]=>match rd x with
    |some X=>match rd y with
     |some Y=>match uB true X Y with
      |some D=>k {dst:=D}
      |none=>none
     |none=>none
    |none=>none
   |_,_=>none
 | .builtin .min=>match args.toList,wR.toList with
   |[x,y],[_,_]=>match rd x with
    |some X=>match rd y with
     |some Y=>match uB false X Y with
      |some D=>k {dst:=D}
      |none=>none
     |none=>none
    |none=>none
   |_,_=>none
 | .value g=>xV E.tab rd objs n g args.toList k
 | .invoke x name=>pK E.T E.tab rd objs n x name args.toList k
 |_=>none
noncomputable def Nc{R:Type}{P:Program}(E:Env P)(rd:Operand->Option al)(objs:List (Nat×(Nat×Th)))(n:Nat)(dst:Option Nat)(op:Op)(k:dY->Option R):Option R:=
 match dst with
 |none=>match op with
  | .store t x y=>match rd x with
    |some X=>match rd y with
     |some Y=>pI E.T (find objs) n t X Y k
     |none=>none
    |none=>none
  | .call c=>qd E rd objs n c.callee c.args c.argTypes k
  | .mapUpdate t m x y=>match rd m with
    |some M=>match rd x with
     |some X=>match rd y with
      |some Y=>jI E.T (find objs) n t M X Y k
      |none=>none
     |none=>none
    |none=>none
  |_=>none
 |some _=>match op with
  | .move x=>match rd x with
    |some D=>k {dst:=D}
    |none=>none
  | .assign x=>match rd x with
    |some D=>k {dst:=D}
    |none=>none
  | .pick c x y=>match rd c with
    |some C=>match asBool C with
     |some b=>match(if b=true then rd x else rd y)with
      |some D=>k {dst:=D}
      |none=>none
     |none=>none
    |none=>none
  | .alloc t=>sv E.T n t k
  | .box t x=>match rd x with
    |some X=>GZ n t X k
    |none=>none
  | .build t ps=>sy E.T rd t ps k
  | .buildSlice t m ps=>uF E.deep E.T rd (find objs) n t m ps k
  | .load t x=>match rd x with
    |some X=>oM E.T (find objs) n t X k
    |none=>none
  | .nilCheck x=>match rd x with
    |some (.ptr o p off)=>k {dst:= .ptr o p off}
    |some (.elem o s r i z p off)=>k {dst:= .elem o s r i z p off}
    |some (.dlm o d i p off)=>k {dst:= .dlm o d i p off}
    |some (.at r z)=>k {dst:= .at r z}
    |_=>none
  | .binOp o t x y _=>match rd x with
    |some X=>match rd y with
     |some Y=>G7 E.T (find objs) o t (Sd y) X Y k
     |none=>none
    |none=>none
  | .unOp o _ x=>match rd x with
    |some X=>match Wt o X with
     |some D=>k {dst:=D}
     |none=>none
    |none=>none
  | .convert s t x=>match rd x with
    |some X=>match JK E.T s t X with
     |some D=>k {dst:=D}
     |none=>none
    |none=>none
  | .makeSlice t a b=>match rd a with
    |some A=>match asInt A with
     |some (_,i)=>match rd b with
      |some B=>match asInt B with
       |some (_,j)=>vv E.deep E.T n t (oI a b) i j k
       |none=>none
      |none=>none
     |none=>none
    |none=>none
  | .slice t x lo hi none=>match rd x with
    |some X=>sz E.drop E.T rd (find objs) n t X lo hi k
    |none=>none
  | .fieldAddr t x f=>match rd x with
    |some X=>match Dh E.T t f X with
     |some D=>k {dst:=D}
     |none=>none
    |none=>none
  | .field t x f=>match rd x with
    |some X=>match yO E.T t f X with
     |some D=>k {dst:=D}
     |none=>none
    |none=>none
  | .indexAddr t x y=>match rd x with
    |some X=>match rd y with
     |some Y=>match asInt Y with
      |some (_,i)=>sr E.T (find objs) t X i k
      |none=>none
     |none=>none
    |none=>none
  | .index t x y=>match rd x with
    |some X=>match rd y with
     |some Y=>match asInt Y with
      |some (_,i)=>pE E.T (find objs) t X i k
      |none=>none
     |none=>none
    |none=>none
  | .extract x i=>match rd x with
    |some X=>match vh X i with
     |some D=>k {dst:=D}
     |none=>none
    |none=>none
  | .call c=>qd E rd objs n c.callee c.args c.argTypes k
  | .makeFunc fn first caps=>mh rd fn first caps k
  | .makeMap t none=>mg E.deep E.T n t k
  | .lookup t m x ok=>match rd m with
    |some M=>match rd x with
     |some X=>nz E.T (find objs) n t ok M X k
     |none=>none
    |none=>none
  | .makeInterface t x=>match rd x with
    |some X=>Hq E.T t X k
    |none=>none
  | .typeAssert x _ t ok=>match rd x with
    |some X=>pJ E.T t ok X k
    |none=>none
  |_=>none
section
variable {P:Program} {ρ:Nat->Value} {w w':World} {H H':aq} {F F':Nat->Prop} {U:Nat->Prop} {n:Nat} {R:Type}
variable {ty:TypeId} {pos:String} {aft:Array Edge} {dst:Option Nat} {d:Nat}
theorem eP{α:Type}{a:Array α}{l:List α}(h:a.toList=l):a=l.toArray:=by rw[<-h,aj9]
theorem Kj(E:Env P){rd:Operand->Option al}(fN:∀x d,rd x=some d->aj H F w d (ev ρ x)){objs:List (Nat×(Nat×Th))}{c:Call}{k:dY->Option R}{q:R}
 (h:qd E rd objs n c.callee c.args c.argTypes k=some q)(hs:au U H F w (find objs) n):∃e,k e=some q/\cG P U H F w ρ (find objs) n ⟨some d, .call c,ty,pos,aft,none⟩ e:=by
 obtain⟨callee,args,wR⟩:=c;simp only at h;unfold qd at h;split at h
 .split at h
  case h_2=>cases h
  rename_i x t ha ht;obtain rfl:=eP ha;obtain rfl:=eP ht;split at h
  case h_2=>cases h
  rename_i D hD;split at h
  case h_2=>cases h
  rename_i D' Mz;exact⟨_,h,EZ E.T Mz hs (fN _ _ hD)⟩
 .split at h
  case h_2=>cases h
  rename_i x y t t' ha ht;obtain rfl:=eP ha;obtain rfl:=eP ht;obtain⟨hb,h'⟩:=aG h;clear h;obtain rfl:=beq_true hb;split at h'
  case h_2=>cases h'
  rename_i X hX;split at h'
  case h_2=>cases h'
  rename_i Y hY;exact AX E.T h' hs (fN _ _ hX) (fN _ _ hY)
 .split at h
  case h_2=>cases h
  rename_i x y t t' ha ht;obtain rfl:=eP ha;obtain rfl:=eP ht;split at h
  case h_2=>cases h
  rename_i X hX;split at h
  case h_2=>cases h
  rename_i Y hY;split at h
  case h_2=>cases h
  rename_i D hD;exact⟨_,h,vi (mx:=true) hD hs (fN _ _ hX) (fN _ _ hY)⟩
 .split at h
  case h_2=>cases h
  rename_i x y t t' ha ht;obtain rfl:=eP ha;obtain rfl:=eP ht;split at h
  case h_2=>cases h
  rename_i X hX;split at h
  case h_2=>cases h
  rename_i Y hY;split at h
  case h_2=>cases h
  rename_i D hD;exact⟨_,h,vi (mx:=false) hD hs (fN _ _ hX) (fN _ _ hY)⟩
 .exact Bj E.ok fN h hs
 .exact vH E.T E.ok fN h hs
 .cases h
def Nd:Callee->Bool
 | .value _=>true
 | .invoke .. =>true
 |_=>false
theorem xc(E:Env P){rd:Operand->Option al}(fN:∀x d,rd x=some d->aj H F w d (ev ρ x)){objs:List (Nat×(Nat×Th))}{c:Call}{k:dY->Option R}{q:R}(hc:Nd c.callee=true)
 (h:qd E rd objs n c.callee c.args c.argTypes k=some q)(hs:au U H F w (find objs) n):∃e,k e=some q/\cG P U H F w ρ (find objs) n ⟨none, .call c,ty,pos,aft,none⟩ e:=by
 obtain⟨callee,args,wR⟩:=c;simp only at h hc
 cases callee with
 |value g=>exact Bj E.ok fN h hs
 |invoke x name=>exact vH E.T E.ok fN h hs
 |builtin b=>cases hc
end
section
variable {P:Program} {ρ:Nat->Value} {w w':World} {H H':aq} {F F':Nat->Prop} {U:Nat->Prop} {n:Nat} {R:Type}
variable {ty:TypeId} {pos:String} {aft:Array Edge} {dst:Option Nat} {d:Nat}
theorem Ht{c x y:Operand}{b:Bool}{D:al}{ob:Nat->Option (Nat×Th)}(hs:au U H F w ob n)(hc:ev ρ c= .bool b)(hx:aj H F w D (ev ρ (if b=true then x else y))):cG P U H F w ρ ob n ⟨some d, .pick c x y,ty,pos,aft,none⟩ {dst:=D}:=by
 cases b with
 |true=>exact aL hs (uP hc rfl) hx
 |false=>exact aL hs (ub hc rfl) hx
theorem Kl(E:Env P){rd:Operand->Option al}(fN:∀x d,rd x=some d->aj H F w d (ev ρ x)){objs:List (Nat×(Nat×Th))}{op:Op}{k:dY->Option R}{q:R}
 (zf:dst=none->∀c,op= .call c->Nd c.callee=true)(h:Nc E rd objs n dst op k=some q)(hs:au U H F w (find objs) n):∃e,k e=some q/\cG P U H F w ρ (find objs) n ⟨dst,op,ty,pos,aft,none⟩ e:=by
 cases dst with
 |none=>
  unfold Nc at h;simp only at h;split at h
  .split at h
   case h_2=>cases h
   rename_i X hX;split at h
   case h_2=>cases h
   rename_i Y hY;exact Dw E.T h hs (fN _ _ hX) (fN _ _ hY)
  .rename_i c;exact xc E fN (zf rfl c rfl) h hs
  .split at h
   case h_2=>cases h
   rename_i M hM;split at h
   case h_2=>cases h
   rename_i X hX;split at h
   case h_2=>cases h
   rename_i Y hY;exact vz E.T h hs (fN _ _ hM) (fN _ _ hX) (fN _ _ hY)
  .cases h
 |some d=>
  unfold Nc at h;simp only at h;split at h
  .split at h
   case h_2=>cases h
   rename_i D hD;exact⟨_,h,G8 hs (fN _ _ hD)⟩
  .split at h
   case h_2=>cases h
   rename_i D hD;exact⟨_,h,AK hs (fN _ _ hD)⟩
  .split at h
   case h_2=>cases h
   rename_i C hC;split at h
   case h_2=>cases h
   rename_i b hb;split at h
   case h_2=>cases h
   rename_i D hD;refine⟨_,h,Ht hs (nq hb (fN _ _ hC)) ?_⟩;split at hD
   .rename_i e;rw[if_pos e];exact fN _ _ hD
   .rename_i e;rw[if_neg e];exact fN _ _ hD
  .exact GY E.T h hs
  .split at h
   case h_2=>cases h
   rename_i X hX;exact MG h hs (fN _ _ hX)
  .exact G4 E.T fN h hs
  .exact Dx E.deep E.T fN h hs
  .split at h
   case h_2=>cases h
   rename_i X hX;exact Hi E.T h hs (fN _ _ hX)
  .split at h
   .rename_i o p off hX;obtain⟨b,h1,h2⟩:=fN _ _ hX;exact⟨_,h,bT hs (v:= .pointer (some ⟨b,off,none⟩)) (by simp[execOp,h2]) ⟨b,h1,rfl⟩⟩
   .rename_i o s r i z p off hX;have hd:=fN _ _ hX;obtain⟨g,o0,q,T,m,cap,l,_,_,_,_,h2⟩:=id hd;exact⟨_,h,bT hs (v:= .pointer (some ⟨g,o0+q*r.size+off,none⟩)) (by simp[execOp,h2]) (by rw[<-h2];exact hd)⟩
   .rename_i o d i p off hX;have hd:=fN _ _ hX;obtain⟨g,o0,q,m,cap,_,_,h2⟩:=id hd;exact⟨_,h,bT hs (v:= .pointer (some ⟨g,o0+q*d.low.size+off,none⟩)) (by simp[execOp,h2]) (by rw[<-h2];exact hd)⟩
   .rename_i r z hX;have hd:=fN _ _ hX;obtain⟨b,off,h2,_⟩:=id hd;exact⟨_,h,bT hs (v:= .pointer (some ⟨b,off,none⟩)) (by simp[execOp,h2]) (by rw[<-h2];exact hd)⟩
   .cases h
  .split at h
   case h_2=>cases h
   rename_i X hX;split at h
   case h_2=>cases h
   rename_i Y hY;exact ML E.T h hs (fN _ _ hX) (fN _ _ hY)
  .split at h
   case h_2=>cases h
   rename_i X hX;split at h
   case h_2=>cases h
   rename_i D hD;exact⟨_,h,PF hD hs (fN _ _ hX)⟩
  .split at h
   case h_2=>cases h
   rename_i X hX;split at h
   case h_2=>cases h
   rename_i D hD;exact⟨_,h,JL E.T hD hs (fN _ _ hX)⟩
  .split at h
   case h_2=>cases h
   rename_i A hA;split at h
   case h_2=>cases h
   rename_i i hi;split at h
   case h_2=>cases h
   rename_i B hB;split at h
   case h_2=>cases h
   rename_i j hj;exact Hh E.deep E.T h hs (gX hi (fN _ _ hA)) (gX hj (fN _ _ hB))
  .split at h
   case h_2=>cases h
   rename_i X hX;exact G6 E.drop E.T fN h hs (fN _ _ hX)
  .split at h
   case h_2=>cases h
   rename_i X hX;split at h
   case h_2=>cases h
   rename_i D hD;exact⟨_,h,GS E.T hD hs (fN _ _ hX)⟩
  .split at h
   case h_2=>cases h
   rename_i X hX;split at h
   case h_2=>cases h
   rename_i D hD;exact⟨_,h,Dn E.T hD hs (fN _ _ hX)⟩
  .split at h
   case h_2=>cases h
   rename_i X hX;split at h
   case h_2=>cases h
   rename_i Y hY;split at h
   case h_2=>cases h
   rename_i i hi;exact GU E.T h hs (fN _ _ hX) (gX hi (fN _ _ hY))
  .split at h
   case h_2=>cases h
   rename_i X hX;split at h
   case h_2=>cases h
   rename_i Y hY;split at h
   case h_2=>cases h
   rename_i k' i hi;exact Dr E.T h hs (fN _ _ hX) (gX hi (fN _ _ hY))
  .split at h
   case h_2=>cases h
   rename_i X hX;split at h
   case h_2=>cases h
   rename_i D hD;exact⟨_,h,AJ hD hs (fN _ _ hX)⟩
  .exact Kj E fN h hs
  .exact ze fN h hs
  .exact yY E.deep E.T h hs
  .split at h
   case h_2=>cases h
   rename_i M hM;split at h
   case h_2=>cases h
   rename_i X hX;exact AV E.T h hs (fN _ _ hM) (fN _ _ hX)
  .split at h
   case h_2=>cases h
   rename_i X hX;exact Nb E.T h hs (fN _ _ hX)
  .split at h
   case h_2=>cases h
   rename_i X hX;exact DN E.T h hs (fN _ _ hX)
  .cases h
end
def oP(rd:Operand->Option al)(x:Operand):List Nat:=
 match rd x with
 |some (.val _ t)=>t.owns
 |_=>[]
def zg(rd:Operand->Option al)(x:Operand):List Nat:=
 match rd x with
 |some (.val _ (.view o _ _ _))=>[o]
 |_=>[]
def Fj(rd:Operand->Option al):List Operand->List Nat
 |[]=>[]
 |x::xs=>oP rd x++Fj rd xs
def sN:Operand->Bool
 | .const (.slice none 0 0)=>true
 |_=>false
def Fk(rd:Operand->Option al):Op->List Nat
 | .store _ x y=>match rd x with
   |some (.elem ..)=>oP rd y
   |_=>[]
 | .buildSlice _ _ ps=>Fj rd (ps.toList.map (·.2))
 | .binOp .eql _ x y _=>bif sN y then[]else oP rd x++oP rd y
 | .binOp .neq _ x y _=>bif sN y then[]else oP rd x++oP rd y
 | .slice _ x _ _ _=>zg rd x
 | .indexAddr _ x _=>zg rd x
 | .call c=>match c.callee,c.args.toList with
   | .builtin .append,[_,y]=>zg rd y
   |_,_=>[]
 | .mapUpdate _ _ _ y=>oP rd y
 |_=>[]
def Bl(nt:Nat):Option Nat->Bool
 |some d=>akf d nt
 |none=>true
def fnB(dst:Option Nat)(op:Op):Bool:=
 match dst with
 |some _=>true
 |none=>match op with
  | .call c=>Nd c.callee
  |_=>true
open Classical in
noncomputable def vI{α:Type}(a b:Option α):Option α:=if a=b then a else none
theorem Km{α:Type}{a b:Option α}{q:α}(h:vI a b=some q):a=some q:=by
 unfold vI at h;split at h
 .exact h
 .cases h
theorem PU{α:Type}{a b:Option α}{q:α}(h:vI a b=some q):b=some q:=by
 have ha:=Km h;unfold vI at h;split at h
 .rename_i e;rw[<-e];exact ha
 .cases h
def Ko{P:Program}(T:be P)(rd:Operand->Option al)(ob:Nat->Option (Nat×Th)):Op->Option (Bool×Nat)
 | .binOp o t x y _=>match o with
   | .eql=>bif sN y then(match find T.und t with
     |some (.slice _)=>match rd x with
      |some X=>match ud ob X with
       |some (.read _ l)=>some (false,l.length)
       |some (.own _ _ _ _ l)=>some (false,l.length)
       |_=>none
      |none=>none
     |_=>none)else none
   | .neq=>bif sN y then(match find T.und t with
     |some (.slice _)=>match rd x with
      |some X=>match ud ob X with
       |some (.read _ l)=>some (true,l.length)
       |some (.own _ _ _ _ l)=>some (true,l.length)
       |_=>none
      |none=>none
     |_=>none)else none
   |_=>none
 |_=>none
def OI(objs:List (Nat×(Nat×Th))):Option al->Bool
 |some (.val false (.own o))=>match find objs o with
  |some (_, .dmap ..)=>true
  |_=>false
 |_=>false
def Kp(rd:Operand->Option al)(objs:List (Nat×(Nat×Th))):Op->List Nat
 | .mapUpdate t m x y=>bif OI objs (rd m)then[]else Fk rd (.mapUpdate t m x y)
 | .lookup t m x false=>bif OI objs (rd m)then oP rd m else[]
 |op=>Fk rd op
def qE{P:Program}(E:Env P)(rd:Operand->Option al)(objs:List (Nat×(Nat×Th)))(op:Op):List Nat:=
 match E.deep,op with
 |true, .buildSlice .. =>[]
 |_,_=>Kp rd objs op
noncomputable def vJ(st:State)(o:Nat):State:=
 match J0 (find st.objs) st.nxt o with
 |some e=>st.apply none e
 |none=>st
noncomputable def tK(st:State):List Nat->State
 |[]=>st
 |o::os=>tK (vJ st o) os
def OJ:List (Nat×(Nat×Th))->Bool
 |[]=>false
 |(_,(_, .deep _ _ _ (some _)))::_=>true
 |(_,(_, .dmap _ _ _ _ _ (some _)))::_=>true
 |_::l=>OJ l
noncomputable def oq(st:State):State:=
 match OJ st.objs with
 |true=>tK (tK st (st.objs.map (·.1))) (st.objs.map (·.1))
 |false=>st
def SW:Op->Bool
 | .call c=>Nd c.callee
 |_=>false
def zh(o:Nat):List (Nat×(Nat×Th))->Bool
 |[]=>false
 |(_,(_, .deep _ _ _ (some h)))::l=>aju h.o o||zh o l
 |(_,(_, .dmap _ _ _ _ _ (some h)))::l=>aju h.2 o||zh o l
 |_::l=>zh o l
def Nf(st:State)(x:Operand):Bool:=
 match IL st.ai x with
 |some (.val _ (.own o))=>zh o st.objs
 |_=>false
def Kq(st:State):Op->Bool
 | .call c=>c.args.toList.any (Nf st)
 |_=>false
noncomputable def Fl{R:Type}{P:Program}(E:Env P)(dst:Option Nat)(op:Op)(st:State)(k:State->Option R):Option R:=
 match eN st.objs (qE E (IL st.ai) st.objs op)with
 |some aO=>match Ko E.T (IL st.ai) (find aO) op with
  |some (b,m)=>match dst with
   |some d=>if aju m 0=true then vI (k (State.apply {st with objs:=aO} (some d) {dst:=dM true})) (k (State.apply {st with objs:=aO} (some d) {dst:=dM false}))
     else k (State.apply {st with objs:=aO} (some d) {dst:=dM b})
   |none=>none
  |none=>bif fnB dst op then Nc E (IL st.ai) aO st.nxt dst op (fun e=>k (State.apply {st with objs:=aO} dst e))else none
 |none=>none
noncomputable def vK{R:Type}{P:Program}(E:Env P)(dst:Option Nat)(op:Op)(st:State)(k:State->Option R):Option R:=
 match E.deep&&SW op&& !Kq st op with
 |true=>Fl E dst op (oq st) k
 |false=>Fl E dst op st k
def Fo(all:Array Oper)(j:Nat):Option Nat:=(all[j]?).bind (·.dst)
def State.put(st:State)(dst:Option Nat)(d:al):State:=
 match dst with
 |some t=>{st with ai:=(t,d)::st.ai}
 |none=>st
def vL(dst:Option Nat)(kn:List (Nat×Bool)):List (Nat×Bool):=
 match dst with
 |some d=>del [d] kn
 |none=>kn
noncomputable def runs{R:Type}{P:Program}(E:Env P)(nt:Nat)(all:Array Oper):List Oper->List (Nat×Bool)->State->(State->Option R)->Option R
 |[],_,st,k=>k st
 |o::os,kn,st,k=>bif Bl nt o.dst then(match o.guard with
  |none=>vK E o.dst o.op st (fun bX=>runs E nt all os (vL o.dst kn) bX k)
  |some (j,b)=>match Fo all j with
   |none=>none
   |some g=>bif akf g nt then(match find kn g with
    |some v=>bif (bif v then b else !b)then vK E o.dst o.op st (fun bX=>runs E nt all os (vL o.dst kn) bX k)else runs E nt all os (vL o.dst kn) (st.put o.dst .undef) k
    |none=>match find st.ai g with
     |some .undef=>runs E nt all os (vL o.dst kn) (st.put o.dst .undef) k
     |some d=>match asBool d with
      |some t=>if t=true then
        (bif b then vK E o.dst o.op (st.put (some g) (dM true)) (fun bX=>runs E nt all os (vL o.dst ((g,true)::kn)) bX k)
          else runs E nt all os (vL o.dst ((g,true)::kn)) ((st.put (some g) (dM true)).put o.dst .undef) k)
       else
        (bif b then runs E nt all os (vL o.dst ((g,false)::kn)) ((st.put (some g) (dM false)).put o.dst .undef) k
          else vK E o.dst o.op (st.put (some g) (dM false)) (fun bX=>runs E nt all os (vL o.dst ((g,false)::kn)) bX k))
      |none=>none
     |none=>none)else none)else none
section
variable {P:Program} {nt:Nat} {ops:Array Oper} {K:(Nat->Value)->World->Prop} {rest:List Oper} {R:Type}
variable {ρ:Nat->Value} {w w0:World} {H:aq} {F F0 G:Nat->Prop}
abbrev UU(G:Nat->Prop)(w0:World):Nat->Prop:=fun k=>w0.heap.size<=k\/G k
theorem J4.lG{H':aq}{F':Nat->Prop}{w':World}{g:Nat->Prop}(hg:J4 G w0 F0 w F)(he:Mc H F w H' F' w' g)(hu:∀k,g k->UU G w0 k):J4 G w0 F0 w' F':=by
 have lM:=hg.ext.size;refine⟨⟨he.ext.os.trans hg.ext.os,he.ext.tape.trans hg.ext.tape,he.ext.output.trans hg.ext.output,Nat.le_trans lM he.ext.size,fun k hk hn=>?_⟩,fun b hb=>he.le b (hg.le b hb),fun b hb=>?_⟩
 .rw[he.ext.block k (by omega) fun h=>?_]
  .exact hg.ext.block k hk hn
  .rcases hu k h with h1|h1
   .omega
   .exact hn h1
 .rcases he.grow b hb with h1|h1|h1
  .exact hg.new b h1
  .exact .inr (.inl (Nat.le_trans lM h1))
  .exact .inr (hu b h1)
structure cH(G:Nat->Prop)(w0:World)(F0:Nat->Prop)(H:aq)(F:Nat->Prop)(w:World)(ρ:Nat->Value)(st:State):Prop where
 sat:Sat (UU G w0) H F w ρ st
 glob:J4 G w0 F0 w F
theorem cB.Bm{H':aq}{F':Nat->Prop}{w':World}{g:Nat->Prop}(he:Mc H F w H' F' w' g)(hF:∀b,F b->b<w.heap.size)(hg:∀k,g k->¬F k):cB H F w H' F' w':=⟨he.iZ,he.step hF hg⟩
theorem cH.sj{st:State}{os:List Nat}{aO:List (Nat×(Nat×Th))}(h:cH G w0 F0 H F w ρ st)(hf:eN st.objs os=some aO):
 ∃F',cH G w0 F0 H F' w ρ {st with objs:=aO}/\cB H F w H F' w:=by
 obtain⟨F',a1,a2,a3⟩:=nC hf h.sat.ob
 have eM:Step F w F' w:=fun b hb=>⟨a2 b hb,rfl⟩
 refine⟨F',⟨⟨fun t d hd=>(h.sat.slot t d hd).keep (aq.le.refl H) eM,a1,h.sat.all⟩,⟨h.glob.ext,fun b hb=>a2 b (h.glob.le b hb),fun b hb=>?_⟩⟩,⟨aq.le.refl H,eM⟩⟩
 rcases a3 b hb with h1|h1
 .exact h.glob.new b h1
 .exact .inr (h.sat.ob.gD b h1)
theorem DQ{P:Program}{ρ:Nat->Value}{w:World}{o:BinOp}(fM:o= .eql\/o= .neq){t u e:TypeId}{x y:Operand}{d:Nat}{ty:TypeId}{pos:String}{aft:Array Edge}(hu:P.underlying t=some (.slice e)){A:Option Addr}{m c:Nat}(hx:ev ρ x= .slice A m c)(hy:ev ρ y= .slice none 0 0):
 (execOp (ev ρ) ⟨some d, .binOp o t x y u,ty,pos,aft,none⟩).run P w= .ok (.value (.bool (bif decide (o= .eql)then A.isNone else !A.isNone))) w:=by
 have hm:Op.maxDepth=9999+1:=rfl
 have he:(Op.equal t (.slice A m c) (.slice none 0 0)).run P w= .ok A.isNone w:=by
  unfold Op.equal;rw[hm];unfold Op.equalIn;rw[ajR,run_underlying hu]
  cases A<;>rfl
 rcases fM with rfl|rfl
 .simp[execOp,eqGuard,binOp,hx,hy,he]
 .simp[execOp,eqGuard,binOp,hx,hy,he]
theorem Kr{P:Program}(T:be P){U:Nat->Prop}{H:aq}{F:Nat->Prop}{w:World}{ρ:Nat->Value}{n:Nat}{ob:Nat->Option (Nat×Th)}{rd:Operand->Option al}(fN:∀x d,rd x=some d->aj H F w d (ev ρ x))(hs:au U H F w ob n){op:Op}{b:Bool}{m:Nat}(h:Ko T rd ob op=some (b,m)){d:Nat}{ty:TypeId}{pos:String}{aft:Array Edge}:
 ∃r:Bool,(m≠0->r=b)/\(execOp (ev ρ) ⟨some d,op,ty,pos,aft,none⟩).run P w= .ok (.value (.bool r)) w:=by
 have isn:∀{y:Operand},sN y=true->ev ρ y= .slice none 0 0:=by
  intro y hy;unfold sN at hy;split at hy
  .rfl
  .cases hy
 have key:∀{k:JC}{v:Value},ME U H F w ob v k->∀m,(match k with| .read _ l=>l.length=m| .own _ _ _ _ l=>l.length=m|_=>False)->∃A n c,v= .slice A n c/\(m≠0->A.isNone=false):=by
  intro k v hk m hm
  cases k with
  |read r l=>
   obtain⟨A,cap,hv,_,_,h3⟩:=hk;simp only[ake,and_true]at hv;refine⟨A,_,cap,hv,fun h0=>?_⟩;obtain⟨b,off,es,rfl,_⟩:=h3 0 (by dsimp only at hm;omega);rfl
  |own o s T r l=>
   obtain⟨xs,hx,_⟩:=hk.2.2.2
   rcases hx.2 with⟨rfl,h0⟩|⟨g,o0,cap,cur,rfl,_⟩
   .exact⟨none,0,0,rfl,fun h=>absurd (hm.symm.trans h0) h⟩
   .exact⟨_,_,_,rfl,fun _=>rfl⟩
  |nil=>exact hm.elim
  |view o s r m=>exact hm.elim
  |deep=>exact hm.elim
 unfold Ko at h;split at h
 case h_2=>cases h
 rename_i o t x y u;split at h
 case h_3=>cases h
 all_goals
  obtain⟨hy,h⟩:=aG h;split at h
  case h_2=>cases h
  rename_i e hu;have hu:=T.und_ok _ _ hu;split at h
  case h_2=>cases h
  rename_i X hX;split at h
  case h_3=>cases h
  all_goals
   rename_i fZ;obtain⟨rfl,rfl⟩:=akO (ajk h);obtain⟨A,n',c,hv,hA⟩:=key (iG hs fZ (fN _ _ hX)) _ rfl;refine⟨_,fun h0=>?_,DQ (by first|exact .inl rfl|exact .inr rfl) hu hv (isn hy)⟩;rw[hA h0];rfl
theorem cH.vJ{st:State}(h:cH G w0 F0 H F w ρ st)(o:Nat):∃H' F',cH G w0 F0 H' F' w ρ (vJ st o)/\cB H F w H' F' w:=by
 unfold Go.Proofs.YtmihpkfkbfgigaaGreatDoor.vJ;split
 .rename_i e he;obtain⟨H',F',hp⟩:=DB h.sat.ob he;have hs:=h.sat.apply (d:=none) hp;exact⟨H',F',⟨hs,h.glob.lG hp.lG h.sat.ob.gD⟩,cB.Bm hp.lG h.sat.ob.lt h.sat.ob.gW⟩
 .exact⟨H,F,h,cB.refl H F w⟩
theorem cH.tK:{os:List Nat}->{st:State}->{H:aq}->{F:Nat->Prop}->cH G w0 F0 H F w ρ st->∃H' F',cH G w0 F0 H' F' w ρ (tK st os)/\cB H F w H' F' w
 |[],_,H,F,h=>⟨H,F,h,cB.refl H F w⟩
 |o::os,st,H,F,h=>by
  obtain⟨H1,F1,h1,k1⟩:=h.vJ o;obtain⟨H2,F2,h2,k2⟩:=cH.tK (os:=os) h1;exact⟨H2,F2,h2,k1.trans k2⟩
theorem cH.oq{st:State}(h:cH G w0 F0 H F w ρ st):∃H' F',cH G w0 F0 H' F' w ρ (oq st)/\cB H F w H' F' w:=by
 unfold Go.Proofs.YtmihpkfkbfgigaaGreatDoor.oq;split
 case h_2=>exact⟨H,F,h,cB.refl H F w⟩
 obtain⟨H1,F1,h1,k1⟩:=h.tK (os:=st.objs.map (·.1));obtain⟨H2,F2,h2,k2⟩:=h1.tK (os:=st.objs.map (·.1));exact⟨H2,F2,h2,k1.trans k2⟩
theorem Bn{E:Env P}{dst:Option Nat}{op:Op}{ty:TypeId}{pos:String}{aft:Array Edge}{st:State}{k:State->Option R}{q:R}(h:Fl E dst op st k=some q)(hd:Bl nt dst=true)(hh:cH G w0 F0 H F w ρ st)
 (hk:∀bX H' F' w' b8,k bX=some q->cH G w0 F0 H' F' w' b8 bX->cB H F w H' F' w'->(∀t,dst≠some t->b8 t=ρ t)->wpS P nt ops K rest b8 w'):wpS P nt ops K (⟨dst,op,ty,pos,aft,none⟩::rest) ρ w:=by
 unfold Fl at h;split at h
 case h_2=>cases h
 rename_i aO w7;obtain⟨F1,ox,Fp⟩:=hh.sj w7;split at h
 .rename_i b m hn;split at h
  case h_2=>cases h
  rename_i d;obtain⟨r,hr,bw⟩:=Kr E.T (ρ:=ρ) (d:=d) (ty:=ty) (pos:=pos) (aft:=aft) (fun x d hx=>uZ ox.sat.ob.gl ox.sat.slot x d hx) ox.sat.ob hn
  have hkr:k (State.apply {st with objs:=aO} (some d) {dst:=dM r})=some q:=by
   split at h
   .cases r with
    |true=>exact Km h
    |false=>exact PU h
   .rename_i h0;rw[hr fun e=>h0 (by rw[e];rfl)];exact h
  have Ks:cG P (UU G w0) H F1 w ρ (find aO) st.nxt ⟨some d,op,ty,pos,aft,none⟩ {dst:=dM r}:=bT ox.sat.ob bw (aH.gk ..)
  refine Av Ks (fun d' xq=>by rw[xq]at hd;exact hd) fun v w' ⟨H',F',hp⟩=>?_
  have hs:=ox.sat.apply (d:=some d) hp
  refine hk _ H' F' w' _ hkr ⟨hs,ox.glob.lG hp.lG ox.sat.ob.gD⟩ (Fp.trans (cB.Bm hp.lG ox.sat.ob.lt ox.sat.ob.gW)) fun t ht=>?_
  show C6 ρ d v t=ρ t
  rw[oG,if_neg (fun e=>ht (by rw[e]))]
 obtain⟨zf,h'⟩:=aG h;clear h;obtain⟨e,he,Ks⟩:=Kl (ρ:=ρ) (ty:=ty) (pos:=pos) (aft:=aft) E (fun x d hx=>uZ ox.sat.ob.gl ox.sat.slot x d hx) (fun hn c hc=>by subst hn;subst hc;exact zf) h' ox.sat.ob
 refine Av Ks (fun d xq=>by rw[xq]at hd;exact hd) fun v w' ⟨H',F',hp⟩=>?_
 have hs:=ox.sat.apply (d:=dst) hp
 refine hk _ H' F' w' _ he ⟨hs,ox.glob.lG hp.lG ox.sat.ob.gD⟩ (Fp.trans (cB.Bm hp.lG ox.sat.ob.lt ox.sat.ob.gW)) fun t ht=>?_
 cases dst with
 |none=>rfl
 |some d=>
  show C6 ρ d v t=ρ t
  rw[oG,if_neg (fun e=>ht (by rw[e]))]
theorem Kt{E:Env P}{dst:Option Nat}{op:Op}{ty:TypeId}{pos:String}{aft:Array Edge}{st:State}{k:State->Option R}{q:R}(h:vK E dst op st k=some q)(hd:Bl nt dst=true)(hh:cH G w0 F0 H F w ρ st)
 (hk:∀bX H' F' w' b8,k bX=some q->cH G w0 F0 H' F' w' b8 bX->cB H F w H' F' w'->(∀t,dst≠some t->b8 t=ρ t)->wpS P nt ops K rest b8 w'):wpS P nt ops K (⟨dst,op,ty,pos,aft,none⟩::rest) ρ w:=by
 unfold vK at h;split at h
 .obtain⟨H1,F1,h1,k1⟩:=hh.oq
  exact Bn h hd h1 fun bX H' F' w' b8 a b c d=>hk bX H' F' w' b8 a b (k1.trans c) d
 .exact Bn h hd hh hk
theorem cH.put{st:State}{dst:Option Nat}{d:al}{v:Value}(h:cH G w0 F0 H F w ρ st)(hd:aj H F w d v):cH G w0 F0 H F w (uc ρ dst v) (st.put dst d):=by
 refine⟨⟨fun t q hq=>?_,?_,by cases dst<;>exact h.sat.all⟩,h.glob⟩
 .cases dst with
  |none=>exact h.sat.slot t q hq
  |some s=>
   have mM:find ((s,d)::st.ai) t=some q:=hq;rw[aD]at mM
   show aj H F w q (C6 ρ s v t)
   rw[oG];by_cases e:s=t
   .rw[if_pos e]at mM;rw[if_pos e.symm];obtain rfl:=ajk mM;exact hd
   .rw[if_neg e]at mM;rw[if_neg (Ne.symm e)];exact h.sat.slot t q mM
 .cases dst<;>exact h.sat.ob
theorem cH.lit{st:State}{g:Nat}{d:al}(h:cH G w0 F0 H F w ρ st)(hd:aj H F w d (ρ g)):cH G w0 F0 H F w ρ (st.put (some g) d):=by
 refine⟨⟨fun t q hq=>?_,h.sat.ob,h.sat.all⟩,h.glob⟩;have mM:find ((g,d)::st.ai) t=some q:=hq;rw[aD]at mM;split at mM
 .rename_i e;subst e;obtain rfl:=ajk mM;exact hd
 .exact h.sat.slot t q mM
def rD(ρ:Nat->Value)(kn:List (Nat×Bool)):Prop:=∀g b,find kn g=some b->ρ g= .bool b
theorem rD.del{b8:Nat->Value}{dst:Option Nat}{kn:List (Nat×Bool)}(h:rD ρ kn)(OK:∀t,dst≠some t->b8 t=ρ t):rD b8 (vL dst kn):=by
 intro g b hg
 cases dst with
 |none=>rw[OK g (by simp)];exact h g b hg
 |some d=>
  obtain⟨h1,h2⟩:=gU.1 hg;rw[OK g (fun e=>h1 (by simp[ajk e]))];exact h g b h2
theorem rD.cons{kn:List (Nat×Bool)}{g:Nat}{b:Bool}(h:rD ρ kn)(hb:ρ g= .bool b):rD ρ ((g,b)::kn):=by
 intro g' b' hg;rw[aD]at hg;split at hg
 .rename_i e;subst e;obtain rfl:=ajk hg;exact hb
 .exact h g' b' hg
theorem pL{dst:Option Nat}{v:Value}{t:Nat}(h:dst≠some t):uc ρ dst v t=ρ t:=by
 cases dst with
 |none=>rfl
 |some d=>
  show C6 ρ d v t=ρ t
  rw[oG,if_neg (fun e=>h (by rw[e]))]
theorem zi{E:Env P}{q:R}:{l:List Oper}->{kn:List (Nat×Bool)}->{st:State}->{k:State->Option R}->{H:aq}->{F:Nat->Prop}->{w:World}->{ρ:Nat->Value}->runs E nt ops l kn st k=some q->rD ρ kn->cH G w0 F0 H F w ρ st->
 (∀bX H' F' w' b8,k bX=some q->cH G w0 F0 H' F' w' b8 bX->cB H F w H' F' w'->(∀t,(∀o∈l,o.dst≠some t)->b8 t=ρ t)->K b8 w')->wpS P nt ops K l ρ w
 |[],kn,st,k,H,F,w,ρ,h,_,hh,hk=>Mu (hk st H F w ρ h hh (cB.refl H F w) fun _ _=>rfl)
 |o::l,kn,st,k,H,F,w,ρ,h,zj,hh,hk=>by
  unfold runs at h;obtain⟨hd,h'⟩:=aG h;clear h
  have WR:∀d,o.dst=some d->akf d nt=true:=fun d e=>by rw[e]at hd;exact hd
  have on:∀{nF:State}{PV:List (Nat×Bool)},vK E o.dst o.op nF (fun bX=>runs E nt ops l (vL o.dst PV) bX k)=some q->rD ρ PV->cH G w0 F0 H F w ρ nF->wpS P nt ops K (⟨o.dst,o.op,o.type,o.pos,o.after,none⟩::l) ρ w:=by
   intro nF PV hs zk ox
   refine Kt hs hd ox fun bX H' F' w' b8 e1 e2 e3 e4=>?_
   refine zi e1 (zk.del e4) e2 fun Ku H2 F2 w2 VC f1 f2 f3 f4=>?_
   exact hk Ku H2 F2 w2 VC f1 f2 (e3.trans f3) fun t ht=>(f4 t fun o' kO=>ht o' (by simp[kO])).trans (e4 t (ht o (by simp)))
  have off:∀{nF:State}{PV:List (Nat×Bool)},runs E nt ops l (vL o.dst PV) (nF.put o.dst .undef) k=some q->rD ρ PV->cH G w0 F0 H F w ρ nF->wpS P nt ops K l (uc ρ o.dst undef) w:=by
   intro nF PV hs zk ox
   refine zi hs (zk.del fun t ht=>pL ht) (ox.put rfl) fun Ku H2 F2 w2 VC f1 f2 f3 f4=>?_
   exact hk Ku H2 F2 w2 VC f1 f2 f3 fun t ht=>(f4 t fun o' kO=>ht o' (by simp[kO])).trans (pL (ht o (by simp)))
  obtain⟨dst,op,ty,pos,aft,guard⟩:=o;simp only at h' on off WR;split at h'
  .exact on h' zj hh
  .rename_i j b;split at h'
   case h_1=>cases h'
   rename_i g OL;obtain⟨OM,h⟩:=aG h';clear h'
   have WS:ρ g= .bool b->wpS P nt ops K (⟨dst,op,ty,pos,aft,none⟩::l) ρ w->wpS P nt ops K (⟨dst,op,ty,pos,aft,some (j,b)⟩::l) ρ w:=fun hb hw=>Ps g OL OM hb hw
   have PW:∀b',ρ g= .bool b'->b'≠b->wpS P nt ops K l (uc ρ dst undef) w->wpS P nt ops K (⟨dst,op,ty,pos,aft,some (j,b)⟩::l) ρ w:=fun b' hb bP hw=>by
    cases dst with
    |none=>exact yE g OL OM hb bP hw
    |some d=>exact Mv g OL OM hb bP (WR d rfl) hw
   split at h
   .rename_i v hv;have hgv:=zj g v hv
    cases Dy:(bif v then b else !b)with
    |true=>
     rw[Dy,cond_true]at h
     have:v=b:=by cases v<;>cases b<;>simp_all
     subst this;exact WS hgv (on h zj hh)
    |false=>
     rw[Dy,cond_false]at h
     have:v≠b:=by intro e;subst e;cases v<;>simp_all
     exact PW v hgv this (off h zj hh)
   .split at h
    .rename_i hu;have hgu:ρ g=undef:=hh.sat.slot _ _ hu
     cases dst with
     |none=>exact wU g OL OM hgu (off h zj hh)
     |some d=>exact IZ g OL OM hgu (WR d rfl) (off h zj hh)
    .rename_i d xq;split at h
     case h_2=>cases h
     rename_i t ht;have hgt:=nq ht (hh.sat.slot _ _ xq);split at h
     .rename_i Ng;subst Ng;have ox:cH G w0 F0 H F w ρ (st.put (some g) (dM true)):=hh.lit (by rw[hgt];exact aH.gk ..);have zk:=zj.cons hgt
      cases b with
      |true=>rw[cond_true]at h;exact WS hgt (on h zk ox)
      |false=>rw[cond_false]at h;exact PW true hgt (by simp) (off h zk ox)
     .rename_i Ng
      have Ng:t=false:=by cases t<;>simp_all
      subst Ng;have ox:cH G w0 F0 H F w ρ (st.put (some g) (dM false)):=hh.lit (by rw[hgt];exact aH.gk ..);have zk:=zj.cons hgt
      cases b with
      |true=>rw[cond_true]at h;exact PW false hgt (by simp) (off h zk ox)
      |false=>rw[cond_false]at h;exact WS hgt (on h zk ox)
    .cases h
end
end Go.Proofs.YtmihpkfkbfgigaaGreatDoor
end
section
open _root_.Array renaming getElem?_eq_getElem->ajT,getElem?_eq_some_iff->akh
open _root_.Bool renaming cond_eq_ite->ajP
open _root_.List renaming getD->ajN,getElem?_append_left->ajQ,length_append->ajm,length_cons->ajy,length_singleton->ajw,mem_cons->ajJ,mem_singleton->ajz
open _root_.Nat renaming add_zero->akm,beq->aju,blt->akf,zero_add->ajO
open _root_.Option renaming bind_assoc->akc,isSome_iff_exists->ajZ,none_or->aku
open _root_.Option.some renaming inj->ajk
open _root_.Go.Region renaming binds->akX
namespace Go.Proofs.YtmihpkfkbfgigaaGreatDoor
open Go Go.RowKit
section
variable {P:Program} {R:Type} {ob:Nat->Option (Nat×Th)} {n:Nat} (k:dY->Option R)
theorem vM{rd:Operand->Option al}{fn:Fn}{first caps:Array Operand}:mh rd fn first caps k=(mh rd fn first caps some).bind k:=by
 unfold mh
 repeat' first|rfl|split
theorem zn(T:be P){m:Nat}{e:TypeId}{D:al}{i:Int}:pz T m e D i k=(pz T m e D i some).bind k:=by
 unfold pz;simp only[ajP]
 repeat' first|rfl|(rw[akc];rfl)|split
theorem zo(T:be P){t:TypeId}{D:al}{i:Int}:pE T ob t D i k=(pE T ob t D i some).bind k:=by
 unfold pE;simp only[ajP]
 repeat' first|rfl|(rw[akc];rfl)|split
theorem Bo(T:be P){t:TypeId}{D:al}{i:Int}:sr T ob t D i k=(sr T ob t D i some).bind k:=by
 unfold sr;simp only[ajP]
 repeat' first|rfl|exact zn k T|(rw[akc];rfl)|split
theorem DS(T:be P){t:TypeId}{D:al}:xA T ob t D k=(xA T ob t D some).bind k:=by
 unfold xA;simp only[ajP]
 repeat' first|rfl|split|(rw[akc];congr 1;funext x;repeat' first|rfl|split)
theorem Bp(T:be P){t:TypeId}{D V:al}:su T ob n t D V k=(su T ob n t D V some).bind k:=by
 unfold su;simp only[ajP]
 repeat' first|rfl|split|(rw[akc];rfl)|(rw[akc];congr 1;funext x;repeat' first|rfl|split)
theorem Bq(T:be P){t:TypeId}{D:al}:qA T ob n t D k=(qA T ob n t D some).bind k:=by
 unfold qA;simp only[ajP]
 repeat' first|rfl|split|(rw[akc];rfl)
theorem Br(T:be P){t:TypeId}{D:al}:oM T ob n t D k=(oM T ob n t D some).bind k:=by
 unfold oM;split
 .exact Bq k T
 .exact DS k T
theorem zp(T:be P){t:TypeId}{D V:al}:pF T ob n t D V k=(pF T ob n t D V some).bind k:=by
 unfold pF;simp only[ajP]
 repeat' first|rfl|split|(rw[akc];rfl)
theorem zq(T:be P){t:TypeId}{D V:al}:pI T ob n t D V k=(pI T ob n t D V some).bind k:=by
 unfold pI;split
 .exact zp k T
 .exact Bp k T
theorem xd{e:TypeId}{dr:DR}{ds:List al}:oL e dr ob n ds k=(oL e dr ob n ds some).bind k:=by
 unfold oL;simp only[ajP]
 repeat' first|rfl|split
theorem Bt(T:be P){t:TypeId}:sv T n t k=(sv T n t some).bind k:=by
 unfold sv
 repeat' first|rfl|split
theorem Hu{t:TypeId}{V:al}:GZ n t V k=(GZ n t V some).bind k:=by
 unfold GZ
 repeat' first|rfl|split
theorem vN(T:be P){t:TypeId}{s:Bool}{a b:Int}:va T n t s a b k=(va T n t s a b some).bind k:=by
 unfold va
 repeat' first|rfl|split|(rw[akc];rfl)
theorem Bu(T:be P){b:Bool}{t:TypeId}{s:Bool}{x y:Int}:vv b T n t s x y k=(vv b T n t s x y some).bind k:=by
 unfold vv;split
 .unfold yX
  repeat' first|rfl|exact vN k T|split|(rw[akc];rfl)
 .exact vN k T
theorem zr(T:be P){t:TypeId}{X Y:al}:pD T ob n t X Y k=(pD T ob n t X Y some).bind k:=by
 unfold pD;simp only[ajP]
 repeat' first|rfl|split|(rw[akc];rfl)
theorem sO(T:be P){rd:Operand->Option al}{t:TypeId}{m:Nat}{ps:Array (Nat×Operand)}:jH T rd ob n t m ps k=(jH T rd ob n t m ps some).bind k:=by
 unfold jH;simp only[ajP]
 repeat' first|rfl|split
theorem zt{b:Bool}(T:be P){rd:Operand->Option al}{t:TypeId}{m:Nat}{ps:Array (Nat×Operand)}:uF b T rd ob n t m ps k=(uF b T rd ob n t m ps some).bind k:=by
 cases b with
 |false=>exact sO k T
 |true=>
  show pH T rd ob n t m ps k=(pH T rd ob n t m ps some).bind k
  unfold pH;simp only[ajP]
  repeat' first|rfl|exact xd k|split
theorem Bv(T:be P){rd:Operand->Option al}{t:TypeId}{ps:Array (Nat×Operand)}:sy T rd t ps k=(sy T rd t ps some).bind k:=by
 unfold sy;simp only[ajP]
 repeat' first|rfl|split
theorem Bw(dr:Bool)(T:be P){rd:Operand->Option al}{t:TypeId}{D:al}{lo hi:Option Operand}:sz dr T rd ob n t D lo hi k=(sz dr T rd ob n t D lo hi some).bind k:=by
 unfold sz;simp only[ajP]
 repeat' first|rfl|split|(rw[akc];rfl)
theorem Hv(T:be P){o:BinOp}{t:TypeId}{lit:Bool}{X Y:al}:G7 T ob o t lit X Y k=(G7 T ob o t lit X Y some).bind k:=by
 unfold G7;simp only[ajP]
 repeat' first|rfl|split|(rw[akc];rfl)
theorem ug(T:be P){t:TypeId}{M X Y:al}:jt T ob n t M X Y k=(jt T ob n t M X Y some).bind k:=by
 unfold jt;simp only[ajP]
 repeat' first|rfl|split
theorem xe(T:be P){t:TypeId}:nx T n t k=(nx T n t some).bind k:=by
 unfold nx
 repeat' first|rfl|split
theorem zu(T:be P){t:TypeId}{ok:Bool}{M X:al}:nZ T ob t ok M X k=(nZ T ob t ok M X some).bind k:=by
 unfold nZ;simp only[ajP]
 repeat' first|rfl|split
theorem xf(T:be P){t:TypeId}{X Y:al}:nB T ob n t X Y k=(nB T ob n t X Y some).bind k:=by
 unfold nB
 cases J3 ob Y with
 |false=>exact zr k T
 |true=>
  simp only[cond_true];unfold rq;simp only[ajP]
  repeat' first|rfl|split|(rw[akc];rfl)
theorem sP(T:be P){t:TypeId}{M X Y:al}:jI T ob n t M X Y k=(jI T ob n t M X Y some).bind k:=by
 unfold jI;simp only[ajP]
 repeat' first|rfl|exact ug k _|split
theorem vO(b:Bool)(T:be P){t:TypeId}:mg b T n t k=(mg b T n t some).bind k:=by
 unfold mg;simp only[ajP]
 repeat' first|rfl|exact xe k _|split
theorem xg(T:be P){t:TypeId}{ok:Bool}{M X:al}:nz T ob n t ok M X k=(nz T ob n t ok M X some).bind k:=by
 unfold nz;simp only[ajP]
 repeat' first|rfl|exact zu k _|split
theorem Bx{sg:br}{bs:Bs}{aO:List (Nat×(Nat×Th))}{nd:List Nat}{y:cz sg.out.rows}:sL sg n bs aO nd y k=(sL sg n bs aO nd y some).bind k:=by
 unfold sL;simp only[ajP]
 repeat' first|rfl|split
theorem oQ{objs:List (Nat×(Nat×Th))}{f:FuncId}{ds:List al}:{tab:List (Nat×br)}->n4 objs n f ds k tab=(n4 objs n f ds some tab).bind k
 |[]=>rfl
 |(g,sg)::tab=>by
  unfold n4;have ih:=oQ (objs:=objs) (f:=f) (ds:=ds) (tab:=tab);simp only[ajP]
  repeat' first|rfl|exact ih|split|(rw[akc];congr 1;funext y;exact Bx k)
theorem DT{tab:List (Nat×br)}{rd:Operand->Option al}{objs:List (Nat×(Nat×Th))}{g:Operand}{args:List Operand}:xV tab rd objs n g args k=(xV tab rd objs n g args some).bind k:=by
 unfold xV
 repeat' first|rfl|exact oQ k|split
theorem zv(T:be P){tab:List (Nat×br)}{rd:Operand->Option al}{objs:List (Nat×(Nat×Th))}{g:Operand}{name:String}{args:List Operand}:pK T tab rd objs n g name args k=(pK T tab rd objs n g name args some).bind k:=by
 unfold pK
 repeat' first|rfl|exact oQ k|split
theorem Hw(T:be P){t:TypeId}{D:al}:Hq T t D k=(Hq T t D some).bind k:=by
 unfold Hq;simp only[ajP]
 repeat' first|rfl|split
theorem zw(T:be P){t:TypeId}{ok:Bool}{D:al}:pJ T t ok D k=(pJ T t ok D some).bind k:=by
 unfold pJ;simp only[ajP]
 repeat' first|rfl|split
theorem DU(E:Env P){rd:Operand->Option al}{objs:List (Nat×(Nat×Th))}{c:Callee}{args:Array Operand}{wR:Array TypeId}:qd E rd objs n c args wR k=(qd E rd objs n c args wR some).bind k:=by
 unfold qd;simp only[ajP]
 repeat' first|rfl|exact xf k _|exact DT k|exact zv k _|split
theorem Kv(E:Env P){rd:Operand->Option al}{objs:List (Nat×(Nat×Th))}{dst:Option Nat}{op:Op}:Nc E rd objs n dst op k=(Nc E rd objs n dst op some).bind k:=by
 unfold Nc
 repeat' first|rfl|exact zq k _|exact sP k _|exact vO k _ _|exact xg k _|exact Hw k _|exact zw k _|exact DU k _|exact Bt k _|exact Hu k|exact Bv k _|exact zt k _|exact Br k _|exact Hv k _|exact Bu k _|exact Bw k _ _|exact Bo k _|exact zo k _|exact vM k|split
end
def iQ{α:Type}(ns:List Nat):List (Nat×α)->List (Nat×α)
 |[]=>[]
 |(m,a)::l=>bif my m ns then(m,a)::iQ ns l else iQ ns l
theorem xZ{α:Type}{ns:List Nat}{l:List (Nat×α)}{n:Nat}{a:α}:find (iQ ns l) n=some a↔n∈ns/\find l n=some a:=by
 induction l with
 |nil=>simp[iQ,find]
 |cons p l ih=>
  obtain⟨m,b⟩:=p;unfold iQ
  cases hm:my m ns with
  |true=>
   have cn:=dT.1 hm;rw[cond_true,aD,aD];by_cases h:m=n
   .subst h;simp[cn]
   .simp only[if_neg h];exact ih
  |false=>
   have cn:m∉ns:=fun e=>by rw[dT.2 e]at hm;cases hm
   rw[cond_false,ih,aD];constructor
   .rintro⟨h1,h2⟩
    have bP:m≠n:=fun e=>cn (e▸h1)
    exact⟨h1,by rw[if_neg bP];exact h2⟩
   .rintro⟨h1,h2⟩
    have bP:m≠n:=fun e=>cn (e▸h1)
    rw[if_neg bP]at h2;exact⟨h1,h2⟩
def tmpsOf:List Operand->List Nat
 |[]=>[]
 | .tmp t::l=>t::tmpsOf l
 |_::l=>tmpsOf l
def ON:List (Bool×Tree)->List Nat
 |[]=>[]
 |p::l=>p.2.owns++ON l
def SX:al->List Nat
 | .val _ t=>t.owns
 | .ptr o _ _=>[o]
 | .elem o .. =>[o]
 | .dlm o .. =>[o]
 | .tup ds=>ON ds
 | .fn _ caps=>caps.map (·.1)
 | .ifc _ d=>SX d
 |_=>[]
def OO(ai:List (Nat×al)):List Nat->List Nat
 |[]=>[]
 |t::l=>(match find ai t with
  |some d=>SX d
  |none=>[])++OO ai l
def within(objs:List (Nat×(Nat×Th))):List Nat->List Nat
 |[]=>[]
 |o::l=>(match find objs o with
  |some (_, .box _ t)=>t.owns
  |_=>[])++within objs l
def Nh(ai:List (Nat×al))(objs:List (Nat×(Nat×Th)))(ts:List Nat):List Nat:=
 (fun l=>l++within objs l) (OO ai ts)
def ya(aO:List (Nat×(Nat×Th)))(nd:List Nat)(e:dY):dY:=
 {dst:=e.dst,eat:=nd++e.eat,make:=e.make++del e.eat (oo aO nd)}
section
variable {U:Nat->Prop} {H:aq} {F:Nat->Prop} {w:World} {n:Nat}
theorem Hx{obj aO:List (Nat×(Nat×Th))}{nd:List Nat}{e:dY}{v:Value}{w':World}{F1:Nat->Prop}(w7:eN obj nd=some aO)(qa:au U H F1 w (find aO) n)(Db:∀b,F b->F1 b)(Mf:∀b,F1 b->F b\/cm H (find obj) nd b)
 (h:kS H F1 w (find aO) n e v w'):kS H F w (find obj) n (ya aO nd e) v w':=by
 obtain⟨H',F',hp⟩:=h
 have kQ:∀k,cm H (find aO) e.eat k->cm H (find obj) (nd++e.eat) k:=by
  rintro k ⟨o,ho,s,t,u,h1,h2,h3⟩
  rcases hZ w7 o s t h1 with h4|h4
  .exact⟨o,by simp[ho],s,t,u,h4,h2,h3⟩
  .exact(gE h4 h3).elim
 have part:∀o s t,find (e.make++del e.eat (oo aO nd)) o=some (s,t)->find e.make o=some (s,t)\/(o∉e.eat/\o∈nd/\find aO o=some (s,t)/\dZ t=true):=by
  intro o s t ho;rw[gS]at ho
  cases hm:find e.make o with
  |some x=>rw[hm]at ho;exact .inl ho
  |none=>
   rw[hm,aku]at ho;obtain⟨h1,h2⟩:=gU.1 ho;obtain⟨h3,h4,h5⟩:=mz h2;exact .inr ⟨h1,h3,h4,h5⟩
 refine⟨H',F',⟨hp.lG.iZ,⟨hp.lG.ext.os,hp.lG.ext.tape,hp.lG.ext.output,hp.lG.ext.size,fun k hk hn=>hp.lG.ext.block k hk fun hh=>hn (kQ k hh)⟩,fun b hb=>hp.lG.le b (Db b hb),fun b hb=>?_,hp.lG.lt⟩,hp.fresh,hp.dst,⟨fun o s t ho=>?_,fun o o' s s' t t' v v' bP ho kO hv dz k hk dO=>?_⟩,fun o ho=>?_⟩
 .rcases hp.lG.grow b hb with h1|h1|h1
  .rcases Mf b h1 with h2|⟨o,ho,rest⟩
   .exact .inl h2
   .exact .inr (.inr ⟨o,by simp[ya,ho],rest⟩)
  .exact .inr (.inl h1)
  .exact .inr (.inr (kQ b h1))
 .rcases part o s t ho with h1|⟨h1,h2,h3,h4⟩
  .obtain⟨u,a1,a2,a3,a4,a5⟩:=hp.made.obj o s t h1;exact⟨u,a1,a2,a3,a4,fun k hk=>⟨(a5 k hk).1,(a5 k hk).2.1,(a5 k hk).2.2.imp id (kQ k)⟩⟩
  .obtain⟨u,hu,cn⟩:=qa.obj _ _ _ h3;have:=cn.lG qa hp.lG h3 h1 hu;exact⟨u,hp.lG.iZ.val _ _ hu,this.one,this.con,this.ok,fun k hk=>(gE h4 hk).elim⟩
 .rcases part o s t ho with h1|⟨_,_,_,h4⟩
  .rcases part o' s' t' kO with h2|⟨_,_,_,h4'⟩
   .exact hp.made.apart o o' s s' t t' v v' bP h1 h2 hv dz k hk dO
   .exact gE h4' dO
  .exact gE h4 hk
 .obtain⟨x,hx⟩:=ajZ.1 ho
  rcases part o x.1 x.2 hx with h1|⟨_,h2,_⟩
  .exact(hp.ids o (by rw[h1];rfl)).imp (fun h=>by simp[ya,h]) id
  .exact .inl (by simp[ya,h2])
end
def gJ(x y:Nat×Th):Prop:=x=y\/∃T d l h h',x.2= .deep T d l h/\y.2= .deep T d l h'
theorem gJ.symm{x y:Nat×Th}(h:gJ x y):gJ y x:=by
 rcases h with rfl|⟨T,d,l,h,h',h1,h2⟩
 .exact .inl rfl
 .exact .inr ⟨T,d,l,h',h,h2,h1⟩
theorem gJ.trans{x y z:Nat×Th}(h:gJ x y)(h':gJ y z):gJ x z:=by
 rcases h with rfl|⟨T,d,l,a,b,h1,h2⟩
 .exact h'
 .rcases h' with rfl|⟨T',d',l',a',b',h3,h4⟩
  .exact .inr ⟨T,d,l,a,b,h1,h2⟩
  .rw[h2]at h3;cases h3;exact .inr ⟨T,d,l,a,b',h1,h4⟩
structure kY where
 dst:Option Nat
 ts:List Nat
 os:List Nat
 e:dY
 ls:List Nat:=[]
 soft:List Nat:=[]
def qe:List (Nat×(Nat×Th))->List Nat
 |[]=>[]
 |(o,_)::l=>o::qe l
def kY.mut(x:kY):List Nat:=x.e.eat++qe x.e.make
def zx:Op->Bool
 | .call c=>match c.callee with
   | .builtin .len=>true
   |_=>false
 |_=>false
def OP(rd:Operand->Option al):Op->List Nat
 | .load _ x=>match rd x with
   |some (.dlm o _ _ _ _)=>[o]
   |_=>[]
 |_=>[]
def gw(st:State)(op:Op):List Nat:=
 match op with
 | .move _=>[]
 | .assign _=>[]
 |_=>Nh st.ai st.objs (tmpsOf op.operands.toList)
noncomputable def yb{R:Type}{P:Program}(E:Env P)(dst:Option Nat)(op:Op)(gs:List Nat)(st:State)(k:dY->kY->Option R):Option R:=
 match eN (iQ (gw st op) st.objs) (qE E (IL (iQ (tmpsOf op.operands.toList) st.ai)) (iQ (gw st op) st.objs) op)with
 |some aO=>bif fnB dst op then Nc E (IL (iQ (tmpsOf op.operands.toList) st.ai)) aO st.nxt dst op (fun e=>
   (fun e'=>k e' {dst:=dst,ts:=tmpsOf op.operands.toList++gs,os:=bif zx op then[]else gw st op,e:=e',ls:=bif zx op then gw st op else[],soft:=OP (IL (iQ (tmpsOf op.operands.toList) st.ai)) op}) (ya aO (qE E (IL (iQ (tmpsOf op.operands.toList) st.ai)) (iQ (gw st op) st.objs) op) e))else none
 |none=>none
structure OQ(P:Program)(U:Nat->Prop)(o:Oper)(sl:Nat->Option al)(ob:Nat->Option (Nat×Th))(n:Nat)(Fq:kY):Prop where
 dst:Fq.dst=o.dst
 run:∃(WT:Nat->Option al)(Md:Nat->Option (Nat×Th)),(∀t d,WT t=some d->t∈Fq.ts/\sl t=some d)/\(∀q x,Md q=some x->(q∈Fq.os\/q∈Fq.ls)/\ob q=some x)/\
  ∀(H:aq)(F:Nat->Prop)(w:World)(ρ:Nat->Value)(Hy:Nat->Option (Nat×Th)),(∀q x,Md q=some x->∃x',Hy q=some x'/\gJ x x'/\(q∈Fq.os->x'=x))->(∀t d,WT t=some d->aj H F w d (ρ t))->au U H F w Hy n->
   ∃WU:Nat->Option (Nat×Th),(∀q x,WU q=some x->Hy q=some x)/\cd P ρ ⟨o.dst,o.op,o.type,o.pos,o.after,none⟩ w (kS H F w WU n Fq.e)
 soft:∀q∈Fq.soft,q∈Fq.mut->∃x y,ob q=some x/\find Fq.e.make q=some y/\gJ x y
theorem Hz{ob Jv:Nat->Option (Nat×Th)}{D:al}{k:JC}(Ni:∀q x,ob q=some x->∃x',Jv q=some x'/\gJ x x')(h:ud ob D=some k):∃k',ud Jv D=some k'/\ri k'=ri k:=by
 unfold ud at h;split at h
 .cases h;exact⟨_,rfl,rfl⟩
 .cases h;exact⟨_,rfl,rfl⟩
 .rename_i o
  cases ho:ob o with
  |none=>rw[ho]at h;cases h
  |some x=>
   obtain⟨s,t⟩:=x;obtain⟨⟨s',t'⟩,h1,h2⟩:=Ni o _ ho;rw[ho]at h
   rcases h2 with e|⟨T,d,l,a,b,e1,e2⟩
   .cases e;exact⟨k,by show(match Jv o with|some (s, .own T r l)=>_|some (_, .sj _ r l)=>_|some (_, .fdeep _ d l)=>_|some (s, .deep T d l h)=>_|_=>_)=_;rw[h1];exact h,rfl⟩
   .simp only at e1 e2;subst e1 e2;cases h;exact⟨.deep o s' T d l b,by show(match Jv o with|some (s, .own T r l)=>_|some (_, .sj _ r l)=>_|some (_, .fdeep _ d l)=>_|some (s, .deep T d l h)=>_|_=>_)=_;rw[h1],rfl⟩
 .rename_i o s r m
  have hk:ri k=(m.length:Int):=by
   split at h
   .rename_i s' _ _ _ _
    cases hb:aju s' s<;>rw[hb]at h<;>cases h<;>rfl
   .cases h;rfl
  rw[hk]
  show∃k',(match Jv o with|some (s', .sj ..)=>bif aju s' s then some (JC.read r m)else some (.view o s r m)|_=>some (.view o s r m))=some k'/\ri k'=_
  split
  .rename_i s' _ _ _ _
   cases hb:aju s' s with
   |true=>exact⟨JC.read r m,rfl,rfl⟩
   |false=>exact⟨JC.view o s r m,rfl,rfl⟩
  .exact⟨JC.view o s r m,rfl,rfl⟩
 .cases h
theorem HA{P:Program}(T:be P){ob Jv:Nat->Option (Nat×Th)}{t:TypeId}{D D':al}(Ni:∀q x,ob q=some x->∃x',Jv q=some x'/\gJ x x')(h:G1 T ob t D=some D'):G1 T Jv t D=some D':=by
 unfold G1 at h⊢;split at h
 .split at h
  case h_2=>cases h
  rename_i k hk;obtain⟨k',h1,h2⟩:=Hz Ni hk;rw[h1];simp only[h2];exact h
 .exact h
 .cases h
theorem HB{P:Program}(T:be P){ob:Nat->Option (Nat×Th)}{n:Nat}{t:TypeId}{o:Nat}{d:DR}{i:Int}{p:List Bool}{off:Nat}{e:dY}(h:oM T ob n t (.dlm o d i p off) some=some e)(hm:o∈e.eat++qe e.make):
 ∃x y,ob o=some x/\find e.make o=some y/\gJ x y:=by
 unfold oM qA at h;simp only at h;split at h
 .cases h
 split at h
 case h_2=>cases h
 rename_i s T0 dr l hh ho;obtain⟨_,h⟩:=aG h;split at h
 .obtain⟨_,h⟩:=aG h;obtain⟨_,_,h⟩:=bind_some h;cases h;simp[qe]at hm
 .obtain⟨_,h⟩:=aG h;split at h
  .obtain⟨_,_,h⟩:=bind_some h;cases h;exact⟨_,(n, .deep T0 dr l _),ho,by rw[aD,if_pos rfl], .inr ⟨T0,dr,l,none,_,rfl,rfl⟩⟩
  .obtain⟨_,h⟩:=aG h;split at h
   .obtain⟨_,_,h⟩:=bind_some h;cases h;simp[qe]at hm
   .cases h
 .cases h
theorem Kw{P:Program}{E:Env P}{U:Nat->Prop}{R:Type}{o:Oper}{gs:List Nat}{st:State}{k:dY->kY->Option R}{q:R}(h:yb E o.dst o.op gs st k=some q):
 ∃e Fq,k e Fq=some q/\Fq.e=e/\(∀g∈gs,g∈Fq.ts)/\OQ P U o (find st.ai) (find st.objs) st.nxt Fq:=by
 unfold yb at h;split at h
 case h_2=>cases h
 rename_i aO w7;obtain⟨zf,h'⟩:=aG h;clear h;rw[Kv]at h';obtain⟨e,he,hk⟩:=bind_some h'
 have Nj:∀t d,find (iQ (tmpsOf o.op.operands.toList) st.ai) t=some d->t∈tmpsOf o.op.operands.toList/\find st.ai t=some d:=fun t d ht=>xZ.1 ht
 have DV:∀q x,find (iQ (gw st o.op) st.objs) q=some x->q∈gw st o.op/\find st.objs q=some x:=fun q x hx=>xZ.1 hx
 refine⟨_,_,hk,rfl,fun g hg=>by simp[hg],rfl,⟨find (iQ (tmpsOf o.op.operands.toList) st.ai),find (iQ (gw st o.op) st.objs),fun t d ht=>⟨by simp[(Nj t d ht).1],(Nj t d ht).2⟩,fun q x hx=>⟨?_,(DV q x hx).2⟩,fun H F w ρ Hy Ni fZ cU=>?_⟩,fun q hq hm=>?_⟩
 .cases hl:zx o.op with
  |true=>exact .inr (by simp only[cond_true];exact(DV q x hx).1)
  |false=>exact .inl (by simp only[cond_false];exact(DV q x hx).1)
 .cases hl:zx o.op with
  |false=>
   simp only[hl,cond_false]at Ni
   have fY:∀q x,find (iQ (gw st o.op) st.objs) q=some x->Hy q=some x:=fun q x hx=>by
    obtain⟨x',h1,_,h2⟩:=Ni q x hx;rw[h1,h2 (DV q x hx).1]
   have uf:au U H F w (find (iQ (gw st o.op) st.objs)) st.nxt:=⟨fun o s t ho=>cU.obj o s t (fY _ _ ho),fun o o' s s' t t' v v' bP ho kO=>cU.apart o o' s s' t t' v v' bP (fY _ _ ho) (fY _ _ kO),cU.fresh,cU.lt,cU.new,cU.gl⟩
   refine⟨_,fY,?_⟩;obtain⟨F1,qa,Db,Mf⟩:=nC w7 uf
   have eM:Step F w F1 w:=fun b hb=>⟨Db b hb,rfl⟩
   obtain⟨e',he',hs⟩:=Kl (ρ:=ρ) (ty:=o.type) (pos:=o.pos) (aft:=o.after) E (fun x d hx=>uZ qa.gl (fun t d ht=>(fZ t d ht).keep (aq.le.refl H) eM) x d hx) (fun hn c hc=>by rw[hn,hc]at zf;exact zf) he qa;obtain rfl:=ajk he'
   exact hs.mono fun v w' hp=>Hx w7 qa Db Mf hp
  |true=>
   refine⟨Hy,fun _ _ h=>h,?_⟩;obtain⟨PX,WV,oty,WW,WX,ogd⟩:=o;simp only at*
   cases WV<;>try(cases hl;done)
   rename_i c;obtain⟨callee,args,wR⟩:=c
   cases callee<;>try(cases hl;done)
   rename_i b
   cases b<;>try(cases hl;done)
   cases PX with
   |none=>cases zf
   |some d=>
    have MV:qE E (IL (iQ (tmpsOf (Op.operands (.call {callee:= .builtin .len,args:=args,argTypes:=wR})).toList) st.ai)) (iQ (gw st (.call {callee:= .builtin .len,args:=args,argTypes:=wR})) st.objs) (.call {callee:= .builtin .len,args:=args,argTypes:=wR})=[]:=by unfold qE;cases E.deep<;>rfl
    rw[MV]at w7⊢;obtain rfl:=ajk w7;have Nk:qd E _ _ st.nxt (.builtin .len) args wR some=some e:=he;unfold qd at Nk;simp only at Nk;split at Nk
    case h_2=>cases Nk
    rename_i x t ha ht;obtain rfl:=eP ha;obtain rfl:=eP ht;split at Nk
    case h_2=>cases Nk
    rename_i D hD;split at Nk
    case h_2=>cases Nk
    rename_i D' Mz;cases Nk;have hlen:=HA E.T (fun q x hx=>by obtain⟨x',h1,h2,_⟩:=Ni q x hx;exact⟨x',h1,h2⟩) Mz;exact EZ E.T hlen cU (uZ cU.gl fZ _ _ hD)
 .obtain⟨PX,WV,oty,WW,WX,ogd⟩:=o;simp only at*
  cases WV<;>try(cases hq;done)
  rename_i t x;unfold OP at hq;simp only at hq;split at hq
  case h_2=>cases hq
  rename_i o' d0 i p off fN;obtain rfl:=ajz.1 hq
  have MV:qE E (IL (iQ (tmpsOf (Op.operands (.load t x)).toList) st.ai)) (iQ (gw st (.load t x)) st.objs) (.load t x)=[]:=by unfold qE;cases E.deep<;>rfl
  rw[MV]at w7 hm⊢;obtain rfl:=ajk w7
  cases PX with
  |none=>cases he
  |some d=>
   unfold Nc at he;simp only[fN]at he
   have Ak:q∈e.eat++qe e.make:=by
    simpa[kY.mut,ya,oo,del]using hm
   obtain⟨x1,y1,h1,h2,h3⟩:=HB E.T he Ak;refine⟨x1,y1,(DV _ _ h1).2,?_,h3⟩
   show find (e.make++_) q=_
   rw[gS,h2];rfl
end Go.Proofs.YtmihpkfkbfgigaaGreatDoor
namespace Go.Proofs.YtmihpkfkbfgigaaGreatDoor
open Go Go.RowKit
def xh(acc:List Nat)(i:Nat):List Edge->Option Nat
 |[]=>some 0
 |e::l=>match xh acc i l with
  |some m=>bif akX .any e then(bif akf e.on i then some (m|||2 ^ e.on|||acc.getD e.on 0)else none)else some m
  |none=>none
def HC(acc:List Nat):List Oper->Option (List Nat)
 |[]=>some acc
 |o::l=>match xh acc acc.length o.after.toList with
  |some m=>HC (acc++[m]) l
  |none=>none
def jv(d:Option Nat)(l:List Nat):Bool:=
 match d with
 |some t=>my t l
 |none=>false
def By(l l':List Nat):Bool:=l.any fun o=>my o l'
def kY.SY(x:kY):List Nat:=x.mut.filter fun o=> !my o x.soft
def conflict(a b:kY):Bool:=
 jv a.dst b.ts||jv b.dst a.ts||jv a.dst (b.dst.toList)||By a.mut (b.os++b.mut)||By a.SY b.ls||By (a.os++a.ls++a.mut) b.mut
def zy(ms:List Nat)(i:Nat)(x:kY):Nat->List kY->Bool
 |_,[]=>true
 |j,y::l=>(bif conflict x y then Nat.testBit (ms.getD j 0) i else true)&&zy ms i x (j+1) l
def uH(ms:List Nat):Nat->List kY->Bool
 |_,[]=>true
 |i,x::l=>zy ms i x (i+1) l&&uH ms (i+1) l
def sQ(ops:List Oper)(es:List kY):Bool:=
 match HC [] ops with
 |some ms=>uH ms 0 es
 |none=>false
section
variable {ops:Array Oper}
def DW(ops:Array Oper)(S:Nat->Prop):Prop:=∀i,S i->∀o,ops[i]? =some o->∀e∈o.after,akX .any e=true->S e.on
theorem zA{acc:List Nat}{i:Nat}:{l:List Edge}->{m:Nat}->xh acc i l=some m->∀j,m.testBit j=true->∃e∈l,akX .any e=true/\e.on<i/\(e.on=j\/(acc.getD e.on 0).testBit j=true)
 |[],m,h,j,hj=>by
  obtain rfl:=ajk h;simp at hj
 |e::l,m,h,j,hj=>by
  unfold xh at h;split at h
  case h_2=>cases h
  rename_i m0 h0
  cases hb:akX .any e with
  |false=>
   rw[hb,cond_false]at h;obtain rfl:=ajk h;obtain⟨e',a1,a2⟩:=zA h0 j hj;exact⟨e',by simp[a1],a2⟩
  |true=>
   rw[hb,cond_true]at h
   cases ao:akf e.on i with
   |false=>rw[ao]at h;cases h
   |true=>
    rw[ao,cond_true]at h;obtain rfl:=ajk h;rw[Nat.testBit_or,Nat.testBit_or,Bool.or_eq_true,Bool.or_eq_true]at hj
    have MR:e.on<i:=by simpa using ao
    rcases hj with(hj|hj)|hj
    .obtain⟨e',a1,a2⟩:=zA h0 j hj;exact⟨e',by simp[a1],a2⟩
    .rw[Nat.testBit_two_pow]at hj;exact⟨e,by simp,hb,MR, .inl (of_decide_eq_true hj)⟩
    .exact⟨e,by simp,hb,MR, .inr hj⟩
theorem Fs{acc:List Nat}{i:Nat}:{l:List Edge}->{m:Nat}->xh acc i l=some m->∀e∈l,akX .any e=true->e.on<i
 |[],m,h,e,he,_=>by cases he
 |e0::l,m,h,e,he,hb=>by
  unfold xh at h;split at h
  case h_2=>cases h
  rename_i m0 h0
  rcases ajJ.1 he with rfl|he
  .rw[hb,cond_true]at h
   cases ao:akf e.on i with
   |false=>rw[ao]at h;cases h
   |true=>simpa using ao
  .exact Fs h0 e he hb
theorem zB:{l:List Oper}->{acc ms:List Nat}->HC acc l=some ms->ms.length=acc.length+l.length/\(∀i,i<acc.length->ms.getD i 0=acc.getD i 0)/\
 ∀k o,l[k]? =some o->∃m,xh ms (acc.length+k) o.after.toList=some m/\ms.getD (acc.length+k) 0=m
 |[],acc,ms,h=>by
  obtain rfl:=ajk h;exact⟨by simp,fun _ _=>rfl,fun k o h=>by simp at h⟩
 |o0::l,acc,ms,h=>by
  unfold HC at h;split at h
  case h_2=>cases h
  rename_i m hm;obtain⟨a1,a2,a3⟩:=zB h;rw[ajm,ajw]at a1 a2 a3
  have Kx:∀i,i<acc.length->ms.getD i 0=acc.getD i 0:=fun i hi=>by
   rw[a2 i (by omega)];simp[ajN,ajQ hi]
  have WY:∀(l:List Edge)(m:Nat),xh acc acc.length l=some m->xh ms acc.length l=some m:=by
   intro l
   induction l with
   |nil=>intro m h;exact h
   |cons e l ih=>
    intro m h;unfold xh at h⊢;split at h
    case h_2=>cases h
    rename_i m0 h0;rw[ih m0 h0];simp only
    cases hb:akX .any e with
    |false=>rw[hb]at h;exact h
    |true=>
     rw[hb,cond_true]at h
     cases ao:akf e.on acc.length with
     |false=>rw[ao]at h;cases h
     |true=>
      rw[ao,cond_true]at h;rw[cond_true,cond_true,Kx _ (by simpa using ao)];exact h
  refine⟨by rw[a1,ajy];omega,Kx,fun k o ho=>?_⟩
  cases k with
  |zero=>
   obtain rfl:o0=o:=by simpa using ho
   refine⟨m,WY _ _ hm,?_⟩;rw[akm,a2 _ (by omega)];simp[ajN]
  |succ k=>
   have:=a3 k o (by simpa using ho);rw[show acc.length+1+k=acc.length+(k+1)from by omega]at this;exact this
theorem Ky{ms:List Nat}(h:HC [] ops.toList=some ms){S:Nat->Prop}(hS:DW ops S):∀i o,ops[i]? =some o->(∀e∈o.after,akX .any e=true->S e.on)->∀j,(ms.getD i 0).testBit j=true->S j:=by
 obtain⟨_,_,a3⟩:=zB h;intro i
 induction i using Nat.strongRecOn with
 |_ i ih=>
  intro o ho hd j hj;obtain⟨m,h1,h2⟩:=a3 i o (by rw[Array.getElem?_toList];exact ho);simp only[List.length_nil,ajO]at h1 h2;rw[h2]at hj;obtain⟨e,he,hb,ao,h3⟩:=zA h1 j hj;have MX:=hd e (by simpa using he) hb
  rcases h3 with rfl|h3
  .exact MX
  .have SZ:e.on<ops.size:=by
    have:=(akh.1 ho).1;omega
   exact ih e.on ao _ (ajT SZ) (fun e' he' p5=>hS e.on MX _ (ajT SZ) e' he' p5) j h3
end
def fK(S:Nat->Bool):Nat->List kY->(Nat->Option al)->Nat->Option al
 |_,[],f=>f
 |i,x::l,f=>fK S (i+1) l (fun t=>bif S i&&jv (some t) x.dst.toList then some x.e.dst else f t)
def ff(S:Nat->Bool):Nat->List kY->(Nat->Option (Nat×Th))->Nat->Option (Nat×Th)
 |_,[],f=>f
 |i,x::l,f=>ff S (i+1) l (fun o=>bif S i then(find x.e.make o).or (bif my o x.e.eat then none else f o)else f o)
theorem pM{l:List (Nat×(Nat×Th))}{o:Nat}{x:Nat×Th}(h:find l o=some x):o∈qe l:=by
 induction l with
 |nil=>cases h
 |cons p l ih=>
  obtain⟨o',y⟩:=p;rw[aD]at h;split at h
  .rename_i e;subst e;exact List.mem_cons_self
  .exact List.mem_cons_of_mem _ (ih h)
theorem rE{d:Option Nat}{t:Nat}:jv (some t) d.toList=true↔d=some t:=by
 unfold jv;simp only[dT,Option.mem_toList]
theorem lr{S S':Nat->Bool}{t:Nat}:{l:List kY}->{i:Nat}->{f f':Nat->Option al}->f t=f' t->(∀k x,l[k]? =some x->x.dst=some t->S (i+k)=S' (i+k))->fK S i l f t=fK S' i l f' t
 |[],_,_,_,hf,_=>hf
 |x::l,i,f,f',hf,h=>by
  show fK S (i+1) l _ t=fK S' (i+1) l _ t
  refine lr ?_ fun k y hy hd=>by
   have:=h (k+1) y (by simpa using hy) hd
   rwa [show i+(k+1)=i+1+k from by omega]at this
  by_cases hd:x.dst=some t
  .have:=h 0 x rfl hd;simp only[akm]at this;rw[this,hf]
  .have:jv (some t) x.dst.toList=false:=by
    cases hb:jv (some t) x.dst.toList with
    |false=>rfl
    |true=>exact absurd (rE.1 hb) hd
   rw[this,Bool.and_false,Bool.and_false,cond_false,cond_false,hf]
theorem kZ{S S':Nat->Bool}{o:Nat}:{l:List kY}->{i:Nat}->{f f':Nat->Option (Nat×Th)}->f o=f' o->(∀k x,l[k]? =some x->o∈x.mut->S (i+k)=S' (i+k))->ff S i l f o=ff S' i l f' o
 |[],_,_,_,hf,_=>hf
 |x::l,i,f,f',hf,h=>by
  show ff S (i+1) l _ o=ff S' (i+1) l _ o
  refine kZ ?_ fun k y hy hd=>by
   have:=h (k+1) y (by simpa using hy) hd
   rwa [show i+(k+1)=i+1+k from by omega]at this
  by_cases hd:o∈x.mut
  .have:=h 0 x rfl hd;simp only[akm]at this;rw[this,hf]
  .have h1:find x.e.make o=none:=by
    cases hm:find x.e.make o with
    |none=>rfl
    |some y=>exact absurd (by simp[kY.mut,pM hm]) hd
   have h2:my o x.e.eat=false:=by
    cases hb:my o x.e.eat with
    |false=>rfl
    |true=>exact absurd (by simp[kY.mut,dT.1 hb]) hd
   rw[h1,h2,aku,cond_false]
   cases S i<;>cases S' i<;>simp[hf]
theorem n5{S:Nat->Bool}{t:Nat}:{l:List kY}->{i:Nat}->{f:Nat->Option al}->(∀k x,l[k]? =some x->x.dst=some t->S (i+k)=false)->fK S i l f t=f t
 |[],_,_,_=>rfl
 |x::l,i,f,h=>by
  show fK S (i+1) l _ t=_
  rw[n5 fun k y hy hd=>by
   have:=h (k+1) y (by simpa using hy) hd
   rwa [show i+(k+1)=i+1+k from by omega]at this]
  by_cases hd:x.dst=some t
  .have:=h 0 x rfl hd;simp only[akm]at this;simp[this]
  .have:jv (some t) x.dst.toList=false:=by
    cases hb:jv (some t) x.dst.toList with
    |false=>rfl
    |true=>exact absurd (rE.1 hb) hd
   simp[this]
theorem nG{S:Nat->Bool}{o:Nat}:{l:List kY}->{i:Nat}->{f:Nat->Option (Nat×Th)}->(∀k x,l[k]? =some x->o∈x.mut->S (i+k)=false)->ff S i l f o=f o
 |[],_,_,_=>rfl
 |x::l,i,f,h=>by
  show ff S (i+1) l _ o=_
  rw[nG fun k y hy hd=>by
   have:=h (k+1) y (by simpa using hy) hd
   rwa [show i+(k+1)=i+1+k from by omega]at this]
  by_cases hd:o∈x.mut
  .have:=h 0 x rfl hd;simp only[akm]at this;simp[this]
  .have h1:find x.e.make o=none:=by
    cases hm:find x.e.make o with
    |none=>rfl
    |some y=>exact absurd (by simp[kY.mut,pM hm]) hd
   have h2:my o x.e.eat=false:=by
    cases hb:my o x.e.eat with
    |false=>rfl
    |true=>exact absurd (by simp[kY.mut,dT.1 hb]) hd
   simp only[h1,h2,aku,cond_false]
   cases S i<;>rfl
theorem n6{S:Nat->Bool}{l l':List kY}{i:Nat}{f:Nat->Option al}:fK S i (l++l') f=fK S (i+l.length) l' (fK S i l f):=by
 induction l generalizing i f with
 |nil=>rfl
 |cons x l ih=>
  show fK S (i+1) (l++l') _=fK S (i+(l.length+1)) l' (fK S (i+1) l _)
  rw[ih,show i+1+l.length=i+(l.length+1)from by omega]
theorem jJ{S:Nat->Bool}{l l':List kY}{i:Nat}{f:Nat->Option (Nat×Th)}:ff S i (l++l') f=ff S (i+l.length) l' (ff S i l f):=by
 induction l generalizing i f with
 |nil=>rfl
 |cons x l ih=>
  show ff S (i+1) (l++l') _=ff S (i+(l.length+1)) l' (ff S (i+1) l _)
  rw[ih,show i+1+l.length=i+(l.length+1)from by omega]
end Go.Proofs.YtmihpkfkbfgigaaGreatDoor
end
section
open _root_.Array renaming getD_eq_getD_getElem?->aj2,getElem?_eq_getElem->ajT,getElem?_eq_some_iff->akh
open _root_.Bool renaming false_eq_true->ajp,not_true->akr
open _root_.List renaming drop_eq_getElem_cons->ajX,getElem?_append_left->ajQ,getElem?_drop->ajF,getElem?_eq_getElem->ajl,getElem?_eq_some_iff->ajn,getElem_of_mem->ajG,length_append->ajm,length_cons->ajy,length_singleton->ajw,mem_append->ajL,mem_cons->ajJ,mem_of_getElem?->aka,take_append_drop->akQ,take_append_of_le_length->ajK
open _root_.Nat renaming add_zero->akm,beq->aju,blt->akf,le_refl->ajo,zero_add->ajO
open _root_.Option renaming none_or->aku
open _root_.Option.some renaming inj->ajk
open _root_.Go.Region renaming binds->akX,wanted->akR
namespace Go.Proofs.YtmihpkfkbfgigaaGreatDoor
open Go Go.RowKit
theorem vP{ms:List Nat}{i:Nat}{x:kY}:{l:List kY}->{j:Nat}->zy ms i x j l=true->∀k y,l[k]? =some y->conflict x y=true->(ms.getD (j+k) 0).testBit i=true
 |[],_,_,k,y,h,_=>by simp at h
 |z::l,j,hl,k,y,h,hc=>by
  obtain⟨h1,h2⟩:=cV hl
  cases k with
  |zero=>
   obtain rfl:z=y:=by simpa using h
   rw[hc,cond_true]at h1;exact h1
  |succ k=>
   have:=vP h2 k y (by simpa using h) hc
   rwa [show j+1+k=j+(k+1)from by omega]at this
theorem qF{ms:List Nat}:{l:List kY}->{i:Nat}->uH ms i l=true->∀a b x y,a<b->l[a]? =some x->l[b]? =some y->conflict x y=true->(ms.getD (i+b) 0).testBit (i+a)=true
 |[],_,_,a,b,x,y,_,h,_,_=>by simp at h
 |z::l,i,hl,a,b,x,y,vg,hx,hy,hc=>by
  obtain⟨h1,h2⟩:=cV hl
  cases a with
  |zero=>
   obtain rfl:z=x:=by simpa using hx
   cases b with
   |zero=>omega
   |succ b=>
    have:=vP h1 b y (by simpa using hy) hc
    rwa [show i+1+b=i+(b+1)from by omega]at this
  |succ a=>
   cases b with
   |zero=>omega
   |succ b=>
    have:=qF h2 a b x y (by omega) (by simpa using hx) (by simpa using hy) hc
    rwa [show i+1+b=i+(b+1)from by omega,show i+1+a=i+(a+1)from by omega]at this
inductive PY(ops:Array Oper)(nt:Nat)(ts:List Nat)(sl:Nat->Option al):Option (Nat×Bool)->Bool->Prop
 |none:PY ops nt ts sl none true
 |lit {j g:Nat} {b t:Bool} {d:al} (h1:Fo ops j=some g) (h2:akf g nt=true) (h3:g∈ts) (h4:sl g=some d) (h5:asBool d=some t):PY ops nt ts sl (some (j,b)) (decide (t=b))
 |undef {j g:Nat} {b:Bool} (h1:Fo ops j=some g) (h2:akf g nt=true) (h3:g∈ts) (h4:sl g=some .undef):PY ops nt ts sl (some (j,b)) false
structure PZ(P:Program)(ops:Array Oper)(nt:Nat)(U:Nat->Prop)(o:Oper)(sl:Nat->Option al)(ob:Nat->Option (Nat×Th))(n:Nat)(x:kY):Prop where
 dst:x.dst=o.dst
 HD:Bl nt o.dst=true
 on:∃b,PY ops nt x.ts sl o.guard b/\(b=true->OQ P U o sl ob n x)/\(b=false->x.e={dst:= .undef})
section
variable {P:Program} {nt:Nat} {ops:Array Oper}
theorem Nl{ρ:Nat->Value}{o:Oper}{w:World}{QQ:Value->World->Prop}{a:Act}{K:Act->World->Prop}{Q:Exit->Act->World->Prop}(h:cd P ρ ⟨o.dst,o.op,o.type,o.pos,o.after,none⟩ w QQ)(hf:Fr nt a ρ)
 (hk:∀v w',QQ v w'->K (a.put o.dst v) w'):o.wp P a w K Q:=by
 unfold Oper.wp;rw[hf.eval];unfold cd at h;have e:execOp (ev ρ) o=execOp (ev ρ) ⟨o.dst,o.op,o.type,o.pos,o.after,none⟩:=rfl;rw[e];generalize(execOp (ev ρ) ⟨o.dst,o.op,o.type,o.pos,o.after,none⟩).run P w=r at*
 cases r with
 |halt x w'=>exact h.elim
 |ok x w'=>
  cases x<;>first
   |exact h.elim
   |skip
  case value v=>exact hk v w' h.2
  case skip=>exact hk undef w' h.2
  case enter f args=>
   refine h.mono fun e tE ⟨v,he,hv⟩=>?_
   subst he;exact hk v tE hv
theorem au.sub{U:Nat->Prop}{H:aq}{F:Nat->Prop}{w:World}{ob Md:Nat->Option (Nat×Th)}{n m:Nat}(h:au U H F w ob n)(hR:∀o x,Md o=some x->ob o=some x)(Au:∀k,m<=k->k<m+16->H.val k=none/\H.con k=none):au U H F w Md m:=
 ⟨fun o s t ho=>h.obj o s t (hR _ _ ho),fun o o' s s' t t' v v' bP ho kO=>h.apart o o' s s' t t' v v' bP (hR _ _ ho) (hR _ _ kO),Au,h.lt,h.new,h.gl⟩
structure Inv(G:Nat->Prop)(w0:World)(F0:Nat->Prop)(es:List kY)(sl0:Nat->Option al)(ob0:Nat->Option (Nat×Th))(n0:Nat)(H:aq)(F:Nat->Prop)(w:World)(ρ:Nat->Value)(S:Nat->Bool)(H':aq)(F':Nat->Prop)(w':World)(b8:Nat->Value):Prop where
 slot:∀t d,fK S 0 es sl0 t=some d->aj H' F' w' d (b8 t)
 ob:au (UU G w0) H' F' w' (ff S 0 es ob0) (n0+16*es.length)
 all:iR H' (n0+16*es.length)
 fresh:∀i,i<es.length->S i=false->∀m,n0+16*i<=m->m<n0+16*i+16->H'.val m=none/\H'.con m=none
 glob:J4 G w0 F0 w' F'
 keeps:cB H F w H' F' w'
 same:∀t,(∀x∈es,x.dst≠some t)->b8 t=ρ t
def ins(S:Nat->Bool)(i:Nat):Nat->Bool:=fun j=>bif aju j i then true else S j
theorem oR{S:Nat->Bool}{i:Nat}:ins S i i=true:=by simp[ins]
theorem oS{S:Nat->Bool}{i j:Nat}(h:j≠i):ins S i j=S j:=by
 unfold ins
 cases hb:aju j i with
 |true=>exact absurd (beq_true hb) h
 |false=>rfl
section
variable {G:Nat->Prop} {w0:World} {F0:Nat->Prop} {es:List kY} {sl0:Nat->Option al} {ob0:Nat->Option (Nat×Th)} {n0:Nat} {H:aq} {F:Nat->Prop} {w:World} {ρ:Nat->Value} {ms:List Nat}
theorem Bz{i:Nat}{x:kY}(h:es[i]? =some x):es=es.take i++x::es.drop (i+1)/\(es.take i).length=i:=by
 have ao:i<es.length:=(ajn.1 h).1;have hx:es[i]=x:=(ajn.1 h).2;refine⟨?_,by simp;omega⟩;rw[<-hx,<-ajX ao,akQ]
theorem yc{S:Nat->Bool}{i:Nat}{x:kY}(hx:es[i]? =some x)(Kz:∀t,x.dst=some t->∀j y,es[j]? =some y->y.dst=some t->S j=true->j<i)(t:Nat):
 fK (ins S i) 0 es sl0 t=if x.dst=some t then some x.e.dst else fK S 0 es sl0 t:=by
 by_cases hd:x.dst=some t
 .rw[if_pos hd];obtain⟨e1,e2⟩:=Bz hx;rw[e1,n6,e2,ajO]
  show fK (ins S i) (i+1) (es.drop (i+1)) _ t=_
  rw[n5 fun k y hy P0=>by
   rw[oS (by omega)]
   cases hS:S (i+1+k)with
   |false=>rfl
   |true=>
    have:=Kz t hd (i+1+k) y (by rw[<-hy,ajF]) P0 hS
    omega]
  rw[oR,rE.2 hd];rfl
 .rw[if_neg hd]
  refine lr rfl fun k y hy P0=>?_
  rw[ajO]
  refine oS fun e=>?_
  subst e;rw[hx]at hy;obtain rfl:=ajk hy;exact hd P0
theorem BA{S:Nat->Bool}{i:Nat}{x:kY}(hx:es[i]? =some x)(hS:S i=false)(Kz:∀o,o∈x.mut->∀j y,es[j]? =some y->o∈y.mut->S j=true->j<i)(o s:Nat)(t:Th)(h:ff (ins S i) 0 es ob0 o=some (s,t)):
 find x.e.make o=some (s,t)\/(o∉x.e.eat/\ff S 0 es ob0 o=some (s,t)/\find x.e.make o=none):=by
 by_cases hd:o∈x.mut
 .obtain⟨e1,e2⟩:=Bz hx
  have late:∀S':Nat->Bool,(∀j,j≠i->S' j=S j)->∀f,ff S' (i+1) (es.drop (i+1)) f o=f o:=fun S' hS' f=>nG fun k y hy P0=>by
   rw[hS' _ (by omega)]
   cases S0:S (i+1+k)with
   |false=>rfl
   |true=>
    have:=Kz o hd (i+1+k) y (by rw[<-hy,ajF]) P0 S0;omega
  have pre:ff (ins S i) 0 (es.take i) ob0 o=ff S 0 (es.take i) ob0 o:=kZ rfl fun k y hy _=>by
   rw[ajO]
   refine oS fun e=>?_
   have:=(ajn.1 hy).1;omega
  have all:ff S 0 es ob0 o=ff S 0 (es.take i) ob0 o:=by
   conv=>lhs;rw[e1]
   rw[jJ,e2,ajO]
   show ff S (i+1) (es.drop (i+1)) _ o=_
   rw[late S (fun _ _=>rfl),hS];rfl
  conv at h=>lhs;rw[e1]
  rw[jJ,e2,ajO]at h;change ff (ins S i) (i+1) (es.drop (i+1)) _ o=_ at h;rw[late (ins S i) (fun j hj=>oS hj),oR,cond_true,pre,<-all]at h
  cases hm:find x.e.make o with
  |some y=>rw[hm]at h;exact .inl h
  |none=>
   rw[hm,aku]at h
   cases he:my o x.e.eat with
   |true=>rw[he]at h;cases h
   |false=>
    rw[he,cond_false]at h;exact .inr ⟨fun e=>(by rw[dT.2 e]at he;cases he),h,rfl⟩
 .right
  have h1:find x.e.make o=none:=by
   cases hm:find x.e.make o with
   |none=>rfl
   |some y=>exact absurd (by simp[kY.mut,pM hm]) hd
  refine⟨fun e=>hd (by simp[kY.mut,e]),?_,h1⟩;rw[<-h];refine(kZ rfl fun k y hy P0=>?_).symm;rw[ajO]
  refine oS fun e=>?_
  subst e;rw[hx]at hy;obtain rfl:=ajk hy;exact hd P0
theorem nI{l l':List Nat}{o:Nat}(h:o∈l)(h':o∈l'):By l l'=true:=by
 unfold By;rw[List.any_eq_true];exact⟨o,h,dT.2 h'⟩
theorem sR{i j:Nat}(h:i<=j):akf j i=false:=by
 cases hb:akf j i with
 |false=>rfl
 |true=>have:j<i:=by simpa using hb
        omega
def HE(_:Nat):Bool:=true
theorem DX{es:List kY}{i:Nat}(hi:i<=es.length):fK (fun j=>akf j i) 0 es sl0=fK HE 0 (es.take i) sl0:=by
 funext t
 conv=>lhs;rw[<-akQ i es]
 rw[n6,n5 (S:=fun j=>akf j i) fun k x _ _=>sR (by simp;omega)]
 refine lr rfl fun k x hx _=>?_
 have:=(ajn.1 hx).1;simp at this;simp[HE];omega
theorem yd{es:List kY}{i:Nat}(hi:i<=es.length):ff (fun j=>akf j i) 0 es ob0=ff HE 0 (es.take i) ob0:=by
 funext t
 conv=>lhs;rw[<-akQ i es]
 rw[jJ,nG (S:=fun j=>akf j i) fun k x _ _=>sR (by simp;omega)]
 refine kZ rfl fun k x hx _=>?_
 have:=(ajn.1 hx).1;simp at this;simp[HE];omega
theorem HF{S:Nat->Bool}{i q:Nat}(hA:∀k y,k<i->es[k]? =some y->q∈y.mut->S k=true\/q∈y.soft)
 (hs:∀k y,es[k]? =some y->q∈y.soft->q∈y.mut->∃z z',ff HE 0 (es.take k) ob0 q=some z/\find y.e.make q=some z'/\gJ z z'):
 ∀m,m<=i->m<=es.length->∀z,ff HE 0 (es.take m) ob0 q=some z->∃z',ff S 0 (es.take m) ob0 q=some z'/\gJ z z':=by
 intro m
 induction m with
 |zero=>intro _ _ z hz;exact⟨z,hz, .inl rfl⟩
 |succ m ih=>
  intro hm hl z hz
  have ao:m<es.length:=by omega
  have hy:es[m]? =some es[m]:=ajl ao
  have e1:es.take (m+1)=es.take m++[es[m]]:=by rw[List.take_add_one,hy];rfl
  have el:(es.take m).length=m:=by simp;omega
  rw[e1,jJ,el,ajO]at hz⊢;generalize hgy:es[m]=y at*;have ez:(find y.e.make q).or (bif my q y.e.eat then none else ff HE 0 (es.take m) ob0 q)=some z:=hz
  show∃z',(bif S m then(find y.e.make q).or (bif my q y.e.eat then none else ff S 0 (es.take m) ob0 q)else ff S 0 (es.take m) ob0 q)=some z'/\gJ z z'
  by_cases KA:q∈y.mut
  .cases hSm:S m with
   |true=>
    rw[cond_true]
    cases uI:find y.e.make q with
    |some x=>rw[uI]at ez;exact⟨z,ez, .inl rfl⟩
    |none=>
     have hk:q∉qe y.e.make:=fun hk=>by
      have:∀l:List (Nat×(Nat×Th)),q∈qe l->find l q≠none:=by
       intro l
       induction l with
       |nil=>intro h;cases h
       |cons p l ih=>
        obtain⟨o',x⟩:=p;intro h;rw[aD];split
        .simp
        .rename_i bP
         rcases ajJ.1 h with h|h
         .exact absurd h.symm bP
         .exact ih h
      exact this _ hk uI
     have he:my q y.e.eat=true:=dT.2 (by
      rcases ajL.1 KA with h|h
      .exact h
      .exact absurd h hk)
     rw[uI,he]at ez;cases ez
   |false=>
    rw[cond_false]
    rcases hA m y (by omega) hy KA with h|h
    .rw[hSm]at h;cases h
    .obtain⟨x,x',h1,h2,h3⟩:=hs m y hy h KA;rw[h2]at ez;obtain rfl:=ajk ez;obtain⟨z',h4,h5⟩:=ih (by omega) (by omega) x h1;exact⟨z',h4,h3.symm.trans h5⟩
  .have h1:find y.e.make q=none:=by
    cases hm:find y.e.make q with
    |none=>rfl
    |some y=>exact absurd (by simp[kY.mut,pM hm]) KA
   have h2:my q y.e.eat=false:=by
    cases hb:my q y.e.eat with
    |false=>rfl
    |true=>exact absurd (by simp[kY.mut,dT.1 hb]) KA
   rw[h1,h2,aku,cond_false]at ez;obtain⟨z',h4,h5⟩:=ih (by omega) (by omega) z ez;refine⟨z',?_,h5⟩;rw[h1,h2,aku,cond_false,h4]
   cases S m<;>rfl
theorem KB(S4:HC [] ops.toList=some ms)(hp:uH ms 0 es=true)(hlen:es.length=ops.size){S:Nat->Bool}(hS:DW ops (fun j=>S j=true)){i:Nat}{o:Oper}{x:kY}(ho:ops[i]? =some o)(hx:es[i]? =some x)(HG:S i=false)
 (Ft:∀e∈o.after,akX .any e=true->S e.on=true)(KC:∀k y,es[k]? =some y->∀q,q∈y.soft->q∈y.mut->∃z z',ff HE 0 (es.take k) ob0 q=some z/\find y.e.make q=some z'/\gJ z z')(fM:PZ P ops nt (UU G w0) o (fK (fun j=>akf j i) 0 es sl0) (ff (fun j=>akf j i) 0 es ob0) (n0+16*i) x)
 {H':aq}{F':Nat->Prop}{w':World}{b8:Nat->Value}{a:Act}(hf:Fr nt a b8)(hinv:Inv G w0 F0 es sl0 ob0 n0 H F w ρ S H' F' w' b8){K:Act->World->Prop}{Q:Exit->Act->World->Prop}
 (hk:∀VD rF sq AY tE,Fr nt VD rF->Inv G w0 F0 es sl0 ob0 n0 H F w ρ (ins S i) sq AY tE rF->K VD tE):wpOp P ops Q i K a w':=by
 have S9:i<es.length:=(ajn.1 hx).1
 have up:∀j y,es[j]? =some y->j<i->conflict y x=true->S j=true:=fun j y hy WZ hc=>by
  have:=qF hp j i y x WZ hy hx hc;rw[ajO,ajO]at this;exact Ky S4 hS i o ho Ft j this
 have down:∀j y,es[j]? =some y->i<j->conflict x y=true->S j=true->False:=fun j y hy MP hc hj=>by
  have:=qF hp i j x y MP hx hy hc;rw[ajO,ajO]at this
  have M9:j<ops.size:=by have:=(ajn.1 hy).1;omega
  have h2:=Ky S4 hS j _ (ajT M9) (fun e he hb=>hS j hj _ (ajT M9) e he hb) i this;rw[HG]at h2;cases h2
 have OR:∀t,x.dst=some t->∀j y,es[j]? =some y->y.dst=some t->S j=true->j<i:=fun t ht j y hy VE hj=>by
  rcases Nat.lt_trichotomy j i with h|h|h
  .exact h
  .subst h;rw[HG]at hj;cases hj
  .exact(down j y hy h (by unfold conflict;simp[jv,ht,VE,dT]) hj).elim
 have OT:∀q,q∈x.mut->∀j y,es[j]? =some y->q∈y.mut->S j=true->j<i:=fun q hq j y hy OU hj=>by
  rcases Nat.lt_trichotomy j i with h|h|h
  .exact h
  .subst h;rw[HG]at hj;cases hj
  .exact(down j y hy h (by unfold conflict;rw[nI hq (by simp[OU])];simp) hj).elim
 have P1:∀t,t∈x.ts->fK (fun j=>akf j i) 0 es sl0 t=fK S 0 es sl0 t:=fun t ht=>lr rfl fun j y hy VE=>by
  rw[ajO]
  rcases Nat.lt_trichotomy j i with h|h|h
  .rw[up j y hy h (by unfold conflict;simp[jv,VE,dT,ht])];simpa using h
  .subst h;rw[HG];exact sR (ajo _)
  .have:S j=false:=by
    cases hj:S j with
    |false=>rfl
    |true=>exact(down j y hy h (by unfold conflict;simp[jv,VE,dT,ht]) hj).elim
   rw[this];exact sR (by omega)
 have W0:∀q,q∈x.os->ff (fun j=>akf j i) 0 es ob0 q=ff S 0 es ob0 q:=fun q hq=>kZ rfl fun j y hy OU=>by
  rw[ajO]
  rcases Nat.lt_trichotomy j i with h|h|h
  .rw[up j y hy h (by unfold conflict;rw[nI OU (by simp[hq])];simp)];simpa using h
  .subst h;rw[HG];exact sR (ajo _)
  .have:S j=false:=by
    cases hj:S j with
    |false=>rfl
    |true=>exact(down j y hy h (by unfold conflict;rw[nI (l:=x.os++x.ls++x.mut) (l':=y.mut) (by simp[hq]) OU];simp) hj).elim
   rw[this];exact sR (by omega)
 have W1:∀q z,q∈x.ls->ff (fun j=>akf j i) 0 es ob0 q=some z->∃z',ff S 0 es ob0 q=some z'/\gJ z z':=fun q z hq hz=>by
  rw[yd (by omega)]at hz
  obtain⟨z',h1,h2⟩:=HF (S:=S) (i:=i) (q:=q) (fun k y hk hy OU=>by
   by_cases hsf:q∈y.soft
   .exact .inr hsf
   .refine .inl (up k y hy hk ?_)
    have:q∈y.SY:=List.mem_filter.2 ⟨OU,by
     cases hb:my q y.soft with
     |false=>rfl
     |true=>exact absurd (dT.1 hb) hsf⟩
    unfold conflict;rw[nI this hq]
    simp) (fun k y hy h1 h2=>KC k y hy q h1 h2) i (ajo _) (by omega) z hz
  refine⟨z',?_,h2⟩;rw[<-h1]
  conv=>lhs;rw[<-akQ i es]
  rw[jJ]
  refine nG fun k y hy OU=>?_
  have Dz:es[i+k]? =some y:=by rw[<-hy,ajF]
  have el:(es.take i).length=i:=by simp;omega
  rw[el,ajO]
  cases S0:S (i+k)with
  |false=>rfl
  |true=>
   rcases Nat.eq_zero_or_pos k with rfl|hk
   .rw[akm,HG]at S0;cases S0
   .exact(down (i+k) y Dz (by omega) (by unfold conflict;rw[nI (l:=x.os++x.ls++x.mut) (l':=y.mut) (by simp[hq]) OU];simp) S0).elim
 obtain⟨b,hg,W2,JF⟩:=fM.on
 have Ta:akR o (yielded ops a.tmps)=b:=by
  generalize W4:o.guard=gd at hg
  cases hg with
  |none=>unfold akR;rw[W4]
  |lit h1 h2 h3 h4 h5=>
   rename_i j g b' t d;rw[P1 g h3]at h4;have hy:=nT hf h1 h2 (nq h5 (hinv.slot g _ h4));unfold akR;rw[W4];simp only[hy]
   cases t<;>cases b'<;>rfl
  |undef h1 h2 h3 h4=>
   rename_i j g b';rw[P1 g h3]at h4;have hy:=m8 hf h1 h2 (show b8 g=undef from hinv.slot g _ h4);unfold akR;rw[W4];simp only[hy]
   cases b'<;>rfl
 have uY:∀v,Fr nt (a.put o.dst v) (uc b8 o.dst v):=fun v=>by
  have hb:=fM.HD
  cases hd:o.dst with
  |none=>exact hf
  |some d=>rw[hd]at hb;exact hf.put hb v
 have BB:∀t,x.dst=some t↔o.dst=some t:=fun t=>by rw[fM.dst]
 unfold wpOp;simp only[ho,Ta]
 cases b with
 |false=>
  simp only[ajp,if_false];have he:=JF rfl;refine hk _ (uc b8 o.dst undef) H' F' w' (uY undef) ⟨fun t d ht=>?_,?_,hinv.all,fun k hk vQ=>?_,hinv.glob,hinv.keeps,fun t ht=>?_⟩
  .rw[yc hx OR]at ht;split at ht
   .rename_i P2;obtain rfl:=ajk ht;rw[he]
    show uc b8 o.dst undef t=undef
    rw[(BB t).1 P2]
    show C6 b8 t undef t=undef
    rw[oG,if_pos rfl]
   .rename_i P2;rw[pL (fun e=>P2 ((BB t).2 e))];exact hinv.slot t d ht
  .refine hinv.ob.sub (fun q y hq=>?_) (fun m hm _=>hinv.all m hm)
   rcases BA hx HG OT q y.1 y.2 hq with h1|⟨_,h2,_⟩
   .rw[he]at h1;cases h1
   .exact h2
  .by_cases e:k=i
   .subst e;rw[oR]at vQ;cases vQ
   .rw[oS e]at vQ;exact hinv.fresh k hk vQ
  .rw[pL (fun e=>ht x (aka hx) ((BB t).2 e))];exact hinv.same t ht
 |true=>
  simp only[if_true]
  left
  obtain⟨_,⟨WT,Md,Nj,DV,bw⟩,_⟩:=W2 rfl
  obtain⟨WU,fY,bw⟩:=bw H' F' w' b8 (ff S 0 es ob0) (fun q y hq=>by
   obtain⟨h1,h2⟩:=DV q y hq;by_cases Mg:q∈x.os
   .exact⟨y,by rw[<-W0 q Mg];exact h2, .inl rfl,fun _=>rfl⟩
   .rcases h1 with h1|h1
    .exact absurd h1 Mg
    .obtain⟨z',h3,h4⟩:=W1 q y h1 h2
     exact⟨z',h3,h4,fun h=>absurd h Mg⟩) (fun t d ht=>by
   obtain⟨h1,h2⟩:=Nj t d ht;rw[P1 t h1]at h2
   exact hinv.slot t d h2) (hinv.ob.sub (fun _ _ h=>h) (hinv.fresh i S9 HG))
  have Bi:=hinv.ob.sub fY (hinv.fresh i S9 HG)
  refine Nl bw hf fun v tE ⟨sq,AY,qc⟩=>?_
  .have kR:=qc.lG.step Bi.lt Bi.gW
   have gR:iR sq (n0+16*es.length):=fun m hm=>by
    have h1:=hinv.all m hm;have h2:=qc.fresh m (.inr (by omega));exact⟨h2.1 h1.1,h2.2 h1.2⟩
   refine hk _ (uc b8 o.dst v) sq AY tE (uY v) ⟨fun t d ht=>?_,?_,gR,fun k hk vQ m W9 Xa=>?_,hinv.glob.lG qc.lG Bi.gD,hinv.keeps.trans ⟨qc.lG.iZ,kR⟩,fun t ht=>?_⟩
   .rw[yc hx OR]at ht;split at ht
    .rename_i P2;obtain rfl:=ajk ht;rw[(BB t).1 P2]
     show aj sq AY tE _ (C6 b8 t v t)
     rw[oG,if_pos rfl];exact qc.dst
    .rename_i P2;rw[pL (fun e=>P2 ((BB t).2 e))];exact(hinv.slot t d ht).keep qc.lG.iZ kR
   .exact hinv.ob.Ju fY qc (fun q s t hq=>BA hx HG OT q s t hq) fun m hm _=>gR m hm
   .by_cases e:k=i
    .subst e;rw[oR]at vQ;cases vQ
    .rw[oS e]at vQ;have h1:=hinv.fresh k hk vQ m W9 Xa;have h2:=qc.fresh m (by omega);exact⟨h2.1 h1.1,h2.2 h1.2⟩
   .rw[pL (fun e=>ht x (aka hx) ((BB t).2 e))];exact hinv.same t ht
end
end
end Go.Proofs.YtmihpkfkbfgigaaGreatDoor
namespace Go.Proofs.YtmihpkfkbfgigaaGreatDoor
open Go Go.RowKit
def sS(dst:Option Nat)(g:Nat):kY:={dst:=dst,ts:=[g],os:=[],e:={dst:= .undef}}
noncomputable def mR{R:Type}{P:Program}(E:Env P)(nt:Nat)(ops:Array Oper):List Oper->State->List kY->(State->Option R)->Option R
 |[],st,acc,k=>bif sQ ops.toList acc then k st else none
 |o::os,st,acc,k=>bif Bl nt o.dst then(match o.guard with
  |none=>yb E o.dst o.op [] st (fun e x=>mR E nt ops os (st.apply o.dst e) (acc++[x]) k)
  |some (j,b)=>match Fo ops j with
   |none=>none
   |some g=>bif akf g nt then(match find st.ai g with
    |some .undef=>mR E nt ops os (st.apply o.dst {dst:= .undef}) (acc++[sS o.dst g]) k
    |some d=>match asBool d with
     |some t=>if t=true then
       (bif b then yb E o.dst o.op [g] (st.put (some g) (dM true)) (fun e x=>mR E nt ops os ((st.put (some g) (dM true)).apply o.dst e) (acc++[x]) k)
         else mR E nt ops os ((st.put (some g) (dM true)).apply o.dst {dst:= .undef}) (acc++[sS o.dst g]) k)
      else
       (bif b then mR E nt ops os ((st.put (some g) (dM false)).apply o.dst {dst:= .undef}) (acc++[sS o.dst g]) k
         else yb E o.dst o.op [g] (st.put (some g) (dM false)) (fun e x=>mR E nt ops os ((st.put (some g) (dM false)).apply o.dst e) (acc++[x]) k))
     |none=>none
    |none=>none)else none)else none
section
variable {P:Program} {nt:Nat} {ops:Array Oper} {R:Type}
variable {G:Nat->Prop} {w0:World} {F0:Nat->Prop} {sl0:Nat->Option al} {ob0:Nat->Option (Nat×Th)} {n0:Nat}
structure Lex(P:Program)(nt:Nat)(ops:Array Oper)(U:Nat->Prop)(sl0:Nat->Option al)(ob0:Nat->Option (Nat×Th))(n0:Nat)(es:List kY)(st:State):Prop where
 slot:∀t,find st.ai t=fK HE 0 es sl0 t
 ob:∀o,find st.objs o=ff HE 0 es ob0 o
 nxt:st.nxt=n0+16*es.length
 ok:∀i o x,ops[i]? =some o->es[i]? =some x->PZ P ops nt U o (fK HE 0 (es.take i) sl0) (ff HE 0 (es.take i) ob0) (n0+16*i) x
theorem DY{S:Nat->Bool}{es:List kY}{x:kY}{f:Nat->Option al}{t:Nat}(h:S es.length=true):fK S 0 (es++[x]) f t=if x.dst=some t then some x.e.dst else fK S 0 es f t:=by
 rw[n6,ajO]
 show(bif S es.length&&jv (some t) x.dst.toList then some x.e.dst else fK S 0 es f t)=_
 rw[h,Bool.true_and];by_cases hd:x.dst=some t
 .rw[if_pos hd,rE.2 hd];rfl
 .rw[if_neg hd]
  cases hb:jv (some t) x.dst.toList with
  |false=>rfl
  |true=>exact absurd (rE.1 hb) hd
theorem HH{S:Nat->Bool}{es:List kY}{x:kY}{f:Nat->Option (Nat×Th)}{o:Nat}(h:S es.length=true):ff S 0 (es++[x]) f o=(find x.e.make o).or (bif my o x.e.eat then none else ff S 0 es f o):=by
 rw[jJ,ajO]
 show(bif S es.length then _ else _)=_
 rw[h];rfl
theorem sT{st:State}{dst:Option Nat}{e:dY}{t:Nat}:find (st.apply dst e).ai t=if dst=some t then some e.dst else find st.ai t:=by
 cases dst with
 |none=>simp[State.apply]
 |some d=>
  show find ((d,e.dst)::st.ai) t=_
  rw[aD];by_cases h:d=t
  .simp[h]
  .simp[h]
theorem uh{st:State}{dst:Option Nat}{e:dY}{o:Nat}:find (st.apply dst e).objs o=(find e.make o).or (bif my o e.eat then none else find st.objs o):=by
 show find (e.make++del e.eat st.objs) o=_
 rw[gS]
 congr 1
 cases hb:my o e.eat with
 |true=>
  rw[cond_true]
  cases h:find (del e.eat st.objs) o with
  |none=>rfl
  |some x=>exact absurd (dT.1 hb) (gU.1 h).1
 |false=>
  rw[cond_false]
  have hn:o∉e.eat:=fun h=>by rw[dT.2 h]at hb;cases hb
  cases h:find st.objs o with
  |some x=>exact gU.2 ⟨hn,h⟩
  |none=>
   cases h2:find (del e.eat st.objs) o with
   |none=>rfl
   |some x=>rw[(gU.1 h2).2]at h;cases h
theorem Lex.snoc{U:Nat->Prop}{es:List kY}{st:State}{x:kY}{o:Oper}(h:Lex P nt ops U sl0 ob0 n0 es st)(ho:ops[es.length]? =some o)(hd:x.dst=o.dst)
 (nn:PZ P ops nt U o (find st.ai) (find st.objs) st.nxt x):Lex P nt ops U sl0 ob0 n0 (es++[x]) (st.apply o.dst x.e):=by
 refine⟨fun t=>?_,fun q=>?_,?_,fun i o' y kO hy=>?_⟩
 .rw[sT,DY rfl,hd,h.slot t]
 .rw[uh,HH rfl,h.ob q]
 .show st.nxt+16=_
  rw[h.nxt,ajm,ajw];omega
 .rcases Nat.lt_or_ge i es.length with ao|hge
  .rw[ajQ ao]at hy;rw[ajK (by omega)];exact h.ok i o' y kO hy
  .have hi:i=es.length:=by
    have:=(ajn.1 hy).1;simp at this;omega
   subst hi;simp at hy;subst hy;rw[ho]at kO;obtain rfl:=ajk kO;rw[List.take_left']
   .rw[<-funext h.slot,<-funext h.ob,<-h.nxt];exact nn
   .rfl
theorem Lex.put{U:Nat->Prop}{es:List kY}{st:State}{g:Nat}{d:al}(h:Lex P nt ops U sl0 ob0 n0 es st)(hg:find st.ai g=some d):Lex P nt ops U sl0 ob0 n0 es (st.put (some g) d):=by
 refine⟨fun t=>?_,h.ob,h.nxt,h.ok⟩
 show find ((g,d)::st.ai) t=_
 rw[aD,<-h.slot t];split
 .rename_i e;subst e;exact hg.symm
 .rfl
theorem HI{d:al}{t:Bool}(h:asBool d=some t):d=dM t:=by
 unfold asBool at h
 split at h<;>cases h
 rfl
theorem BC{E:Env P}{q:R}{k:State->Option R}:{l:List Oper}->{st:State}->{es:List kY}->mR E nt ops l st es k=some q->(∀j,l[j]? =ops[es.length+j]?)->Lex P nt ops (UU G w0) sl0 ob0 n0 es st->
 ∃mL bX,k bX=some q/\sQ ops.toList mL=true/\Lex P nt ops (UU G w0) sl0 ob0 n0 mL bX/\mL.length=es.length+l.length
 |[],st,es,h,_,hl=>by
  unfold mR at h;obtain⟨h1,h2⟩:=aG h;exact⟨es,st,h2,h1,hl,rfl⟩
 |o::l,st,es,h,nW,hl=>by
  have ho:ops[es.length]? =some o:=by simpa using(nW 0).symm
  have Tc:∀x:kY,∀j,l[j]? =ops[(es++[x]).length+j]? :=fun x j=>by
   have:=nW (j+1);rw[ajm,ajw,show es.length+1+j=es.length+(j+1)from by omega];simpa using this
  have go:∀{nF:State}{x:kY},mR E nt ops l nF (es++[x]) k=some q->Lex P nt ops (UU G w0) sl0 ob0 n0 (es++[x]) nF->∃mL bX,k bX=some q/\sQ ops.toList mL=true/\Lex P nt ops (UU G w0) sl0 ob0 n0 mL bX/\mL.length=es.length+(o::l).length:=by
   intro nF x h1 h2;obtain⟨mL,bX,a1,a2,a3,a4⟩:=BC h1 (Tc x) h2;refine⟨mL,bX,a1,a2,a3,?_⟩;rw[a4,ajm,ajw,ajy];omega
  unfold mR at h;obtain⟨hd,h'⟩:=aG h;clear h
  have on:∀{nF:State}{gs:List Nat},yb E o.dst o.op gs nF (fun e x=>mR E nt ops l (nF.apply o.dst e) (es++[x]) k)=some q->Lex P nt ops (UU G w0) sl0 ob0 n0 es nF->(∀ts:List Nat,(∀g∈gs,g∈ts)->PY ops nt ts (find nF.ai) o.guard true)->∃mL bX,k bX=some q/\sQ ops.toList mL=true/\Lex P nt ops (UU G w0) sl0 ob0 n0 mL bX/\mL.length=es.length+(o::l).length:=by
   intro nF gs h1 h2 h3;obtain⟨e,x,a1,a2,a3,a4⟩:=Kw (U:=UU G w0) h1;subst a2;exact go a1 (h2.snoc ho a4.dst ⟨a4.dst,hd,true,h3 _ a3,fun _=>a4,fun h=>by cases h⟩)
  have off:∀{nF:State}{g:Nat},mR E nt ops l (nF.apply o.dst {dst:= .undef}) (es++[sS o.dst g]) k=some q->Lex P nt ops (UU G w0) sl0 ob0 n0 es nF->PY ops nt [g] (find nF.ai) o.guard false->∃mL bX,k bX=some q/\sQ ops.toList mL=true/\Lex P nt ops (UU G w0) sl0 ob0 n0 mL bX/\mL.length=es.length+(o::l).length:=by
   intro nF g h1 h2 h3;exact go (x:=sS o.dst g) h1 (h2.snoc (x:=sS o.dst g) ho rfl ⟨rfl,hd,false,h3,fun h=>(by cases h),fun _=>rfl⟩)
  split at h'
  .rename_i HJ
   exact on h' hl fun ts _=>by rw[HJ];exact .none
  .rename_i j b HJ;split at h'
   case h_1=>cases h'
   rename_i g OL;obtain⟨OM,h⟩:=aG h';clear h';split at h
   .rename_i hu;exact off h hl (by rw[HJ];exact .undef OL OM (by simp) hu)
   .rename_i d fZ;split at h
    case h_2=>cases h
    rename_i t ht;obtain rfl:=HI ht
    have Td:∀v:Bool,find (st.put (some g) (dM v)).ai g=some (dM v):=fun v=>by
     show find ((g,dM v)::st.ai) g=_
     rw[aD,if_pos rfl]
    have Nn:∀(v:Bool)(ts:List Nat)(r:Bool),g∈ts->r=decide (v=b)->PY ops nt ts (find (st.put (some g) (dM v)).ai) (some (j,b)) r:=fun v ts r hg hr=>by
     rw[hr];exact .lit OL OM hg (Td v) rfl
    split at h
    .rename_i Ng;subst Ng;have IM:=hl.put fZ
     cases b with
     |true=>rw[cond_true]at h;exact on h IM fun ts vR=>by rw[HJ];exact Nn true ts true (vR g (by simp)) rfl
     |false=>rw[cond_false]at h;exact off h IM (by rw[HJ];exact Nn true [g] false (by simp) rfl)
    .rename_i Ng
     have Ng:t=false:=by cases t<;>simp_all
     subst Ng;have IM:=hl.put fZ
     cases b with
     |true=>rw[cond_true]at h;exact off h IM (by rw[HJ];exact Nn false [g] false (by simp) rfl)
     |false=>rw[cond_false]at h;exact on h IM fun ts vR=>by rw[HJ];exact Nn false ts true (vR g (by simp)) rfl
   .cases h
def Te(m:Nat)(listed:Array Bool):Nat:=((List.range m).filter fun j=> !listed.getD j false).length
theorem Fu{m i:Nat}{listed:Array Bool}(hi:i<m)(hs:listed.size=m)(h:listed.getD i false=false):Te m (listed.setIfInBounds i true)+1<=Te m listed:=by
 unfold Te
 have fY:∀l:List Nat,(l.filter fun j=> !(listed.setIfInBounds i true).getD j false).length<=(l.filter fun j=> !listed.getD j false).length/\(i∈l->(l.filter fun j=> !(listed.setIfInBounds i true).getD j false).length+1<=(l.filter fun j=> !listed.getD j false).length):=by
  intro l
  induction l with
  |nil=>exact⟨ajo _,fun h=>by cases h⟩
  |cons j l ih=>
   by_cases hj:i=j
   .subst hj
    have e1:(listed.setIfInBounds i true).getD i false=true:=by simp[aj2,hs,hi]
    rw[List.filter_cons,List.filter_cons,e1,h];simp only[akr,ajp,if_false,Bool.not_false,if_true,ajy];exact⟨by omega,fun _=>by omega⟩
   .have e1:(listed.setIfInBounds i true).getD j false=listed.getD j false:=getD_set_ne false hj;rw[List.filter_cons,List.filter_cons,e1]
    cases listed.getD j false with
    |true=>
     simp only[akr,ajp,if_false];exact⟨ih.1,fun hm=>ih.2 (by simpa[hj]using hm)⟩
    |false=>
     simp only[Bool.not_false,if_true,ajy];exact⟨by omega,fun hm=>by have:=ih.2 (by simpa[hj]using hm);omega⟩
 exact(fY _).2 (by simpa using hi)
theorem No{E:Env P}{id:Nat}{q:R}{k:State->Option R}{st:State}{H:aq}{F:Nat->Prop}{w:World}{ρ:Nat->Value}{Q:Exit->(Nat->Value)->World->Prop}(hm:P.follows .mixedOrders=true)
 (h:mR E nt ops ops.toList st [] k=some q)(hh:cH G w0 F0 H F w ρ st)
 (hk:∀bX H' F' w' b8,k bX=some q->cH G w0 F0 H' F' w' b8 bX->cB H F w H' F' w'->(∀t,(∀o∈ops.toList,o.dst≠some t)->b8 t=ρ t)->Q .normal b8 w'):qv P nt (.region id ops true) Q ρ w:=by
 obtain⟨es,bX,JY,jE,DZ,hlen⟩:=BC (G:=G) (w0:=w0) (sl0:=find st.ai) (ob0:=find st.objs) (n0:=st.nxt) h (fun j=>by simp) ⟨fun _=>rfl,fun _=>rfl,by simp,fun i o x _ hx=>by simp at hx⟩;simp only[List.length_nil,ajO,Array.length_toList]at hlen;unfold sQ at jE;split at jE
 case h_2=>cases jE
 rename_i ms S4
 have BB:∀x∈es,∃o∈ops.toList,x.dst=o.dst:=fun x hx=>by
  obtain⟨i,hi,rfl⟩:=ajG hx
  have ao:i<ops.size:=by omega
  exact⟨ops[i],by simp,(DZ.ok i ops[i] es[i] (ajT ao) (ajl hi)).dst⟩
 have KC:∀k y,es[k]? =some y->∀q,q∈y.soft->q∈y.mut->∃z z',ff HE 0 (es.take k) (find st.objs) q=some z/\find y.e.make q=some z'/\gJ z z':=fun k y hy q h1 h2=>by
  have ao:k<es.length:=(ajn.1 hy).1;obtain⟨_,_,b,_,W2,JF⟩:=DZ.ok k _ y (ajT (by omega)) hy
  cases b with
  |true=>exact(W2 rfl).soft q h1 h2
  |false=>
   rw[kY.mut,JF rfl]at h2;simp[qe]at h2
 have Fv:∀i o,ops[i]? =some o->∀e∈o.after,akX .any e=true->e.on<i:=fun i o ho e he hb=>by
  obtain⟨m,h1,_⟩:=(zB S4).2.2 i o (by rw[Array.getElem?_toList];exact ho);simp only[List.length_nil,ajO]at h1;exact Fs h1 e (by simpa using he) hb
 intro a hf;refine wp_region_any hm ?_
 have main:∀fuel(listed:Array Bool)(a:Act)(w':World)H' F' b8,listed.size=ops.size->Te ops.size listed<=fuel->DW ops (fun j=>listed.getD j false=true)->Fr nt a b8->
  Inv G w0 F0 es (find st.ai) (find st.objs) st.nxt H F w ρ (fun j=>listed.getD j false) H' F' w' b8->wpAny P .any ops (fun e a' w'=>∃b8,Fr nt a' b8/\Q e b8 w') fuel listed a w':=by
  have done:∀(listed:Array Bool)(a:Act)(w':World)H' F' b8,(∀i,i<ops.size->listed.getD i false=true)->Fr nt a b8->Inv G w0 F0 es (find st.ai) (find st.objs) st.nxt H F w ρ (fun j=>listed.getD j false) H' F' w' b8->∃b8,Fr nt a b8/\Q .normal b8 w':=by
   intro listed a w' H' F' b8 gR hf hinv
   have eS:∀t,fK (fun j=>listed.getD j false) 0 es (find st.ai) t=find bX.ai t:=fun t=>by
    rw[DZ.slot t]
    refine lr rfl fun k x hx _=>?_
    have:=(ajn.1 hx).1;rw[ajO];exact gR k (by omega)
   have eO:∀o,ff (fun j=>listed.getD j false) 0 es (find st.objs) o=find bX.objs o:=fun o=>by
    rw[DZ.ob o]
    refine kZ rfl fun k x hx _=>?_
    have:=(ajn.1 hx).1;rw[ajO];exact gR k (by omega)
   refine⟨b8,hf,hk bX H' F' w' b8 JY ⟨⟨fun t d hd=>hinv.slot t d (by rw[eS];exact hd),?_,?_⟩,hinv.glob⟩ hinv.keeps fun t ht=>hinv.same t fun x hx=>?_⟩
   .have:=hinv.ob;rw[funext eO]at this;rw[DZ.nxt];exact this
   .rw[DZ.nxt];exact hinv.all
   .obtain⟨o,ho,e⟩:=BB x hx;rw[e];exact ht o ho
  have HK:∀(listed:Array Bool),listed.size=ops.size->Region.ready .any ops listed=[]->∀i,i<ops.size->listed.getD i false=true:=by
   intro listed hs hr i
   induction i using Nat.strongRecOn with
   |_ i ih=>
    intro hi
    cases hl:listed.getD i false with
    |true=>rfl
    |false=>
     have:i∈Region.ready .any ops listed:=mem_ready.2 ⟨by
      simp only[aj2]at hl⊢;rw[ajT (by omega)]at hl⊢
      simpa using hl,ops[i],ajT hi,fun e he hb=>ih e.on (Fv i _ (ajT hi) e he hb) (by
       have:=Fv i _ (ajT hi) e he hb
       omega)⟩
     rw[hr]at this;cases this
  intro fuel
  induction fuel with
  |zero=>
   intro listed a w' H' F' b8 hs hu hc hf hinv
   have gR:∀i,i<ops.size->listed.getD i false=true:=fun i hi=>by
    cases hl:listed.getD i false with
    |true=>rfl
    |false=>
     have:=Fu hi hs hl;omega
   refine⟨?_,done listed a w' H' F' b8 gR hf hinv⟩
   cases hr:Region.ready .any ops listed with
   |nil=>rfl
   |cons i l=>
    have hi:i∈Region.ready .any ops listed:=by rw[hr];simp
    obtain⟨h1,o,h2,_⟩:=mem_ready.1 hi;have ao:=(akh.1 h2).1;have h3:=gR i ao;simp only[aj2]at h1 h3;rw[ajT (by omega)]at h1 h3;simp at h1 h3;rw[h1]at h3;cases h3
  |succ fuel ih=>
   intro listed a w' H' F' b8 hs hu hc hf hinv;refine⟨fun hr=>done listed a w' H' F' b8 (HK listed hs hr) hf hinv,fun i hi=>?_⟩;obtain⟨h1,o,ho,Ft⟩:=mem_ready.1 hi;have ao:=(akh.1 ho).1
   have HG:listed.getD i false=false:=by
    simp only[aj2]at h1⊢;rw[ajT (by omega)]at h1⊢;simpa using h1
   have hx:es[i]? =some (es[i]'(by omega)):=ajl (by omega);have fM:=DZ.ok i o _ ho hx;rw[<-DX (by omega),<-yd (by omega)]at fM
   have vQ:(fun j=>(listed.setIfInBounds i true).getD j false)=ins (fun j=>listed.getD j false) i:=by
    funext j;by_cases e:j=i
    .subst e;rw[oR];simp[aj2,hs,ao]
    .rw[oS e];exact getD_set_ne false (Ne.symm e)
   refine KB S4 jE hlen hc ho hx HG Ft KC fM hf hinv fun VD rF sq AY tE Xb P3=>?_
   refine ih _ VD tE sq AY rF (by simp[hs]) ?_ ?_ Xb ?_
   .have:=Fu ao hs HG;omega
   .intro j hj o' kO e he hb;by_cases ej:j=i
    .subst ej;rw[ho]at kO;obtain rfl:=ajk kO;exact getD_set_true (Ft e he hb)
    .have IR:listed.getD j false=true:=by
      have:(listed.setIfInBounds i true).getD j false=listed.getD j false:=getD_set_ne false (Ne.symm ej);rw[<-this];exact hj
     exact getD_set_true (hc j IR o' kO e he hb)
   .rw[vQ];exact P3
 have Xc:∀j,(Array.replicate ops.size false).getD j false=false:=fun j=>by
  simp only[aj2];by_cases hj:j<ops.size
  .simp[hj]
  .simp[hj]
 have hw:Step F w F w.drew:=Step.drew F w
 refine main ops.size _ a _ H F ρ (by simp) ?_ (fun i hi=>by
  have gj:(Array.replicate ops.size false).getD i false=true:=hi;rw[Xc]at gj
  cases gj) hf ⟨fun t d hd=>?_,?_,fun m hm=>hh.sat.all m (by omega),fun i hi _ m hm _=>hh.sat.all m (by omega),⟨⟨hh.glob.ext.os,hh.glob.ext.tape,hh.glob.ext.output,hh.glob.ext.size,hh.glob.ext.block⟩,hh.glob.le,hh.glob.new⟩,⟨aq.le.refl H,hw⟩,fun _ _=>rfl⟩
 .unfold Te;exact Nat.le_trans (List.length_filter_le _ _) (by simp)
 .rw[n5 fun k x _ _=>Xc _]at hd;exact(hh.sat.slot t d hd).keep (aq.le.refl H) hw
 .have e:ff (fun j=>(Array.replicate ops.size false).getD j false) 0 es (find st.objs)=find st.objs:=by
   funext o
   exact nG fun k x _ _=>Xc _
  rw[e];have hb:=hh.sat.ob;refine⟨fun o s t ho=>?_,hb.apart,fun m hm _=>hh.sat.all m (by omega),hb.lt,hb.new,hb.gl.step (fun _ h=>⟨h,rfl⟩)⟩;obtain⟨v,hv,cn⟩:=hb.obj o s t ho;exact⟨v,hv,cn.one,cn.con,cn.ok.heap (aq.le.refl H) hw fun _ _=>rfl,cn.no,cn.lt,cn.use⟩
end
end Go.Proofs.YtmihpkfkbfgigaaGreatDoor
end
