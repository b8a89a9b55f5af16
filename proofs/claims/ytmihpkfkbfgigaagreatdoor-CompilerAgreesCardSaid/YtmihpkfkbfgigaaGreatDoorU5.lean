/- Joined texts: Ifc Exec Draw2 Draw4. -/
import Derived.Test.YtmihpkfkbfgigaaGreatDoorU4
section
open _root_.List renaming getElem?_drop->ami,getElem?_take->amv
open _root_.Nat renaming beq->al4
open _root_.Option.some renaming injEq->al7
open _root_.Prod.mk renaming injEq->amZ
open _root_.Go.Result renaming andThen->amB
open _root_.Go.Sem renaming run_bind->amr
namespace Go.Proofs.YtmihpkfkbfgigaaGreatDoor
open Go Go.RowKit
section
variable {P:Program} {ρ:Nat->Value} {w w':World} {H H':ay} {F F':Nat->Prop} {U:Nat->Prop} {ob:Nat->Option (Nat×Th)} {n:Nat} {R:Type}
variable {op:Op} {ty:TypeId} {pos:String} {aft:Array Edge} {d:Nat} {dst:Option Nat}
def JR.Gm:JR->Bool
 | .other=>false
 |_=>true
theorem yz.Gm{t:TypeId}{k:JR}(h:yz P t k)(hk:k.Gm=true):∃D,P.underlying t=some D/\∀ms,D≠ .interface ms:=by
 cases k with
 |other=>cases hk
 |struct fs=>obtain⟨arr,h,_⟩:=h;exact⟨_,h,fun _ e=>by cases e⟩
 |_=>exact⟨_,h,fun _ e=>by cases e⟩
def Ad(T:bg P)(t:TypeId):Bool:=match find T.und t with
 |some k=>k.Gm
 |none=>false
theorem yX(T:bg P){t:TypeId}(h:Ad T t=true):∃D,P.underlying t=some D/\∀ms,D≠ .interface ms:=by
 unfold Ad at h;split at h
 .rename_i k hk;exact(T.und_ok _ _ hk).Gm h
 .cases h
def Iy(T:bg P)(t:TypeId)(D:aq)(k:eD->Option R):Option R:=bif Ad T t then k {dst:= .ifc t D}else none
theorem Oy(T:bg P){t:TypeId}{D:aq}{x:Operand}{k:eD->Option R}{q:R}(h:Iy T t D k=some q)(hs:az U H F w ob n)(hx:al H F w D (ev ρ x)):
 ∃e,k e=some q/\cS P U H F w ρ ob n ⟨some d, .makeInterface t x,ty,pos,aft,none⟩ e:=by
 unfold Iy at h;obtain⟨h1,h2⟩:=aK h;obtain⟨D0,hD,hn⟩:=yX T h1;refine⟨_,h2,bX hs (v:= .iface t (ev ρ x)) ?_ ⟨_,rfl,hx⟩⟩
 cases D0 with
 |interface ms=>exact absurd rfl (hn ms)
 |_=>simp[execOp,Instr.makeInterface,run_underlying hD,amB]
def qh(T:bg P)(t:TypeId)(ok:Bool)(D:aq)(k:eD->Option R):Option R:=
 match D with
 | .ifc t' d=>bif al4 t' t&&Ad T t then(match ok,d with
   |true, .val agg tr=>k {dst:= .tup [(agg,tr),(false, .leaf .bool true)]}
   |true,_=>none
   |false,d=>k {dst:=d})else none
 |_=>none
theorem EM(T:bg P){xt t:TypeId}{ok:Bool}{D:aq}{x:Operand}{k:eD->Option R}{q:R}(h:qh T t ok D k=some q)(hs:az U H F w ob n)(hx:al H F w D (ev ρ x)):
 ∃e,k e=some q/\cS P U H F w ρ ob n ⟨some d, .typeAssert x xt t ok,ty,pos,aft,none⟩ e:=by
 unfold qh at h;split at h
 case h_2=>cases h
 rename_i t' dd;obtain⟨h1,h2⟩:=aK h;obtain⟨h1,h3⟩:=di h1;obtain rfl:=beq_true h1;obtain⟨D0,hD,hn⟩:=yX T h3;obtain⟨u,hu,hd⟩:=hx
 have bA:(Instr.typeAssert (ev ρ x) xt t' ok).run P w= .ok (if ok then .tuple #[u, .bool true]else u) w:=by
  rw[hu]
  cases D0 with
  |interface ms=>exact absurd rfl (hn ms)
  |_=>simp[Instr.typeAssert,run_underlying hD,amB]
 split at h2
 .exact⟨_,h2,bX hs (v:= .tuple #[u, .bool true]) (by simp[execOp,bA,amB]) ⟨[u, .bool true],rfl,_,_,rfl,hd,_,_,rfl,aM.gN ..,rfl⟩⟩
 .cases h2
 .exact⟨_,h2,bX hs (v:=u) (by simp[execOp,bA,amB]) hd⟩
def Gn:List (TypeId×(String×(FuncId×Bool)))->TypeId->String->Option (FuncId×Bool)
 |[],_,_=>none
 |(t',(nm,p))::l,t,name=>bif al4 t' t&&(nm==name)then some p else Gn l t name
theorem Cn{t:TypeId}{name:String}{f:FuncId}{pr:Bool}:{l:List (TypeId×(String×(FuncId×Bool)))}->Gn l t name=some (f,pr)->(t,(name,(f,pr)))∈l
 |[],h=>by cases h
 |(t',(nm,p))::l,h=>by
  unfold Gn at h
  cases hb:al4 t' t&&(nm==name)with
  |true=>
   rw[hb,cond_true]at h;obtain⟨h1,h2⟩:=di hb;obtain rfl:=beq_true h1
   obtain rfl:nm=name:=by simpa using h2
   cases h;simp
  |false=>
   rw[hb,cond_false]at h;exact List.mem_cons_of_mem _ (Cn h)
theorem EN{t:TypeId}{name:String}{f:FuncId}{pr:Bool}{v u:Value}{fuel:Nat}(h:qJ P t name f pr)(hr:∀nm,(receiverAt t (.val v) pr (some nm)).run P w= .ok u w):(method (fuel+1) t v name).run P w= .ok (f,u) w:=by
 unfold qJ at h
 cases hi:P.info? t with
 |none=>rw[hi]at h;cases h
 |some ti=>
  rw[hi]at h;have h:(ti.methods.find? fun m=>m.name==name).map (fun m=>(m.path.toList.length,m.func))=some (0,some (f,pr)):=h
  cases hm:ti.methods.find? fun m=>m.name==name with
  |none=>rw[hm]at h;cases h
  |some m=>
   rw[hm]at h;simp only[Option.map_some,al7,amZ]at h
   have hp:m.path= #[]:=by
    have:=h.1;simpa using this
   simp[method,typeInfo,hi,hm,hp,follow,h.2,hr,amB,amr]
theorem Iz{t e:TypeId}{nm:String}{v:Value}(hu:P.underlying t=some (.pointer e)):(receiverAt t (.val v) true (some nm)).run P w= .ok v w:=by
 simp[receiverAt,run_underlying hu,Place.get,amB,amr]
theorem IA{t e:TypeId}{nm:String}{a:Addr}{u:Value}(hu:P.underlying t=some (.pointer e))(hl:(loadVar e a).run P w= .ok u w):(receiverAt t (.val (.pointer (some a))) false (some nm)).run P w= .ok u w:=by
 have hw:Builtin.ssaWrapNilChk_ #[t] t #[.pointer (some a),strVal "",strVal nm]=pure (.pointer (some a)):=rfl;simp[receiverAt,run_underlying hu,Place.get,hw,asAddr,hl,amB,amr]
theorem wL{t:TypeId}{name:String}{f:FuncId}{fn:Func}{pr:Bool}{v u:Value}{x:Operand}{args:Array Operand}{xN:Array TypeId}(h:qJ P t name f pr)(hx:ev ρ x= .iface t v)(hr:∀nm,(receiverAt t (.val v) pr (some nm)).run P w= .ok u w)
 (hf:P.funcs[f]? =some fn)(hn:(fn.name== "runtime.NumGoroutine")=false)(hb:fn.body.isNone=false):
 (execOp (ev ρ) ⟨dst, .call {callee:= .invoke x name,args:=args,argTypes:=xN},ty,pos,aft,none⟩).run P w= .ok (.enter f (u::args.toList.map (ev ρ)).toArray) w:=by
 have NS:¬fn.name= "runtime.NumGoroutine" :=by simpa using hn
 have qH:¬fn.body=none:=by
  intro e;rw[e]at hb;cases hb
 have hm:=EN (fuel:=P.types.size+99) h hr;have hfu:P.types.size+100=P.types.size+99+1:=rfl
 have e1:(#[Value.iface t v]++Array.map (ev ρ) args).extract 1 (1+args.size)=Array.map (ev ρ) args:=by
  apply Array.ext';simp;exact List.take_of_length_le (by simp)
 have e0:(#[Value.iface t v]++Array.map (ev ρ) args)[0]? =some (Value.iface t v):=by simp[Array.getElem?_append]
 have e2:(#[u]++Array.map (ev ρ) args)=(u::args.toList.map (ev ρ)).toArray:=by apply Array.ext';simp
 simp[execOp,resolve,hx,invoke,callMethod,hfu,hm,callFunc,hf,NS,qH,go_sem,e0,e1,e2]
def vy(T:bg P)(ob:Nat->Option (Nat×Th))(e:TypeId)(D:aq):Option aq:=
 match find T.und e with
 |none=>none
 |some kk=>match D with
  | .ptr o p off=>match ob o with
    |some (_, .box _ tr)=>match tr.get p with
     |some (s,dV)=>bif al4 dV off&&m9 T e kk s.size then some (.val (lE kk) s)else none
     |none=>none
    |_=>none
  |_=>none
theorem EO(T:bg P){e:TypeId}{D D':aq}{v:Value}(h:vy T ob e D=some D')(hs:az U H F w ob n)(hx:al H F w D v):∃a u,v= .pointer (some a)/\(loadVar e a).run P w= .ok u w/\al H F w D' u:=by
 unfold vy at h;split at h
 .cases h
 rename_i kk hu;split at h
 case h_2=>cases h
 rename_i o p off;split at h
 case h_2=>cases h
 rename_i st0 T0 tr dh;split at h
 case h_2=>cases h
 rename_i s dV hg;obtain⟨h1,h2⟩:=aK h;cases h2;obtain⟨h1,h3⟩:=di h1;obtain rfl:=beq_true h1;obtain⟨b,hb,rfl⟩:=hx;obtain⟨es,hh,P5⟩:=hs.box dh hb;obtain⟨g1,g2⟩:=P5.get hg
 have hc:∀j u,((es.drop dV).take s.size)[j]? =some u->w.cell? ⟨b,dV+j,none⟩=some u:=fun j u hj=>by
  rw[vW hh];rw[amv]at hj;split at hj
  .rwa [ami]at hj
  .cases hj
 obtain⟨dd,xT,yy⟩:=(T.und_ok _ _ hu).agg;have hz:=kF T h3;have hl:=g1.length;generalize(es.drop dV).take s.size=cs at g1 hc hl
 cases ha:lE kk with
 |true=>
  rw[if_pos ha]at hz;obtain⟨r,hr,JV⟩:=hz;obtain⟨ti,z,h1,_,_,h4,_⟩:=T.row_ok _ _ hr;have TE:(loadCells ⟨b,dV,none⟩ cs.length).run P w= .ok cs.toArray w:=run_loadCells_list (P:=P) w ⟨b,dV,none⟩ cs (fun j v hv=>by rw[cX];exact hc j v hv)
  have mE:ti.size=cs.length:=by omega
  exact⟨_, .agg cs.toArray,rfl,by simp[loadVar,amr,fM xT,yy,ha,sizeOf,typeInfo,h1,mE,TE],⟨cs,g1,rfl,by simp⟩⟩
 |false=>
  rw[if_neg (by simp[ha])]at hz
  obtain⟨v,rfl⟩:∃v,cs=[v]:=by
   match cs,hl.trans hz with
   |[v],_=>exact⟨v,rfl⟩
  have hcv:w.cell? ⟨b,dV,none⟩=some v:=hc 0 v rfl;exact⟨_,v,rfl,by simp[loadVar,amr,fM xT,yy,ha,hcv,go_sem],⟨[v],g1,rfl,fun _=>rfl⟩⟩
def qi(T:bg P)(tab:List (Nat×bp))(rd:Operand->Option aq)(objs:List (Nat×(Nat×Th)))(n:Nat)(x:Operand)(name:String)(args:List Operand)(k:eD->Option R):Option R:=
 match rd x with
 |some (.ifc t d)=>match Gn T.mth t name with
  |some (f,pr)=>match find T.und t with
   |some (.ptr e)=>match(bif pr then some d else vy T (find objs) e d)with
    |some d'=>match rZ rd args with
     |some ds=>oF objs n f (d'::ds) k tab
     |none=>none
    |none=>none
   |_=>none
  |none=>none
 |_=>none
theorem wM(T:bg P){tab:List (Nat×bp)}(yb:∀p∈tab,ax P p.1 p.2){rd:Operand->Option aq}(gu:∀x d,rd x=some d->al H F w d (ev ρ x)){objs:List (Nat×(Nat×Th))}{x:Operand}{name:String}{args:Array Operand}{xN:Array TypeId}{k:eD->Option R}{q:R}
 (h:qi T tab rd objs n x name args.toList k=some q)(hs:az U H F w (find objs) n):
 ∃e,k e=some q/\cS P U H F w ρ (find objs) n ⟨dst, .call {callee:= .invoke x name,args:=args,argTypes:=xN},ty,pos,aft,none⟩ e:=by
 unfold qi at h;split at h
 case h_2=>cases h
 rename_i t d0 hx;split at h
 case h_2=>cases h
 rename_i f pr hm;split at h
 case h_2=>cases h
 rename_i e hu;split at h
 case h_2=>cases h
 rename_i d' yt;split at h
 case h_2=>cases h
 rename_i ds vp;obtain⟨v,hv,hdv⟩:=gu _ _ hx;have hM:=T.mth_ok _ (Cn hm);have hu:=T.und_ok _ _ hu;have Xy:=n5 (w:=w) (H:=H) (F:=F) (ρ:=ρ) gu vp
 cases pr with
 |true=>
  cases yt
  have Of:fQ H F w (d0::ds) (v::args.toList.map (ev ρ)):=⟨v,_,rfl,hdv,Xy⟩
  exact oe yb Of (fun fn g1 g2 g3=>wL hM hv (fun nm=>Iz hu) g1 g2 g3) hs (fun _ h=>h) h
 |false=>
  obtain⟨a,u,rfl,hl,hdu⟩:=EO T (show vy T (find objs) e d0=some d' from yt) hs hdv
  have Of:fQ H F w (d'::ds) (u::args.toList.map (ev ρ)):=⟨u,_,rfl,hdu,Xy⟩
  exact oe yb Of (fun fn g1 g2 g3=>wL hM hv (fun nm=>IA hu hl) g1 g2 g3) hs (fun _ h=>h) h
end
end Go.Proofs.YtmihpkfkbfgigaaGreatDoor
end
section
open _root_.Array renaming toArray_toList->amL
open _root_.List.cons renaming injEq->amR
open _root_.Nat renaming beq->al4,blt->amS
open _root_.Option.some renaming inj->alU
open _root_.Prod.mk renaming inj->ant
open _root_.Go.Sem renaming run_bind->amr
namespace Go.Proofs.YtmihpkfkbfgigaaGreatDoor
open Go Go.RowKit
structure Env(P:Program)where
 T:bg P
 tab:List (Nat×bp)
 ok:∀p∈tab,ax P p.1 p.2
 mix:P.follows .mixedOrders=true
 deep:Bool
 drop:Bool
def Ae(rd:Operand->Option aq):List Operand->Option (List (Nat×List Bool×Nat))
 |[]=>some []
 |x::xs=>match rd x with
  |some (.ptr o p off)=>match Ae rd xs with
   |some cs=>some ((o,p,off)::cs)
   |none=>none
  |_=>none
theorem yY{H:ay}{F:Nat->Prop}{w:World}{ρ:Nat->Value}{rd:Operand->Option aq}(gu:∀x d,rd x=some d->al H F w d (ev ρ x)):{xs:List Operand}->{cs:List (Nat×List Bool×Nat)}->Ae rd xs=some cs->lL H cs (xs.map (ev ρ))
 |[],cs,h=>by obtain rfl:=alU h;rfl
 |x::xs,cs,h=>by
  unfold Ae at h;split at h
  case h_2=>cases h
  rename_i o p off hx;split at h
  case h_2=>cases h
  rename_i rS rO;obtain rfl:=alU h;exact⟨_,_,rfl,gu _ _ hx,yY gu rO⟩
def mV{R:Type}(rd:Operand->Option aq)(fn:Fn)(first caps:Array Operand)(k:eD->Option R):Option R:=
 match fn,first.toList with
 | .func f,[]=>match Ae rd caps.toList with
   |some cs=>k {dst:= .fn f cs}
   |none=>none
 |_,_=>none
theorem Af{R:Type}{P:Program}{U:Nat->Prop}{H:ay}{F:Nat->Prop}{w:World}{ρ:Nat->Value}{ob:Nat->Option (Nat×Th)}{n d:Nat}{ty:TypeId}{pos:String}{aft:Array Edge}{rd:Operand->Option aq}(gu:∀x d,rd x=some d->al H F w d (ev ρ x)){fn:Fn}{first caps:Array Operand}{k:eD->Option R}{q:R}
 (h:mV rd fn first caps k=some q)(hs:az U H F w ob n):∃e,k e=some q/\cS P U H F w ρ ob n ⟨some d, .makeFunc fn first caps,ty,pos,aft,none⟩ e:=by
 unfold mV at h;split at h
 case h_2=>cases h
 rename_i f hf;split at h
 case h_2=>cases h
 rename_i cs rO
 have Ri:first= #[]:=by rw[<-amL (xs:=first),hf]
 subst Ri
 have e:caps.map (ev ρ)=(caps.toList.map (ev ρ)).toArray:=by rw[<-List.map_toArray,amL]
 exact⟨_,h,bX hs (v:= .func (.func f) #[] (caps.toList.map (ev ρ)).toArray) (by simp[execOp,Instr.makeFunc,e]) ⟨_,rfl,yY gu rO⟩⟩
noncomputable def qP{R:Type}{P:Program}(E:Env P)(rd:Operand->Option aq)(objs:List (Nat×(Nat×Th)))(n:Nat)(callee:Callee)(args:Array Operand)(xN:Array TypeId)(k:eD->Option R):Option R:=
 match callee with
 | .builtin .len=>match args.toList,xN.toList with
   |[x],[t]=>match rd x with
    |some D=>match HY E.T (find objs) t D with
     |some D'=>k {dst:=D'}
     |none=>none
    |none=>none
   |_,_=>none
 | .builtin .append=>match args.toList,xN.toList with
   |[x,y],[t,t']=>bif al4 t t' then(match rd x with
    |some X=>match rd y with
     |some Y=>oa E.T (find objs) n t X Y k
     |none=>none
    |none=>none)else none
   |_,_=>none
 | .builtin .max=>match args.toList,xN.toList with
   |[x,y],[_,_]=>match rd x with
    |some X=>match rd y with
     |some Y=>match vr true X Y with
      |some D=>k {dst:=D}
      |none=>none
     |none=>none
    |none=>none
   |_,_=>none
 | .builtin .min=>match args.toList,xN.toList with
   |[x,y],[_,_]=>match rd x with
    |some X=>match rd y with
     |some Y=>match vr false X Y with
      |some D=>k {dst:=D}
      |none=>none
     |none=>none
    |none=>none
   |_,_=>none
 | .value g=>yV E.tab rd objs n g args.toList k
 | .invoke x name=>qi E.T E.tab rd objs n x name args.toList k
 |_=>none
noncomputable def Oz{R:Type}{P:Program}(E:Env P)(rd:Operand->Option aq)(objs:List (Nat×(Nat×Th)))(n:Nat)(dst:Option Nat)(op:Op)(k:eD->Option R):Option R:=
 match dst with
 |none=>match op with
  | .store t x y=>match rd x with
    |some X=>match rd y with
     |some Y=>qg E.T (find objs) n t X Y k
     |none=>none
    |none=>none
  | .call c=>qP E rd objs n c.callee c.args c.argTypes k
  | .mapUpdate t m x y=>match rd m with
    |some M=>match rd x with
     |some X=>match rd y with
      |some Y=>kH E.T (find objs) n t M X Y k
      |none=>none
     |none=>none
    |none=>none
  |_=>none
 |some _=>match op with
  | .move x=>match rd x with
    |some D=>k {dst:=D}
    |none=>none
  | .assign x=>match rd x with
    |some D=>k {dst:=D}
    |none=>none
  | .pick c x y=>match rd c with
    |some C=>match asBool C with
     |some b=>match(if b=true then rd x else rd y)with
      |some D=>k {dst:=D}
      |none=>none
     |none=>none
    |none=>none
  | .alloc t=>tn E.T n t k
  | .box t x=>match rd x with
    |some X=>HW n t X k
    |none=>none
  | .build t ps=>tt E.T rd t ps k
  | .buildSlice t m ps=>vx E.deep E.T rd (find objs) n t m ps k
  | .load t x=>match rd x with
    |some X=>pq E.T (find objs) n t X k
    |none=>none
  | .nilCheck x=>match rd x with
    |some (.ptr o p off)=>k {dst:= .ptr o p off}
    |some (.elem o s r i z p off)=>k {dst:= .elem o s r i z p off}
    |some (.dlm o d i p off)=>k {dst:= .dlm o d i p off}
    |some (.at r z)=>k {dst:= .at r z}
    |_=>none
  | .binOp o t x y _=>match rd x with
    |some X=>match rd y with
     |some Y=>Ie E.T (find objs) o t (Uc y) X Y k
     |none=>none
    |none=>none
  | .unOp o _ x=>match rd x with
    |some X=>match Yo o X with
     |some D=>k {dst:=D}
     |none=>none
    |none=>none
  | .convert s t x=>match rd x with
    |some X=>match KR E.T s t X with
     |some D=>k {dst:=D}
     |none=>none
    |none=>none
  | .makeSlice t a b=>match rd a with
    |some A=>match asInt A with
     |some (_,i)=>match rd b with
      |some B=>match asInt B with
       |some (_,j)=>wA E.deep E.T n t (pj a b) i j k
       |none=>none
      |none=>none
     |none=>none
    |none=>none
  | .slice t x lo hi none=>match rd x with
    |some X=>tw E.drop E.T rd (find objs) n t X lo hi k
    |none=>none
  | .fieldAddr t x f=>match rd x with
    |some X=>match Ef E.T t f X with
     |some D=>k {dst:=D}
     |none=>none
    |none=>none
  | .field t x f=>match rd x with
    |some X=>match zT E.T t f X with
     |some D=>k {dst:=D}
     |none=>none
    |none=>none
  | .indexAddr t x y=>match rd x with
    |some X=>match rd y with
     |some Y=>match asInt Y with
      |some (_,i)=>tj E.T (find objs) t X i k
      |none=>none
     |none=>none
    |none=>none
  | .index t x y=>match rd x with
    |some X=>match rd y with
     |some Y=>match asInt Y with
      |some (_,i)=>qc E.T (find objs) t X i k
      |none=>none
     |none=>none
    |none=>none
  | .extract x i=>match rd x with
    |some X=>match wh X i with
     |some D=>k {dst:=D}
     |none=>none
    |none=>none
  | .call c=>qP E rd objs n c.callee c.args c.argTypes k
  | .makeFunc fn first caps=>mV rd fn first caps k
  | .makeMap t none=>mU E.deep E.T n t k
  | .lookup t m x ok=>match rd m with
    |some M=>match rd x with
     |some X=>n8 E.T (find objs) n t ok M X k
     |none=>none
    |none=>none
  | .makeInterface t x=>match rd x with
    |some X=>Iy E.T t X k
    |none=>none
  | .typeAssert x _ t ok=>match rd x with
    |some X=>qh E.T t ok X k
    |none=>none
  |_=>none
section
variable {P:Program} {ρ:Nat->Value} {w w':World} {H H':ay} {F F':Nat->Prop} {U:Nat->Prop} {n:Nat} {R:Type}
variable {ty:TypeId} {pos:String} {aft:Array Edge} {dst:Option Nat} {d:Nat}
theorem fq{α:Type}{a:Array α}{l:List α}(h:a.toList=l):a=l.toArray:=by rw[<-h,amL]
theorem Lq(E:Env P){rd:Operand->Option aq}(gu:∀x d,rd x=some d->al H F w d (ev ρ x)){objs:List (Nat×(Nat×Th))}{c:Call}{k:eD->Option R}{q:R}
 (h:qP E rd objs n c.callee c.args c.argTypes k=some q)(hs:az U H F w (find objs) n):∃e,k e=some q/\cS P U H F w ρ (find objs) n ⟨some d, .call c,ty,pos,aft,none⟩ e:=by
 obtain⟨callee,args,xN⟩:=c;simp only at h;unfold qP at h;split at h
 .split at h
  case h_2=>cases h
  rename_i x t ha ht;obtain rfl:=fq ha;obtain rfl:=fq ht;split at h
  case h_2=>cases h
  rename_i D hD;split at h
  case h_2=>cases h
  rename_i D' NR;exact⟨_,h,FY E.T NR hs (gu _ _ hD)⟩
 .split at h
  case h_2=>cases h
  rename_i x y t t' ha ht;obtain rfl:=fq ha;obtain rfl:=fq ht;obtain⟨hb,h'⟩:=aK h;clear h;obtain rfl:=beq_true hb;split at h'
  case h_2=>cases h'
  rename_i X hX;split at h'
  case h_2=>cases h'
  rename_i Y hY;exact BX E.T h' hs (gu _ _ hX) (gu _ _ hY)
 .split at h
  case h_2=>cases h
  rename_i x y t t' ha ht;obtain rfl:=fq ha;obtain rfl:=fq ht;split at h
  case h_2=>cases h
  rename_i X hX;split at h
  case h_2=>cases h
  rename_i Y hY;split at h
  case h_2=>cases h
  rename_i D hD;exact⟨_,h,wi (mx:=true) hD hs (gu _ _ hX) (gu _ _ hY)⟩
 .split at h
  case h_2=>cases h
  rename_i x y t t' ha ht;obtain rfl:=fq ha;obtain rfl:=fq ht;split at h
  case h_2=>cases h
  rename_i X hX;split at h
  case h_2=>cases h
  rename_i Y hY;split at h
  case h_2=>cases h
  rename_i D hD;exact⟨_,h,wi (mx:=false) hD hs (gu _ _ hX) (gu _ _ hY)⟩
 .exact Cm E.ok gu h hs
 .exact wM E.T E.ok gu h hs
 .cases h
def OA:Callee->Bool
 | .value _=>true
 | .invoke .. =>true
 |_=>false
theorem yc(E:Env P){rd:Operand->Option aq}(gu:∀x d,rd x=some d->al H F w d (ev ρ x)){objs:List (Nat×(Nat×Th))}{c:Call}{k:eD->Option R}{q:R}(hc:OA c.callee=true)
 (h:qP E rd objs n c.callee c.args c.argTypes k=some q)(hs:az U H F w (find objs) n):∃e,k e=some q/\cS P U H F w ρ (find objs) n ⟨none, .call c,ty,pos,aft,none⟩ e:=by
 obtain⟨callee,args,xN⟩:=c;simp only at h hc
 cases callee with
 |value g=>exact Cm E.ok gu h hs
 |invoke x name=>exact wM E.T E.ok gu h hs
 |builtin b=>cases hc
end
section
variable {P:Program} {ρ:Nat->Value} {w w':World} {H H':ay} {F F':Nat->Prop} {U:Nat->Prop} {n:Nat} {R:Type}
variable {ty:TypeId} {pos:String} {aft:Array Edge} {dst:Option Nat} {d:Nat}
theorem IB{c x y:Operand}{b:Bool}{D:aq}{ob:Nat->Option (Nat×Th)}(hs:az U H F w ob n)(hc:ev ρ c= .bool b)(hx:al H F w D (ev ρ (if b=true then x else y))):cS P U H F w ρ ob n ⟨some d, .pick c x y,ty,pos,aft,none⟩ {dst:=D}:=by
 cases b with
 |true=>exact aQ hs (vI hc rfl) hx
 |false=>exact aQ hs (uV hc rfl) hx
theorem Lr(E:Env P){rd:Operand->Option aq}(gu:∀x d,rd x=some d->al H F w d (ev ρ x)){objs:List (Nat×(Nat×Th))}{op:Op}{k:eD->Option R}{q:R}
 (Ag:dst=none->∀c,op= .call c->OA c.callee=true)(h:Oz E rd objs n dst op k=some q)(hs:az U H F w (find objs) n):∃e,k e=some q/\cS P U H F w ρ (find objs) n ⟨dst,op,ty,pos,aft,none⟩ e:=by
 cases dst with
 |none=>
  unfold Oz at h;simp only at h;split at h
  .split at h
   case h_2=>cases h
   rename_i X hX;split at h
   case h_2=>cases h
   rename_i Y hY;exact Ev E.T h hs (gu _ _ hX) (gu _ _ hY)
  .rename_i c;exact yc E gu (Ag rfl c rfl) h hs
  .split at h
   case h_2=>cases h
   rename_i M hM;split at h
   case h_2=>cases h
   rename_i X hX;split at h
   case h_2=>cases h
   rename_i Y hY;exact wE E.T h hs (gu _ _ hM) (gu _ _ hX) (gu _ _ hY)
  .cases h
 |some d=>
  unfold Oz at h;simp only at h;split at h
  .split at h
   case h_2=>cases h
   rename_i D hD;exact⟨_,h,If hs (gu _ _ hD)⟩
  .split at h
   case h_2=>cases h
   rename_i D hD;exact⟨_,h,BJ hs (gu _ _ hD)⟩
  .split at h
   case h_2=>cases h
   rename_i C hC;split at h
   case h_2=>cases h
   rename_i b hb;split at h
   case h_2=>cases h
   rename_i D hD;refine⟨_,h,IB hs (nZ hb (gu _ _ hC)) ?_⟩;split at hD
   .rename_i e;rw[if_pos e];exact gu _ _ hD
   .rename_i e;rw[if_neg e];exact gu _ _ hD
  .exact HV E.T h hs
  .split at h
   case h_2=>cases h
   rename_i X hX;exact NZ h hs (gu _ _ hX)
  .exact Ia E.T gu h hs
  .exact Ew E.deep E.T gu h hs
  .split at h
   case h_2=>cases h
   rename_i X hX;exact Iq E.T h hs (gu _ _ hX)
  .split at h
   .rename_i o p off hX;obtain⟨b,h1,h2⟩:=gu _ _ hX;exact⟨_,h,bX hs (v:= .pointer (some ⟨b,off,none⟩)) (by simp[execOp,h2]) ⟨b,h1,rfl⟩⟩
   .rename_i o s r i z p off hX;have hd:=gu _ _ hX;obtain⟨g,o0,q,T,m,cap,l,_,_,_,_,h2⟩:=id hd;exact⟨_,h,bX hs (v:= .pointer (some ⟨g,o0+q*r.size+off,none⟩)) (by simp[execOp,h2]) (by rw[<-h2];exact hd)⟩
   .rename_i o d i p off hX;have hd:=gu _ _ hX;obtain⟨g,o0,q,m,cap,_,_,h2⟩:=id hd;exact⟨_,h,bX hs (v:= .pointer (some ⟨g,o0+q*d.low.size+off,none⟩)) (by simp[execOp,h2]) (by rw[<-h2];exact hd)⟩
   .rename_i r z hX;have hd:=gu _ _ hX;obtain⟨b,off,h2,_⟩:=id hd;exact⟨_,h,bX hs (v:= .pointer (some ⟨b,off,none⟩)) (by simp[execOp,h2]) (by rw[<-h2];exact hd)⟩
   .cases h
  .split at h
   case h_2=>cases h
   rename_i X hX;split at h
   case h_2=>cases h
   rename_i Y hY;exact N5 E.T h hs (gu _ _ hX) (gu _ _ hY)
  .split at h
   case h_2=>cases h
   rename_i X hX;split at h
   case h_2=>cases h
   rename_i D hD;exact⟨_,h,Q3 hD hs (gu _ _ hX)⟩
  .split at h
   case h_2=>cases h
   rename_i X hX;split at h
   case h_2=>cases h
   rename_i D hD;exact⟨_,h,KS E.T hD hs (gu _ _ hX)⟩
  .split at h
   case h_2=>cases h
   rename_i A hA;split at h
   case h_2=>cases h
   rename_i i hi;split at h
   case h_2=>cases h
   rename_i B hB;split at h
   case h_2=>cases h
   rename_i j hj;exact Ip E.deep E.T h hs (iS hi (gu _ _ hA)) (iS hj (gu _ _ hB))
  .split at h
   case h_2=>cases h
   rename_i X hX;exact Ic E.drop E.T gu h hs (gu _ _ hX)
  .split at h
   case h_2=>cases h
   rename_i X hX;split at h
   case h_2=>cases h
   rename_i D hD;exact⟨_,h,HQ E.T hD hs (gu _ _ hX)⟩
  .split at h
   case h_2=>cases h
   rename_i X hX;split at h
   case h_2=>cases h
   rename_i D hD;exact⟨_,h,El E.T hD hs (gu _ _ hX)⟩
  .split at h
   case h_2=>cases h
   rename_i X hX;split at h
   case h_2=>cases h
   rename_i Y hY;split at h
   case h_2=>cases h
   rename_i i hi;exact HR E.T h hs (gu _ _ hX) (iS hi (gu _ _ hY))
  .split at h
   case h_2=>cases h
   rename_i X hX;split at h
   case h_2=>cases h
   rename_i Y hY;split at h
   case h_2=>cases h
   rename_i k' i hi;exact Eo E.T h hs (gu _ _ hX) (iS hi (gu _ _ hY))
  .split at h
   case h_2=>cases h
   rename_i X hX;split at h
   case h_2=>cases h
   rename_i D hD;exact⟨_,h,BI hD hs (gu _ _ hX)⟩
  .exact Lq E gu h hs
  .exact Af gu h hs
  .exact Aa E.deep E.T h hs
  .split at h
   case h_2=>cases h
   rename_i M hM;split at h
   case h_2=>cases h
   rename_i X hX;exact BU E.T h hs (gu _ _ hM) (gu _ _ hX)
  .split at h
   case h_2=>cases h
   rename_i X hX;exact Oy E.T h hs (gu _ _ hX)
  .split at h
   case h_2=>cases h
   rename_i X hX;exact EM E.T h hs (gu _ _ hX)
  .cases h
end
def pw(rd:Operand->Option aq)(x:Operand):List Nat:=
 match rd x with
 |some (.val _ t)=>t.owns
 |_=>[]
def Ah(rd:Operand->Option aq)(x:Operand):List Nat:=
 match rd x with
 |some (.val _ (.view o _ _ _))=>[o]
 |_=>[]
def Gp(rd:Operand->Option aq):List Operand->List Nat
 |[]=>[]
 |x::xs=>pw rd x++Gp rd xs
def tL:Operand->Bool
 | .const (.slice none 0 0)=>true
 |_=>false
def Gq(rd:Operand->Option aq):Op->List Nat
 | .store _ x y=>match rd x with
   |some (.elem ..)=>pw rd y
   |_=>[]
 | .buildSlice _ _ ps=>Gp rd (ps.toList.map (·.2))
 | .binOp .eql _ x y _=>bif tL y then[]else pw rd x++pw rd y
 | .binOp .neq _ x y _=>bif tL y then[]else pw rd x++pw rd y
 | .slice _ x _ _ _=>Ah rd x
 | .indexAddr _ x _=>Ah rd x
 | .call c=>match c.callee,c.args.toList with
   | .builtin .append,[_,y]=>Ah rd y
   |_,_=>[]
 | .mapUpdate _ _ _ y=>pw rd y
 |_=>[]
def Co(nt:Nat):Option Nat->Bool
 |some d=>amS d nt
 |none=>true
def fnB(dst:Option Nat)(op:Op):Bool:=
 match dst with
 |some _=>true
 |none=>match op with
  | .call c=>OA c.callee
  |_=>true
open Classical in
noncomputable def wN{α:Type}(a b:Option α):Option α:=if a=b then a else none
theorem Ls{α:Type}{a b:Option α}{q:α}(h:wN a b=some q):a=some q:=by
 unfold wN at h;split at h
 .exact h
 .cases h
theorem Rj{α:Type}{a b:Option α}{q:α}(h:wN a b=some q):b=some q:=by
 have ha:=Ls h;unfold wN at h;split at h
 .rename_i e;rw[<-e];exact ha
 .cases h
def Lt{P:Program}(T:bg P)(rd:Operand->Option aq)(ob:Nat->Option (Nat×Th)):Op->Option (Bool×Nat)
 | .binOp o t x y _=>match o with
   | .eql=>bif tL y then(match find T.und t with
     |some (.slice _)=>match rd x with
      |some X=>match uX ob X with
       |some (.read _ l)=>some (false,l.length)
       |some (.own _ _ _ _ l)=>some (false,l.length)
       |_=>none
      |none=>none
     |_=>none)else none
   | .neq=>bif tL y then(match find T.und t with
     |some (.slice _)=>match rd x with
      |some X=>match uX ob X with
       |some (.read _ l)=>some (true,l.length)
       |some (.own _ _ _ _ l)=>some (true,l.length)
       |_=>none
      |none=>none
     |_=>none)else none
   |_=>none
 |_=>none
def Qc(objs:List (Nat×(Nat×Th))):Option aq->Bool
 |some (.val false (.own o))=>match find objs o with
  |some (_, .dmap ..)=>true
  |_=>false
 |_=>false
def Lu(rd:Operand->Option aq)(objs:List (Nat×(Nat×Th))):Op->List Nat
 | .mapUpdate t m x y=>bif Qc objs (rd m)then[]else Gq rd (.mapUpdate t m x y)
 | .lookup t m x false=>bif Qc objs (rd m)then pw rd m else[]
 |op=>Gq rd op
def rk{P:Program}(E:Env P)(rd:Operand->Option aq)(objs:List (Nat×(Nat×Th)))(op:Op):List Nat:=
 match E.deep,op with
 |true, .buildSlice .. =>[]
 |_,_=>Lu rd objs op
noncomputable def wO(st:State)(o:Nat):State:=
 match K7 (find st.objs) st.nxt o with
 |some e=>st.apply none e
 |none=>st
noncomputable def uA(st:State):List Nat->State
 |[]=>st
 |o::os=>uA (wO st o) os
def Qd:List (Nat×(Nat×Th))->Bool
 |[]=>false
 |(_,(_, .deep _ _ _ (some _)))::_=>true
 |(_,(_, .dmap _ _ _ _ _ (some _)))::_=>true
 |_::l=>Qd l
noncomputable def oX(st:State):State:=
 match Qd st.objs with
 |true=>uA (uA st (st.objs.map (·.1))) (st.objs.map (·.1))
 |false=>st
def UL:Op->Bool
 | .call c=>OA c.callee
 |_=>false
def Ai(o:Nat):List (Nat×(Nat×Th))->Bool
 |[]=>false
 |(_,(_, .deep _ _ _ (some h)))::l=>al4 h.o o||Ai o l
 |(_,(_, .dmap _ _ _ _ _ (some h)))::l=>al4 h.2 o||Ai o l
 |_::l=>Ai o l
def OB(st:State)(x:Operand):Bool:=
 match JT st.ak x with
 |some (.val _ (.own o))=>Ai o st.objs
 |_=>false
def Lv(st:State):Op->Bool
 | .call c=>c.args.toList.any (OB st)
 |_=>false
noncomputable def Gr{R:Type}{P:Program}(E:Env P)(dst:Option Nat)(op:Op)(st:State)(k:State->Option R):Option R:=
 match fo st.objs (rk E (JT st.ak) st.objs op)with
 |some aR=>match Lt E.T (JT st.ak) (find aR) op with
  |some (b,m)=>match dst with
   |some d=>if al4 m 0=true then wN (k (State.apply {st with objs:=aR} (some d) {dst:=ec true})) (k (State.apply {st with objs:=aR} (some d) {dst:=ec false}))
     else k (State.apply {st with objs:=aR} (some d) {dst:=ec b})
   |none=>none
  |none=>bif fnB dst op then Oz E (JT st.ak) aR st.nxt dst op (fun e=>k (State.apply {st with objs:=aR} dst e))else none
 |none=>none
noncomputable def wP{R:Type}{P:Program}(E:Env P)(dst:Option Nat)(op:Op)(st:State)(k:State->Option R):Option R:=
 match E.deep&&UL op&& !Lv st op with
 |true=>Gr E dst op (oX st) k
 |false=>Gr E dst op st k
def Gs(all:Array Oper)(j:Nat):Option Nat:=(all[j]?).bind (·.dst)
def State.put(st:State)(dst:Option Nat)(d:aq):State:=
 match dst with
 |some t=>{st with ak:=(t,d)::st.ak}
 |none=>st
def wQ(dst:Option Nat)(kn:List (Nat×Bool)):List (Nat×Bool):=
 match dst with
 |some d=>del [d] kn
 |none=>kn
noncomputable def runs{R:Type}{P:Program}(E:Env P)(nt:Nat)(all:Array Oper):List Oper->List (Nat×Bool)->State->(State->Option R)->Option R
 |[],_,st,k=>k st
 |o::os,kn,st,k=>bif Co nt o.dst then(match o.guard with
  |none=>wP E o.dst o.op st (fun cf=>runs E nt all os (wQ o.dst kn) cf k)
  |some (j,b)=>match Gs all j with
   |none=>none
   |some g=>bif amS g nt then(match find kn g with
    |some v=>bif (bif v then b else !b)then wP E o.dst o.op st (fun cf=>runs E nt all os (wQ o.dst kn) cf k)else runs E nt all os (wQ o.dst kn) (st.put o.dst .undef) k
    |none=>match find st.ak g with
     |some .undef=>runs E nt all os (wQ o.dst kn) (st.put o.dst .undef) k
     |some d=>match asBool d with
      |some t=>if t=true then
        (bif b then wP E o.dst o.op (st.put (some g) (ec true)) (fun cf=>runs E nt all os (wQ o.dst ((g,true)::kn)) cf k)
          else runs E nt all os (wQ o.dst ((g,true)::kn)) ((st.put (some g) (ec true)).put o.dst .undef) k)
       else
        (bif b then runs E nt all os (wQ o.dst ((g,false)::kn)) ((st.put (some g) (ec false)).put o.dst .undef) k
          else wP E o.dst o.op (st.put (some g) (ec false)) (fun cf=>runs E nt all os (wQ o.dst ((g,false)::kn)) cf k))
      |none=>none
     |none=>none)else none)else none
section
variable {P:Program} {nt:Nat} {ops:Array Oper} {K:(Nat->Value)->World->Prop} {rest:List Oper} {R:Type}
variable {ρ:Nat->Value} {w w0:World} {H:ay} {F F0 G:Nat->Prop}
abbrev UU(G:Nat->Prop)(w0:World):Nat->Prop:=fun k=>w0.heap.size<=k\/G k
theorem Lb.mA{H':ay}{F':Nat->Prop}{w':World}{g:Nat->Prop}(hg:Lb G w0 F0 w F)(he:Nq H F w H' F' w' g)(hu:∀k,g k->UU G w0 k):Lb G w0 F0 w' F':=by
 have mE:=hg.ext.size;refine⟨⟨he.ext.os.trans hg.ext.os,he.ext.tape.trans hg.ext.tape,he.ext.output.trans hg.ext.output,Nat.le_trans mE he.ext.size,fun k hk hn=>?_⟩,fun b hb=>he.le b (hg.le b hb),fun b hb=>?_⟩
 .rw[he.ext.block k (by omega) fun h=>?_]
  .exact hg.ext.block k hk hn
  .rcases hu k h with h1|h1
   .omega
   .exact hn h1
 .rcases he.grow b hb with h1|h1|h1
  .exact hg.new b h1
  .exact .inr (.inl (Nat.le_trans mE h1))
  .exact .inr (hu b h1)
structure cT(G:Nat->Prop)(w0:World)(F0:Nat->Prop)(H:ay)(F:Nat->Prop)(w:World)(ρ:Nat->Value)(st:State):Prop where
 sat:Sat (UU G w0) H F w ρ st
 glob:Lb G w0 F0 w F
theorem cO.Cp{H':ay}{F':Nat->Prop}{w':World}{g:Nat->Prop}(he:Nq H F w H' F' w' g)(hF:∀b,F b->b<w.heap.size)(hg:∀k,g k->¬F k):cO H F w H' F' w':=⟨he.jO,he.step hF hg⟩
theorem cT.td{st:State}{os:List Nat}{aR:List (Nat×(Nat×Th))}(h:cT G w0 F0 H F w ρ st)(hf:fo st.objs os=some aR):
 ∃F',cT G w0 F0 H F' w ρ {st with objs:=aR}/\cO H F w H F' w:=by
 obtain⟨F',a1,a2,a3⟩:=oc hf h.sat.ob
 have fi:Step F w F' w:=fun b hb=>⟨a2 b hb,rfl⟩
 refine⟨F',⟨⟨fun t d hd=>(h.sat.slot t d hd).keep (ay.le.refl H) fi,a1,h.sat.all⟩,⟨h.glob.ext,fun b hb=>a2 b (h.glob.le b hb),fun b hb=>?_⟩⟩,⟨ay.le.refl H,fi⟩⟩
 rcases a3 b hb with h1|h1
 .exact h.glob.new b h1
 .exact .inr (h.sat.ob.ir b h1)
theorem EP{P:Program}{ρ:Nat->Value}{w:World}{o:BinOp}(gq:o= .eql\/o= .neq){t u e:TypeId}{x y:Operand}{d:Nat}{ty:TypeId}{pos:String}{aft:Array Edge}(hu:P.underlying t=some (.slice e)){A:Option Addr}{m c:Nat}(hx:ev ρ x= .slice A m c)(hy:ev ρ y= .slice none 0 0):
 (execOp (ev ρ) ⟨some d, .binOp o t x y u,ty,pos,aft,none⟩).run P w= .ok (.value (.bool (bif decide (o= .eql)then A.isNone else !A.isNone))) w:=by
 have hm:Op.maxDepth=9999+1:=rfl
 have he:(Op.equal t (.slice A m c) (.slice none 0 0)).run P w= .ok A.isNone w:=by
  unfold Op.equal;rw[hm];unfold Op.equalIn;rw[amr,run_underlying hu]
  cases A<;>rfl
 rcases gq with rfl|rfl
 .simp[execOp,eqGuard,binOp,hx,hy,he]
 .simp[execOp,eqGuard,binOp,hx,hy,he]
theorem Lx{P:Program}(T:bg P){U:Nat->Prop}{H:ay}{F:Nat->Prop}{w:World}{ρ:Nat->Value}{n:Nat}{ob:Nat->Option (Nat×Th)}{rd:Operand->Option aq}(gu:∀x d,rd x=some d->al H F w d (ev ρ x))(hs:az U H F w ob n){op:Op}{b:Bool}{m:Nat}(h:Lt T rd ob op=some (b,m)){d:Nat}{ty:TypeId}{pos:String}{aft:Array Edge}:
 ∃r:Bool,(m≠0->r=b)/\(execOp (ev ρ) ⟨some d,op,ty,pos,aft,none⟩).run P w= .ok (.value (.bool r)) w:=by
 have isn:∀{y:Operand},tL y=true->ev ρ y= .slice none 0 0:=by
  intro y hy;unfold tL at hy;split at hy
  .rfl
  .cases hy
 have key:∀{k:KI}{v:Value},NX U H F w ob v k->∀m,(match k with| .read _ l=>l.length=m| .own _ _ _ _ l=>l.length=m|_=>False)->∃A n c,v= .slice A n c/\(m≠0->A.isNone=false):=by
  intro k v hk m hm
  cases k with
  |read r l=>
   obtain⟨A,cap,hv,_,_,h3⟩:=hk;simp only[amR,and_true]at hv;refine⟨A,_,cap,hv,fun h0=>?_⟩;obtain⟨b,off,es,rfl,_⟩:=h3 0 (by dsimp only at hm;omega);rfl
  |own o s T r l=>
   obtain⟨xs,hx,_⟩:=hk.2.2.2
   rcases hx.2 with⟨rfl,h0⟩|⟨g,o0,cap,cur,rfl,_⟩
   .exact⟨none,0,0,rfl,fun h=>absurd (hm.symm.trans h0) h⟩
   .exact⟨_,_,_,rfl,fun _=>rfl⟩
  |nil=>exact hm.elim
  |view o s r m=>exact hm.elim
  |deep=>exact hm.elim
 unfold Lt at h;split at h
 case h_2=>cases h
 rename_i o t x y u;split at h
 case h_3=>cases h
 all_goals
  obtain⟨hy,h⟩:=aK h;split at h
  case h_2=>cases h
  rename_i e hu;have hu:=T.und_ok _ _ hu;split at h
  case h_2=>cases h
  rename_i X hX;split at h
  case h_3=>cases h
  all_goals
   rename_i gJ;obtain⟨rfl,rfl⟩:=ant (alU h);obtain⟨A,n',c,hv,hA⟩:=key (jq hs gJ (gu _ _ hX)) _ rfl;refine⟨_,fun h0=>?_,EP (by first|exact .inl rfl|exact .inr rfl) hu hv (isn hy)⟩;rw[hA h0];rfl
theorem cT.wO{st:State}(h:cT G w0 F0 H F w ρ st)(o:Nat):∃H' F',cT G w0 F0 H' F' w ρ (wO st o)/\cO H F w H' F' w:=by
 unfold Go.Proofs.YtmihpkfkbfgigaaGreatDoor.wO;split
 .rename_i e he;obtain⟨H',F',hp⟩:=EA h.sat.ob he;have hs:=h.sat.apply (d:=none) hp;exact⟨H',F',⟨hs,h.glob.mA hp.mA h.sat.ob.ir⟩,cO.Cp hp.mA h.sat.ob.lt h.sat.ob.iR⟩
 .exact⟨H,F,h,cO.refl H F w⟩
theorem cT.uA:{os:List Nat}->{st:State}->{H:ay}->{F:Nat->Prop}->cT G w0 F0 H F w ρ st->∃H' F',cT G w0 F0 H' F' w ρ (uA st os)/\cO H F w H' F' w
 |[],_,H,F,h=>⟨H,F,h,cO.refl H F w⟩
 |o::os,st,H,F,h=>by
  obtain⟨H1,F1,h1,k1⟩:=h.wO o;obtain⟨H2,F2,h2,k2⟩:=cT.uA (os:=os) h1;exact⟨H2,F2,h2,k1.trans k2⟩
theorem cT.oX{st:State}(h:cT G w0 F0 H F w ρ st):∃H' F',cT G w0 F0 H' F' w ρ (oX st)/\cO H F w H' F' w:=by
 unfold Go.Proofs.YtmihpkfkbfgigaaGreatDoor.oX;split
 case h_2=>exact⟨H,F,h,cO.refl H F w⟩
 obtain⟨H1,F1,h1,k1⟩:=h.uA (os:=st.objs.map (·.1));obtain⟨H2,F2,h2,k2⟩:=h1.uA (os:=st.objs.map (·.1));exact⟨H2,F2,h2,k1.trans k2⟩
theorem Cq{E:Env P}{dst:Option Nat}{op:Op}{ty:TypeId}{pos:String}{aft:Array Edge}{st:State}{k:State->Option R}{q:R}(h:Gr E dst op st k=some q)(hd:Co nt dst=true)(hh:cT G w0 F0 H F w ρ st)
 (hk:∀cf H' F' w' cw,k cf=some q->cT G w0 F0 H' F' w' cw cf->cO H F w H' F' w'->(∀t,dst≠some t->cw t=ρ t)->wpS P nt ops K rest cw w'):wpS P nt ops K (⟨dst,op,ty,pos,aft,none⟩::rest) ρ w:=by
 unfold Gr at h;split at h
 case h_2=>cases h
 rename_i aR xZ;obtain⟨F1,o7,Gt⟩:=hh.td xZ;split at h
 .rename_i b m hn;split at h
  case h_2=>cases h
  rename_i d;obtain⟨r,hr,bA⟩:=Lx E.T (ρ:=ρ) (d:=d) (ty:=ty) (pos:=pos) (aft:=aft) (fun x d hx=>vT o7.sat.ob.gl o7.sat.slot x d hx) o7.sat.ob hn
  have hkr:k (State.apply {st with objs:=aR} (some d) {dst:=ec r})=some q:=by
   split at h
   .cases r with
    |true=>exact Ls h
    |false=>exact Rj h
   .rename_i h0;rw[hr fun e=>h0 (by rw[e];rfl)];exact h
  have Ly:cS P (UU G w0) H F1 w ρ (find aR) st.nxt ⟨some d,op,ty,pos,aft,none⟩ {dst:=ec r}:=bX o7.sat.ob bA (aM.gN ..)
  refine Bv Ly (fun d' yt=>by rw[yt]at hd;exact hd) fun v w' ⟨H',F',hp⟩=>?_
  have hs:=o7.sat.apply (d:=some d) hp
  refine hk _ H' F' w' _ hkr ⟨hs,o7.glob.mA hp.mA o7.sat.ob.ir⟩ (Gt.trans (cO.Cp hp.mA o7.sat.ob.lt o7.sat.ob.iR)) fun t ht=>?_
  show D5 ρ d v t=ρ t
  rw[pg,if_neg (fun e=>ht (by rw[e]))]
 obtain⟨Ag,h'⟩:=aK h;clear h;obtain⟨e,he,Ly⟩:=Lr (ρ:=ρ) (ty:=ty) (pos:=pos) (aft:=aft) E (fun x d hx=>vT o7.sat.ob.gl o7.sat.slot x d hx) (fun hn c hc=>by subst hn;subst hc;exact Ag) h' o7.sat.ob
 refine Bv Ly (fun d yt=>by rw[yt]at hd;exact hd) fun v w' ⟨H',F',hp⟩=>?_
 have hs:=o7.sat.apply (d:=dst) hp
 refine hk _ H' F' w' _ he ⟨hs,o7.glob.mA hp.mA o7.sat.ob.ir⟩ (Gt.trans (cO.Cp hp.mA o7.sat.ob.lt o7.sat.ob.iR)) fun t ht=>?_
 cases dst with
 |none=>rfl
 |some d=>
  show D5 ρ d v t=ρ t
  rw[pg,if_neg (fun e=>ht (by rw[e]))]
theorem Lz{E:Env P}{dst:Option Nat}{op:Op}{ty:TypeId}{pos:String}{aft:Array Edge}{st:State}{k:State->Option R}{q:R}(h:wP E dst op st k=some q)(hd:Co nt dst=true)(hh:cT G w0 F0 H F w ρ st)
 (hk:∀cf H' F' w' cw,k cf=some q->cT G w0 F0 H' F' w' cw cf->cO H F w H' F' w'->(∀t,dst≠some t->cw t=ρ t)->wpS P nt ops K rest cw w'):wpS P nt ops K (⟨dst,op,ty,pos,aft,none⟩::rest) ρ w:=by
 unfold wP at h;split at h
 .obtain⟨H1,F1,h1,k1⟩:=hh.oX
  exact Cq h hd h1 fun cf H' F' w' cw a b c d=>hk cf H' F' w' cw a b (k1.trans c) d
 .exact Cq h hd hh hk
theorem cT.put{st:State}{dst:Option Nat}{d:aq}{v:Value}(h:cT G w0 F0 H F w ρ st)(hd:al H F w d v):cT G w0 F0 H F w (uW ρ dst v) (st.put dst d):=by
 refine⟨⟨fun t q hq=>?_,?_,by cases dst<;>exact h.sat.all⟩,h.glob⟩
 .cases dst with
  |none=>exact h.sat.slot t q hq
  |some s=>
   have nq:find ((s,d)::st.ak) t=some q:=hq;rw[aG]at nq
   show al H F w q (D5 ρ s v t)
   rw[pg];by_cases e:s=t
   .rw[if_pos e]at nq;rw[if_pos e.symm];obtain rfl:=alU nq;exact hd
   .rw[if_neg e]at nq;rw[if_neg (Ne.symm e)];exact h.sat.slot t q nq
 .cases dst<;>exact h.sat.ob
theorem cT.lit{st:State}{g:Nat}{d:aq}(h:cT G w0 F0 H F w ρ st)(hd:al H F w d (ρ g)):cT G w0 F0 H F w ρ (st.put (some g) d):=by
 refine⟨⟨fun t q hq=>?_,h.sat.ob,h.sat.all⟩,h.glob⟩;have nq:find ((g,d)::st.ak) t=some q:=hq;rw[aG]at nq;split at nq
 .rename_i e;subst e;obtain rfl:=alU nq;exact hd
 .exact h.sat.slot t q nq
def sv(ρ:Nat->Value)(kn:List (Nat×Bool)):Prop:=∀g b,find kn g=some b->ρ g= .bool b
theorem sv.del{cw:Nat->Value}{dst:Option Nat}{kn:List (Nat×Bool)}(h:sv ρ kn)(Qe:∀t,dst≠some t->cw t=ρ t):sv cw (wQ dst kn):=by
 intro g b hg
 cases dst with
 |none=>rw[Qe g (by simp)];exact h g b hg
 |some d=>
  obtain⟨h1,h2⟩:=iP.1 hg;rw[Qe g (fun e=>h1 (by simp[alU e]))];exact h g b h2
theorem sv.cons{kn:List (Nat×Bool)}{g:Nat}{b:Bool}(h:sv ρ kn)(hb:ρ g= .bool b):sv ρ ((g,b)::kn):=by
 intro g' b' hg;rw[aG]at hg;split at hg
 .rename_i e;subst e;obtain rfl:=alU hg;exact hb
 .exact h g' b' hg
theorem qj{dst:Option Nat}{v:Value}{t:Nat}(h:dst≠some t):uW ρ dst v t=ρ t:=by
 cases dst with
 |none=>rfl
 |some d=>
  show D5 ρ d v t=ρ t
  rw[pg,if_neg (fun e=>h (by rw[e]))]
theorem Aj{E:Env P}{q:R}:{l:List Oper}->{kn:List (Nat×Bool)}->{st:State}->{k:State->Option R}->{H:ay}->{F:Nat->Prop}->{w:World}->{ρ:Nat->Value}->runs E nt ops l kn st k=some q->sv ρ kn->cT G w0 F0 H F w ρ st->
 (∀cf H' F' w' cw,k cf=some q->cT G w0 F0 H' F' w' cw cf->cO H F w H' F' w'->(∀t,(∀o∈l,o.dst≠some t)->cw t=ρ t)->K cw w')->wpS P nt ops K l ρ w
 |[],kn,st,k,H,F,w,ρ,h,_,hh,hk=>NM (hk st H F w ρ h hh (cO.refl H F w) fun _ _=>rfl)
 |o::l,kn,st,k,H,F,w,ρ,h,Ak,hh,hk=>by
  unfold runs at h;obtain⟨hd,h'⟩:=aK h;clear h
  have YK:∀d,o.dst=some d->amS d nt=true:=fun d e=>by rw[e]at hd;exact hd
  have on:∀{og:State}{Rk:List (Nat×Bool)},wP E o.dst o.op og (fun cf=>runs E nt ops l (wQ o.dst Rk) cf k)=some q->sv ρ Rk->cT G w0 F0 H F w ρ og->wpS P nt ops K (⟨o.dst,o.op,o.type,o.pos,o.after,none⟩::l) ρ w:=by
   intro og Rk hs Al o7
   refine Lz hs hd o7 fun cf H' F' w' cw e1 e2 e3 e4=>?_
   refine Aj e1 (Al.del e4) e2 fun LA H2 F2 w2 Xz f1 f2 f3 f4=>?_
   exact hk LA H2 F2 w2 Xz f1 f2 (e3.trans f3) fun t ht=>(f4 t fun o' lD=>ht o' (by simp[lD])).trans (e4 t (ht o (by simp)))
  have off:∀{og:State}{Rk:List (Nat×Bool)},runs E nt ops l (wQ o.dst Rk) (og.put o.dst .undef) k=some q->sv ρ Rk->cT G w0 F0 H F w ρ og->wpS P nt ops K l (uW ρ o.dst undef) w:=by
   intro og Rk hs Al o7
   refine Aj hs (Al.del fun t ht=>qj ht) (o7.put rfl) fun LA H2 F2 w2 Xz f1 f2 f3 f4=>?_
   exact hk LA H2 F2 w2 Xz f1 f2 f3 fun t ht=>(f4 t fun o' lD=>ht o' (by simp[lD])).trans (qj (ht o (by simp)))
  obtain⟨dst,op,ty,pos,aft,guard⟩:=o;simp only at h' on off YK;split at h'
  .exact on h' Ak hh
  .rename_i j b;split at h'
   case h_1=>cases h'
   rename_i g Qf;obtain⟨Qg,h⟩:=aK h';clear h'
   have YL:ρ g= .bool b->wpS P nt ops K (⟨dst,op,ty,pos,aft,none⟩::l) ρ w->wpS P nt ops K (⟨dst,op,ty,pos,aft,some (j,b)⟩::l) ρ w:=fun hb hw=>QR g Qf Qg hb hw
   have Rm:∀b',ρ g= .bool b'->b'≠b->wpS P nt ops K l (uW ρ dst undef) w->wpS P nt ops K (⟨dst,op,ty,pos,aft,some (j,b)⟩::l) ρ w:=fun b' hb bR hw=>by
    cases dst with
    |none=>exact zK g Qf Qg hb bR hw
    |some d=>exact NN g Qf Qg hb bR (YK d rfl) hw
   split at h
   .rename_i v hv;have hgv:=Ak g v hv
    cases Ey:(bif v then b else !b)with
    |true=>
     rw[Ey,cond_true]at h
     have:v=b:=by cases v<;>cases b<;>simp_all
     subst this;exact YL hgv (on h Ak hh)
    |false=>
     rw[Ey,cond_false]at h
     have:v≠b:=by intro e;subst e;cases v<;>simp_all
     exact Rm v hgv this (off h Ak hh)
   .split at h
    .rename_i hu;have hgu:ρ g=undef:=hh.sat.slot _ _ hu
     cases dst with
     |none=>exact xQ g Qf Qg hgu (off h Ak hh)
     |some d=>exact J3 g Qf Qg hgu (YK d rfl) (off h Ak hh)
    .rename_i d yt;split at h
     case h_2=>cases h
     rename_i t ht;have hgt:=nZ ht (hh.sat.slot _ _ yt);split at h
     .rename_i OC;subst OC;have o7:cT G w0 F0 H F w ρ (st.put (some g) (ec true)):=hh.lit (by rw[hgt];exact aM.gN ..);have Al:=Ak.cons hgt
      cases b with
      |true=>rw[cond_true]at h;exact YL hgt (on h Al o7)
      |false=>rw[cond_false]at h;exact Rm true hgt (by simp) (off h Al o7)
     .rename_i OC
      have OC:t=false:=by cases t<;>simp_all
      subst OC;have o7:cT G w0 F0 H F w ρ (st.put (some g) (ec false)):=hh.lit (by rw[hgt];exact aM.gN ..);have Al:=Ak.cons hgt
      cases b with
      |true=>rw[cond_true]at h;exact Rm false hgt (by simp) (off h Al o7)
      |false=>rw[cond_false]at h;exact YL hgt (on h Al o7)
    .cases h
end
end Go.Proofs.YtmihpkfkbfgigaaGreatDoor
end
section
open _root_.Array renaming getElem?_eq_getElem->amt,getElem?_eq_some_iff->amU
open _root_.Bool renaming cond_eq_ite->amp
open _root_.List renaming getD->amn,getElem?_append_left->amq,length_append->alY,length_cons->al9,length_singleton->al6,mem_cons->amg,mem_cons_self->amQ,mem_singleton->ama
open _root_.Nat renaming add_zero->am0,beq->al4,blt->amS,zero_add->amo
open _root_.Option renaming bind_assoc->amO,isSome_iff_exists->amA,none_or->am8
open _root_.Option.some renaming inj->alU
open _root_.Go.Region renaming binds->anC
namespace Go.Proofs.YtmihpkfkbfgigaaGreatDoor
open Go Go.RowKit
section
variable {P:Program} {R:Type} {ob:Nat->Option (Nat×Th)} {n:Nat} (k:eD->Option R)
theorem wR{rd:Operand->Option aq}{fn:Fn}{first caps:Array Operand}:mV rd fn first caps k=(mV rd fn first caps some).bind k:=by
 unfold mV
 repeat' first|rfl|split
theorem Am(T:bg P){m:Nat}{e:TypeId}{D:aq}{i:Int}:p7 T m e D i k=(p7 T m e D i some).bind k:=by
 unfold p7;simp only[amp]
 repeat' first|rfl|(rw[amO];rfl)|split
theorem An(T:bg P){t:TypeId}{D:aq}{i:Int}:qc T ob t D i k=(qc T ob t D i some).bind k:=by
 unfold qc;simp only[amp]
 repeat' first|rfl|(rw[amO];rfl)|split
theorem Cr(T:bg P){t:TypeId}{D:aq}{i:Int}:tj T ob t D i k=(tj T ob t D i some).bind k:=by
 unfold tj;simp only[amp]
 repeat' first|rfl|exact Am k T|(rw[amO];rfl)|split
theorem EQ(T:bg P){t:TypeId}{D:aq}:yB T ob t D k=(yB T ob t D some).bind k:=by
 unfold yB;simp only[amp]
 repeat' first|rfl|split|(rw[amO];congr 1;funext x;repeat' first|rfl|split)
theorem Ct(T:bg P){t:TypeId}{D V:aq}:tl T ob n t D V k=(tl T ob n t D V some).bind k:=by
 unfold tl;simp only[amp]
 repeat' first|rfl|split|(rw[amO];rfl)|(rw[amO];congr 1;funext x;repeat' first|rfl|split)
theorem Cu(T:bg P){t:TypeId}{D:aq}:rb T ob n t D k=(rb T ob n t D some).bind k:=by
 unfold rb;simp only[amp]
 repeat' first|rfl|split|(rw[amO];rfl)
theorem Cv(T:bg P){t:TypeId}{D:aq}:pq T ob n t D k=(pq T ob n t D some).bind k:=by
 unfold pq;split
 .exact Cu k T
 .exact EQ k T
theorem Ao(T:bg P){t:TypeId}{D V:aq}:qd T ob n t D V k=(qd T ob n t D V some).bind k:=by
 unfold qd;simp only[amp]
 repeat' first|rfl|split|(rw[amO];rfl)
theorem Ap(T:bg P){t:TypeId}{D V:aq}:qg T ob n t D V k=(qg T ob n t D V some).bind k:=by
 unfold qg;split
 .exact Ao k T
 .exact Ct k T
theorem yd{e:TypeId}{dr:DR}{ds:List aq}:po e dr ob n ds k=(po e dr ob n ds some).bind k:=by
 unfold po;simp only[amp]
 repeat' first|rfl|split
theorem Cw(T:bg P){t:TypeId}:tn T n t k=(tn T n t some).bind k:=by
 unfold tn
 repeat' first|rfl|split
theorem IC{t:TypeId}{V:aq}:HW n t V k=(HW n t V some).bind k:=by
 unfold HW
 repeat' first|rfl|split
theorem wS(T:bg P){t:TypeId}{s:Bool}{a b:Int}:vY T n t s a b k=(vY T n t s a b some).bind k:=by
 unfold vY
 repeat' first|rfl|split|(rw[amO];rfl)
theorem Cx(T:bg P){b:Bool}{t:TypeId}{s:Bool}{x y:Int}:wA b T n t s x y k=(wA b T n t s x y some).bind k:=by
 unfold wA;split
 .unfold z8
  repeat' first|rfl|exact wS k T|split|(rw[amO];rfl)
 .exact wS k T
theorem Aq(T:bg P){t:TypeId}{X Y:aq}:qb T ob n t X Y k=(qb T ob n t X Y some).bind k:=by
 unfold qb;simp only[amp]
 repeat' first|rfl|split|(rw[amO];rfl)
theorem tM(T:bg P){rd:Operand->Option aq}{t:TypeId}{m:Nat}{ps:Array (Nat×Operand)}:kG T rd ob n t m ps k=(kG T rd ob n t m ps some).bind k:=by
 unfold kG;simp only[amp]
 repeat' first|rfl|split
theorem Ar{b:Bool}(T:bg P){rd:Operand->Option aq}{t:TypeId}{m:Nat}{ps:Array (Nat×Operand)}:vx b T rd ob n t m ps k=(vx b T rd ob n t m ps some).bind k:=by
 cases b with
 |false=>exact tM k T
 |true=>
  show qf T rd ob n t m ps k=(qf T rd ob n t m ps some).bind k
  unfold qf;simp only[amp]
  repeat' first|rfl|exact yd k|split
theorem Cy(T:bg P){rd:Operand->Option aq}{t:TypeId}{ps:Array (Nat×Operand)}:tt T rd t ps k=(tt T rd t ps some).bind k:=by
 unfold tt;simp only[amp]
 repeat' first|rfl|split
theorem Cz(dr:Bool)(T:bg P){rd:Operand->Option aq}{t:TypeId}{D:aq}{lo hi:Option Operand}:tw dr T rd ob n t D lo hi k=(tw dr T rd ob n t D lo hi some).bind k:=by
 unfold tw;simp only[amp]
 repeat' first|rfl|split|(rw[amO];rfl)
theorem ID(T:bg P){o:BinOp}{t:TypeId}{lit:Bool}{X Y:aq}:Ie T ob o t lit X Y k=(Ie T ob o t lit X Y some).bind k:=by
 unfold Ie;simp only[amp]
 repeat' first|rfl|split|(rw[amO];rfl)
theorem u5(T:bg P){t:TypeId}{M X Y:aq}:kj T ob n t M X Y k=(kj T ob n t M X Y some).bind k:=by
 unfold kj;simp only[amp]
 repeat' first|rfl|split
theorem ye(T:bg P){t:TypeId}:n6 T n t k=(n6 T n t some).bind k:=by
 unfold n6
 repeat' first|rfl|split
theorem As(T:bg P){t:TypeId}{ok:Bool}{M X:aq}:oE T ob t ok M X k=(oE T ob t ok M X some).bind k:=by
 unfold oE;simp only[amp]
 repeat' first|rfl|split
theorem yf(T:bg P){t:TypeId}{X Y:aq}:oa T ob n t X Y k=(oa T ob n t X Y some).bind k:=by
 unfold oa
 cases La ob Y with
 |false=>exact Aq k T
 |true=>
  simp only[cond_true];unfold sd;simp only[amp]
  repeat' first|rfl|split|(rw[amO];rfl)
theorem tN(T:bg P){t:TypeId}{M X Y:aq}:kH T ob n t M X Y k=(kH T ob n t M X Y some).bind k:=by
 unfold kH;simp only[amp]
 repeat' first|rfl|exact u5 k _|split
theorem wT(b:Bool)(T:bg P){t:TypeId}:mU b T n t k=(mU b T n t some).bind k:=by
 unfold mU;simp only[amp]
 repeat' first|rfl|exact ye k _|split
theorem yg(T:bg P){t:TypeId}{ok:Bool}{M X:aq}:n8 T ob n t ok M X k=(n8 T ob n t ok M X some).bind k:=by
 unfold n8;simp only[amp]
 repeat' first|rfl|exact As k _|split
theorem CA{sg:bp}{bs:Bs}{aR:List (Nat×(Nat×Th))}{nd:List Nat}{y:cM sg.out.rows}:tJ sg n bs aR nd y k=(tJ sg n bs aR nd y some).bind k:=by
 unfold tJ;simp only[amp]
 repeat' first|rfl|split
theorem px{objs:List (Nat×(Nat×Th))}{f:FuncId}{ds:List aq}:{tab:List (Nat×bp)}->oF objs n f ds k tab=(oF objs n f ds some tab).bind k
 |[]=>rfl
 |(g,sg)::tab=>by
  unfold oF;have ih:=px (objs:=objs) (f:=f) (ds:=ds) (tab:=tab);simp only[amp]
  repeat' first|rfl|exact ih|split|(rw[amO];congr 1;funext y;exact CA k)
theorem ER{tab:List (Nat×bp)}{rd:Operand->Option aq}{objs:List (Nat×(Nat×Th))}{g:Operand}{args:List Operand}:yV tab rd objs n g args k=(yV tab rd objs n g args some).bind k:=by
 unfold yV
 repeat' first|rfl|exact px k|split
theorem Au(T:bg P){tab:List (Nat×bp)}{rd:Operand->Option aq}{objs:List (Nat×(Nat×Th))}{g:Operand}{name:String}{args:List Operand}:qi T tab rd objs n g name args k=(qi T tab rd objs n g name args some).bind k:=by
 unfold qi
 repeat' first|rfl|exact px k|split
theorem IE(T:bg P){t:TypeId}{D:aq}:Iy T t D k=(Iy T t D some).bind k:=by
 unfold Iy;simp only[amp]
 repeat' first|rfl|split
theorem Av(T:bg P){t:TypeId}{ok:Bool}{D:aq}:qh T t ok D k=(qh T t ok D some).bind k:=by
 unfold qh;simp only[amp]
 repeat' first|rfl|split
theorem ES(E:Env P){rd:Operand->Option aq}{objs:List (Nat×(Nat×Th))}{c:Callee}{args:Array Operand}{xN:Array TypeId}:qP E rd objs n c args xN k=(qP E rd objs n c args xN some).bind k:=by
 unfold qP;simp only[amp]
 repeat' first|rfl|exact yf k _|exact ER k|exact Au k _|split
theorem LB(E:Env P){rd:Operand->Option aq}{objs:List (Nat×(Nat×Th))}{dst:Option Nat}{op:Op}:Oz E rd objs n dst op k=(Oz E rd objs n dst op some).bind k:=by
 unfold Oz
 repeat' first|rfl|exact Ap k _|exact tN k _|exact wT k _ _|exact yg k _|exact IE k _|exact Av k _|exact ES k _|exact Cw k _|exact IC k|exact Cy k _|exact Ar k _|exact Cv k _|exact ID k _|exact Cx k _|exact Cz k _ _|exact Cr k _|exact An k _|exact wR k|split
end
def jC{α:Type}(ns:List Nat):List (Nat×α)->List (Nat×α)
 |[]=>[]
 |(m,a)::l=>bif nf m ns then(m,a)::jC ns l else jC ns l
theorem yZ{α:Type}{ns:List Nat}{l:List (Nat×α)}{n:Nat}{a:α}:find (jC ns l) n=some a↔n∈ns/\find l n=some a:=by
 induction l with
 |nil=>simp[jC,find]
 |cons p l ih=>
  obtain⟨m,b⟩:=p;unfold jC
  cases hm:nf m ns with
  |true=>
   have cx:=eh.1 hm;rw[cond_true,aG,aG];by_cases h:m=n
   .subst h;simp[cx]
   .simp only[if_neg h];exact ih
  |false=>
   have cx:m∉ns:=fun e=>by rw[eh.2 e]at hm;cases hm
   rw[cond_false,ih,aG];constructor
   .rintro⟨h1,h2⟩
    have bR:m≠n:=fun e=>cx (e▸h1)
    exact⟨h1,by rw[if_neg bR];exact h2⟩
   .rintro⟨h1,h2⟩
    have bR:m≠n:=fun e=>cx (e▸h1)
    rw[if_neg bR]at h2;exact⟨h1,h2⟩
def tmpsOf:List Operand->List Nat
 |[]=>[]
 | .tmp t::l=>t::tmpsOf l
 |_::l=>tmpsOf l
def Qh:List (Bool×Tree)->List Nat
 |[]=>[]
 |p::l=>p.2.owns++Qh l
def UM:aq->List Nat
 | .val _ t=>t.owns
 | .ptr o _ _=>[o]
 | .elem o .. =>[o]
 | .dlm o .. =>[o]
 | .tup ds=>Qh ds
 | .fn _ caps=>caps.map (·.1)
 | .ifc _ d=>UM d
 |_=>[]
def Qi(ak:List (Nat×aq)):List Nat->List Nat
 |[]=>[]
 |t::l=>(match find ak t with
  |some d=>UM d
  |none=>[])++Qi ak l
def within(objs:List (Nat×(Nat×Th))):List Nat->List Nat
 |[]=>[]
 |o::l=>(match find objs o with
  |some (_, .box _ t)=>t.owns
  |_=>[])++within objs l
def OD(ak:List (Nat×aq))(objs:List (Nat×(Nat×Th)))(ts:List Nat):List Nat:=
 (fun l=>l++within objs l) (Qi ak ts)
def za(aR:List (Nat×(Nat×Th)))(nd:List Nat)(e:eD):eD:=
 {dst:=e.dst,eat:=nd++e.eat,make:=e.make++del e.eat (oW aR nd)}
section
variable {U:Nat->Prop} {H:ay} {F:Nat->Prop} {w:World} {n:Nat}
theorem IF{obj aR:List (Nat×(Nat×Th))}{nd:List Nat}{e:eD}{v:Value}{w':World}{F1:Nat->Prop}(xZ:fo obj nd=some aR)(qM:az U H F1 w (find aR) n)(D9:∀b,F b->F1 b)(Nv:∀b,F1 b->F b\/cE H (find obj) nd b)
 (h:lH H F1 w (find aR) n e v w'):lH H F w (find obj) n (za aR nd e) v w':=by
 obtain⟨H',F',hp⟩:=h
 have lF:∀k,cE H (find aR) e.eat k->cE H (find obj) (nd++e.eat) k:=by
  rintro k ⟨o,ho,s,t,u,h1,h2,h3⟩
  rcases iV xZ o s t h1 with h4|h4
  .exact⟨o,by simp[ho],s,t,u,h4,h2,h3⟩
  .exact(iu h4 h3).elim
 have part:∀o s t,find (e.make++del e.eat (oW aR nd)) o=some (s,t)->find e.make o=some (s,t)\/(o∉e.eat/\o∈nd/\find aR o=some (s,t)/\eF t=true):=by
  intro o s t ho;rw[iO]at ho
  cases hm:find e.make o with
  |some x=>rw[hm]at ho;exact .inl ho
  |none=>
   rw[hm,am8]at ho;obtain⟨h1,h2⟩:=iP.1 ho;obtain⟨h3,h4,h5⟩:=ng h2;exact .inr ⟨h1,h3,h4,h5⟩
 refine⟨H',F',⟨hp.mA.jO,⟨hp.mA.ext.os,hp.mA.ext.tape,hp.mA.ext.output,hp.mA.ext.size,fun k hk hn=>hp.mA.ext.block k hk fun hh=>hn (lF k hh)⟩,fun b hb=>hp.mA.le b (D9 b hb),fun b hb=>?_,hp.mA.lt⟩,hp.fresh,hp.dst,⟨fun o s t ho=>?_,fun o o' s s' t t' v v' bR ho lD hv dM k hk dZ=>?_⟩,fun o ho=>?_⟩
 .rcases hp.mA.grow b hb with h1|h1|h1
  .rcases Nv b h1 with h2|⟨o,ho,rest⟩
   .exact .inl h2
   .exact .inr (.inr ⟨o,by simp[za,ho],rest⟩)
  .exact .inr (.inl h1)
  .exact .inr (.inr (lF b h1))
 .rcases part o s t ho with h1|⟨h1,h2,h3,h4⟩
  .obtain⟨u,a1,a2,a3,a4,a5⟩:=hp.made.obj o s t h1;exact⟨u,a1,a2,a3,a4,fun k hk=>⟨(a5 k hk).1,(a5 k hk).2.1,(a5 k hk).2.2.imp id (lF k)⟩⟩
  .obtain⟨u,hu,cx⟩:=qM.obj _ _ _ h3;have:=cx.mA qM hp.mA h3 h1 hu;exact⟨u,hp.mA.jO.val _ _ hu,this.one,this.con,this.ok,fun k hk=>(iu h4 hk).elim⟩
 .rcases part o s t ho with h1|⟨_,_,_,h4⟩
  .rcases part o' s' t' lD with h2|⟨_,_,_,h4'⟩
   .exact hp.made.apart o o' s s' t t' v v' bR h1 h2 hv dM k hk dZ
   .exact iu h4' dZ
  .exact iu h4 hk
 .obtain⟨x,hx⟩:=amA.1 ho
  rcases part o x.1 x.2 hx with h1|⟨_,h2,_⟩
  .exact(hp.ids o (by rw[h1];rfl)).imp (fun h=>by simp[za,h]) id
  .exact .inl (by simp[za,h2])
end
def iB(x y:Nat×Th):Prop:=x=y\/∃T d l h h',x.2= .deep T d l h/\y.2= .deep T d l h'
theorem iB.symm{x y:Nat×Th}(h:iB x y):iB y x:=by
 rcases h with rfl|⟨T,d,l,h,h',h1,h2⟩
 .exact .inl rfl
 .exact .inr ⟨T,d,l,h',h,h2,h1⟩
theorem iB.trans{x y z:Nat×Th}(h:iB x y)(h':iB y z):iB x z:=by
 rcases h with rfl|⟨T,d,l,a,b,h1,h2⟩
 .exact h'
 .rcases h' with rfl|⟨T',d',l',a',b',h3,h4⟩
  .exact .inr ⟨T,d,l,a,b,h1,h2⟩
  .rw[h2]at h3;cases h3;exact .inr ⟨T,d,l,a,b',h1,h4⟩
structure lM where
 dst:Option Nat
 ts:List Nat
 os:List Nat
 e:eD
 ls:List Nat:=[]
 soft:List Nat:=[]
def qQ:List (Nat×(Nat×Th))->List Nat
 |[]=>[]
 |(o,_)::l=>o::qQ l
def lM.mut(x:lM):List Nat:=x.e.eat++qQ x.e.make
def Aw:Op->Bool
 | .call c=>match c.callee with
   | .builtin .len=>true
   |_=>false
 |_=>false
def Qj(rd:Operand->Option aq):Op->List Nat
 | .load _ x=>match rd x with
   |some (.dlm o _ _ _ _)=>[o]
   |_=>[]
 |_=>[]
def ic(st:State)(op:Op):List Nat:=
 match op with
 | .move _=>[]
 | .assign _=>[]
 |_=>OD st.ak st.objs (tmpsOf op.operands.toList)
noncomputable def zc{R:Type}{P:Program}(E:Env P)(dst:Option Nat)(op:Op)(gs:List Nat)(st:State)(k:eD->lM->Option R):Option R:=
 match fo (jC (ic st op) st.objs) (rk E (JT (jC (tmpsOf op.operands.toList) st.ak)) (jC (ic st op) st.objs) op)with
 |some aR=>bif fnB dst op then Oz E (JT (jC (tmpsOf op.operands.toList) st.ak)) aR st.nxt dst op (fun e=>
   (fun e'=>k e' {dst:=dst,ts:=tmpsOf op.operands.toList++gs,os:=bif Aw op then[]else ic st op,e:=e',ls:=bif Aw op then ic st op else[],soft:=Qj (JT (jC (tmpsOf op.operands.toList) st.ak)) op}) (za aR (rk E (JT (jC (tmpsOf op.operands.toList) st.ak)) (jC (ic st op) st.objs) op) e))else none
 |none=>none
structure Qk(P:Program)(U:Nat->Prop)(o:Oper)(sl:Nat->Option aq)(ob:Nat->Option (Nat×Th))(n:Nat)(Gu:lM):Prop where
 dst:Gu.dst=o.dst
 run:∃(YM:Nat->Option aq)(Nr:Nat->Option (Nat×Th)),(∀t d,YM t=some d->t∈Gu.ts/\sl t=some d)/\(∀q x,Nr q=some x->(q∈Gu.os\/q∈Gu.ls)/\ob q=some x)/\
  ∀(H:ay)(F:Nat->Prop)(w:World)(ρ:Nat->Value)(IG:Nat->Option (Nat×Th)),(∀q x,Nr q=some x->∃x',IG q=some x'/\iB x x'/\(q∈Gu.os->x'=x))->(∀t d,YM t=some d->al H F w d (ρ t))->az U H F w IG n->
   ∃YN:Nat->Option (Nat×Th),(∀q x,YN q=some x->IG q=some x)/\cC P ρ ⟨o.dst,o.op,o.type,o.pos,o.after,none⟩ w (lH H F w YN n Gu.e)
 soft:∀q∈Gu.soft,q∈Gu.mut->∃x y,ob q=some x/\find Gu.e.make q=some y/\iB x y
theorem II{ob KB:Nat->Option (Nat×Th)}{D:aq}{k:KI}(OE:∀q x,ob q=some x->∃x',KB q=some x'/\iB x x')(h:uX ob D=some k):∃k',uX KB D=some k'/\rY k'=rY k:=by
 unfold uX at h;split at h
 .cases h;exact⟨_,rfl,rfl⟩
 .cases h;exact⟨_,rfl,rfl⟩
 .rename_i o
  cases ho:ob o with
  |none=>rw[ho]at h;cases h
  |some x=>
   obtain⟨s,t⟩:=x;obtain⟨⟨s',t'⟩,h1,h2⟩:=OE o _ ho;rw[ho]at h
   rcases h2 with e|⟨T,d,l,a,b,e1,e2⟩
   .cases e;exact⟨k,by show(match KB o with|some (s, .own T r l)=>_|some (_, .td _ r l)=>_|some (_, .fdeep _ d l)=>_|some (s, .deep T d l h)=>_|_=>_)=_;rw[h1];exact h,rfl⟩
   .simp only at e1 e2;subst e1 e2;cases h;exact⟨.deep o s' T d l b,by show(match KB o with|some (s, .own T r l)=>_|some (_, .td _ r l)=>_|some (_, .fdeep _ d l)=>_|some (s, .deep T d l h)=>_|_=>_)=_;rw[h1],rfl⟩
 .rename_i o s r m
  have hk:rY k=(m.length:Int):=by
   split at h
   .rename_i s' _ _ _ _
    cases hb:al4 s' s<;>rw[hb]at h<;>cases h<;>rfl
   .cases h;rfl
  rw[hk]
  show∃k',(match KB o with|some (s', .td ..)=>bif al4 s' s then some (KI.read r m)else some (.view o s r m)|_=>some (.view o s r m))=some k'/\rY k'=_
  split
  .rename_i s' _ _ _ _
   cases hb:al4 s' s with
   |true=>exact⟨KI.read r m,rfl,rfl⟩
   |false=>exact⟨KI.view o s r m,rfl,rfl⟩
  .exact⟨KI.view o s r m,rfl,rfl⟩
 .cases h
theorem IJ{P:Program}(T:bg P){ob KB:Nat->Option (Nat×Th)}{t:TypeId}{D D':aq}(OE:∀q x,ob q=some x->∃x',KB q=some x'/\iB x x')(h:HY T ob t D=some D'):HY T KB t D=some D':=by
 unfold HY at h⊢;split at h
 .split at h
  case h_2=>cases h
  rename_i k hk;obtain⟨k',h1,h2⟩:=II OE hk;rw[h1];simp only[h2];exact h
 .exact h
 .cases h
theorem IK{P:Program}(T:bg P){ob:Nat->Option (Nat×Th)}{n:Nat}{t:TypeId}{o:Nat}{d:DR}{i:Int}{p:List Bool}{off:Nat}{e:eD}(h:pq T ob n t (.dlm o d i p off) some=some e)(hm:o∈e.eat++qQ e.make):
 ∃x y,ob o=some x/\find e.make o=some y/\iB x y:=by
 unfold pq rb at h;simp only at h;split at h
 .cases h
 split at h
 case h_2=>cases h
 rename_i s T0 dr l hh ho;obtain⟨_,h⟩:=aK h;split at h
 .obtain⟨_,h⟩:=aK h;obtain⟨_,_,h⟩:=bind_some h;cases h;simp[qQ]at hm
 .obtain⟨_,h⟩:=aK h;split at h
  .obtain⟨_,_,h⟩:=bind_some h;cases h;exact⟨_,(n, .deep T0 dr l _),ho,by rw[aG,if_pos rfl], .inr ⟨T0,dr,l,none,_,rfl,rfl⟩⟩
  .obtain⟨_,h⟩:=aK h;split at h
   .obtain⟨_,_,h⟩:=bind_some h;cases h;simp[qQ]at hm
   .cases h
 .cases h
theorem LC{P:Program}{E:Env P}{U:Nat->Prop}{R:Type}{o:Oper}{gs:List Nat}{st:State}{k:eD->lM->Option R}{q:R}(h:zc E o.dst o.op gs st k=some q):
 ∃e Gu,k e Gu=some q/\Gu.e=e/\(∀g∈gs,g∈Gu.ts)/\Qk P U o (find st.ak) (find st.objs) st.nxt Gu:=by
 unfold zc at h;split at h
 case h_2=>cases h
 rename_i aR xZ;obtain⟨Ag,h'⟩:=aK h;clear h;rw[LB]at h';obtain⟨e,he,hk⟩:=bind_some h'
 have OF:∀t d,find (jC (tmpsOf o.op.operands.toList) st.ak) t=some d->t∈tmpsOf o.op.operands.toList/\find st.ak t=some d:=fun t d ht=>yZ.1 ht
 have ET:∀q x,find (jC (ic st o.op) st.objs) q=some x->q∈ic st o.op/\find st.objs q=some x:=fun q x hx=>yZ.1 hx
 refine⟨_,_,hk,rfl,fun g hg=>by simp[hg],rfl,⟨find (jC (tmpsOf o.op.operands.toList) st.ak),find (jC (ic st o.op) st.objs),fun t d ht=>⟨by simp[(OF t d ht).1],(OF t d ht).2⟩,fun q x hx=>⟨?_,(ET q x hx).2⟩,fun H F w ρ IG OE gJ dh=>?_⟩,fun q hq hm=>?_⟩
 .cases hl:Aw o.op with
  |true=>exact .inr (by simp only[cond_true];exact(ET q x hx).1)
  |false=>exact .inl (by simp only[cond_false];exact(ET q x hx).1)
 .cases hl:Aw o.op with
  |false=>
   simp only[hl,cond_false]at OE
   have gI:∀q x,find (jC (ic st o.op) st.objs) q=some x->IG q=some x:=fun q x hx=>by
    obtain⟨x',h1,_,h2⟩:=OE q x hx;rw[h1,h2 (ET q x hx).1]
   have uZ:az U H F w (find (jC (ic st o.op) st.objs)) st.nxt:=⟨fun o s t ho=>dh.obj o s t (gI _ _ ho),fun o o' s s' t t' v v' bR ho lD=>dh.apart o o' s s' t t' v v' bR (gI _ _ ho) (gI _ _ lD),dh.fresh,dh.lt,dh.new,dh.gl⟩
   refine⟨_,gI,?_⟩;obtain⟨F1,qM,D9,Nv⟩:=oc xZ uZ
   have fi:Step F w F1 w:=fun b hb=>⟨D9 b hb,rfl⟩
   obtain⟨e',he',hs⟩:=Lr (ρ:=ρ) (ty:=o.type) (pos:=o.pos) (aft:=o.after) E (fun x d hx=>vT qM.gl (fun t d ht=>(gJ t d ht).keep (ay.le.refl H) fi) x d hx) (fun hn c hc=>by rw[hn,hc]at Ag;exact Ag) he qM;obtain rfl:=alU he'
   exact hs.mono fun v w' hp=>IF xZ qM D9 Nv hp
  |true=>
   refine⟨IG,fun _ _ h=>h,?_⟩;obtain⟨Rn,YO,oty,YP,YQ,ogd⟩:=o;simp only at*
   cases YO<;>try(cases hl;done)
   rename_i c;obtain⟨callee,args,xN⟩:=c
   cases callee<;>try(cases hl;done)
   rename_i b
   cases b<;>try(cases hl;done)
   cases Rn with
   |none=>cases Ag
   |some d=>
    have Oe:rk E (JT (jC (tmpsOf (Op.operands (.call {callee:= .builtin .len,args:=args,argTypes:=xN})).toList) st.ak)) (jC (ic st (.call {callee:= .builtin .len,args:=args,argTypes:=xN})) st.objs) (.call {callee:= .builtin .len,args:=args,argTypes:=xN})=[]:=by unfold rk;cases E.deep<;>rfl
    rw[Oe]at xZ⊢;obtain rfl:=alU xZ;have OG:qP E _ _ st.nxt (.builtin .len) args xN some=some e:=he;unfold qP at OG;simp only at OG;split at OG
    case h_2=>cases OG
    rename_i x t ha ht;obtain rfl:=fq ha;obtain rfl:=fq ht;split at OG
    case h_2=>cases OG
    rename_i D hD;split at OG
    case h_2=>cases OG
    rename_i D' NR;cases OG;have hlen:=IJ E.T (fun q x hx=>by obtain⟨x',h1,h2,_⟩:=OE q x hx;exact⟨x',h1,h2⟩) NR;exact FY E.T hlen dh (vT dh.gl gJ _ _ hD)
 .obtain⟨Rn,YO,oty,YP,YQ,ogd⟩:=o;simp only at*
  cases YO<;>try(cases hq;done)
  rename_i t x;unfold Qj at hq;simp only at hq;split at hq
  case h_2=>cases hq
  rename_i o' d0 i p off gu;obtain rfl:=ama.1 hq
  have Oe:rk E (JT (jC (tmpsOf (Op.operands (.load t x)).toList) st.ak)) (jC (ic st (.load t x)) st.objs) (.load t x)=[]:=by unfold rk;cases E.deep<;>rfl
  rw[Oe]at xZ hm⊢;obtain rfl:=alU xZ
  cases Rn with
  |none=>cases he
  |some d=>
   unfold Oz at he;simp only[gu]at he
   have Bk:q∈e.eat++qQ e.make:=by
    simpa[lM.mut,za,oW,del]using hm
   obtain⟨x1,y1,h1,h2,h3⟩:=IK E.T he Bk;refine⟨x1,y1,(ET _ _ h1).2,?_,h3⟩
   show find (e.make++_) q=_
   rw[iO,h2];rfl
end Go.Proofs.YtmihpkfkbfgigaaGreatDoor
namespace Go.Proofs.YtmihpkfkbfgigaaGreatDoor
open Go Go.RowKit
def yh(acc:List Nat)(i:Nat):List Edge->Option Nat
 |[]=>some 0
 |e::l=>match yh acc i l with
  |some m=>bif anC .any e then(bif amS e.on i then some (m|||2 ^ e.on|||acc.getD e.on 0)else none)else some m
  |none=>none
def IL(acc:List Nat):List Oper->Option (List Nat)
 |[]=>some acc
 |o::l=>match yh acc acc.length o.after.toList with
  |some m=>IL (acc++[m]) l
  |none=>none
def km(d:Option Nat)(l:List Nat):Bool:=
 match d with
 |some t=>nf t l
 |none=>false
def CB(l l':List Nat):Bool:=l.any fun o=>nf o l'
def lM.UN(x:lM):List Nat:=x.mut.filter fun o=> !nf o x.soft
def conflict(a b:lM):Bool:=
 km a.dst b.ts||km b.dst a.ts||km a.dst (b.dst.toList)||CB a.mut (b.os++b.mut)||CB a.UN b.ls||CB (a.os++a.ls++a.mut) b.mut
def Ax(ms:List Nat)(i:Nat)(x:lM):Nat->List lM->Bool
 |_,[]=>true
 |j,y::l=>(bif conflict x y then Nat.testBit (ms.getD j 0) i else true)&&Ax ms i x (j+1) l
def vz(ms:List Nat):Nat->List lM->Bool
 |_,[]=>true
 |i,x::l=>Ax ms i x (i+1) l&&vz ms (i+1) l
def tO(ops:List Oper)(es:List lM):Bool:=
 match IL [] ops with
 |some ms=>vz ms 0 es
 |none=>false
section
variable {ops:Array Oper}
def EU(ops:Array Oper)(S:Nat->Prop):Prop:=∀i,S i->∀o,ops[i]? =some o->∀e∈o.after,anC .any e=true->S e.on
theorem Ay{acc:List Nat}{i:Nat}:{l:List Edge}->{m:Nat}->yh acc i l=some m->∀j,m.testBit j=true->∃e∈l,anC .any e=true/\e.on<i/\(e.on=j\/(acc.getD e.on 0).testBit j=true)
 |[],m,h,j,hj=>by
  obtain rfl:=alU h;simp at hj
 |e::l,m,h,j,hj=>by
  unfold yh at h;split at h
  case h_2=>cases h
  rename_i m0 h0
  cases hb:anC .any e with
  |false=>
   rw[hb,cond_false]at h;obtain rfl:=alU h;obtain⟨e',a1,a2⟩:=Ay h0 j hj;exact⟨e',by simp[a1],a2⟩
  |true=>
   rw[hb,cond_true]at h
   cases aj:amS e.on i with
   |false=>rw[aj]at h;cases h
   |true=>
    rw[aj,cond_true]at h;obtain rfl:=alU h;rw[Nat.testBit_or,Nat.testBit_or,Bool.or_eq_true,Bool.or_eq_true]at hj
    have Oa:e.on<i:=by simpa using aj
    rcases hj with(hj|hj)|hj
    .obtain⟨e',a1,a2⟩:=Ay h0 j hj;exact⟨e',by simp[a1],a2⟩
    .rw[Nat.testBit_two_pow]at hj;exact⟨e,by simp,hb,Oa, .inl (of_decide_eq_true hj)⟩
    .exact⟨e,by simp,hb,Oa, .inr hj⟩
theorem Gv{acc:List Nat}{i:Nat}:{l:List Edge}->{m:Nat}->yh acc i l=some m->∀e∈l,anC .any e=true->e.on<i
 |[],m,h,e,he,_=>by cases he
 |e0::l,m,h,e,he,hb=>by
  unfold yh at h;split at h
  case h_2=>cases h
  rename_i m0 h0
  rcases amg.1 he with rfl|he
  .rw[hb,cond_true]at h
   cases aj:amS e.on i with
   |false=>rw[aj]at h;cases h
   |true=>simpa using aj
  .exact Gv h0 e he hb
theorem Az:{l:List Oper}->{acc ms:List Nat}->IL acc l=some ms->ms.length=acc.length+l.length/\(∀i,i<acc.length->ms.getD i 0=acc.getD i 0)/\
 ∀k o,l[k]? =some o->∃m,yh ms (acc.length+k) o.after.toList=some m/\ms.getD (acc.length+k) 0=m
 |[],acc,ms,h=>by
  obtain rfl:=alU h;exact⟨by simp,fun _ _=>rfl,fun k o h=>by simp at h⟩
 |o0::l,acc,ms,h=>by
  unfold IL at h;split at h
  case h_2=>cases h
  rename_i m hm;obtain⟨a1,a2,a3⟩:=Az h;rw[alY,al6]at a1 a2 a3
  have LD:∀i,i<acc.length->ms.getD i 0=acc.getD i 0:=fun i hi=>by
   rw[a2 i (by omega)];simp[amn,amq hi]
  have YR:∀(l:List Edge)(m:Nat),yh acc acc.length l=some m->yh ms acc.length l=some m:=by
   intro l
   induction l with
   |nil=>intro m h;exact h
   |cons e l ih=>
    intro m h;unfold yh at h⊢;split at h
    case h_2=>cases h
    rename_i m0 h0;rw[ih m0 h0];simp only
    cases hb:anC .any e with
    |false=>rw[hb]at h;exact h
    |true=>
     rw[hb,cond_true]at h
     cases aj:amS e.on acc.length with
     |false=>rw[aj]at h;cases h
     |true=>
      rw[aj,cond_true]at h;rw[cond_true,cond_true,LD _ (by simpa using aj)];exact h
  refine⟨by rw[a1,al9];omega,LD,fun k o ho=>?_⟩
  cases k with
  |zero=>
   obtain rfl:o0=o:=by simpa using ho
   refine⟨m,YR _ _ hm,?_⟩;rw[am0,a2 _ (by omega)];simp[amn]
  |succ k=>
   have:=a3 k o (by simpa using ho);rw[show acc.length+1+k=acc.length+(k+1)from by omega]at this;exact this
theorem LF{ms:List Nat}(h:IL [] ops.toList=some ms){S:Nat->Prop}(hS:EU ops S):∀i o,ops[i]? =some o->(∀e∈o.after,anC .any e=true->S e.on)->∀j,(ms.getD i 0).testBit j=true->S j:=by
 obtain⟨_,_,a3⟩:=Az h;intro i
 induction i using Nat.strongRecOn with
 |_ i ih=>
  intro o ho hd j hj;obtain⟨m,h1,h2⟩:=a3 i o (by rw[Array.getElem?_toList];exact ho);simp only[List.length_nil,amo]at h1 h2;rw[h2]at hj;obtain⟨e,he,hb,aj,h3⟩:=Ay h1 j hj;have Og:=hd e (by simpa using he) hb
  rcases h3 with rfl|h3
  .exact Og
  .have UO:e.on<ops.size:=by
    have:=(amU.1 ho).1;omega
   exact ih e.on aj _ (amt UO) (fun e' he' qH=>hS e.on Og _ (amt UO) e' he' qH) j h3
end
def gk(S:Nat->Bool):Nat->List lM->(Nat->Option aq)->Nat->Option aq
 |_,[],f=>f
 |i,x::l,f=>gk S (i+1) l (fun t=>bif S i&&km (some t) x.dst.toList then some x.e.dst else f t)
def fL(S:Nat->Bool):Nat->List lM->(Nat->Option (Nat×Th))->Nat->Option (Nat×Th)
 |_,[],f=>f
 |i,x::l,f=>fL S (i+1) l (fun o=>bif S i then(find x.e.make o).or (bif nf o x.e.eat then none else f o)else f o)
theorem qk{l:List (Nat×(Nat×Th))}{o:Nat}{x:Nat×Th}(h:find l o=some x):o∈qQ l:=by
 induction l with
 |nil=>cases h
 |cons p l ih=>
  obtain⟨o',y⟩:=p;rw[aG]at h;split at h
  .rename_i e;subst e;exact amQ
  .exact List.mem_cons_of_mem _ (ih h)
theorem sx{d:Option Nat}{t:Nat}:km (some t) d.toList=true↔d=some t:=by
 unfold km;simp only[eh,Option.mem_toList]
theorem mg{S S':Nat->Bool}{t:Nat}:{l:List lM}->{i:Nat}->{f f':Nat->Option aq}->f t=f' t->(∀k x,l[k]? =some x->x.dst=some t->S (i+k)=S' (i+k))->gk S i l f t=gk S' i l f' t
 |[],_,_,_,hf,_=>hf
 |x::l,i,f,f',hf,h=>by
  show gk S (i+1) l _ t=gk S' (i+1) l _ t
  refine mg ?_ fun k y hy hd=>by
   have:=h (k+1) y (by simpa using hy) hd
   rwa [show i+(k+1)=i+1+k from by omega]at this
  by_cases hd:x.dst=some t
  .have:=h 0 x rfl hd;simp only[am0]at this;rw[this,hf]
  .have:km (some t) x.dst.toList=false:=by
    cases hb:km (some t) x.dst.toList with
    |false=>rfl
    |true=>exact absurd (sx.1 hb) hd
   rw[this,Bool.and_false,Bool.and_false,cond_false,cond_false,hf]
theorem lN{S S':Nat->Bool}{o:Nat}:{l:List lM}->{i:Nat}->{f f':Nat->Option (Nat×Th)}->f o=f' o->(∀k x,l[k]? =some x->o∈x.mut->S (i+k)=S' (i+k))->fL S i l f o=fL S' i l f' o
 |[],_,_,_,hf,_=>hf
 |x::l,i,f,f',hf,h=>by
  show fL S (i+1) l _ o=fL S' (i+1) l _ o
  refine lN ?_ fun k y hy hd=>by
   have:=h (k+1) y (by simpa using hy) hd
   rwa [show i+(k+1)=i+1+k from by omega]at this
  by_cases hd:o∈x.mut
  .have:=h 0 x rfl hd;simp only[am0]at this;rw[this,hf]
  .have h1:find x.e.make o=none:=by
    cases hm:find x.e.make o with
    |none=>rfl
    |some y=>exact absurd (by simp[lM.mut,qk hm]) hd
   have h2:nf o x.e.eat=false:=by
    cases hb:nf o x.e.eat with
    |false=>rfl
    |true=>exact absurd (by simp[lM.mut,eh.1 hb]) hd
   rw[h1,h2,am8,cond_false]
   cases S i<;>cases S' i<;>simp[hf]
theorem oG{S:Nat->Bool}{t:Nat}:{l:List lM}->{i:Nat}->{f:Nat->Option aq}->(∀k x,l[k]? =some x->x.dst=some t->S (i+k)=false)->gk S i l f t=f t
 |[],_,_,_=>rfl
 |x::l,i,f,h=>by
  show gk S (i+1) l _ t=_
  rw[oG fun k y hy hd=>by
   have:=h (k+1) y (by simpa using hy) hd
   rwa [show i+(k+1)=i+1+k from by omega]at this]
  by_cases hd:x.dst=some t
  .have:=h 0 x rfl hd;simp only[am0]at this;simp[this]
  .have:km (some t) x.dst.toList=false:=by
    cases hb:km (some t) x.dst.toList with
    |false=>rfl
    |true=>exact absurd (sx.1 hb) hd
   simp[this]
theorem oh{S:Nat->Bool}{o:Nat}:{l:List lM}->{i:Nat}->{f:Nat->Option (Nat×Th)}->(∀k x,l[k]? =some x->o∈x.mut->S (i+k)=false)->fL S i l f o=f o
 |[],_,_,_=>rfl
 |x::l,i,f,h=>by
  show fL S (i+1) l _ o=_
  rw[oh fun k y hy hd=>by
   have:=h (k+1) y (by simpa using hy) hd
   rwa [show i+(k+1)=i+1+k from by omega]at this]
  by_cases hd:o∈x.mut
  .have:=h 0 x rfl hd;simp only[am0]at this;simp[this]
  .have h1:find x.e.make o=none:=by
    cases hm:find x.e.make o with
    |none=>rfl
    |some y=>exact absurd (by simp[lM.mut,qk hm]) hd
   have h2:nf o x.e.eat=false:=by
    cases hb:nf o x.e.eat with
    |false=>rfl
    |true=>exact absurd (by simp[lM.mut,eh.1 hb]) hd
   simp only[h1,h2,am8,cond_false]
   cases S i<;>rfl
theorem oH{S:Nat->Bool}{l l':List lM}{i:Nat}{f:Nat->Option aq}:gk S i (l++l') f=gk S (i+l.length) l' (gk S i l f):=by
 induction l generalizing i f with
 |nil=>rfl
 |cons x l ih=>
  show gk S (i+1) (l++l') _=gk S (i+(l.length+1)) l' (gk S (i+1) l _)
  rw[ih,show i+1+l.length=i+(l.length+1)from by omega]
theorem kI{S:Nat->Bool}{l l':List lM}{i:Nat}{f:Nat->Option (Nat×Th)}:fL S i (l++l') f=fL S (i+l.length) l' (fL S i l f):=by
 induction l generalizing i f with
 |nil=>rfl
 |cons x l ih=>
  show fL S (i+1) (l++l') _=fL S (i+(l.length+1)) l' (fL S (i+1) l _)
  rw[ih,show i+1+l.length=i+(l.length+1)from by omega]
end Go.Proofs.YtmihpkfkbfgigaaGreatDoor
end
section
open _root_.Array renaming getD_eq_getD_getElem?->amE,getElem?_eq_getElem->amt,getElem?_eq_some_iff->amU
open _root_.Bool renaming false_eq_true->al2,not_true->am4
open _root_.List renaming drop_eq_getElem_cons->amx,getElem?_append_left->amq,getElem?_drop->ami,getElem?_eq_getElem->alV,getElem?_eq_some_iff->alW,getElem_of_mem->amb,length_append->alY,length_cons->al9,length_singleton->al6,mem_append->amf,mem_cons->amg,mem_of_getElem?->amM,take_append_drop->anv,take_append_of_le_length->aml
open _root_.Nat renaming add_zero->am0,beq->al4,blt->amS,le_refl->alZ,zero_add->amo
open _root_.Option renaming none_or->am8
open _root_.Option.some renaming inj->alU
open _root_.Go.Region renaming binds->anC,wanted->anw
namespace Go.Proofs.YtmihpkfkbfgigaaGreatDoor
open Go Go.RowKit
theorem wU{ms:List Nat}{i:Nat}{x:lM}:{l:List lM}->{j:Nat}->Ax ms i x j l=true->∀k y,l[k]? =some y->conflict x y=true->(ms.getD (j+k) 0).testBit i=true
 |[],_,_,k,y,h,_=>by simp at h
 |z::l,j,hl,k,y,h,hc=>by
  obtain⟨h1,h2⟩:=di hl
  cases k with
  |zero=>
   obtain rfl:z=y:=by simpa using h
   rw[hc,cond_true]at h1;exact h1
  |succ k=>
   have:=wU h2 k y (by simpa using h) hc
   rwa [show j+1+k=j+(k+1)from by omega]at this
theorem rm{ms:List Nat}:{l:List lM}->{i:Nat}->vz ms i l=true->∀a b x y,a<b->l[a]? =some x->l[b]? =some y->conflict x y=true->(ms.getD (i+b) 0).testBit (i+a)=true
 |[],_,_,a,b,x,y,_,h,_,_=>by simp at h
 |z::l,i,hl,a,b,x,y,we,hx,hy,hc=>by
  obtain⟨h1,h2⟩:=di hl
  cases a with
  |zero=>
   obtain rfl:z=x:=by simpa using hx
   cases b with
   |zero=>omega
   |succ b=>
    have:=wU h1 b y (by simpa using hy) hc
    rwa [show i+1+b=i+(b+1)from by omega]at this
  |succ a=>
   cases b with
   |zero=>omega
   |succ b=>
    have:=rm h2 a b x y (by omega) (by simpa using hx) (by simpa using hy) hc
    rwa [show i+1+b=i+(b+1)from by omega,show i+1+a=i+(a+1)from by omega]at this
inductive Ro(ops:Array Oper)(nt:Nat)(ts:List Nat)(sl:Nat->Option aq):Option (Nat×Bool)->Bool->Prop
 |none:Ro ops nt ts sl none true
 |lit {j g:Nat} {b t:Bool} {d:aq} (h1:Gs ops j=some g) (h2:amS g nt=true) (h3:g∈ts) (h4:sl g=some d) (h5:asBool d=some t):Ro ops nt ts sl (some (j,b)) (decide (t=b))
 |undef {j g:Nat} {b:Bool} (h1:Gs ops j=some g) (h2:amS g nt=true) (h3:g∈ts) (h4:sl g=some .undef):Ro ops nt ts sl (some (j,b)) false
structure Rp(P:Program)(ops:Array Oper)(nt:Nat)(U:Nat->Prop)(o:Oper)(sl:Nat->Option aq)(ob:Nat->Option (Nat×Th))(n:Nat)(x:lM):Prop where
 dst:x.dst=o.dst
 Bl:Co nt o.dst=true
 on:∃b,Ro ops nt x.ts sl o.guard b/\(b=true->Qk P U o sl ob n x)/\(b=false->x.e={dst:= .undef})
section
variable {P:Program} {nt:Nat} {ops:Array Oper}
theorem OH{ρ:Nat->Value}{o:Oper}{w:World}{QQ:Value->World->Prop}{a:Act}{K:Act->World->Prop}{Q:Exit->Act->World->Prop}(h:cC P ρ ⟨o.dst,o.op,o.type,o.pos,o.after,none⟩ w QQ)(hf:Fr nt a ρ)
 (hk:∀v w',QQ v w'->K (a.put o.dst v) w'):o.wp P a w K Q:=by
 unfold Oper.wp;rw[hf.eval];unfold cC at h;have e:execOp (ev ρ) o=execOp (ev ρ) ⟨o.dst,o.op,o.type,o.pos,o.after,none⟩:=rfl;rw[e];generalize(execOp (ev ρ) ⟨o.dst,o.op,o.type,o.pos,o.after,none⟩).run P w=r at*
 cases r with
 |halt x w'=>exact h.elim
 |ok x w'=>
  cases x<;>first
   |exact h.elim
   |skip
  case value v=>exact hk v w' h.2
  case skip=>exact hk undef w' h.2
  case enter f args=>
   refine h.mono fun e ur ⟨v,he,hv⟩=>?_
   subst he;exact hk v ur hv
theorem az.sub{U:Nat->Prop}{H:ay}{F:Nat->Prop}{w:World}{ob Nr:Nat->Option (Nat×Th)}{n m:Nat}(h:az U H F w ob n)(hR:∀o x,Nr o=some x->ob o=some x)(Bu:∀k,m<=k->k<m+16->H.val k=none/\H.con k=none):az U H F w Nr m:=
 ⟨fun o s t ho=>h.obj o s t (hR _ _ ho),fun o o' s s' t t' v v' bR ho lD=>h.apart o o' s s' t t' v v' bR (hR _ _ ho) (hR _ _ lD),Bu,h.lt,h.new,h.gl⟩
structure Inv(G:Nat->Prop)(w0:World)(F0:Nat->Prop)(es:List lM)(sl0:Nat->Option aq)(ob0:Nat->Option (Nat×Th))(n0:Nat)(H:ay)(F:Nat->Prop)(w:World)(ρ:Nat->Value)(S:Nat->Bool)(H':ay)(F':Nat->Prop)(w':World)(cw:Nat->Value):Prop where
 slot:∀t d,gk S 0 es sl0 t=some d->al H' F' w' d (cw t)
 ob:az (UU G w0) H' F' w' (fL S 0 es ob0) (n0+16*es.length)
 all:jD H' (n0+16*es.length)
 fresh:∀i,i<es.length->S i=false->∀m,n0+16*i<=m->m<n0+16*i+16->H'.val m=none/\H'.con m=none
 glob:Lb G w0 F0 w' F'
 keeps:cO H F w H' F' w'
 same:∀t,(∀x∈es,x.dst≠some t)->cw t=ρ t
def ins(S:Nat->Bool)(i:Nat):Nat->Bool:=fun j=>bif al4 j i then true else S j
theorem py{S:Nat->Bool}{i:Nat}:ins S i i=true:=by simp[ins]
theorem pz{S:Nat->Bool}{i j:Nat}(h:j≠i):ins S i j=S j:=by
 unfold ins
 cases hb:al4 j i with
 |true=>exact absurd (beq_true hb) h
 |false=>rfl
section
variable {G:Nat->Prop} {w0:World} {F0:Nat->Prop} {es:List lM} {sl0:Nat->Option aq} {ob0:Nat->Option (Nat×Th)} {n0:Nat} {H:ay} {F:Nat->Prop} {w:World} {ρ:Nat->Value} {ms:List Nat}
theorem CC{i:Nat}{x:lM}(h:es[i]? =some x):es=es.take i++x::es.drop (i+1)/\(es.take i).length=i:=by
 have aj:i<es.length:=(alW.1 h).1;have hx:es[i]=x:=(alW.1 h).2;refine⟨?_,by simp;omega⟩;rw[<-hx,<-amx aj,anv]
theorem zd{S:Nat->Bool}{i:Nat}{x:lM}(hx:es[i]? =some x)(LG:∀t,x.dst=some t->∀j y,es[j]? =some y->y.dst=some t->S j=true->j<i)(t:Nat):
 gk (ins S i) 0 es sl0 t=if x.dst=some t then some x.e.dst else gk S 0 es sl0 t:=by
 by_cases hd:x.dst=some t
 .rw[if_pos hd];obtain⟨e1,e2⟩:=CC hx;rw[e1,oH,e2,amo]
  show gk (ins S i) (i+1) (es.drop (i+1)) _ t=_
  rw[oG fun k y hy Rq=>by
   rw[pz (by omega)]
   cases hS:S (i+1+k)with
   |false=>rfl
   |true=>
    have:=LG t hd (i+1+k) y (by rw[<-hy,ami]) Rq hS
    omega]
  rw[py,sx.2 hd];rfl
 .rw[if_neg hd]
  refine mg rfl fun k y hy Rq=>?_
  rw[amo]
  refine pz fun e=>?_
  subst e;rw[hx]at hy;obtain rfl:=alU hy;exact hd Rq
theorem CD{S:Nat->Bool}{i:Nat}{x:lM}(hx:es[i]? =some x)(hS:S i=false)(LG:∀o,o∈x.mut->∀j y,es[j]? =some y->o∈y.mut->S j=true->j<i)(o s:Nat)(t:Th)(h:fL (ins S i) 0 es ob0 o=some (s,t)):
 find x.e.make o=some (s,t)\/(o∉x.e.eat/\fL S 0 es ob0 o=some (s,t)/\find x.e.make o=none):=by
 by_cases hd:o∈x.mut
 .obtain⟨e1,e2⟩:=CC hx
  have late:∀S':Nat->Bool,(∀j,j≠i->S' j=S j)->∀f,fL S' (i+1) (es.drop (i+1)) f o=f o:=fun S' hS' f=>oh fun k y hy Rq=>by
   rw[hS' _ (by omega)]
   cases UP:S (i+1+k)with
   |false=>rfl
   |true=>
    have:=LG o hd (i+1+k) y (by rw[<-hy,ami]) Rq UP;omega
  have pre:fL (ins S i) 0 (es.take i) ob0 o=fL S 0 (es.take i) ob0 o:=lN rfl fun k y hy _=>by
   rw[amo]
   refine pz fun e=>?_
   have:=(alW.1 hy).1;omega
  have all:fL S 0 es ob0 o=fL S 0 (es.take i) ob0 o:=by
   conv=>lhs;rw[e1]
   rw[kI,e2,amo]
   show fL S (i+1) (es.drop (i+1)) _ o=_
   rw[late S (fun _ _=>rfl),hS];rfl
  conv at h=>lhs;rw[e1]
  rw[kI,e2,amo]at h;change fL (ins S i) (i+1) (es.drop (i+1)) _ o=_ at h;rw[late (ins S i) (fun j hj=>pz hj),py,cond_true,pre,<-all]at h
  cases hm:find x.e.make o with
  |some y=>rw[hm]at h;exact .inl h
  |none=>
   rw[hm,am8]at h
   cases he:nf o x.e.eat with
   |true=>rw[he]at h;cases h
   |false=>
    rw[he,cond_false]at h;exact .inr ⟨fun e=>(by rw[eh.2 e]at he;cases he),h,rfl⟩
 .right
  have h1:find x.e.make o=none:=by
   cases hm:find x.e.make o with
   |none=>rfl
   |some y=>exact absurd (by simp[lM.mut,qk hm]) hd
  refine⟨fun e=>hd (by simp[lM.mut,e]),?_,h1⟩;rw[<-h];refine(lN rfl fun k y hy Rq=>?_).symm;rw[amo]
  refine pz fun e=>?_
  subst e;rw[hx]at hy;obtain rfl:=alU hy;exact hd Rq
theorem oi{l l':List Nat}{o:Nat}(h:o∈l)(h':o∈l'):CB l l'=true:=by
 unfold CB;rw[List.any_eq_true];exact⟨o,h,eh.2 h'⟩
theorem tP{i j:Nat}(h:i<=j):amS j i=false:=by
 cases hb:amS j i with
 |false=>rfl
 |true=>have:j<i:=by simpa using hb
        omega
def IM(_:Nat):Bool:=true
theorem EV{es:List lM}{i:Nat}(hi:i<=es.length):gk (fun j=>amS j i) 0 es sl0=gk IM 0 (es.take i) sl0:=by
 funext t
 conv=>lhs;rw[<-anv i es]
 rw[oH,oG (S:=fun j=>amS j i) fun k x _ _=>tP (by simp;omega)]
 refine mg rfl fun k x hx _=>?_
 have:=(alW.1 hx).1;simp at this;simp[IM];omega
theorem ze{es:List lM}{i:Nat}(hi:i<=es.length):fL (fun j=>amS j i) 0 es ob0=fL IM 0 (es.take i) ob0:=by
 funext t
 conv=>lhs;rw[<-anv i es]
 rw[kI,oh (S:=fun j=>amS j i) fun k x _ _=>tP (by simp;omega)]
 refine lN rfl fun k x hx _=>?_
 have:=(alW.1 hx).1;simp at this;simp[IM];omega
theorem IN{S:Nat->Bool}{i q:Nat}(hA:∀k y,k<i->es[k]? =some y->q∈y.mut->S k=true\/q∈y.soft)
 (hs:∀k y,es[k]? =some y->q∈y.soft->q∈y.mut->∃z z',fL IM 0 (es.take k) ob0 q=some z/\find y.e.make q=some z'/\iB z z'):
 ∀m,m<=i->m<=es.length->∀z,fL IM 0 (es.take m) ob0 q=some z->∃z',fL S 0 (es.take m) ob0 q=some z'/\iB z z':=by
 intro m
 induction m with
 |zero=>intro _ _ z hz;exact⟨z,hz, .inl rfl⟩
 |succ m ih=>
  intro hm hl z hz
  have aj:m<es.length:=by omega
  have hy:es[m]? =some es[m]:=alV aj
  have e1:es.take (m+1)=es.take m++[es[m]]:=by rw[List.take_add_one,hy];rfl
  have el:(es.take m).length=m:=by simp;omega
  rw[e1,kI,el,amo]at hz⊢;generalize hgy:es[m]=y at*;have ez:(find y.e.make q).or (bif nf q y.e.eat then none else fL IM 0 (es.take m) ob0 q)=some z:=hz
  show∃z',(bif S m then(find y.e.make q).or (bif nf q y.e.eat then none else fL S 0 (es.take m) ob0 q)else fL S 0 (es.take m) ob0 q)=some z'/\iB z z'
  by_cases LH:q∈y.mut
  .cases hSm:S m with
   |true=>
    rw[cond_true]
    cases uB:find y.e.make q with
    |some x=>rw[uB]at ez;exact⟨z,ez, .inl rfl⟩
    |none=>
     have hk:q∉qQ y.e.make:=fun hk=>by
      have:∀l:List (Nat×(Nat×Th)),q∈qQ l->find l q≠none:=by
       intro l
       induction l with
       |nil=>intro h;cases h
       |cons p l ih=>
        obtain⟨o',x⟩:=p;intro h;rw[aG];split
        .simp
        .rename_i bR
         rcases amg.1 h with h|h
         .exact absurd h.symm bR
         .exact ih h
      exact this _ hk uB
     have he:nf q y.e.eat=true:=eh.2 (by
      rcases amf.1 LH with h|h
      .exact h
      .exact absurd h hk)
     rw[uB,he]at ez;cases ez
   |false=>
    rw[cond_false]
    rcases hA m y (by omega) hy LH with h|h
    .rw[hSm]at h;cases h
    .obtain⟨x,x',h1,h2,h3⟩:=hs m y hy h LH;rw[h2]at ez;obtain rfl:=alU ez;obtain⟨z',h4,h5⟩:=ih (by omega) (by omega) x h1;exact⟨z',h4,h3.symm.trans h5⟩
  .have h1:find y.e.make q=none:=by
    cases hm:find y.e.make q with
    |none=>rfl
    |some y=>exact absurd (by simp[lM.mut,qk hm]) LH
   have h2:nf q y.e.eat=false:=by
    cases hb:nf q y.e.eat with
    |false=>rfl
    |true=>exact absurd (by simp[lM.mut,eh.1 hb]) LH
   rw[h1,h2,am8,cond_false]at ez;obtain⟨z',h4,h5⟩:=ih (by omega) (by omega) z ez;refine⟨z',?_,h5⟩;rw[h1,h2,am8,cond_false,h4]
   cases S m<;>rfl
theorem LI(Nw:IL [] ops.toList=some ms)(hp:vz ms 0 es=true)(hlen:es.length=ops.size){S:Nat->Bool}(hS:EU ops (fun j=>S j=true)){i:Nat}{o:Oper}{x:lM}(ho:ops[i]? =some o)(hx:es[i]? =some x)(IP:S i=false)
 (Gw:∀e∈o.after,anC .any e=true->S e.on=true)(LJ:∀k y,es[k]? =some y->∀q,q∈y.soft->q∈y.mut->∃z z',fL IM 0 (es.take k) ob0 q=some z/\find y.e.make q=some z'/\iB z z')(gq:Rp P ops nt (UU G w0) o (gk (fun j=>amS j i) 0 es sl0) (fL (fun j=>amS j i) 0 es ob0) (n0+16*i) x)
 {H':ay}{F':Nat->Prop}{w':World}{cw:Nat->Value}{a:Act}(hf:Fr nt a cw)(hinv:Inv G w0 F0 es sl0 ob0 n0 H F w ρ S H' F' w' cw){K:Act->World->Prop}{Q:Exit->Act->World->Prop}
 (hk:∀XA sy tf BY ur,Fr nt XA sy->Inv G w0 F0 es sl0 ob0 n0 H F w ρ (ins S i) tf BY ur sy->K XA ur):wpOp P ops Q i K a w':=by
 have UQ:i<es.length:=(alW.1 hx).1
 have up:∀j y,es[j]? =some y->j<i->conflict y x=true->S j=true:=fun j y hy YS hc=>by
  have:=rm hp j i y x YS hy hx hc;rw[amo,amo]at this;exact LF Nw hS i o ho Gw j this
 have down:∀j y,es[j]? =some y->i<j->conflict x y=true->S j=true->False:=fun j y hy N8 hc hj=>by
  have:=rm hp i j x y N8 hx hy hc;rw[amo,amo]at this
  have Ow:j<ops.size:=by have:=(alW.1 hy).1;omega
  have h2:=LF Nw hS j _ (amt Ow) (fun e he hb=>hS j hj _ (amt Ow) e he hb) i this;rw[IP]at h2;cases h2
 have Ql:∀t,x.dst=some t->∀j y,es[j]? =some y->y.dst=some t->S j=true->j<i:=fun t ht j y hy XB hj=>by
  rcases Nat.lt_trichotomy j i with h|h|h
  .exact h
  .subst h;rw[IP]at hj;cases hj
  .exact(down j y hy h (by unfold conflict;simp[km,ht,XB,eh]) hj).elim
 have Qm:∀q,q∈x.mut->∀j y,es[j]? =some y->q∈y.mut->S j=true->j<i:=fun q hq j y hy Qn hj=>by
  rcases Nat.lt_trichotomy j i with h|h|h
  .exact h
  .subst h;rw[IP]at hj;cases hj
  .exact(down j y hy h (by unfold conflict;rw[oi hq (by simp[Qn])];simp) hj).elim
 have Rt:∀t,t∈x.ts->gk (fun j=>amS j i) 0 es sl0 t=gk S 0 es sl0 t:=fun t ht=>mg rfl fun j y hy XB=>by
  rw[amo]
  rcases Nat.lt_trichotomy j i with h|h|h
  .rw[up j y hy h (by unfold conflict;simp[km,XB,eh,ht])];simpa using h
  .subst h;rw[IP];exact tP (alZ _)
  .have:S j=false:=by
    cases hj:S j with
    |false=>rfl
    |true=>exact(down j y hy h (by unfold conflict;simp[km,XB,eh,ht]) hj).elim
   rw[this];exact tP (by omega)
 have YT:∀q,q∈x.os->fL (fun j=>amS j i) 0 es ob0 q=fL S 0 es ob0 q:=fun q hq=>lN rfl fun j y hy Qn=>by
  rw[amo]
  rcases Nat.lt_trichotomy j i with h|h|h
  .rw[up j y hy h (by unfold conflict;rw[oi Qn (by simp[hq])];simp)];simpa using h
  .subst h;rw[IP];exact tP (alZ _)
  .have:S j=false:=by
    cases hj:S j with
    |false=>rfl
    |true=>exact(down j y hy h (by unfold conflict;rw[oi (l:=x.os++x.ls++x.mut) (l':=y.mut) (by simp[hq]) Qn];simp) hj).elim
   rw[this];exact tP (by omega)
 have YU:∀q z,q∈x.ls->fL (fun j=>amS j i) 0 es ob0 q=some z->∃z',fL S 0 es ob0 q=some z'/\iB z z':=fun q z hq hz=>by
  rw[ze (by omega)]at hz
  obtain⟨z',h1,h2⟩:=IN (S:=S) (i:=i) (q:=q) (fun k y hk hy Qn=>by
   by_cases hsf:q∈y.soft
   .exact .inr hsf
   .refine .inl (up k y hy hk ?_)
    have:q∈y.UN:=List.mem_filter.2 ⟨Qn,by
     cases hb:nf q y.soft with
     |false=>rfl
     |true=>exact absurd (eh.1 hb) hsf⟩
    unfold conflict;rw[oi this hq]
    simp) (fun k y hy h1 h2=>LJ k y hy q h1 h2) i (alZ _) (by omega) z hz
  refine⟨z',?_,h2⟩;rw[<-h1]
  conv=>lhs;rw[<-anv i es]
  rw[kI]
  refine oh fun k y hy Qn=>?_
  have BV:es[i+k]? =some y:=by rw[<-hy,ami]
  have el:(es.take i).length=i:=by simp;omega
  rw[el,amo]
  cases UP:S (i+k)with
  |false=>rfl
  |true=>
   rcases Nat.eq_zero_or_pos k with rfl|hk
   .rw[am0,IP]at UP;cases UP
   .exact(down (i+k) y BV (by omega) (by unfold conflict;rw[oi (l:=x.os++x.ls++x.mut) (l':=y.mut) (by simp[hq]) Qn];simp) UP).elim
 obtain⟨b,hg,YV,KM⟩:=gq.on
 have UR:anw o (yielded ops a.tmps)=b:=by
  generalize YW:o.guard=gd at hg
  cases hg with
  |none=>unfold anw;rw[YW]
  |lit h1 h2 h3 h4 h5=>
   rename_i j g b' t d;rw[Rt g h3]at h4;have hy:=oy hf h1 h2 (nZ h5 (hinv.slot g _ h4));unfold anw;rw[YW];simp only[hy]
   cases t<;>cases b'<;>rfl
  |undef h1 h2 h3 h4=>
   rename_i j g b';rw[Rt g h3]at h4;have hy:=nM hf h1 h2 (show cw g=undef from hinv.slot g _ h4);unfold anw;rw[YW];simp only[hy]
   cases b'<;>rfl
 have vS:∀v,Fr nt (a.put o.dst v) (uW cw o.dst v):=fun v=>by
  have hb:=gq.Bl
  cases hd:o.dst with
  |none=>exact hf
  |some d=>rw[hd]at hb;exact hf.put hb v
 have CE:∀t,x.dst=some t↔o.dst=some t:=fun t=>by rw[gq.dst]
 unfold wpOp;simp only[ho,UR]
 cases b with
 |false=>
  simp only[al2,if_false];have he:=KM rfl;refine hk _ (uW cw o.dst undef) H' F' w' (vS undef) ⟨fun t d ht=>?_,?_,hinv.all,fun k hk wV=>?_,hinv.glob,hinv.keeps,fun t ht=>?_⟩
  .rw[zd hx Ql]at ht;split at ht
   .rename_i Ru;obtain rfl:=alU ht;rw[he]
    show uW cw o.dst undef t=undef
    rw[(CE t).1 Ru]
    show D5 cw t undef t=undef
    rw[pg,if_pos rfl]
   .rename_i Ru;rw[qj (fun e=>Ru ((CE t).2 e))];exact hinv.slot t d ht
  .refine hinv.ob.sub (fun q y hq=>?_) (fun m hm _=>hinv.all m hm)
   rcases CD hx IP Qm q y.1 y.2 hq with h1|⟨_,h2,_⟩
   .rw[he]at h1;cases h1
   .exact h2
  .by_cases e:k=i
   .subst e;rw[py]at wV;cases wV
   .rw[pz e]at wV;exact hinv.fresh k hk wV
  .rw[qj (fun e=>ht x (amM hx) ((CE t).2 e))];exact hinv.same t ht
 |true=>
  simp only[if_true]
  left
  obtain⟨_,⟨YM,Nr,OF,ET,bA⟩,_⟩:=YV rfl
  obtain⟨YN,gI,bA⟩:=bA H' F' w' cw (fL S 0 es ob0) (fun q y hq=>by
   obtain⟨h1,h2⟩:=ET q y hq;by_cases Nx:q∈x.os
   .exact⟨y,by rw[<-YT q Nx];exact h2, .inl rfl,fun _=>rfl⟩
   .rcases h1 with h1|h1
    .exact absurd h1 Nx
    .obtain⟨z',h3,h4⟩:=YU q y h1 h2
     exact⟨z',h3,h4,fun h=>absurd h Nx⟩) (fun t d ht=>by
   obtain⟨h1,h2⟩:=OF t d ht;rw[Rt t h1]at h2
   exact hinv.slot t d h2) (hinv.ob.sub (fun _ _ h=>h) (hinv.fresh i UQ IP))
  have Cl:=hinv.ob.sub gI (hinv.fresh i UQ IP)
  refine OH bA hf fun v ur ⟨tf,BY,qO⟩=>?_
  .have lG:=qO.mA.step Cl.lt Cl.iR
   have hZ:jD tf (n0+16*es.length):=fun m hm=>by
    have h1:=hinv.all m hm;have h2:=qO.fresh m (.inr (by omega));exact⟨h2.1 h1.1,h2.2 h1.2⟩
   refine hk _ (uW cw o.dst v) tf BY ur (vS v) ⟨fun t d ht=>?_,?_,hZ,fun k hk wV m YX YY=>?_,hinv.glob.mA qO.mA Cl.ir,hinv.keeps.trans ⟨qO.mA.jO,lG⟩,fun t ht=>?_⟩
   .rw[zd hx Ql]at ht;split at ht
    .rename_i Ru;obtain rfl:=alU ht;rw[(CE t).1 Ru]
     show al tf BY ur _ (D5 cw t v t)
     rw[pg,if_pos rfl];exact qO.dst
    .rename_i Ru;rw[qj (fun e=>Ru ((CE t).2 e))];exact(hinv.slot t d ht).keep qO.mA.jO lG
   .exact hinv.ob.KA gI qO (fun q s t hq=>CD hx IP Qm q s t hq) fun m hm _=>hZ m hm
   .by_cases e:k=i
    .subst e;rw[py]at wV;cases wV
    .rw[pz e]at wV;have h1:=hinv.fresh k hk wV m YX YY;have h2:=qO.fresh m (by omega);exact⟨h2.1 h1.1,h2.2 h1.2⟩
   .rw[qj (fun e=>ht x (amM hx) ((CE t).2 e))];exact hinv.same t ht
end
end
end Go.Proofs.YtmihpkfkbfgigaaGreatDoor
namespace Go.Proofs.YtmihpkfkbfgigaaGreatDoor
open Go Go.RowKit
def tQ(dst:Option Nat)(g:Nat):lM:={dst:=dst,ts:=[g],os:=[],e:={dst:= .undef}}
noncomputable def nB{R:Type}{P:Program}(E:Env P)(nt:Nat)(ops:Array Oper):List Oper->State->List lM->(State->Option R)->Option R
 |[],st,acc,k=>bif tO ops.toList acc then k st else none
 |o::os,st,acc,k=>bif Co nt o.dst then(match o.guard with
  |none=>zc E o.dst o.op [] st (fun e x=>nB E nt ops os (st.apply o.dst e) (acc++[x]) k)
  |some (j,b)=>match Gs ops j with
   |none=>none
   |some g=>bif amS g nt then(match find st.ak g with
    |some .undef=>nB E nt ops os (st.apply o.dst {dst:= .undef}) (acc++[tQ o.dst g]) k
    |some d=>match asBool d with
     |some t=>if t=true then
       (bif b then zc E o.dst o.op [g] (st.put (some g) (ec true)) (fun e x=>nB E nt ops os ((st.put (some g) (ec true)).apply o.dst e) (acc++[x]) k)
         else nB E nt ops os ((st.put (some g) (ec true)).apply o.dst {dst:= .undef}) (acc++[tQ o.dst g]) k)
      else
       (bif b then nB E nt ops os ((st.put (some g) (ec false)).apply o.dst {dst:= .undef}) (acc++[tQ o.dst g]) k
         else zc E o.dst o.op [g] (st.put (some g) (ec false)) (fun e x=>nB E nt ops os ((st.put (some g) (ec false)).apply o.dst e) (acc++[x]) k))
     |none=>none
    |none=>none)else none)else none
section
variable {P:Program} {nt:Nat} {ops:Array Oper} {R:Type}
variable {G:Nat->Prop} {w0:World} {F0:Nat->Prop} {sl0:Nat->Option aq} {ob0:Nat->Option (Nat×Th)} {n0:Nat}
structure Lex(P:Program)(nt:Nat)(ops:Array Oper)(U:Nat->Prop)(sl0:Nat->Option aq)(ob0:Nat->Option (Nat×Th))(n0:Nat)(es:List lM)(st:State):Prop where
 slot:∀t,find st.ak t=gk IM 0 es sl0 t
 ob:∀o,find st.objs o=fL IM 0 es ob0 o
 nxt:st.nxt=n0+16*es.length
 ok:∀i o x,ops[i]? =some o->es[i]? =some x->Rp P ops nt U o (gk IM 0 (es.take i) sl0) (fL IM 0 (es.take i) ob0) (n0+16*i) x
theorem EW{S:Nat->Bool}{es:List lM}{x:lM}{f:Nat->Option aq}{t:Nat}(h:S es.length=true):gk S 0 (es++[x]) f t=if x.dst=some t then some x.e.dst else gk S 0 es f t:=by
 rw[oH,amo]
 show(bif S es.length&&km (some t) x.dst.toList then some x.e.dst else gk S 0 es f t)=_
 rw[h,Bool.true_and];by_cases hd:x.dst=some t
 .rw[if_pos hd,sx.2 hd];rfl
 .rw[if_neg hd]
  cases hb:km (some t) x.dst.toList with
  |false=>rfl
  |true=>exact absurd (sx.1 hb) hd
theorem IQ{S:Nat->Bool}{es:List lM}{x:lM}{f:Nat->Option (Nat×Th)}{o:Nat}(h:S es.length=true):fL S 0 (es++[x]) f o=(find x.e.make o).or (bif nf o x.e.eat then none else fL S 0 es f o):=by
 rw[kI,amo]
 show(bif S es.length then _ else _)=_
 rw[h];rfl
theorem tR{st:State}{dst:Option Nat}{e:eD}{t:Nat}:find (st.apply dst e).ak t=if dst=some t then some e.dst else find st.ak t:=by
 cases dst with
 |none=>simp[State.apply]
 |some d=>
  show find ((d,e.dst)::st.ak) t=_
  rw[aG];by_cases h:d=t
  .simp[h]
  .simp[h]
theorem u6{st:State}{dst:Option Nat}{e:eD}{o:Nat}:find (st.apply dst e).objs o=(find e.make o).or (bif nf o e.eat then none else find st.objs o):=by
 show find (e.make++del e.eat st.objs) o=_
 rw[iO]
 congr 1
 cases hb:nf o e.eat with
 |true=>
  rw[cond_true]
  cases h:find (del e.eat st.objs) o with
  |none=>rfl
  |some x=>exact absurd (eh.1 hb) (iP.1 h).1
 |false=>
  rw[cond_false]
  have hn:o∉e.eat:=fun h=>by rw[eh.2 h]at hb;cases hb
  cases h:find st.objs o with
  |some x=>exact iP.2 ⟨hn,h⟩
  |none=>
   cases h2:find (del e.eat st.objs) o with
   |none=>rfl
   |some x=>rw[(iP.1 h2).2]at h;cases h
theorem Lex.snoc{U:Nat->Prop}{es:List lM}{st:State}{x:lM}{o:Oper}(h:Lex P nt ops U sl0 ob0 n0 es st)(ho:ops[es.length]? =some o)(hd:x.dst=o.dst)
 (nX:Rp P ops nt U o (find st.ak) (find st.objs) st.nxt x):Lex P nt ops U sl0 ob0 n0 (es++[x]) (st.apply o.dst x.e):=by
 refine⟨fun t=>?_,fun q=>?_,?_,fun i o' y lD hy=>?_⟩
 .rw[tR,EW rfl,hd,h.slot t]
 .rw[u6,IQ rfl,h.ob q]
 .show st.nxt+16=_
  rw[h.nxt,alY,al6];omega
 .rcases Nat.lt_or_ge i es.length with aj|hge
  .rw[amq aj]at hy;rw[aml (by omega)];exact h.ok i o' y lD hy
  .have hi:i=es.length:=by
    have:=(alW.1 hy).1;simp at this;omega
   subst hi;simp at hy;subst hy;rw[ho]at lD;obtain rfl:=alU lD;rw[List.take_left']
   .rw[<-funext h.slot,<-funext h.ob,<-h.nxt];exact nX
   .rfl
theorem Lex.put{U:Nat->Prop}{es:List lM}{st:State}{g:Nat}{d:aq}(h:Lex P nt ops U sl0 ob0 n0 es st)(hg:find st.ak g=some d):Lex P nt ops U sl0 ob0 n0 es (st.put (some g) d):=by
 refine⟨fun t=>?_,h.ob,h.nxt,h.ok⟩
 show find ((g,d)::st.ak) t=_
 rw[aG,<-h.slot t];split
 .rename_i e;subst e;exact hg.symm
 .rfl
theorem IR{d:aq}{t:Bool}(h:asBool d=some t):d=ec t:=by
 unfold asBool at h
 split at h<;>cases h
 rfl
theorem CF{E:Env P}{q:R}{k:State->Option R}:{l:List Oper}->{st:State}->{es:List lM}->nB E nt ops l st es k=some q->(∀j,l[j]? =ops[es.length+j]?)->Lex P nt ops (UU G w0) sl0 ob0 n0 es st->
 ∃nw cf,k cf=some q/\tO ops.toList nw=true/\Lex P nt ops (UU G w0) sl0 ob0 n0 nw cf/\nw.length=es.length+l.length
 |[],st,es,h,_,hl=>by
  unfold nB at h;obtain⟨h1,h2⟩:=aK h;exact⟨es,st,h2,h1,hl,rfl⟩
 |o::l,st,es,h,oB,hl=>by
  have ho:ops[es.length]? =some o:=by simpa using(oB 0).symm
  have US:∀x:lM,∀j,l[j]? =ops[(es++[x]).length+j]? :=fun x j=>by
   have:=oB (j+1);rw[alY,al6,show es.length+1+j=es.length+(j+1)from by omega];simpa using this
  have go:∀{og:State}{x:lM},nB E nt ops l og (es++[x]) k=some q->Lex P nt ops (UU G w0) sl0 ob0 n0 (es++[x]) og->∃nw cf,k cf=some q/\tO ops.toList nw=true/\Lex P nt ops (UU G w0) sl0 ob0 n0 nw cf/\nw.length=es.length+(o::l).length:=by
   intro og x h1 h2;obtain⟨nw,cf,a1,a2,a3,a4⟩:=CF h1 (US x) h2;refine⟨nw,cf,a1,a2,a3,?_⟩;rw[a4,alY,al6,al9];omega
  unfold nB at h;obtain⟨hd,h'⟩:=aK h;clear h
  have on:∀{og:State}{gs:List Nat},zc E o.dst o.op gs og (fun e x=>nB E nt ops l (og.apply o.dst e) (es++[x]) k)=some q->Lex P nt ops (UU G w0) sl0 ob0 n0 es og->(∀ts:List Nat,(∀g∈gs,g∈ts)->Ro ops nt ts (find og.ak) o.guard true)->∃nw cf,k cf=some q/\tO ops.toList nw=true/\Lex P nt ops (UU G w0) sl0 ob0 n0 nw cf/\nw.length=es.length+(o::l).length:=by
   intro og gs h1 h2 h3;obtain⟨e,x,a1,a2,a3,a4⟩:=LC (U:=UU G w0) h1;subst a2;exact go a1 (h2.snoc ho a4.dst ⟨a4.dst,hd,true,h3 _ a3,fun _=>a4,fun h=>by cases h⟩)
  have off:∀{og:State}{g:Nat},nB E nt ops l (og.apply o.dst {dst:= .undef}) (es++[tQ o.dst g]) k=some q->Lex P nt ops (UU G w0) sl0 ob0 n0 es og->Ro ops nt [g] (find og.ak) o.guard false->∃nw cf,k cf=some q/\tO ops.toList nw=true/\Lex P nt ops (UU G w0) sl0 ob0 n0 nw cf/\nw.length=es.length+(o::l).length:=by
   intro og g h1 h2 h3;exact go (x:=tQ o.dst g) h1 (h2.snoc (x:=tQ o.dst g) ho rfl ⟨rfl,hd,false,h3,fun h=>(by cases h),fun _=>rfl⟩)
  split at h'
  .rename_i IS
   exact on h' hl fun ts _=>by rw[IS];exact .none
  .rename_i j b IS;split at h'
   case h_1=>cases h'
   rename_i g Qf;obtain⟨Qg,h⟩:=aK h';clear h';split at h
   .rename_i hu;exact off h hl (by rw[IS];exact .undef Qf Qg (by simp) hu)
   .rename_i d gJ;split at h
    case h_2=>cases h
    rename_i t ht;obtain rfl:=IR ht
    have UT:∀v:Bool,find (st.put (some g) (ec v)).ak g=some (ec v):=fun v=>by
     show find ((g,ec v)::st.ak) g=_
     rw[aG,if_pos rfl]
    have OI:∀(v:Bool)(ts:List Nat)(r:Bool),g∈ts->r=decide (v=b)->Ro ops nt ts (find (st.put (some g) (ec v)).ak) (some (j,b)) r:=fun v ts r hg hr=>by
     rw[hr];exact .lit Qf Qg hg (UT v) rfl
    split at h
    .rename_i OC;subst OC;have JU:=hl.put gJ
     cases b with
     |true=>rw[cond_true]at h;exact on h JU fun ts wW=>by rw[IS];exact OI true ts true (wW g (by simp)) rfl
     |false=>rw[cond_false]at h;exact off h JU (by rw[IS];exact OI true [g] false (by simp) rfl)
    .rename_i OC
     have OC:t=false:=by cases t<;>simp_all
     subst OC;have JU:=hl.put gJ
     cases b with
     |true=>rw[cond_true]at h;exact off h JU (by rw[IS];exact OI false [g] false (by simp) rfl)
     |false=>rw[cond_false]at h;exact on h JU fun ts wW=>by rw[IS];exact OI false ts true (wW g (by simp)) rfl
   .cases h
def UW(m:Nat)(listed:Array Bool):Nat:=((List.range m).filter fun j=> !listed.getD j false).length
theorem Gx{m i:Nat}{listed:Array Bool}(hi:i<m)(hs:listed.size=m)(h:listed.getD i false=false):UW m (listed.setIfInBounds i true)+1<=UW m listed:=by
 unfold UW
 have gI:∀l:List Nat,(l.filter fun j=> !(listed.setIfInBounds i true).getD j false).length<=(l.filter fun j=> !listed.getD j false).length/\(i∈l->(l.filter fun j=> !(listed.setIfInBounds i true).getD j false).length+1<=(l.filter fun j=> !listed.getD j false).length):=by
  intro l
  induction l with
  |nil=>exact⟨alZ _,fun h=>by cases h⟩
  |cons j l ih=>
   by_cases hj:i=j
   .subst hj
    have e1:(listed.setIfInBounds i true).getD i false=true:=by simp[amE,hs,hi]
    rw[List.filter_cons,List.filter_cons,e1,h];simp only[am4,al2,if_false,Bool.not_false,if_true,al9];exact⟨by omega,fun _=>by omega⟩
   .have e1:(listed.setIfInBounds i true).getD j false=listed.getD j false:=getD_set_ne false hj;rw[List.filter_cons,List.filter_cons,e1]
    cases listed.getD j false with
    |true=>
     simp only[am4,al2,if_false];exact⟨ih.1,fun hm=>ih.2 (by simpa[hj]using hm)⟩
    |false=>
     simp only[Bool.not_false,if_true,al9];exact⟨by omega,fun hm=>by have:=ih.2 (by simpa[hj]using hm);omega⟩
 exact(gI _).2 (by simpa using hi)
theorem OJ{E:Env P}{id:Nat}{q:R}{k:State->Option R}{st:State}{H:ay}{F:Nat->Prop}{w:World}{ρ:Nat->Value}{Q:Exit->(Nat->Value)->World->Prop}(hm:P.follows .mixedOrders=true)
 (h:nB E nt ops ops.toList st [] k=some q)(hh:cT G w0 F0 H F w ρ st)
 (hk:∀cf H' F' w' cw,k cf=some q->cT G w0 F0 H' F' w' cw cf->cO H F w H' F' w'->(∀t,(∀o∈ops.toList,o.dst≠some t)->cw t=ρ t)->Q .normal cw w'):q6 P nt (.region id ops true) Q ρ w:=by
 obtain⟨es,cf,K5,kD,EX,hlen⟩:=CF (G:=G) (w0:=w0) (sl0:=find st.ak) (ob0:=find st.objs) (n0:=st.nxt) h (fun j=>by simp) ⟨fun _=>rfl,fun _=>rfl,by simp,fun i o x _ hx=>by simp at hx⟩;simp only[List.length_nil,amo,Array.length_toList]at hlen;unfold tO at kD;split at kD
 case h_2=>cases kD
 rename_i ms Nw
 have CE:∀x∈es,∃o∈ops.toList,x.dst=o.dst:=fun x hx=>by
  obtain⟨i,hi,rfl⟩:=amb hx
  have aj:i<ops.size:=by omega
  exact⟨ops[i],by simp,(EX.ok i ops[i] es[i] (amt aj) (alV hi)).dst⟩
 have LJ:∀k y,es[k]? =some y->∀q,q∈y.soft->q∈y.mut->∃z z',fL IM 0 (es.take k) (find st.objs) q=some z/\find y.e.make q=some z'/\iB z z':=fun k y hy q h1 h2=>by
  have aj:k<es.length:=(alW.1 hy).1;obtain⟨_,_,b,_,YV,KM⟩:=EX.ok k _ y (amt (by omega)) hy
  cases b with
  |true=>exact(YV rfl).soft q h1 h2
  |false=>
   rw[lM.mut,KM rfl]at h2;simp[qQ]at h2
 have Gy:∀i o,ops[i]? =some o->∀e∈o.after,anC .any e=true->e.on<i:=fun i o ho e he hb=>by
  obtain⟨m,h1,_⟩:=(Az Nw).2.2 i o (by rw[Array.getElem?_toList];exact ho);simp only[List.length_nil,amo]at h1;exact Gv h1 e (by simpa using he) hb
 intro a hf;refine wp_region_any hm ?_
 have main:∀fuel(listed:Array Bool)(a:Act)(w':World)H' F' cw,listed.size=ops.size->UW ops.size listed<=fuel->EU ops (fun j=>listed.getD j false=true)->Fr nt a cw->
  Inv G w0 F0 es (find st.ak) (find st.objs) st.nxt H F w ρ (fun j=>listed.getD j false) H' F' w' cw->wpAny P .any ops (fun e a' w'=>∃cw,Fr nt a' cw/\Q e cw w') fuel listed a w':=by
  have done:∀(listed:Array Bool)(a:Act)(w':World)H' F' cw,(∀i,i<ops.size->listed.getD i false=true)->Fr nt a cw->Inv G w0 F0 es (find st.ak) (find st.objs) st.nxt H F w ρ (fun j=>listed.getD j false) H' F' w' cw->∃cw,Fr nt a cw/\Q .normal cw w':=by
   intro listed a w' H' F' cw hZ hf hinv
   have eS:∀t,gk (fun j=>listed.getD j false) 0 es (find st.ak) t=find cf.ak t:=fun t=>by
    rw[EX.slot t]
    refine mg rfl fun k x hx _=>?_
    have:=(alW.1 hx).1;rw[amo];exact hZ k (by omega)
   have eO:∀o,fL (fun j=>listed.getD j false) 0 es (find st.objs) o=find cf.objs o:=fun o=>by
    rw[EX.ob o]
    refine lN rfl fun k x hx _=>?_
    have:=(alW.1 hx).1;rw[amo];exact hZ k (by omega)
   refine⟨cw,hf,hk cf H' F' w' cw K5 ⟨⟨fun t d hd=>hinv.slot t d (by rw[eS];exact hd),?_,?_⟩,hinv.glob⟩ hinv.keeps fun t ht=>hinv.same t fun x hx=>?_⟩
   .have:=hinv.ob;rw[funext eO]at this;rw[EX.nxt];exact this
   .rw[EX.nxt];exact hinv.all
   .obtain⟨o,ho,e⟩:=CE x hx;rw[e];exact ht o ho
  have IT:∀(listed:Array Bool),listed.size=ops.size->Region.ready .any ops listed=[]->∀i,i<ops.size->listed.getD i false=true:=by
   intro listed hs hr i
   induction i using Nat.strongRecOn with
   |_ i ih=>
    intro hi
    cases hl:listed.getD i false with
    |true=>rfl
    |false=>
     have:i∈Region.ready .any ops listed:=mem_ready.2 ⟨by
      simp only[amE]at hl⊢;rw[amt (by omega)]at hl⊢
      simpa using hl,ops[i],amt hi,fun e he hb=>ih e.on (Gy i _ (amt hi) e he hb) (by
       have:=Gy i _ (amt hi) e he hb
       omega)⟩
     rw[hr]at this;cases this
  intro fuel
  induction fuel with
  |zero=>
   intro listed a w' H' F' cw hs hu hc hf hinv
   have hZ:∀i,i<ops.size->listed.getD i false=true:=fun i hi=>by
    cases hl:listed.getD i false with
    |true=>rfl
    |false=>
     have:=Gx hi hs hl;omega
   refine⟨?_,done listed a w' H' F' cw hZ hf hinv⟩
   cases hr:Region.ready .any ops listed with
   |nil=>rfl
   |cons i l=>
    have hi:i∈Region.ready .any ops listed:=by rw[hr];simp
    obtain⟨h1,o,h2,_⟩:=mem_ready.1 hi;have aj:=(amU.1 h2).1;have h3:=hZ i aj;simp only[amE]at h1 h3;rw[amt (by omega)]at h1 h3;simp at h1 h3;rw[h1]at h3;cases h3
  |succ fuel ih=>
   intro listed a w' H' F' cw hs hu hc hf hinv;refine⟨fun hr=>done listed a w' H' F' cw (IT listed hs hr) hf hinv,fun i hi=>?_⟩;obtain⟨h1,o,ho,Gw⟩:=mem_ready.1 hi;have aj:=(amU.1 ho).1
   have IP:listed.getD i false=false:=by
    simp only[amE]at h1⊢;rw[amt (by omega)]at h1⊢;simpa using h1
   have hx:es[i]? =some (es[i]'(by omega)):=alV (by omega);have gq:=EX.ok i o _ ho hx;rw[<-EV (by omega),<-ze (by omega)]at gq
   have wV:(fun j=>(listed.setIfInBounds i true).getD j false)=ins (fun j=>listed.getD j false) i:=by
    funext j;by_cases e:j=i
    .subst e;rw[py];simp[amE,hs,aj]
    .rw[pz e];exact getD_set_ne false (Ne.symm e)
   refine LI Nw kD hlen hc ho hx IP Gw LJ gq hf hinv fun XA sy tf BY ur YZ Rv=>?_
   refine ih _ XA ur tf BY sy (by simp[hs]) ?_ ?_ YZ ?_
   .have:=Gx aj hs IP;omega
   .intro j hj o' lD e he hb;by_cases ej:j=i
    .subst ej;rw[ho]at lD;obtain rfl:=alU lD;exact getD_set_true (Gw e he hb)
    .have Ep:listed.getD j false=true:=by
      have:(listed.setIfInBounds i true).getD j false=listed.getD j false:=getD_set_ne false (Ne.symm ej);rw[<-this];exact hj
     exact getD_set_true (hc j Ep o' lD e he hb)
   .rw[wV];exact Rv
 have Y0:∀j,(Array.replicate ops.size false).getD j false=false:=fun j=>by
  simp only[amE];by_cases hj:j<ops.size
  .simp[hj]
  .simp[hj]
 have hw:Step F w F w.drew:=Step.drew F w
 refine main ops.size _ a _ H F ρ (by simp) ?_ (fun i hi=>by
  have gr:(Array.replicate ops.size false).getD i false=true:=hi;rw[Y0]at gr
  cases gr) hf ⟨fun t d hd=>?_,?_,fun m hm=>hh.sat.all m (by omega),fun i hi _ m hm _=>hh.sat.all m (by omega),⟨⟨hh.glob.ext.os,hh.glob.ext.tape,hh.glob.ext.output,hh.glob.ext.size,hh.glob.ext.block⟩,hh.glob.le,hh.glob.new⟩,⟨ay.le.refl H,hw⟩,fun _ _=>rfl⟩
 .unfold UW;exact Nat.le_trans (List.length_filter_le _ _) (by simp)
 .rw[oG fun k x _ _=>Y0 _]at hd;exact(hh.sat.slot t d hd).keep (ay.le.refl H) hw
 .have e:fL (fun j=>(Array.replicate ops.size false).getD j false) 0 es (find st.objs)=find st.objs:=by
   funext o
   exact oh fun k x _ _=>Y0 _
  rw[e];have hb:=hh.sat.ob;refine⟨fun o s t ho=>?_,hb.apart,fun m hm _=>hh.sat.all m (by omega),hb.lt,hb.new,hb.gl.step (fun _ h=>⟨h,rfl⟩)⟩;obtain⟨v,hv,cx⟩:=hb.obj o s t ho;exact⟨v,hv,cx.one,cx.con,cx.ok.heap (ay.le.refl H) hw fun _ _=>rfl,cx.no,cx.lt,cx.use⟩
end
end Go.Proofs.YtmihpkfkbfgigaaGreatDoor
end
