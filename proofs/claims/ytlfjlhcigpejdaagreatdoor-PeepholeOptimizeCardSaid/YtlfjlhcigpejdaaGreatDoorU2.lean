/- Joined texts: Eff Path Effs2 Effs3 Effs4. -/
import Derived.Test.YtlfjlhcigpejdaaGreatDoorU1
section
open _root_.BitVec renaming ofInt->Zz
open _root_.Int renaming tdiv->Yn,tmod->Yl
open _root_.Nat renaming blt->YM,le_refl->Yd
open _root_.Option.some renaming inj->X7
namespace Go.Proofs.YtlfjlhcigpejdaaGreatDoor
open Go Go.RowKit
def bp(P:Program)(ρ:Nat->Value)(o:Oper)(w:World)(Q:Value->World->Prop):Prop:=
 match(execOp (ev ρ) o).run P w with
 | .ok (.value v) w'=>o.dst.isSome/\Q v w'
 | .ok .skip w'=>o.dst=none/\Q undef w'
 | .ok (.enter f args) w'=>Calls P f args w' fun e o6=>∃v,e= .returned v/\Q v o6
 |_=>False
section
variable {P:Program} {n:Nat} {ops:Array Oper} {K:(Nat->Value)->World->Prop} {rest:List Oper} {ρ:Nat->Value} {w:World}
variable {dst:Option Nat} {op:Op} {ty:TypeId} {pos:String} {aft:Array Edge} {Q:Value->World->Prop}
theorem bp.mono{o:Oper}{Q':Value->World->Prop}(h:bp P ρ o w Q)(hq:∀v w',Q v w'->Q' v w'):bp P ρ o w Q':=by
 unfold bp at*;generalize(execOp (ev ρ) o).run P w=r at*
 cases r with
 |halt x w'=>exact h
 |ok x w'=>
  cases x<;>first
   |exact h
   |exact⟨h.1,hq _ _ h.2⟩
   |exact h.mono fun e o6 ⟨v,he,hv⟩=>⟨v,he,hq _ _ hv⟩
theorem bp.val{d:Nat}{v:Value}{w':World}(hr:(execOp (ev ρ) ⟨some d,op,ty,pos,aft,none⟩).run P w= .ok (.value v) w')(h:Q v w'):bp P ρ ⟨some d,op,ty,pos,aft,none⟩ w Q:=by
 unfold bp;rw[hr];exact⟨rfl,h⟩
theorem bp.unit{w':World}(hr:(execOp (ev ρ) ⟨none,op,ty,pos,aft,none⟩).run P w= .ok .skip w')(h:Q undef w'):bp P ρ ⟨none,op,ty,pos,aft,none⟩ w Q:=by
 unfold bp;rw[hr];exact⟨rfl,h⟩
theorem vf(h:bp P ρ ⟨dst,op,ty,pos,aft,none⟩ w Q)(hd:∀d,dst=some d->YM d n=true)
 (hk:∀v w',Q v w'->wpS P n ops K rest (pA ρ dst v) w'):wpS P n ops K (⟨dst,op,ty,pos,aft,none⟩::rest) ρ w:=
 fun QQ a hf DA=>wpList_plain rfl fun K' hK=>by
  unfold Oper.wp;rw[hf.eval];unfold bp at h;generalize(execOp (ev ρ) ⟨dst,op,ty,pos,aft,none⟩).run P w=r at*
  have qg:∀v,Fr n (a.put dst v) (pA ρ dst v):=fun v=>by
   cases dst with
   |none=>exact hf
   |some d=>exact hf.put (hd d rfl) v
  cases r with
  |halt x w'=>exact h.elim
  |ok x w'=>
   cases x<;>first
    |exact h.elim
    |skip
   case value v=>exact hK _ _ (hk v w' h.2 QQ _ (qg v) DA)
   case skip=>exact hK _ _ (hk undef w' h.2 QQ _ (qg undef) DA)
   case enter f args=>
    refine h.mono fun e o6 ⟨v,he,hv⟩=>?_
    subst he;exact hK _ _ (hk v o6 hv QQ _ (qg v) DA)
end
inductive CM where
 |int (k:IntKind)
 |bool
 |str
 |slice (e:TypeId)
 |struct (fs:List (TypeId×Nat))
 |array (n:Nat) (e:TypeId)
 |map (k v:TypeId)
 |ptr (e:TypeId)
 |other
def sr(P:Program)(t:TypeId):CM->Prop
 | .int k=>P.underlying t=some (.int k)
 | .bool=>P.underlying t=some .bool
 | .str=>P.underlying t=some .string
 | .slice e=>P.underlying t=some (.slice e)
 | .struct fs=>∃arr:Array Field,P.underlying t=some (.struct arr)/\arr.toList.map (fun f=>(f.type,f.offset))=fs
 | .array n e=>P.underlying t=some (.array n e)
 | .map k v=>P.underlying t=some (.map k v)
 | .ptr e=>P.underlying t=some (.pointer e)
 | .other=>∃d,P.underlying t=some d/\iY d=false
def DB(P:Program)(t:TypeId)(agg:Bool)(r:Row):Prop:=∃z,(P.info? t).bind (·.zero)=some z/\z=(bif agg then .agg r.dn.toArray else r.dn.headD undef)
def zo(P:Program)(t:TypeId)(name:String)(f:FuncId)(pr:Bool):Prop:=
 ((P.info? t).bind fun i=>i.methods.find? fun m=>m.name==name).map (fun m=>(m.path.toList.length,m.func))=some (0,some (f,pr))
structure aG(P:Program)where
 und:List (Nat×CM)
 row:List (Nat×Row)
 eqs:List (Nat×Row)
 zer:List (Nat×(Bool×Row))
 und_ok:∀t k,find und t=some k->sr P t k
 row_ok:∀t r,find row t=some r->TI P t r
 eqs_ok:∀t r,find eqs t=some r->∃K d,p9 P t r K/\d+K=10000/\P.eqGuardType P.depth t=false/\(P.underlying t).any iY=true
 zer_ok:∀t agg r,find zer t=some (agg,r)->DB P t agg r
 mth:List (TypeId×(String×(FuncId×Bool)))
 mth_ok:∀p∈mth,zo P p.1 p.2.1 p.2.2.1 p.2.2.2
def gQ:CM->Bool
 | .struct _| .array _ _=>true
 |_=>false
theorem sr.agg{P:Program}{t:TypeId}{k:CM}(h:sr P t k):∃d,P.underlying t=some d/\iY d=gQ k:=by
 cases k<;>first
  |exact⟨_,h,rfl⟩
  |(obtain⟨arr,h,_⟩:=h;exact⟨_,h,rfl⟩)
  |exact h
theorem lg{α:Type}{Q:Nat->α->Prop}{l:List (Nat×α)}(h:∀p∈l,Q p.1 p.2):∀t a,find l t=some a->Q t a:=by
 intro t a
 induction l with
 |nil=>intro h';cases h'
 |cons p l ih=>
  obtain⟨m,b⟩:=p;rw[aw];split
  .rename_i e;intro h';obtain rfl:=X7 h';subst e;exact h (m,b) (by simp)
  .exact ih (fun q hq=>h q (by simp[hq]))
def xI:Value->Option aj
 | .int k n=>some (.val false (.leaf (.int k) n))
 | .bool b=>some (.val false (.leaf .bool b))
 | .string s=>some (.val false (.leaf .str s))
 | .slice none 0 0=>some (.val false .nil)
 | .map none=>some (.val false (.leaf (.nul .map) ()))
 | .pointer none=>some (.val false (.leaf (.nul .ptr) ()))
 | .nilFunc=>some (.val false (.leaf (.nul .func) ()))
 | .nilIface=>some .dead
 |_=>none
def CN(ah:List (Nat×aj)):Operand->Option aj
 | .tmp t=>find ah t
 | .const v=>xI v
 | .func f=>some (.fn f [])
 | .global g=>match find zn g with
   |some d=>some (.at d.1 d.2)
   |none=>none
theorem aB.jL{H:ao}{F:Nat->Prop}{w:World}{r:Row}{x:r.den}{v:Value}(h:bH F w r [v] x):aB H F w false (.leaf r x) v:=⟨[v],h,rfl,fun _=>rfl⟩
theorem A4{H:ao}{F:Nat->Prop}{w:World}{v:Value}{d:aj}(h:xI v=some d):ai H F w d v:=by
 unfold xI at h
 split at h<;>first|cases h|skip
 .exact aB.jL rfl
 .exact aB.jL rfl
 .exact aB.jL rfl
 .exact⟨_,rfl,rfl,fun _=>rfl⟩
 .exact aB.jL rfl
 .exact aB.jL rfl
 .exact aB.jL rfl
 .trivial
theorem qh{H:ao}{F:Nat->Prop}{w:World}{ρ:Nat->Value}{ah:List (Nat×aj)}(hg:mQ F w)(h:∀t d,find ah t=some d->ai H F w d (ρ t)):∀x d,CN ah x=some d->ai H F w d (ev ρ x):=by
 intro x d hx
 cases x with
 |tmp t=>exact h t d hx
 |const v=>exact A4 hx
 |global g=>
  have Ix:(match find zn g with|some d=>some (aj.at d.1 d.2)|none=>none)=some d:=hx;split at Ix
  .rename_i q hq;obtain rfl:=X7 Ix;obtain⟨h1,h2⟩:=hg g q hq;exact⟨g,0,rfl,h1,h2⟩
  .cases Ix
 |func f=>obtain rfl:=X7 hx;exact⟨[],rfl,rfl⟩
theorem aB.inv{H:ao}{F:Nat->Prop}{w:World}{r:Row}{x:r.den}{v:Value}(h:aB H F w false (.leaf r x) v):bH F w r [v] x:=by
 obtain⟨cs,h1,_,h3⟩:=h;rw[h3 rfl]at h1;exact h1
theorem aB.int{H:ao}{F:Nat->Prop}{w:World}{k:IntKind}{x:Int}{v:Value}(h:aB H F w false (.leaf (.int k) x) v):v= .int k x:=by
 have:=h.inv;simpa[bH]using this
theorem aB.bool{H:ao}{F:Nat->Prop}{w:World}{x:Bool}{v:Value}(h:aB H F w false (.leaf .bool x) v):v= .bool x:=by
 have:=h.inv;simpa[bH]using this
theorem aB.str{H:ao}{F:Nat->Prop}{w:World}{x:ByteArray}{v:Value}(h:aB H F w false (.leaf .str x) v):v= .string x:=by
 have:=h.inv;simpa[bH]using this
theorem aB.gj(H:ao)(F:Nat->Prop)(w:World)(k:IntKind)(x:Int):aB H F w false (.leaf (.int k) x) (.int k x):=aB.jL rfl
theorem aB.eu(H:ao)(F:Nat->Prop)(w:World)(x:Bool):aB H F w false (.leaf .bool x) (.bool x):=aB.jL rfl
theorem aB.mkStr(H:ao)(F:Nat->Prop)(w:World)(x:ByteArray):aB H F w false (.leaf .str x) (.string x):=aB.jL rfl
abbrev ja(k:IntKind)(x:Int):aj:= .val false (.leaf (.int k) x)
abbrev cJ(x:Bool):aj:= .val false (.leaf .bool x)
abbrev Nl(x:ByteArray):aj:= .val false (.leaf .str x)
def asInt:aj->Option (IntKind×Int)
 | .val false (.leaf (.int k) x)=>some (k,x)
 |_=>none
def asBool:aj->Option Bool
 | .val false (.leaf .bool x)=>some x
 |_=>none
def vg:aj->Option ByteArray
 | .val false (.leaf .str x)=>some x
 |_=>none
section
variable {P:Program} {ρ:Nat->Value} {w w':World} {H H':ao} {F F':Nat->Prop} {U:Nat->Prop} {ob:Nat->Option (Nat×Th)} {n:Nat} {R:Type}
variable {dst:Option Nat} {op:Op} {ty:TypeId} {pos:String} {aft:Array Edge} {d:Nat}
theorem ff{D:aj}{k:IntKind}{x:Int}{v:Value}(h:asInt D=some (k,x))(hd:ai H F w D v):v= .int k x:=by
 unfold asInt at h
 split at h<;>cases h
 exact aB.int hd
theorem jM{D:aj}{x:Bool}{v:Value}(h:asBool D=some x)(hd:ai H F w D v):v= .bool x:=by
 unfold asBool at h
 split at h<;>cases h
 exact aB.bool hd
theorem qi{D:aj}{x:ByteArray}{v:Value}(h:vg D=some x)(hd:ai H F w D v):v= .string x:=by
 unfold vg at h
 split at h<;>cases h
 exact aB.str hd
def bJ(P:Program)(_U:Nat->Prop)(H:ao)(F:Nat->Prop)(w:World)(ρ:Nat->Value)(ob:Nat->Option (Nat×Th))(n:Nat)(o:Oper)(e:cU):Prop:=
 bp P ρ o w (gV H F w ob n e)
theorem FD.refl{g:Nat->Prop}(hF:∀b,F b->b<w.heap.size):FD H F w H F w g:=⟨ao.le.refl H,⟨rfl,rfl,rfl,Yd _,fun _ _ _=>rfl⟩,fun _ h=>h,fun _ h=> .inl h,hF⟩
theorem Made.nil{g:Nat->Prop}:Made H' F' w w' g []:=⟨fun _ _ _ h=>(by cases h),fun _ _ _ _ _ _ _ _ _ h=>(by cases h)⟩
theorem iZ.pure(hs:aq U H F w ob n){D:aj}{v:Value}(h:ai H F w D v):gV H F w ob n {dst:=D} v w:=
 ⟨H,F,FD.refl hs.lt,fun m hm=>⟨id,id⟩,h,Made.nil,fun o h=>by cases h⟩
theorem aU(hs:aq U H F w ob n){D:aj}{v:Value}(hr:(execOp (ev ρ) ⟨some d,op,ty,pos,aft,none⟩).run P w= .ok (.value v) w)(h:ai H F w D v):bJ P U H F w ρ ob n ⟨some d,op,ty,pos,aft,none⟩ {dst:=D}:=
 bp.val hr (iZ.pure hs h)
theorem aA(hs:aq U H F w ob n){D:aj}{v:Value}(hr:Pure P ρ ⟨some d,op,ty,pos,aft,none⟩ v)(h:ai H F w D v):bJ P U H F w ρ ob n ⟨some d,op,ty,pos,aft,none⟩ {dst:=D}:=
 aU hs (hr w) h
def cZ(o:BinOp)(k:IntKind)(a b:Int):Int:=
 match o with
 | .and=>k.wrap (Zz k.bits a&&& Zz k.bits b).toNat
 | .or=>k.wrap (Zz k.bits a|||Zz k.bits b).toNat
 | .xor=>k.wrap (Zz k.bits a ^^^ Zz k.bits b).toNat
 |_=>k.wrap (Zz k.bits a&&& ~~~Zz k.bits b).toNat
def pB(k:IntKind)(a b:Int):Int:=k.wrap (a*2 ^ min b.toNat k.bits)
def ef(k:IntKind)(a b:Int):Int:=a.fdiv (2 ^ min b.toNat k.bits)
def xJ(k:IntKind)(a b:Int):Option Int:=if b<0 then none else some (pB k a b)
def vh(k:IntKind)(a b:Int):Option Int:=if b<0 then none else some (ef k a b)
def arith:BinOp->IntKind->Int->Int->Option aj
 | .add,k,a,b=>some (ja k (k.wrap (a+b)))
 | .sub,k,a,b=>some (ja k (k.wrap (a-b)))
 | .mul,k,a,b=>some (ja k (k.wrap (a*b)))
 | .lss,_,a,b=>some (cJ (decide (a<b)))
 | .leq,_,a,b=>some (cJ (decide (a<=b)))
 | .gtr,_,a,b=>some (cJ (decide (b<a)))
 | .geq,_,a,b=>some (cJ (decide (b<=a)))
 | .eql,_,a,b=>some (cJ (decide (a=b)))
 | .neq,_,a,b=>some (cJ (!decide (a=b)))
 | .and,k,a,b=>some (ja k (cZ .and k a b))
 | .or,k,a,b=>some (ja k (cZ .or k a b))
 | .xor,k,a,b=>some (ja k (cZ .xor k a b))
 | .andNot,k,a,b=>some (ja k (cZ .andNot k a b))
 |_,_,_,_=>none
theorem pure_and{k:IntKind}{a b:Int}{t u:TypeId}{x y:Operand}(hx:ev ρ x= .int k a)(hy:ev ρ y= .int k b):Pure P ρ ⟨some d, .binOp .and t x y u,ty,pos,aft,none⟩ (.int k (cZ .and k a b)):=fun w=>by simp[execOp,hx,hy,binOp,Op.intBits,eqGuard,cZ,go_sem]
theorem pure_or{k:IntKind}{a b:Int}{t u:TypeId}{x y:Operand}(hx:ev ρ x= .int k a)(hy:ev ρ y= .int k b):Pure P ρ ⟨some d, .binOp .or t x y u,ty,pos,aft,none⟩ (.int k (cZ .or k a b)):=fun w=>by simp[execOp,hx,hy,binOp,Op.intBits,eqGuard,cZ,go_sem]
theorem DC{k:IntKind}{a b:Int}{t u:TypeId}{x y:Operand}(hx:ev ρ x= .int k a)(hy:ev ρ y= .int k b):Pure P ρ ⟨some d, .binOp .xor t x y u,ty,pos,aft,none⟩ (.int k (cZ .xor k a b)):=fun w=>by simp[execOp,hx,hy,binOp,Op.intBits,eqGuard,cZ,go_sem]
theorem vi{k:IntKind}{a b:Int}{t u:TypeId}{x y:Operand}(hx:ev ρ x= .int k a)(hy:ev ρ y= .int k b):Pure P ρ ⟨some d, .binOp .andNot t x y u,ty,pos,aft,none⟩ (.int k (cZ .andNot k a b)):=fun w=>by simp[execOp,hx,hy,binOp,Op.intBits,eqGuard,cZ,go_sem]
theorem vj{k k':IntKind}{a b:Int}{t u:TypeId}{x y:Operand}(hx:ev ρ x= .int k a)(hy:ev ρ y= .int k' b)(hb:¬b<0):Pure P ρ ⟨some d, .binOp .shl t x y u,ty,pos,aft,none⟩ (.int k (pB k a b)):=fun w=>by simp[execOp,hx,hy,binOp,Op.shift,eqGuard,pB,hb,go_sem]
theorem vl{k k':IntKind}{a b:Int}{t u:TypeId}{x y:Operand}(hx:ev ρ x= .int k a)(hy:ev ρ y= .int k' b)(hb:¬b<0):Pure P ρ ⟨some d, .binOp .shr t x y u,ty,pos,aft,none⟩ (.int k (ef k a b)):=fun w=>by simp[execOp,hx,hy,binOp,Op.shift,eqGuard,ef,hb,go_sem]
theorem DD{o:BinOp}{k:IntKind}{a b:Int}{D:aj}{t u:TypeId}{x y:Operand}(h:arith o k a b=some D)(hs:aq U H F w ob n)(hx:ev ρ x= .int k a)(hy:ev ρ y= .int k b):
 bJ P U H F w ρ ob n ⟨some d, .binOp o t x y u,ty,pos,aft,none⟩ {dst:=D}:=by
 unfold arith at h
 split at h<;>cases h
 .exact aA hs (C8 hx hy) (aB.gj ..)
 .exact aA hs (C9 hx hy) (aB.gj ..)
 .exact aA hs (Da hx hy) (aB.gj ..)
 .exact aA hs (Dd hx hy) (aB.eu ..)
 .exact aA hs (De hx hy) (aB.eu ..)
 .exact aA hs (Df hx hy) (aB.eu ..)
 .exact aA hs (Dg hx hy) (aB.eu ..)
 .exact aA hs (Dh hx hy) (aB.eu ..)
 .exact aA hs (Di hx hy) (aB.eu ..)
 .exact aA hs (pure_and hx hy) (aB.gj ..)
 .exact aA hs (pure_or hx hy) (aB.gj ..)
 .exact aA hs (DC hx hy) (aB.gj ..)
 .exact aA hs (vi hx hy) (aB.gj ..)
def gR(a b:Int):Option Int:=if b=0 then none else some (Yn a b)
def li(a b:Int):Option Int:=if b=0 then none else some (Yl a b)
def Kn:Operand->Bool
 | .const _=>true
 |_=>false
theorem DE{k:IntKind}{a b:Int}{t u:TypeId}{x y:Operand}(hb:b≠0)(hs:aq U H F w ob n)(hx:ev ρ x= .int k a)(hy:ev ρ y= .int k b):
 bJ P U H F w ρ ob n ⟨some d, .binOp .quo t x y u,ty,pos,aft,none⟩ {dst:=ja k (k.wrap (Yn a b))}:=
 aA hs (Db hx hy hb) (aB.gj ..)
theorem DF{k:IntKind}{a b:Int}{t u:TypeId}{x y:Operand}(hb:b≠0)(hs:aq U H F w ob n)(hx:ev ρ x= .int k a)(hy:ev ρ y= .int k b):
 bJ P U H F w ρ ob n ⟨some d, .binOp .rem t x y u,ty,pos,aft,none⟩ {dst:=ja k (Yl a b)}:=
 aA hs (Dc hx hy hb) (aB.gj ..)
end
end Go.Proofs.YtlfjlhcigpejdaaGreatDoor
end
section
open _root_.Bool renaming and_eq_true->Y5
open _root_.List renaming append_assoc->Yy,drop_append_of_le_length->YV,drop_of_length_le->YZ,length_append->Yr,take_length->YU
open _root_.Nat renaming beq->Yb,eq_of_beq_eq_true->YR,zero_add->Yw
open _root_.Option.some renaming inj->X7,injEq->Ye
open _root_.Prod.mk renaming inj->Zm,injEq->YW
namespace Go.Proofs.YtlfjlhcigpejdaaGreatDoor
open Go Go.RowKit
def Tree.split:Tree->Option (Tree×Tree)
 | .leaf (.pair a b) x=>some (.leaf a x.1, .leaf b x.2)
 | .pair a b=>some (a,b)
 |_=>none
def Tree.get:Tree->List Bool->Option (Tree×Nat)
 |t,[]=>some (t,0)
 |t,d::p=>match t.split with
  |none=>none
  |some (a,b)=>match d with
   |false=>Tree.get a p
   |true=>match Tree.get b p with
    |none=>none
    |some (s,off)=>some (s,a.size+off)
def Tree.put:Tree->List Bool->Tree->Option Tree
 |_,[],u=>some u
 |t,d::p,u=>match t.split with
  |none=>none
  |some (a,b)=>match d with
   |false=>match Tree.put a p u with
    |none=>none
    |some a'=>some (.pair a' b)
   |true=>match Tree.put b p u with
    |none=>none
    |some b'=>some (.pair a b')
def nu:Nat->Nat->List Bool
 |0,_=>[]
 |1,_=>[]
 |_+2,0=>[false]
 |m+2,f+1=>true::nu (m+1) f
section
variable {H:ao} {F:Nat->Prop} {w:World}
theorem bi.split{t a b:Tree}{cs:List Value}(hs:t.split=some (a,b))(h:bi H F w t cs):∃c1 c2,cs=c1++c2/\bi H F w a c1/\bi H F w b c2/\t.size=a.size+b.size:=by
 unfold Tree.split at hs
 split at hs<;>cases hs
 .obtain⟨c1,c2,e,h1,h2⟩:=h;exact⟨c1,c2,e,h1,h2,rfl⟩
 .obtain⟨c1,c2,e,h1,h2⟩:=h;exact⟨c1,c2,e,h1,h2,rfl⟩
theorem bi.get:{p:List Bool}->{t s:Tree}->{off:Nat}->{cs:List Value}->t.get p=some (s,off)->bi H F w t cs->bi H F w s ((cs.drop off).take s.size)/\off+s.size<=cs.length
 |[],t,s,off,cs,hg,h=>by
  obtain⟨rfl,rfl⟩:=Zm (X7 hg);have hl:=h.length;refine⟨?_,by omega⟩;rw[List.drop_zero,<-hl,YU];exact h
 |d::p,t,s,off,cs,hg,h=>by
  unfold Tree.get at hg
  cases rL:t.split with
  |none=>rw[rL]at hg;cases hg
  |some ab=>
   obtain⟨a,b⟩:=ab;rw[rL]at hg;obtain⟨c1,c2,rfl,h1,h2,_⟩:=h.split rL;have CO:=h1.length
   cases d with
   |false=>
    obtain⟨g1,g2⟩:=bi.get hg h1;refine⟨?_,by rw[Yr];omega⟩;rw[YV (by omega),List.take_append_of_le_length (by rw[List.length_drop];omega)];exact g1
   |true=>
    cases hb:b.get p with
    |none=>simp only[hb]at hg;cases hg
    |some so=>
     obtain⟨s',cF⟩:=so;simp only[hb,Ye,YW]at hg;obtain⟨rfl,rfl⟩:=hg;obtain⟨g1,g2⟩:=bi.get hb h2;refine⟨?_,by rw[Yr];omega⟩;rw[<-CO,List.drop_append,YZ (by omega),List.nil_append,show c1.length+cF-c1.length=cF from by omega];exact g1
theorem bi.put{u:Tree}{vs:List Value}(hu:bi H F w u vs):{p:List Bool}->{t s t':Tree}->{off:Nat}->{cs:List Value}->t.get p=some (s,off)->t.put p u=some t'->s.size=u.size->bi H F w t cs->
 bi H F w t' (cs.take off++vs++cs.drop (off+u.size))
 |[],t,s,t',off,cs,hg,hp,hz,h=>by
  obtain⟨rfl,rfl⟩:=Zm (X7 hg);obtain rfl:=X7 hp;have hl:=h.length;rw[List.take_zero,List.nil_append,Yw,YZ (by omega),List.append_nil];exact hu
 |d::p,t,s,t',off,cs,hg,hp,hz,h=>by
  unfold Tree.get at hg;unfold Tree.put at hp
  cases rL:t.split with
  |none=>rw[rL]at hg;cases hg
  |some ab=>
   obtain⟨a,b⟩:=ab;rw[rL]at hg hp;obtain⟨c1,c2,rfl,h1,h2,_⟩:=h.split rL;have CO:=h1.length
   cases d with
   |false=>
    cases hq:a.put p u with
    |none=>simp only[hq]at hp;cases hp
    |some a'=>
     simp only[hq,Ye]at hp;subst hp;have h3:=bi.put hu hg hq hz h1;have g2:=(bi.get hg h1).2;refine⟨_,c2,?_,h3,h2⟩;rw[List.take_append_of_le_length (by omega),YV (by omega)];simp[Yy]
   |true=>
    cases hb:b.get p with
    |none=>simp only[hb]at hg;cases hg
    |some so=>
     obtain⟨s',cF⟩:=so;simp only[hb,Ye,YW]at hg;obtain⟨rfl,rfl⟩:=hg
     cases hq:b.put p u with
     |none=>simp only[hq]at hp;cases hp
     |some b'=>
      simp only[hq,Ye]at hp;subst hp;have h3:=bi.put hu hb hq hz h2;refine⟨c1,_,?_,h1,h3⟩
      rw[<-CO,List.take_append,List.take_of_length_le (by omega),List.drop_append,YZ (by omega),show c1.length+cF-c1.length=cF from by omega,
       show c1.length+cF+u.size-c1.length=cF+u.size from by omega]
      simp[Yy]
end
def CI.beq:CI->CI->Bool
 | .map, .map=>true
 | .ptr, .ptr=>true
 | .func, .func=>true
 |_,_=>false
theorem CI.eq_of_beq{a b:CI}(h:a.beq b=true):a=b:=by cases a<;>cases b<;>first|rfl|cases h
def Row.beq:Row->Row->Bool
 | .int k, .int k'=>decide (k=k')
 | .bool, .bool=>true
 | .str, .str=>true
 | .gU, .gU=>true
 | .nul a, .nul b=>a.beq b
 | .map a x b, .map c y d=>a.beq c&&(bif x then y else !y)&&b.beq d
 | .slice a, .slice b=>a.beq b
 | .pair a b, .pair c d=>a.beq c&&b.beq d
 |_,_=>false
theorem Row.eq_of_beq:{r s:Row}->r.beq s=true->r=s
 | .int k, .int k',h=>by rw[of_decide_eq_true (show decide (k=k')=true from h)]
 | .bool, .bool,_=>rfl
 | .str, .str,_=>rfl
 | .gU, .gU,_=>rfl
 | .nul a, .nul b,h=>by rw[CI.eq_of_beq (show a.beq b=true from h)]
 | .map a x b, .map c y d,h=>by
   have h':(a.beq c&&(bif x then y else !y)&&b.beq d)=true:=h;rw[Y5,Y5]at h'
   have FC:x=y:=by cases x<;>cases y<;>simp_all
   rw[Row.eq_of_beq h'.1.1,Row.eq_of_beq h'.2,FC]
 | .slice a, .slice b,h=>by rw[Row.eq_of_beq (show a.beq b=true from h)]
 | .pair a b, .pair c d,h=>by
   have h':(a.beq c&&b.beq d)=true:=h;rw[Y5]at h';rw[Row.eq_of_beq h'.1,Row.eq_of_beq h'.2]
def fK{r s:Row}(h:r=s)(x:r.den):s.den:=h▸x
theorem Row.beq_refl:(r:Row)->r.beq r=true
 | .int k=>by simp[Row.beq]
 | .bool=>rfl
 | .str=>rfl
 | .gU=>rfl
 | .nul a=>by cases a<;>rfl
 | .map a x b=>by
   show(a.beq a&&(bif x then x else !x)&&b.beq b)=true
   rw[Row.beq_refl a,Row.beq_refl b]
   cases x<;>rfl
 | .slice a=>Row.beq_refl a
 | .pair a b=>by
   show(a.beq a&&b.beq b)=true
   rw[Row.beq_refl a,Row.beq_refl b];rfl
def DR.beq:DR->DR->Bool
 | .leaf r, .leaf s=>r.beq s
 | .sl T d, .sl T' d'=>Yb T T'&&d.beq d'
 | .pair a b, .pair c d=>a.beq c&&b.beq d
 |_,_=>false
theorem DR.eq_of_beq:{d e:DR}->d.beq e=true->d=e
 | .leaf r, .leaf s,h=>by rw[Row.eq_of_beq (show r.beq s=true from h)]
 | .sl T d, .sl T' d',h=>by
   obtain⟨h1,h2⟩:=(Y5 _ _▸(show(Yb T T'&&d.beq d')=true from h):Yb T T'=true/\d.beq d'=true)
   rw[YR h1,DR.eq_of_beq h2]
 | .pair a b, .pair c d,h=>by
   obtain⟨h1,h2⟩:=(Y5 _ _▸(show(a.beq c&&b.beq d)=true from h):a.beq c=true/\b.beq d=true)
   rw[DR.eq_of_beq h1,DR.eq_of_beq h2]
 | .leaf _, .sl ..,h=>by cases h
 | .leaf _, .pair ..,h=>by cases h
 | .sl .., .leaf _,h=>by cases h
 | .sl .., .pair ..,h=>by cases h
 | .pair .., .leaf _,h=>by cases h
 | .pair .., .sl ..,h=>by cases h
theorem DR.beq_refl:(d:DR)->d.beq d=true
 | .leaf r=>Row.beq_refl r
 | .sl T d=>by show(Yb T T&&d.beq d)=true;rw[DR.beq_refl d,Bool.and_true];exact Nat.beq_refl T
 | .pair a b=>by show(a.beq a&&b.beq b)=true;rw[DR.beq_refl a,DR.beq_refl b];rfl
def kA:List Bool->List Bool->Bool
 |[],[]=>true
 |a::p,b::q=>(bif a then b else !b)&&kA p q
 |_,_=>false
theorem mR:{p q:List Bool}->kA p q=true->p=q
 |[],[],_=>rfl
 |a::p,b::q,h=>by
  have h':((bif a then b else !b)&&kA p q)=true:=h;rw[Y5]at h';rw[mR h'.2];have:=h'.1
  cases a<;>cases b<;>simp_all
 |[],_::_,h=>by cases h
 |_::_,[],h=>by cases h
def flat(ob:Nat->Option (Nat×Th)):(r:Row)->Tree->Option r.den
 |r, .leaf s x=>if h:s.beq r=true then some (fK (Row.eq_of_beq h) x)else none
 | .slice e, .own o=>match ob o with
   |some (_, .oe _ s l)=>if h:s.beq e=true then some (fK (r:= .slice s) (s:= .slice e) (congrArg Row.slice (Row.eq_of_beq h)) l)else none
   |some (_, .fdeep _ d l)=>if h:d.row.beq e=true then some (fK (r:= .slice d.row) (s:= .slice e) (congrArg Row.slice (Row.eq_of_beq h)) l)else none
   |_=>none
 | .slice _, .nil=>some []
 | .map K agg V, .own o=>match ob o with
   |some (_, .fmap _ K' ix V' l)=>if h:(Row.map K' ix V').beq (.map K agg V)=true then some (fK (Row.eq_of_beq h) l)else none
   |some (_, .fdmap _ K' _ r' l)=>if h:(Row.map K' false (.slice r')).beq (.map K agg V)=true then some (fK (r:= .map K' false (.slice r')) (Row.eq_of_beq h) l)else none
   |_=>none
 | .slice e, .view o s r m=>match ob o with
   |some (s', .oe ..)=>bif Yb s' s then(if h:r.beq e=true then some (fK (r:= .slice r) (s:= .slice e) (congrArg Row.slice (Row.eq_of_beq h)) m)else none)else none
   |_=>none
 | .pair a b, .pair t u=>match flat ob a t with
   |none=>none
   |some x=>match flat ob b u with
    |none=>none
    |some y=>some (x,y)
 |_,_=>none
section
variable {U:Nat->Prop} {H:ao} {F:Nat->Prop} {w:World} {ob:Nat->Option (Nat×Th)} {n:Nat}
theorem su(hs:aq U H F w ob n){o s:Nat}{T:TypeId}{r0 r:Row}{l0:List r0.den}{m:List r.den}{v:Value}(ho:ob o=some (s, .oe T r0 l0))(h:iH H o s r m v):bH F w (.slice r) [v] m:=by
 obtain⟨A,cap,T',l,a,b,h1,h2,h3,h4,rfl,rfl⟩:=h;obtain⟨v',cy,bO⟩:=hs.obj _ _ _ ho;rw[h1]at cy;obtain rfl:=X7 cy;have e:=bO.con;rw[h2]at e;simp only[Th.base,Ye,Th.own.injEq]at e;obtain⟨rfl,rfl,e⟩:=e;obtain rfl:=eq_of_heq e;exact bH.cut bO.ok h3 h4
theorem fA(hs:aq U H F w ob n):{r:Row}->{t:Tree}->{x:r.den}->{cs:List Value}->flat ob r t=some x->bi H F w t cs->bH F w r cs x
 |r, .leaf s x0,x,cs,hf,h=>by
  unfold flat at hf;split at hf
  .rename_i e;obtain rfl:=Row.eq_of_beq e;obtain rfl:=X7 hf;exact h
  .cases hf
 | .slice e, .own o,x,cs,hf,h=>by
   unfold flat at hf;split at hf
   .rename_i s0 T s l rO;split at hf
    .rename_i e;obtain rfl:=Row.eq_of_beq e;obtain rfl:=X7 hf;obtain⟨v,hv,_,rfl⟩:=h;obtain⟨v',cy,bO⟩:=hs.obj _ _ _ rO;rw[hv]at cy;obtain rfl:=X7 cy;exact bO.ok
    .cases hf
   .rename_i s0 T d l rO;split at hf
    .rename_i e;obtain rfl:=Row.eq_of_beq e;obtain rfl:=X7 hf;obtain⟨v,hv,_,rfl⟩:=h;obtain⟨v',cy,bO⟩:=hs.obj _ _ _ rO;rw[hv]at cy;obtain rfl:=X7 cy;exact bO.ok
    .cases hf
   .cases hf
 | .map K agg V, .own o,x,cs,hf,h=>by
   unfold flat at hf;split at hf
   .rename_i s0 T K' ix V' l rO;split at hf
    .rename_i e;cases Row.eq_of_beq e;obtain rfl:=X7 hf;obtain⟨v,hv,_,rfl⟩:=h;obtain⟨v',cy,bO⟩:=hs.obj _ _ _ rO;rw[hv]at cy;obtain rfl:=X7 cy;exact bO.ok
    .cases hf
   .rename_i s0 T K' E r' l rO;split at hf
    .rename_i e;cases Row.eq_of_beq e;obtain rfl:=X7 hf;obtain⟨v,hv,_,rfl⟩:=h;obtain⟨v',cy,bO⟩:=hs.obj _ _ _ rO;rw[hv]at cy;obtain rfl:=X7 cy;exact bO.ok
    .cases hf
   .cases hf
 | .slice e, .nil,x,cs,hf,h=>by
   unfold flat at hf;obtain rfl:=X7 hf;rw[show cs=_ from h];exact bH.nil F w e
 | .slice e, .view o s r m,x,cs,hf,h=>by
   unfold flat at hf;split at hf
   .rename_i s' T r' l' rO
    cases hb:Yb s' s with
    |false=>rw[hb]at hf;cases hf
    |true=>
     rw[hb,cond_true]at hf;obtain rfl:=YR hb;split at hf
     .rename_i e;obtain rfl:=Row.eq_of_beq e;obtain rfl:=X7 hf;obtain⟨v,rfl,h⟩:=h;exact su hs rO h
     .cases hf
   .cases hf
 | .pair a b, .pair t u,x,cs,hf,h=>by
   obtain⟨c1,c2,rfl,h1,h2⟩:=h;unfold flat at hf
   cases ha:flat ob a t with
   |none=>simp only[ha]at hf;cases hf
   |some p=>
    cases hb:flat ob b u with
    |none=>simp only[ha,hb]at hf;cases hf
    |some q=>
     simp only[ha,hb,Ye]at hf;subst hf;exact⟨c1,c2,rfl,fA hs ha h1,fA hs hb h2⟩
 | .int _, .own _,_,_,hf,_=>by unfold flat at hf;cases hf
 | .bool, .own _,_,_,hf,_=>by unfold flat at hf;cases hf
 | .str, .own _,_,_,hf,_=>by unfold flat at hf;cases hf
 | .gU, .own _,_,_,hf,_=>by unfold flat at hf;cases hf
 | .nul _, .own _,_,_,hf,_=>by unfold flat at hf;cases hf
 | .pair _ _, .own _,_,_,hf,_=>by unfold flat at hf;cases hf
 | .int _, .nil,_,_,hf,_=>by unfold flat at hf;cases hf
 | .bool, .nil,_,_,hf,_=>by unfold flat at hf;cases hf
 | .str, .nil,_,_,hf,_=>by unfold flat at hf;cases hf
 | .gU, .nil,_,_,hf,_=>by unfold flat at hf;cases hf
 | .nul _, .nil,_,_,hf,_=>by unfold flat at hf;cases hf
 | .map .., .nil,_,_,hf,_=>by unfold flat at hf;cases hf
 | .pair _ _, .nil,_,_,hf,_=>by unfold flat at hf;cases hf
 | .int _, .view ..,_,_,hf,_=>by unfold flat at hf;cases hf
 | .bool, .view ..,_,_,hf,_=>by unfold flat at hf;cases hf
 | .str, .view ..,_,_,hf,_=>by unfold flat at hf;cases hf
 | .gU, .view ..,_,_,hf,_=>by unfold flat at hf;cases hf
 | .nul _, .view ..,_,_,hf,_=>by unfold flat at hf;cases hf
 | .map .., .view ..,_,_,hf,_=>by unfold flat at hf;cases hf
 | .pair _ _, .view ..,_,_,hf,_=>by unfold flat at hf;cases hf
 | .int _, .junk _,_,_,hf,_=>by unfold flat at hf;cases hf
 | .bool, .junk _,_,_,hf,_=>by unfold flat at hf;cases hf
 | .str, .junk _,_,_,hf,_=>by unfold flat at hf;cases hf
 | .slice _, .junk _,_,_,hf,_=>by unfold flat at hf;cases hf
 | .gU, .junk _,_,_,hf,_=>by unfold flat at hf;cases hf
 | .nul _, .junk _,_,_,hf,_=>by unfold flat at hf;cases hf
 | .map .., .junk _,_,_,hf,_=>by unfold flat at hf;cases hf
 | .pair _ _, .junk _,_,_,hf,_=>by unfold flat at hf;cases hf
 | .int _, .pair _ _,_,_,hf,_=>by unfold flat at hf;cases hf
 | .bool, .pair _ _,_,_,hf,_=>by unfold flat at hf;cases hf
 | .str, .pair _ _,_,_,hf,_=>by unfold flat at hf;cases hf
 | .gU, .pair _ _,_,_,hf,_=>by unfold flat at hf;cases hf
 | .nul _, .pair _ _,_,_,hf,_=>by unfold flat at hf;cases hf
 | .map .., .pair _ _,_,_,hf,_=>by unfold flat at hf;cases hf
 | .slice _, .pair _ _,_,_,hf,_=>by unfold flat at hf;cases hf
end
def Row.vm:Row->Tree
 | .slice _=> .nil
 | .pair a b=> .pair a.vm b.vm
 |r=> .leaf r r.zero
theorem Row.jt(H:ao)(F:Nat->Prop)(w:World):(r:Row)->bi H F w r.vm r.dn
 | .int _=>rfl
 | .bool=>rfl
 | .str=>rfl
 | .slice _=>rfl
 | .gU=>⟨rfl,none,0,0,rfl⟩
 | .nul _=>rfl
 | .map .. =>⟨_,rfl, .inl ⟨rfl,rfl⟩⟩
 | .pair a b=>⟨_,_,rfl,Row.jt H F w a,Row.jt H F w b⟩
end Go.Proofs.YtlfjlhcigpejdaaGreatDoor
end
section
open _root_.Go.Addr.mk renaming injEq->Zr
open _root_.Array renaming toArray_toList->YH
open _root_.Int renaming toNat_natCast->Yg
open _root_.List renaming getElem?_drop->Yo,getElem?_map->Zj,getElem?_take->Yz
open _root_.Nat renaming add_mul->Yt,add_zero->Y0,beq->Yb,blt->YM,eq_of_beq_eq_true->YR,le_refl->Yd,lt_of_lt_of_le->YK
open _root_.Option renaming isSome_iff_exists->YA
open _root_.Option.some renaming inj->X7,injEq->Ye
open _root_.Prod.mk renaming inj->Zm,injEq->YW
open _root_.Go.Value renaming oneCell'->Zg
open _root_.Go.Value.pointer renaming injEq->ZD
namespace Go.Proofs.YtlfjlhcigpejdaaGreatDoor
open Go Go.RowKit
section
variable {P:Program} {ρ:Nat->Value} {w w':World} {H H':ao} {F F':Nat->Prop} {U:Nat->Prop} {ob:Nat->Option (Nat×Th)} {n:Nat} {R:Type}
variable {op:Op} {ty:TypeId} {pos:String} {aft:Array Edge} {d:Nat}
theorem aq.box(hs:aq U H F w ob n){o s:Nat}{T:TypeId}{t:Tree}(ho:ob o=some (s, .box T t)){b:Nat}(hb:H.val o=some (.pointer (some ⟨b,0,none⟩))):
 ∃es,w.heap[b]? =some (.cells es.toArray T (0,0))/\bi H F w t es:=by
 obtain⟨v,hv,hi⟩:=hs.obj _ _ _ ho;rw[hb]at hv;obtain rfl:=X7 hv;obtain⟨b',es,e,h1,h2⟩:=hi.ok;simp only[ZD,Ye,Zr,and_true]at e;subst e;exact⟨es,h1,h2⟩
theorem aq.own(hs:aq U H F w ob n){o s:Nat}{T:TypeId}{r:Row}{l:List r.den}(ho:ob o=some (s, .own T r l)){v:Value}(hv:H.val o=some v):gY 0 F w T r v l:=by
 obtain⟨v',cy,hi⟩:=hs.obj _ _ _ ho;rw[hv]at cy;obtain rfl:=X7 cy;exact⟨hi.no,hi.ok⟩
theorem vn{fs:List (TypeId×Nat)}{arr:Array Field}(ha:arr.toList.map (fun f=>(f.type,f.offset))=fs){f:Nat}{ft:TypeId}{off:Nat}(hf:fs[f]? =some (ft,off)):∃fd,arr[f]? =some fd/\fd.type=ft/\fd.offset=off:=by
 subst ha;rw[Zj]at hf
 cases hq:arr.toList[f]? with
 |none=>rw[hq]at hf;cases hf
 |some fd=>
  rw[hq]at hf;simp only[Option.map_some,Ye,YW]at hf;exact⟨fd,by rw[<-Array.getElem?_toList];exact hq,hf.1,hf.2⟩
def sub(r:Row)(x:r.den)(p:List Bool):Option ((s:Row)×s.den×Nat):=
 match Tree.get (.leaf r x) p with
 |some (.leaf s y,off)=>some ⟨s,y,off⟩
 |_=>none
theorem xK{r s:Row}{x:r.den}{y:s.den}{p:List Bool}{off b k:Nat}(h:sub r x p=some ⟨s,y,off⟩)(ha:At F w r b k x):At F w s b (k+off) y:=by
 unfold sub at h;split at h
 .rename_i s' y' cF hg;simp only[Ye,Sigma.mk.injEq]at h;obtain⟨rfl,h⟩:=h;obtain⟨rfl,rfl⟩:=Zm (eq_of_heq h);obtain⟨es,hl,hc,hr⟩:=ha;obtain⟨g1,g2⟩:=bi.get (H:=⟨fun _=>none,fun _=>none,fun _ _=>False⟩) (F:=F) (w:=w) (cs:=es) hg hr;have Nm:bH F w s' ((es.drop cF).take s'.size) y':=g1;refine⟨_,Nm.length,fun j u hu=>?_,Nm⟩;rw[Yz]at hu;split at hu
  .rw[Yo]at hu;rw[Nat.add_assoc];exact hc _ u hu
  .cases hu
 .cases h
def xL(T:aG P)(t:TypeId)(f:Nat)(D:aj):Option aj:=
 match find T.und t with
 |some (.struct fs)=>match fs[f]? with
  |some (ft,off)=>match find T.row ft with
   |some _=>match D with
    | .ptr o p k=>some (.ptr o (p++nu fs.length f) (k+off))
    | .at r x=>match sub r x (nu fs.length f)with
      |some ⟨s,y,cF⟩=>bif Yb cF off then some (.at s y)else none
      |none=>none
    | .elem o s r i x p k=>some (.elem o s r i x (p++nu fs.length f) (k+off))
    | .dlm o d i p k=>some (.dlm o d i (p++nu fs.length f) (k+off))
    |_=>none
   |none=>none
  |none=>none
 |_=>none
theorem beq_true{m k:Nat}(h:Yb m k=true):m=k:=YR h
theorem jb{α:Type}{b:Bool}{x:α}{y:α}(h:(bif b then some x else none)=some y):b=true/\x=y:=by
 cases b with
 |true=>exact⟨rfl,X7 h⟩
 |false=>cases h
theorem A5(T:aG P){t:TypeId}{f:Nat}{D D':aj}{x:Operand}(h:xL T t f D=some D')(hs:aq U H F w ob n)(hx:ai H F w D (ev ρ x)):
 bJ P U H F w ρ ob n ⟨some d, .fieldAddr t x f,ty,pos,aft,none⟩ {dst:=D'}:=by
 unfold xL at h;split at h
 case h_2=>cases h
 rename_i fs hu;obtain⟨arr,tH,Ga⟩:=T.und_ok _ _ hu;split at h
 case h_2=>cases h
 rename_i ft off hf;obtain⟨fd,JR,rfl,rfl⟩:=vn Ga hf;split at h
 case h_2=>cases h
 rename_i r' pC;have lj:=T.row_ok _ _ pC;split at h
 .obtain rfl:=X7 h;obtain⟨b,h1,h2⟩:=hx;exact aA hs (jo (r:=r') fd.offset tH JR lj rfl h2) ⟨b,h1,rfl⟩
 .split at h
  .rename_i s y cF ee;obtain⟨h1,rfl⟩:=jb h;obtain rfl:=beq_true h1;obtain⟨b,k,h2,h3,h4⟩:=hx;exact aA hs (jo (r:=r') fd.offset tH JR lj rfl h2) ⟨b,_,rfl,h3,xK ee h4⟩
  .cases h
 .obtain rfl:=X7 h;obtain⟨g,o0,q,T',m,cap,l,h1,h2,h3,h4,h5⟩:=hx;exact aA hs (jo (r:=r') fd.offset tH JR lj rfl h5) ⟨g,o0,q,T',m,cap,l,h1,h2,h3,h4,by rw[Nat.add_assoc]⟩
 .obtain rfl:=X7 h;obtain⟨g,o0,q,m,cap,h1,h2,h5⟩:=hx;exact aA hs (jo (r:=r') fd.offset tH JR lj rfl h5) ⟨g,o0,q,m,cap,h1,h2,by rw[Nat.add_assoc]⟩
 .cases h
theorem bH.elemAt{r:Row}{v:Value}{l:List r.den}(h:bH F w (.slice r) [v] l){i:Int}{y:r.den}(hi:idx l i=some y):
 ∃b off cap k,v= .slice (some ⟨b,off,none⟩) l.length cap/\i=(k:Nat)/\k<l.length/\F b/\At F w r b (off+k*r.size) y:=by
 obtain⟨A,cap,hv,_,_,h4⟩:=h;obtain⟨k,hk,aW,rfl⟩:=dX hi;obtain⟨b,off,es,rfl,hF,n8,hc,hr⟩:=h4 k aW;exact⟨b,off,cap,k,by simpa using hv,hk,aW,hF,es,n8,hc,hr⟩
inductive DG where
 |read (r:Row) (l:List r.den)
 |own (o s:Nat) (T:TypeId) (r:Row) (l:List r.den)
 |nil
 |view (o s:Nat) (r:Row) (l:List r.den)
 |deep (o s:Nat) (T:TypeId) (d:DR) (l:List d.row.den) (h:Option qd)
def pD(ob:Nat->Option (Nat×Th)):aj->Option DG
 | .val false (.leaf (.slice r) l)=>some (.read r l)
 | .val false .nil=>some .nil
 | .val false (.own o)=>match ob o with
   |some (s, .own T r l)=>some (.own o s T r l)
   |some (_, .oe _ r l)=>some (.read r l)
   |some (_, .fdeep _ d l)=>some (.read d.row l)
   |some (s, .deep T d l h)=>some (.deep o s T d l h)
   |_=>none
 | .val false (.view o s r m)=>match ob o with
   |some (s', .oe ..)=>bif Yb s' s then some (.read r m)else some (.view o s r m)
   |_=>some (.view o s r m)
 |_=>none
def Gb(U:Nat->Prop)(H:ao)(F:Nat->Prop)(w:World)(ob:Nat->Option (Nat×Th))(v:Value):DG->Prop
 | .read r l=>bH F w (.slice r) [v] l
 | .own o s T r l=>H.val o=some v/\ob o=some (s, .own T r l)/\gY 0 F w T r v l
 | .nil=>v= .slice none 0 0
 | .view o s r m=>iH H o s r m v
 | .deep o s T d l h=>H.val o=some v/\ob o=some (s, .deep T d l h)/\AZ U H F w v s (.deep T d l h)
theorem fB(hs:aq U H F w ob n){D:aj}{k:DG}{v:Value}(h:pD ob D=some k)(hd:ai H F w D v):Gb U H F w ob v k:=by
 unfold pD at h;split at h
 .cases h;exact aB.inv hd
 .cases h;obtain⟨cs,h1,_,h3⟩:=hd;have rN:cs=_:=h1;rw[h3 rfl]at rN;simpa[Gb]using rN
 .rename_i o;obtain⟨cs,⟨u,hu,tH,e⟩,_,h3⟩:=hd;rw[h3 rfl]at e
  obtain rfl:v=u:=by simpa using e
  split at h
  .rename_i s T r l rO;cases h;exact⟨hu,rO,hs.own rO hu⟩
  .rename_i s T r l rO;cases h;obtain⟨v',cy,hi⟩:=hs.obj _ _ _ rO;rw[hu]at cy;obtain rfl:=X7 cy;exact hi.ok
  .rename_i s T d l rO;cases h;obtain⟨v',cy,hi⟩:=hs.obj _ _ _ rO;rw[hu]at cy;obtain rfl:=X7 cy;exact hi.ok
  .rename_i s T d l h' rO;cases h;obtain⟨v',cy,hi⟩:=hs.obj _ _ _ rO;rw[hu]at cy;obtain rfl:=X7 cy;exact⟨hu,rO,hi⟩
  .cases h
 .rename_i o s r m;obtain⟨cs,⟨u,e,hu⟩,_,h3⟩:=hd;rw[h3 rfl]at e
  obtain rfl:v=u:=by simpa using e
  split at h
  .rename_i s' T r' l' rO
   cases hb:Yb s' s with
   |false=>rw[hb]at h;cases h;exact hu
   |true=>
    rw[hb]at h;obtain rfl:=YR hb;cases h;exact su hs rO hu
  .cases h;exact hu
 .cases h
def iK:Nat->(r:Row)->r.den->(e:Row)->Option (List e.den)
 |1,r,x,e=>if h:r.beq e=true then some [fK (Row.eq_of_beq h) x]else none
 |m+2, .pair a b,x,e=>if h:a.beq e=true then(match iK (m+1) b x.2 e with
  |some l=>some (fK (Row.eq_of_beq h) x.1::l)
  |none=>none)else none
 |_,_,_,_=>none
theorem zp{e:Row}{b:Nat}:{m:Nat}->{r:Row}->{x:r.den}->{l:List e.den}->{off:Nat}->iK m r x e=some l->At F w r b off x->l.length=m/\∀i(h:i<l.length),At F w e b (off+i*e.size) l[i]
 |0,r,x,l,off,h,_=>by unfold iK at h;cases h
 |1,r,x,l,off,h,ha=>by
  unfold iK at h;split at h
  case isFalse=>cases h
  rename_i hb;obtain rfl:=Row.eq_of_beq hb;obtain rfl:=X7 h;refine⟨rfl,fun i hi=>?_⟩
  obtain rfl:i=0:=by simp at hi;omega
  rw[Nat.zero_mul,Y0];exact ha
 |m+2, .pair a b',x,l,off,h,ha=>by
  unfold iK at h;split at h
  case isFalse=>cases h
  rename_i hb;obtain rfl:=Row.eq_of_beq hb;split at h
  case h_2=>cases h
  rename_i l' hl;obtain rfl:=X7 h;obtain⟨g1,g2⟩:=zp hl (ha.snd _ rfl);refine⟨by simp[g1],fun i hi=>?_⟩
  cases i with
  |zero=>
   rw[Nat.zero_mul,Y0];exact ha.fst
  |succ i=>
   have:=g2 i (by simpa using hi);rw[show off+(i+1)*a.size=off+a.size+i*a.size from by rw[Yt];omega];exact this
 |m+2, .int _,_,_,_,h,_=>by unfold iK at h;cases h
 |m+2, .bool,_,_,_,h,_=>by unfold iK at h;cases h
 |m+2, .str,_,_,_,h,_=>by unfold iK at h;cases h
 |m+2, .slice _,_,_,_,h,_=>by unfold iK at h;cases h
 |m+2, .gU,_,_,_,h,_=>by unfold iK at h;cases h
 |m+2, .nul _,_,_,_,h,_=>by unfold iK at h;cases h
 |m+2, .map ..,_,_,_,h,_=>by unfold iK at h;cases h
theorem mE{t e:TypeId}{x y:Operand}{kd:IntKind}{a:Int}{ti:TypeInfo}{m zl off i:Nat}(size:Nat)(ht:P.underlying t=some (.array m e))(hi:P.info? e=some ti)(mv:ti.size=size)
 (hx:ev ρ x= .pointer (some ⟨zl,off,none⟩))(hy:ev ρ y= .int kd a)(ha:a=(i:Int))(aW:i<m):
 Pure P ρ ⟨some d, .indexAddr t x y,ty,pos,aft,none⟩ (.pointer (some ⟨zl,off+i*size,none⟩)):=fun w=>by
 subst mv;subst ha;simp[execOp,Instr.indexAt,Instr.sureAddr,asIntOf,run_underlying ht,sizeOf,typeInfo,hi,hx,hy,aW,bN]
theorem zq{α:Type}{b:Bool}{x:Option α}{y:α}(h:(bif b then x else none)=some y):b=true/\x=some y:=by
 cases b with
 |true=>exact⟨rfl,h⟩
 |false=>cases h
def lR(T:aG P)(m:Nat)(e:TypeId)(D:aj)(i:Int)(k:cU->Option R):Option R:=
 match find T.row e with
 |some re=>match D with
  | .at r x=>match iK m r x re with
    |some l=>(idx l i).bind fun y=>k {dst:= .at re y}
    |none=>none
  | .ptr o p off=>match i with
    | .ofNat j=>bif YM j m then k {dst:= .ptr o (p++nu m j) (off+j*re.size)}else none
    | .negSucc _=>none
  |_=>none
 |none=>none
theorem xM(T:aG P){t:TypeId}{m:Nat}{e:TypeId}(hu:P.underlying t=some (.array m e)){D:aj}{x y:Operand}{kd:IntKind}{i:Int}{k:cU->Option R}{q:R}(h:lR T m e D i k=some q)(hs:aq U H F w ob n)(hx:ai H F w D (ev ρ x))(hy:ev ρ y= .int kd i):
 ∃e,k e=some q/\bJ P U H F w ρ ob n ⟨some d, .indexAddr t x y,ty,pos,aft,none⟩ e:=by
 unfold lR at h;split at h
 case h_2=>cases h
 rename_i re hr;obtain⟨ti,z,h1,_,_,h4,_⟩:=T.row_ok _ _ hr;split at h
 case h_3=>cases h
 case h_2=>
  split at h
  case h_2=>cases h
  rename_i o p off _ j;obtain⟨aW,hk⟩:=zq h
  have aW:j<m:=by simpa using aW
  obtain⟨b,hb,hv⟩:=hx;exact⟨_,hk,aA hs (mE re.size hu h1 h4 hv hy rfl aW) ⟨b,hb,rfl⟩⟩
 rename_i r v;split at h
 case h_2=>cases h
 rename_i l hl;obtain⟨a,ha,hk⟩:=bind_some h;obtain⟨b,off,hv,hF,oZ⟩:=hx;obtain⟨g1,g2⟩:=zp hl oZ;obtain⟨j,hj,aW,rfl⟩:=dX ha;exact⟨_,hk,aA hs (mE re.size hu h1 h4 hv hy hj (by omega)) ⟨b,_,rfl,hF,g2 j aW⟩⟩
def oh(T:aG P)(ob:Nat->Option (Nat×Th))(t:TypeId)(D:aj)(i:Int)(k:cU->Option R):Option R:=
 match find T.und t with
 |some (.slice e)=>match find T.row e with
  |some re=>match pD ob D with
   |some (.read r l)=>bif Yb r.size re.size then(idx l i).bind fun x=>k {dst:= .at r x}else none
   |some (.own o s _ r l)=>bif Yb r.size re.size then(idx l i).bind fun x=>k {dst:= .elem o s r i x [] 0}else none
   |some (.deep o _ _ d l _)=>bif Yb d.low.size re.size then(idx l i).bind fun _=>k {dst:= .dlm o d i [] 0}else none
   |_=>none
  |none=>none
 |some (.array m e)=>lR T m e D i k
 |_=>none
theorem A6(T:aG P){t:TypeId}{D:aj}{x y:Operand}{kd:IntKind}{i:Int}{k:cU->Option R}{q:R}(h:oh T ob t D i k=some q)(hs:aq U H F w ob n)(hx:ai H F w D (ev ρ x))(hy:ev ρ y= .int kd i):
 ∃e,k e=some q/\bJ P U H F w ρ ob n ⟨some d, .indexAddr t x y,ty,pos,aft,none⟩ e:=by
 unfold oh at h;split at h
 case h_3=>cases h
 case h_2=>rename_i m e hu;exact xM T (T.und_ok _ _ hu) h hs hx hy
 rename_i e hu;have hu:=T.und_ok _ _ hu;split at h
 case h_2=>cases h
 rename_i re hr;obtain⟨ti,z,h1,_,_,h4,_⟩:=T.row_ok _ _ hr;split at h
 .rename_i r l eR
  cases hz:Yb r.size re.size with
  |false=>rw[hz]at h;cases h
  |true=>
   rw[hz,cond_true]at h;have hz:=beq_true hz;obtain⟨a,ha,hk⟩:=bind_some h;have eR:=fB hs eR hx;obtain⟨b,off,cap,j,hv,hj,aW,hF,oZ⟩:=bH.elemAt eR ha;refine⟨_,hk,aA hs (iX r.size hu h1 (h4.trans hz.symm) hv hy hj aW) ⟨b,_,rfl,hF,oZ⟩⟩
 .rename_i o s T' r l eR
  cases hz:Yb r.size re.size with
  |false=>rw[hz]at h;cases h
  |true=>
   rw[hz,cond_true]at h;have hz:=beq_true hz;obtain⟨a,ha,hk⟩:=bind_some h;obtain⟨hv,cA,dI⟩:=fB hs eR hx;obtain⟨v',cy,bO⟩:=hs.obj _ _ _ cA;obtain⟨j,hj,aW,R7⟩:=dX ha;obtain⟨_,xs,AQ,_⟩:=dI
   rcases AQ.2 with⟨A7,h0⟩|⟨g,o0,cap,gi,tI,_,_,_⟩
   .omega
   .have hp:=iX (P:=P) (d:=some d) (ty:=ty) (pos:=pos) (aft:=aft) r.size hu h1 (h4.trans hz.symm) tI hy hj aW;refine⟨_,hk,aA hs hp ⟨g,o0,j,T',l.length,cap,l,?_,hj,bO.con,ha,rfl⟩⟩;rw[<-tI];exact hv
 .rename_i o s T' d' l hh eR;obtain⟨hz,h⟩:=zq h;have hz:=beq_true hz;obtain⟨a,ha,hk⟩:=bind_some h;obtain⟨hv,cA,bO⟩:=fB hs eR hx;obtain⟨j,hj,aW,R7⟩:=dX ha;obtain⟨lh,_,⟨xs,AQ,_⟩,n6,_⟩:=bO.ok
  rcases AQ.2 with⟨A7,h0⟩|⟨g,o0,cap,gi,tI,_,_,_⟩
  .omega
  .have hp:=iX (P:=P) (d:=some d) (ty:=ty) (pos:=pos) (aft:=aft) d'.low.size hu h1 (h4.trans hz.symm) tI hy hj (by omega);refine⟨_,hk,aA hs hp ⟨g,o0,j,lh.length,cap,?_,hj,rfl⟩⟩;rw[<-tI];exact hv
 .cases h
theorem qj{b:Nat}{T:TypeId}{es:List Value}(hh:w.heap[b]? =some (.cells es.toArray T (0,0)))(j:Nat):w.cell? ⟨b,j,none⟩=es[j]? :=by
 rw[cell_of_row w b j _ T (0,0) hh];simp
theorem jN(T:aG P){t:TypeId}{kk:CM}(hu:find T.und t=some kk){x:Operand}{b off:Nat}{s:Tree}{cs:List Value}(hx:ev ρ x= .pointer (some ⟨b,off,none⟩))(hs:aq U H F w ob n)
 (hh:bi H F w s cs)(hc:∀j u,cs[j]? =some u->w.cell? ⟨b,off+j,none⟩=some u)
 (hz:if gQ kk=true then∃r,find T.row t=some r/\r.size=s.size else s.size=1):
 bJ P U H F w ρ ob n ⟨some d, .load t x,ty,pos,aft,none⟩ {dst:= .val (gQ kk) s}:=by
 obtain⟨dd,pN,qc⟩:=(T.und_ok _ _ hu).agg;have hl:=hh.length
 cases ha:gQ kk with
 |true=>
  rw[if_pos ha]at hz;obtain⟨r,hr,CP⟩:=hz;obtain⟨ti,z,h1,_,_,h4,_⟩:=T.row_ok _ _ hr;exact aU hs (AN pN (qc.trans ha) h1 (by omega) hx hc) ⟨cs,hh,rfl,by simp⟩
 |false=>
  rw[if_neg (by simp[ha])]at hz
  obtain⟨v,rfl⟩:∃v,cs=[v]:=by
   match cs,hl.trans hz with
   |[v],_=>exact⟨v,rfl⟩
  exact aU hs (sn pN (qc.trans ha) hx (hc 0 v rfl)) ⟨[v],hh,rfl,fun _=>rfl⟩
def jc(T:aG P)(t:TypeId)(kk:CM)(m:Nat):Bool:=
 bif gQ kk then(match find T.row t with|some r=>Yb r.size m|none=>false)else Yb m 1
theorem gk(T:aG P){t:TypeId}{kk:CM}{m:Nat}(h:jc T t kk m=true):if gQ kk=true then∃r,find T.row t=some r/\r.size=m else m=1:=by
 unfold jc at h
 cases ha:gQ kk with
 |true=>
  rw[ha,cond_true]at h;rw[if_pos rfl];split at h
  .rename_i r hr;exact⟨r,hr,beq_true h⟩
  .cases h
 |false=>
  rw[ha,cond_false]at h;rw[if_neg (by simp)];exact beq_true h
def sv(T:aG P)(ob:Nat->Option (Nat×Th))(t:TypeId)(D:aj)(k:cU->Option R):Option R:=
 match find T.und t with
 |none=>none
 |some kk=>match D with
  | .at r x=>bif jc T t kk r.size then k {dst:= .val (gQ kk) (.leaf r x)}else none
  | .ptr o p off=>match ob o with
    |some (_, .box _ tr)=>match tr.get p with
     |some (s,cF)=>bif Yb cF off&&jc T t kk s.size then k {dst:= .val (gQ kk) s}else none
     |none=>none
    |_=>none
  | .elem o s r i x p off=>match ob o with
    |some (s', .own _ r' l)=>bif Yb s' s then
      (match sub r x p with
      |some ⟨q,y,cF⟩=>bif Yb cF off&&jc T t kk q.size then k {dst:= .val (gQ kk) (.leaf q y)}else none
      |none=>none)
     else(idx l i).bind fun x'=>match sub r' x' p with
      |some ⟨q,y,cF⟩=>bif Yb cF off&&jc T t kk q.size&&Yb r'.size r.size then k {dst:= .val (gQ kk) (.leaf q y)}else none
      |none=>none
    |_=>none
  |_=>none
theorem ay{α:Type}{b:Bool}{x:Option α}{y:α}(h:(bif b then x else none)=some y):b=true/\x=some y:=by
 cases b with
 |true=>exact⟨rfl,h⟩
 |false=>cases h
theorem bU{a b:Bool}(h:(a&&b)=true):a=true/\b=true:=by simpa using h
theorem zr(hs:aq U H F w ob n){o s':Nat}{T':TypeId}{r':Row}{i:Int}{x':r'.den}{l:List r'.den}{g o0 q m cap:Nat}(cA:ob o=some (s', .own T' r' l))(hv:H.val o=some (.slice (some ⟨g,o0,none⟩) m cap))(hq:i=(q:Nat))(hi:idx l i=some x'):
 At F w r' g (o0+q*r'.size) x':=(hs.own cA hv).at rfl hq hi
theorem DH(T:aG P){t:TypeId}{D:aj}{x:Operand}{k:cU->Option R}{q:R}(h:sv T ob t D k=some q)(hs:aq U H F w ob n)(hx:ai H F w D (ev ρ x)):
 ∃e,k e=some q/\bJ P U H F w ρ ob n ⟨some d, .load t x,ty,pos,aft,none⟩ e:=by
 unfold sv at h;split at h
 .cases h
 rename_i kk hu;split at h
 .rename_i r y;obtain⟨h1,h2⟩:=ay h;obtain⟨b,off,e,hF,es,hl,hc,hr⟩:=hx;exact⟨_,h2,jN T hu e hs (s:= .leaf r y) hr hc (gk T h1)⟩
 .rename_i o p off;split at h
  .rename_i R8 T0 tr cA;split at h
   .rename_i s cF hg;obtain⟨h1,h2⟩:=ay h;obtain⟨h1,h3⟩:=bU h1;obtain rfl:=beq_true h1;obtain⟨b,hb,e⟩:=hx;obtain⟨es,hh,HH⟩:=hs.box cA hb;obtain⟨g1,g2⟩:=HH.get hg;refine⟨_,h2,jN T hu e hs g1 (fun j u hj=>?_) (gk T h3)⟩;rw[qj hh];rw[Yz]at hj;split at hj
    .rwa [Yo]at hj
    .cases hj
   .cases h
  .cases h
 .rename_i o s r i y p off;split at h
  .rename_i s' T0 r' l cA;obtain⟨g,o0,qq,T',m,cap,l0,e1,e2,e3,e4,e5⟩:=hx
   cases CQ:Yb s' s with
   |true=>
    rw[CQ,cond_true]at h;obtain rfl:=beq_true CQ;obtain⟨v,hv,bO⟩:=hs.obj _ _ _ cA;have hc:=bO.con;rw[e3]at hc
    obtain⟨rfl,pL⟩:T'=T0/\(⟨r,l0⟩:(r:Row)×List r.den)=⟨r',l⟩:=by
     have:=X7 hc;simp only[Th.base,Th.own.injEq]at this;obtain⟨a,b,c⟩:=this;subst b;exact⟨a,by rw[eq_of_heq c]⟩
    cases pL;split at h
    .rename_i q' y' cF ee;obtain⟨h1,h2⟩:=ay h;obtain⟨h1,h3⟩:=bU h1;obtain rfl:=beq_true h1;obtain⟨es,hl,Gc,hr⟩:=xK ee (zr hs cA e1 e2 e4);exact⟨_,h2,jN T hu e5 hs (s:= .leaf q' y') hr Gc (gk T h3)⟩
    .cases h
   |false=>
    rw[CQ,cond_false]at h;obtain⟨x',Ix,h⟩:=bind_some h;split at h
    .rename_i q' y' cF ee;obtain⟨h1,h2⟩:=ay h;obtain⟨h1,h4⟩:=bU h1;obtain⟨h1,h3⟩:=bU h1;obtain rfl:=beq_true h1;have h4:=beq_true h4;obtain⟨es,hl,Gc,hr⟩:=xK ee (zr hs cA e1 e2 Ix);rw[h4]at Gc;exact⟨_,h2,jN T hu e5 hs (s:= .leaf q' y') hr Gc (gk T h3)⟩
    .cases h
  .cases h
 .cases h
end
end Go.Proofs.YtlfjlhcigpejdaaGreatDoor
namespace Go.Proofs.YtlfjlhcigpejdaaGreatDoor
open Go Go.RowKit
def xN:(r:Row)->List Bool->Option ((s:Row)×Path r s)
 |r,[]=>some ⟨r, .here⟩
 | .pair a b,d::p=>match d with
   |false=>match xN a p with
    |some ⟨s,q⟩=>some ⟨s, .fst q⟩
    |none=>none
   |true=>match xN b p with
    |some ⟨s,q⟩=>some ⟨s, .snd q⟩
    |none=>none
 |_,_::_=>none
section
variable {P:Program} {ρ:Nat->Value} {w w':World} {H H':ao} {F F':Nat->Prop} {U:Nat->Prop} {ob:Nat->Option (Nat×Th)} {n:Nat} {R:Type}
variable {op:Op} {ty:TypeId} {pos:String} {aft:Array Edge} {d:Nat}
def ao.aS(H:ao)(s:Nat)(t:Th):ao:=⟨H.val,fun m=>if m=s then some t else H.con m,H.sub⟩
def ao.cB(H:ao)(o:Nat)(v:Value):ao:=⟨fun m=>if m=o then some v else H.val m,H.con,H.sub⟩
def ao.dB(H:ao)(s:Nat)(S:Nat->Prop):ao:=⟨H.val,H.con,fun m=>if m=s then S else H.sub m⟩
theorem ao.iU{H:ao}{s:Nat}{t:Th}(h:H.con s=none):H.le (H.aS s t):=⟨fun _ _ h=>h,fun m q hq=>by
 by_cases e:m=s
 .subst e;rw[h]at hq;cases hq
 .simp[ao.aS,e,hq],fun _ _ _=>rfl⟩
theorem ao.A8{H:ao}{s:Nat}{S:Nat->Prop}(h:H.con s=none):H.le (H.dB s S):=⟨fun _ _ h=>h,fun _ _ h=>h,fun m t hm=>by
 have:m≠s:=fun e=>by rw[e,h]at hm;cases hm
 simp[ao.dB,this]⟩
theorem ao.lS{H:ao}{s:Nat}{t:Value}(h:H.val s=none):H.le (H.cB s t):=⟨fun m q hq=>by
 by_cases e:m=s
 .subst e;rw[h]at hq;cases hq
 .simp[ao.cB,e,hq],fun _ _ h=>h,fun _ _ _=>rfl⟩
theorem be{α:Type}{o o':Nat}{x y:α}(h:find [(o,x)] o'=some y):o'=o/\y=x:=by
 rw[aw]at h;split at h
 .rename_i e;exact⟨e.symm,(X7 h).symm⟩
 .cases h
theorem iZ.tJ(hs:aq U H F w ob n){o s:Nat}{t t':Th}{v0:Value}(ho:ob o=some (s,t))(hv:H.val o=some v0)(hb:t'.base=t')(DI:∀k,fp (H.sub n) v0 t' k->fp (H.sub s) v0 t k){D:aj}{v:Value}
 (bI:Ext (fp (H.sub s) v0 t) w w')(mP:fy (H.aS n t') F w' (H.sub n) v0 t')(hd:ai (H.aS n t') F w' D v):gV H F w ob n {dst:=D,eat:=[o],make:=[(o,(n,t'))]} v w':=by
 obtain⟨v1,n7,bO⟩:=hs.obj _ _ _ ho;rw[hv]at n7;obtain rfl:=X7 n7
 have gS:∀k,fp (H.sub s) v0 t k->bx H ob [o] k:=fun k hk=>⟨o,by simp,s,t,v0,ho,hv,hk⟩
 refine⟨H.aS n t',F,⟨ao.iU (hs.fresh n (Yd _) (by omega)).2,⟨bI.os,bI.tape,bI.output,bI.size,fun k hk hn=>bI.block k hk fun e=>hn (gS k e)⟩,fun _ h=>h,fun _ h=> .inl h,fun b hb=>YK (hs.lt b hb) bI.size⟩,fun m hm=>?_,hd,⟨fun o' s' q hq=>?_,fun o1 o2 s1 s2 q1 q2 u1 u2 bu h1 h2=>?_⟩,fun o' h=>?_⟩
 .refine⟨id,fun h=>?_⟩;simp[ao.aS,show m≠n from by omega,h]
 .obtain⟨rfl,e⟩:=be hq;obtain⟨rfl,rfl⟩:=Zm e;refine⟨v0,hv,bO.one,by simp[ao.aS,hb],mP,fun k hk=>⟨bO.no k (DI k hk),YK (bO.lt k (DI k hk)) bI.size, .inr (gS k (DI k hk))⟩⟩
 .exact absurd ((be h1).1.trans (be h2).1.symm) bu
 .left
  obtain⟨y,hy⟩:=YA.1 h;rw[(be hy).1];simp
theorem iZ.new(hs:aq U H F w ob n){eat:List Nat}{t:Th}{v0:Value}(hb:t.base=t)(h1:v0.oneCell'=true){D:aj}{v:Value}
 (bI:Ext (bx H ob eat) w w')(mP:fy ((H.aS n t).cB n v0) F w' (H.sub n) v0 t)(DI:∀k,fp (H.sub n) v0 t k->¬F k/\k<w'.heap.size/\(w.heap.size<=k\/bx H ob eat k))
 (hd:ai ((H.aS n t).cB n v0) F w' D v):gV H F w ob n {dst:=D,eat:=eat,make:=[(n,(n,t))]} v w':=by
 have hf:=hs.fresh n (Yd _) (by omega);refine⟨(H.aS n t).cB n v0,F,⟨(ao.iU hf.2).trans (ao.lS (by simp[ao.aS,hf.1])),bI,fun _ h=>h,fun _ h=> .inl h,fun b hb=>YK (hs.lt b hb) bI.size⟩,fun m hm=>?_,hd,⟨fun o' s' q hq=>?_,fun o1 o2 s1 s2 q1 q2 u1 u2 bu h1 h2=>?_⟩,fun o' h=>?_⟩
 .simp[ao.aS,ao.cB,show m≠n from by omega]
 .obtain⟨rfl,e⟩:=be hq;obtain⟨rfl,rfl⟩:=Zm e;exact⟨v0,by simp[ao.cB],h1,by simp[ao.aS,ao.cB,hb],mP,DI⟩
 .exact absurd ((be h1).1.trans (be h2).1.symm) bu
 .right
  obtain⟨y,hy⟩:=YA.1 h;rw[(be hy).1];exact Yd _
def oi(T:aG P)(ob:Nat->Option (Nat×Th))(n:Nat)(t:TypeId)(D V:aj)(k:cU->Option R):Option R:=
 match find T.row t with
 |none=>none
 |some rt=>match V with
  | .val _ u=>match D with
    | .ptr o p off=>match ob o with
      |some (_, .box T0 tr)=>match tr.get p with
       |some (s,cF)=>bif Yb cF off&&Yb rt.size s.size&&Yb u.size s.size then
         (match tr.put p u with
         |some My=>k {dst:= .dead,eat:=[o],make:=[(o,(n, .box T0 My))]}
         |none=>none)else none
       |none=>none
      |_=>none
    | .elem o s r i x p off=>match ob o with
      |some (s', .own T0 r' l)=>match xN r' p with
       |some ⟨q,sw⟩=>bif Yb sw.off off&&Yb rt.size q.size&&Yb r'.size r.size then
         (match flat ob q u with
         |some y=>bif Yb s' s then
           (if h:r.beq r'=true then k {dst:= .dead,eat:=[o],make:=[(o,(n, .own T0 r' (aQ l i (sw.set (fK (Row.eq_of_beq h) x) y))))]}else none)
          else(idx l i).bind fun x'=>k {dst:= .dead,eat:=[o],make:=[(o,(n, .own T0 r' (aQ l i (sw.set x' y))))]}
         |none=>none)else none
       |none=>none
      |_=>none
    |_=>none
  |_=>none
theorem aB.cells{agg:Bool}{t:Tree}{v:Value}(h:aB H F w agg t v):∃cs,bi H F w t cs/\v.cells.toList=cs:=by
 obtain⟨cs,h1,h2,h3⟩:=h;refine⟨cs,h1,?_⟩
 cases agg with
 |true=>rw[h2];rfl
 |false=>
  have e:=h3 rfl;have R9:=h1.fT v (by rw[e];simp);rw[e]
  cases v<;>first|rfl|simp[Zg]at R9
theorem qk(T:aG P){t:TypeId}{rt:Row}(DJ:find T.row t=some rt){x y:Operand}{o s':Nat}{T0:TypeId}{r q:Row}{i:Int}{x':r.den}{z:q.den}{l:List r.den}{p:Path r q}{off g o0 j m cap:Nat}{agg:Bool}{u:Tree}
 (hs:aq U H F w ob n)(cA:ob o=some (s', .own T0 r l))(hv:H.val o=some (.slice (some ⟨g,o0,none⟩) m cap))(hj:i=(j:Nat))(hi:idx l i=some x')(hx:ev ρ x= .pointer (some ⟨g,o0+j*r.size+off,none⟩))(DK:p.off=off)(hz:rt.size=q.size)
 (hf:flat ob q u=some z)(hV:aB H F w agg u (ev ρ y)):
 bJ P U H F w ρ ob n ⟨none, .store t x y,ty,pos,aft,none⟩ {dst:= .dead,eat:=[o],make:=[(o,(n, .own T0 r (aQ l i (p.set x' z))))]}:=by
 obtain⟨ti,z0,h1,_,_,h4,_⟩:=T.row_ok _ _ DJ;obtain⟨cs,py,rP⟩:=hV.cells;have hr:=fA hs hf py;have dI:=hs.own cA hv;obtain⟨k',hk,aW,rfl⟩:=dX hi
 obtain rfl:k'=j:=by omega
 obtain⟨gi,hh,hle,bI,kS⟩:=dI.put rfl aW hs.lt p hr;subst DK;refine bp.unit (ku h1 (h4.trans (hz.trans hr.length.symm)) hx rfl rP hr.fT hh hle) ?_;refine iZ.tJ (t':= .own T0 r (aQ l i (p.set l[k'] z))) (D:= .dead) hs cA hv rfl (fun _ h=>h) bI ?_ trivial;have:fy (H.aS n (.own T0 r (aQ l i (p.set l[k'] z)))) F (w.setRow g (gi.toList.take (o0+k'*r.size+p.off)++cs++gi.toList.drop (o0+k'*r.size+p.off+cs.length)).toArray) (H.sub n) (.slice (some ⟨g,o0,none⟩) m cap) (.own T0 r (l.set k' (p.set l[k'] z))):=kS.2;unfold aQ;rw[hk,Yg];exact this
theorem A9(T:aG P){t:TypeId}{D V:aj}{x y:Operand}{k:cU->Option R}{q:R}(h:oi T ob n t D V k=some q)(hs:aq U H F w ob n)(hx:ai H F w D (ev ρ x))(hy:ai H F w V (ev ρ y)):
 ∃e,k e=some q/\bJ P U H F w ρ ob n ⟨none, .store t x y,ty,pos,aft,none⟩ e:=by
 unfold oi at h;split at h
 .cases h
 rename_i rt DJ;split at h
 case h_2=>cases h
 rename_i agg u;split at h
 .rename_i o p off;split at h
  case h_2=>cases h
  rename_i s0 T0 tr cA;split at h
  case h_2=>cases h
  rename_i s cF hg;obtain⟨h1,h2⟩:=ay h;obtain⟨h1,tK⟩:=bU h1;obtain⟨h1,rQ⟩:=bU h1;obtain rfl:=beq_true h1;have rQ:=beq_true rQ;have tK:=beq_true tK;split at h2
  case h_2=>cases h2
  rename_i My hp;obtain⟨b,hb,e⟩:=hx;obtain⟨es,hh,HH⟩:=hs.box cA hb;obtain⟨cs,py,rP⟩:=aB.cells hy;have hl:=py.length;have hle:=(HH.get hg).2;have qg:=bi.put py hg hp tK.symm HH;obtain⟨ti,z0,g1,_,_,g4,_⟩:=T.row_ok _ _ DJ;refine⟨_,h2,bp.unit (ku g1 (by omega) e rfl rP py.fT hh (by simp;omega)) ?_⟩
  have HI:¬F b:=by
   obtain⟨v1,n7,bO⟩:=hs.obj _ _ _ cA;rw[hb]at n7;obtain rfl:=X7 n7;exact bO.no b rfl
  have bI:Ext (fp (H.sub s0) (.pointer (some ⟨b,0,none⟩)) (.box T0 tr)) w (w.setRow b (es.toArray.toList.take cF++cs++es.toArray.toList.drop (cF+cs.length)).toArray):=
   ⟨rfl,rfl,rfl,by simp,fun k _ hk=>setRow_other w b k _ fun e=>hk (by simp[fp,e])⟩
  refine iZ.tJ (t':= .box T0 My) (D:= .dead) hs cA hb rfl (fun k hk=>hk) bI ⟨b,_,rfl,setRow_heap w b _ _ T0 (0,0) hh,?_⟩ trivial
  have hk:=qg.aO (H':=H.aS n (.box T0 My)) (ao.iU (hs.fresh n (Yd _) (by omega)).2) (Step.ext bI hs.lt fun k hk=>by
   simp only[fp,ZD,Ye,Zr,and_true]at hk
   exact hk▸HI)
  rw[<-hl]at hk;simpa using hk
 .rename_i o s r i x0 p off;split at h
  case h_2=>cases h
  rename_i s' T0 r' l cA;split at h
  case h_2=>cases h
  rename_i q' sw tL;obtain⟨h1,h2⟩:=ay h;obtain⟨h1,tK⟩:=bU h1;obtain⟨h1,rQ⟩:=bU h1;have h1:=beq_true h1;have rQ:=beq_true rQ;have tK:=beq_true tK;split at h2
  case h_2=>cases h2
  rename_i z hf;obtain⟨g,o0,qq,T',m,cap,l0,e1,e2,e3,e4,e5⟩:=hx;rw[<-tK]at e5
  cases CQ:Yb s' s with
  |true=>
   rw[CQ,cond_true]at h2;obtain rfl:=beq_true CQ;split at h2
   case isFalse=>cases h2
   rename_i vo;obtain⟨v,hv,bO⟩:=hs.obj _ _ _ cA;have hc:=bO.con;rw[e3]at hc
   obtain⟨rfl,pL⟩:T'=T0/\(⟨r,l0⟩:(r:Row)×List r.den)=⟨r',l⟩:=by
    have:=X7 hc;simp only[Th.base,Th.own.injEq]at this;obtain⟨a,b,c⟩:=this;subst b;exact⟨a,by rw[eq_of_heq c]⟩
   cases pL;exact⟨_,h2,qk T DJ hs cA e1 e2 e4 e5 h1 rQ hf hy⟩
  |false=>
   rw[CQ,cond_false]at h2;obtain⟨x',Ix,h2⟩:=bind_some h2;exact⟨_,h2,qk T DJ hs cA e1 e2 Ix e5 h1 rQ hf hy⟩
 .cases h
theorem DL(hs:aq U H F w ob n){t:TypeId}{tr:Tree}{cs:List Value}(hh:bi H F w tr cs):
 gV H F w ob n {dst:= .ptr n [] 0,make:=[(n,(n, .box t tr))]} (.pointer (some ⟨w.heap.size,0,none⟩)) (w.alloc (.cells cs.toArray t)):=by
 have bI:Ext (bx H ob []) w (w.alloc (.cells cs.toArray t)):=⟨rfl,rfl,rfl,by simp,fun k hk _=>Below.heap_alloc w _ k hk⟩
 have hf:=hs.fresh n (Yd _) (by omega);refine iZ.new (v0:= .pointer (some ⟨w.heap.size,0,none⟩)) hs rfl rfl bI ⟨_,cs,rfl,heap_alloc_new w _,?_⟩ (fun k hk=>?_) ⟨w.heap.size,by simp[ao.cB],rfl⟩
 .exact hh.aO ((ao.iU hf.2).trans (ao.lS (by simp[ao.aS,hf.1]))) (Step.alloc hs.lt _)
 .simp only[fp,ZD,Ye,Zr,and_true]at hk;subst hk;exact⟨fun e=>by have:=hs.lt _ e;omega,by simp, .inl (Yd _)⟩
def oj(T:aG P)(n:Nat)(t:TypeId)(k:cU->Option R):Option R:=
 match find T.row t with
 |some r=>k {dst:= .ptr n [] 0,make:=[(n,(n, .box t r.vm))]}
 |none=>none
theorem Ba(T:aG P){t:TypeId}{k:cU->Option R}{q:R}(h:oj T n t k=some q)(hs:aq U H F w ob n):
 ∃e,k e=some q/\bJ P U H F w ρ ob n ⟨some d, .alloc t,ty,pos,aft,none⟩ e:=by
 unfold oj at h;split at h
 case h_2=>cases h
 rename_i r hr;obtain⟨ti,z,h1,h2,h3,_,_⟩:=T.row_ok _ _ hr;refine⟨_,h,bp.val (AR h1 h2) ?_⟩;have:=DL (t:=t) hs (Row.jt H F w r);rw[<-h3,YH]at this;exact this
def Bb(n:Nat)(t:TypeId)(V:aj)(k:cU->Option R):Option R:=
 match V with
 | .val _ u=>k {dst:= .ptr n [] 0,make:=[(n,(n, .box t u))]}
 |_=>none
theorem Gd{t:TypeId}{V:aj}{x:Operand}{k:cU->Option R}{q:R}(h:Bb n t V k=some q)(hs:aq U H F w ob n)(hx:ai H F w V (ev ρ x)):
 ∃e,k e=some q/\bJ P U H F w ρ ob n ⟨some d, .box t x,ty,pos,aft,none⟩ e:=by
 unfold Bb at h;split at h
 case h_2=>cases h
 rename_i agg u;obtain⟨cs,py,rP⟩:=aB.cells hx;refine⟨_,h,bp.val (FW rfl) ?_⟩;have:=DL (t:=t) hs py;rw[<-rP,YH]at this;exact this
end
end Go.Proofs.YtlfjlhcigpejdaaGreatDoor
end
section
open _root_.Array renaming toArray_toList->YH
open _root_.Go.Instr renaming fill->Zy
open _root_.Int renaming le_refl->Ze,natCast_mul->YS,toNat_natCast->Yg
open _root_.List renaming length_take->Y2,replicate->Yf
open _root_.Nat renaming add_mul->Yt,beq->Yb,min_eq_left->YY,mul_le_mul_right->Ym,zero_le->Yk
open _root_.Option.some renaming inj->X7,injEq->Ye
open _root_.Go.Result renaming andThen_ok->YG
open _root_.Go.Sem renaming run_bind->Ys
open _root_.Go.Value renaming ownBlock->YE
namespace Go.Proofs.YtlfjlhcigpejdaaGreatDoor
open Go Go.RowKit
section
variable {P:Program} {ρ:Nat->Value} {w w':World} {H H':ao} {F F':Nat->Prop} {U:Nat->Prop} {ob:Nat->Option (Nat×Th)} {n:Nat} {R:Type}
variable {op:Op} {ty:TypeId} {pos:String} {aft:Array Edge} {d:Nat}
theorem lT{base:Nat}{T:TypeId}{r:Row}{v:Value}{l:List r.den}(h:gY base F w T r v l):v.oneCell'=true:=by
 obtain⟨A,cap,rfl,_⟩:=h.reads;rfl
theorem ju{H:ao}{o:Nat}{v:Value}(h:H.val o=some v)(h1:v.oneCell'=true):ai H F w (.val false (.own o)) v:=⟨[v],⟨v,h,h1,rfl⟩,rfl,fun _=>rfl⟩
theorem ol(hs:aq U H F w ob n){e:TypeId}{r:Row}{v:Value}{l:List r.den}{eat:List Nat}(bI:Ext (bx H ob eat) w w')(ho:gY 0 F w' e r v l)(hn:∀k,aM v k->bx H ob eat k\/w.heap.size<=k):
 gV H F w ob n {dst:= .val false (.own n),eat:=eat,make:=[(n,(n, .own e r l))]} v w':=
 iZ.new (v0:=v) hs rfl (lT ho) bI ho.2 (fun k hk=>⟨ho.1 k hk,ho.lt k hk,(hn k hk).symm⟩) (ju (by simp[ao.cB]) (lT ho))
theorem lU{g:Nat->Prop}(o:Obj):Ext g w (w.alloc o):=⟨rfl,rfl,rfl,by simp,fun k hk _=>Below.heap_alloc w _ k hk⟩
def Mz{α:Type}(a b:Int)(z:α):Option (List α):=if 0<=a/\a<=b/\b<=4294967296 then some (Yf a.toNat z)else none
def lk:Operand->Operand->Bool
 | .tmp a, .tmp b=>Yb a b
 | .const (.int _ a), .const (.int _ b)=>decide (a=b)
 |_,_=>false
theorem sx{e t:TypeId}{r:Row}{a b:Int}(ht:P.underlying t=some (.slice e))(lj:TI P e r)(hs:aq U H F w ob n){ka kb:IntKind}{x y:Operand}(hx:ev ρ x= .int ka a)(hy:ev ρ y= .int kb b)(h0:0<=a)(h1:a<=b)(h2:b<=4294967296):
 ∃v w',(execOp (ev ρ) ⟨some d, .makeSlice t x y,ty,pos,aft,none⟩).run P w= .ok (.value v) w'/\(∀g,Ext g w w')/\gY 0 F w' e r v (Yf a.toNat r.zero)/\∀k,aM v k->w.heap.size<=k:=by
 obtain⟨ti,z,hi,hz,Nf,mv,CK⟩:=lj;obtain⟨ca,rfl⟩:=Int.eq_ofNat_of_zero_le h0;obtain⟨cb,rfl⟩:=Int.eq_ofNat_of_zero_le (Int.le_trans h0 h1)
 have hc:cb<=4294967296:=by omega
 have sj:ti.bytes*cb<=281474976710656:=Nat.le_trans (Nat.mul_le_mul CK hc) (by omega)
 have lQ:(ti.bytes:Int)*(cb:Int)<=281474976710656:=by
  have h:((ti.bytes*cb:Nat):Int)<=281474976710656:=by omega
  rwa [YS]at h
 have bR:=run_make (P:=P) w t e ti z ht hi hz ka kb ca cb (by omega) (by omega) lQ (by omega)
 have Ko:z.cells=r.dn.toArray:=by rw[<-Nf,YH]
 have Sa:r.dn.length=r.size:=(bH.zero F w r).length;have nl:=r.size_pos;simp only[Yg]at bR;refine⟨.slice (some ⟨w.heap.size,0,none⟩) ca cb,w.alloc (.cells (madeCells z.cells (cb*ti.size)) e),by simp[execOp,hx,hy,bR],fun _=>lU _,⟨fun q hq=>?_,(madeCells z.cells (cb*ti.size)).toList.take (ca*r.size),?_,?_⟩,fun q hq=>?_⟩
 .simp only[aM,YE,Ye]at hq;intro e;have:=hs.lt _ e;omega
 .have hle:ca*r.size<=cb*r.size:=Ym _ (by omega);have Kp:=size_madeCells z.cells (cb*ti.size);refine jn.of ⟨by rw[Y2,Array.length_toList,Kp,mv,YY hle];simp, .inr ⟨w.heap.size,cb,madeCells z.cells (cb*ti.size),by simp,Yk _,heap_alloc_new w _,by simp;omega,by simp[maxLen];omega,by rw[Kp,mv],by simp⟩⟩
 .intro i aW;simp only[Yg,List.length_replicate]at aW;have hle:(i+1)*r.size<=ca*r.size:=Ym _ aW;rw[Yt]at hle;rw[List.drop_take,List.take_take,YY (by omega)];rw[mv,Ko,<-Sa,Dn _ _ _ (by omega) (by omega)];simpa using bH.zero F _ r
 .simp only[aM,YE,Ye]at hq;omega
theorem vp{e t:TypeId}{r:Row}{a b:Int}(ht:P.underlying t=some (.slice e))(lj:TI P e r)(hs:aq U H F w ob n){ka kb:IntKind}{x y:Operand}(hx:ev ρ x= .int ka a)(hy:ev ρ y= .int kb b)(h0:0<=a)(h1:a<=b)(h2:b<=4294967296):
 bJ P U H F w ρ ob n ⟨some d, .makeSlice t x y,ty,pos,aft,none⟩ {dst:= .val false (.own n),make:=[(n,(n, .own e r (Yf a.toNat r.zero)))]}:=by
 obtain⟨v,w',bR,bI,dI,Bc⟩:=sx (d:=d) (ty:=ty) (pos:=pos) (aft:=aft) ht lj hs hx hy h0 h1 h2;exact bp.val bR (ol hs (bI _) dI fun q hq=> .inr (Bc q hq))
def ql(T:aG P)(n:Nat)(t:TypeId)(same:Bool)(a b:Int)(k:cU->Option R):Option R:=
 match find T.und t with
 |some (.slice e)=>match find T.row e with
  |some r=>(bif same then rK a r.zero else Mz a b r.zero).bind fun l=>k {dst:= .val false (.own n),make:=[(n,(n, .own e r l))]}
  |none=>none
 |_=>none
theorem sy{x y:Operand}(h:lk x y=true){a b:Int}{ka kb:IntKind}(hx:ev ρ x= .int ka a)(hy:ev ρ y= .int kb b):a=b:=by
 unfold lk at h;split at h
 .obtain rfl:=beq_true h;rw[hx]at hy;cases hy;rfl
 .simp only[ev,Value.int.injEq]at hx hy;have:=of_decide_eq_true h;omega
 .cases h
theorem vq(T:aG P){t:TypeId}{a b:Int}{ka kb:IntKind}{x y:Operand}{k:cU->Option R}{q:R}(h:ql T n t (lk x y) a b k=some q)(hs:aq U H F w ob n)(hx:ev ρ x= .int ka a)(hy:ev ρ y= .int kb b):
 ∃e,k e=some q/\bJ P U H F w ρ ob n ⟨some d, .makeSlice t x y,ty,pos,aft,none⟩ e:=by
 unfold ql at h;split at h
 case h_2=>cases h
 rename_i e hu;split at h
 case h_2=>cases h
 rename_i r hr;obtain⟨l,hl,hk⟩:=bind_some h;have lj:=T.row_ok _ _ hr;have ht:=T.und_ok _ _ hu
 cases Be:lk x y with
 |true=>
  rw[Be,cond_true]at hl;unfold rK at hl;split at hl
  case isFalse=>cases hl
  rename_i hc;obtain rfl:=X7 hl;obtain rfl:=sy Be hx hy;exact⟨_,hk,vp ht lj hs hx hy hc.1 (Ze _) hc.2⟩
 |false=>
  rw[Be,cond_false]at hl;unfold Mz at hl;split at hl
  case isFalse=>cases hl
  rename_i hc;obtain rfl:=X7 hl;exact⟨_,hk,vp ht lj hs hx hy hc.1 hc.2.1 hc.2.2⟩
def Nn(ob:Nat->Option (Nat×Th))(r:Row)(D:aj):Option (List r.den):=
 match pD ob D with
 |some (.read s l)=>if h:s.beq r=true then some (fK (r:= .slice s) (s:= .slice r) (congrArg Row.slice (Row.eq_of_beq h)) l)else none
 |some (.own _ _ _ s l)=>if h:s.beq r=true then some (fK (r:= .slice s) (s:= .slice r) (congrArg Row.slice (Row.eq_of_beq h)) l)else none
 |some .nil=>some []
 |some (.view ..)=>none
 |some (.deep ..)=>none
 |none=>none
theorem Iy(hs:aq U H F w ob n){r:Row}{D:aj}{l:List r.den}{v:Value}(h:Nn ob r D=some l)(hd:ai H F w D v):Reads F w r v l:=by
 unfold Nn at h;split at h
 .rename_i s m eR;split at h
  case isFalse=>cases h
  rename_i hb;obtain rfl:=Row.eq_of_beq hb;obtain rfl:=X7 h;exact bH.reads (fB hs eR hd)
 .rename_i o s0 T s m eR;split at h
  case isFalse=>cases h
  rename_i hb;obtain rfl:=Row.eq_of_beq hb;obtain rfl:=X7 h;exact(fB hs eR hd).2.2.reads
 .rename_i eR;obtain rfl:=X7 h;have:v=_:=fB hs eR hd;subst this;exact(bH.nil F w r).reads
 .cases h
 .cases h
 .cases h
def nv:DG->Int
 | .read _ l=>(l.length:Int)
 | .own _ _ _ _ l=>(l.length:Int)
 | .nil=>0
 | .view _ _ _ l=>(l.length:Int)
 | .deep _ _ _ _ l _=>(l.length:Int)
theorem DM{v:Value}{k:DG}(h:Gb U H F w ob v k):∃A m cap,v= .slice A m cap/\nv k=(m:Int):=by
 cases k with
 |read r l=>
  obtain⟨A,cap,e,_⟩:=bH.xC h;exact⟨A,_,cap,e,rfl⟩
 |own o s T r l=>
  obtain⟨A,cap,e,_⟩:=h.2.2.reads;exact⟨A,_,cap,e,rfl⟩
 |nil=>exact⟨none,0,0,h,rfl⟩
 |view o s r m=>
  obtain⟨A,cap,T,l,a,b,_,_,h3,h4,rfl,rfl⟩:=h;refine⟨_,_,_,rfl,?_⟩;simp only[nv,List.length_drop,Y2,YY h4]
 |deep o s T d l hh=>
  obtain⟨lh,_,⟨xs,AQ,_⟩,n6,_⟩:=h.2.2.ok
  rcases AQ.2 with⟨A7,h0⟩|⟨g,o0,cap,gi,tI,_,_,_⟩
  .exact⟨none,0,0,A7,by simp only[nv];omega⟩
  .exact⟨_,_,_,tI,by simp only[nv];omega⟩
def Bf(T:aG P)(ob:Nat->Option (Nat×Th))(t:TypeId)(D:aj):Option aj:=
 match find T.und t with
 |some (.slice _)=>match pD ob D with
  |some k=>some (ja .i64 (nv k))
  |none=>none
 |some .str=>match vg D with
  |some s=>some (ja .i64 (s.size:Int))
  |none=>none
 |_=>none
theorem zt(T:aG P){t:TypeId}{D D':aj}{x:Operand}(h:Bf T ob t D=some D')(hs:aq U H F w ob n)(hx:ai H F w D (ev ρ x)):
 bJ P U H F w ρ ob n ⟨some d, .call {callee:= .builtin .len,args:= #[x],argTypes:= #[t]},ty,pos,aft,none⟩ {dst:=D'}:=by
 unfold Bf at h;split at h
 .rename_i e hu;split at h
  case h_2=>cases h
  rename_i k hk;obtain rfl:=X7 h;obtain⟨A,m,cap,e1,e2⟩:=DM (fB hs hk hx);rw[e2];exact aA hs (Dl rfl (T.und_ok _ _ hu) e1) (aB.gj ..)
 .rename_i hu;split at h
  case h_2=>cases h
  rename_i s hk;obtain rfl:=X7 h;exact aA hs (AK (T.und_ok _ _ hu) (qi hk hx)) (aB.gj ..)
 .cases h
def lV(T:aG P)(ob:Nat->Option (Nat×Th))(n:Nat)(t:TypeId)(X Y:aj)(k:cU->Option R):Option R:=
 match find T.und t with
 |some (.slice e)=>match find T.row e with
  |some r=>match Nn ob r Y with
   |some m=>match pD ob X with
    |some .nil=>(eW ([]:List r.den) m).bind fun l=>k {dst:= .val false (.own n),make:=[(n,(n, .own e r l))]}
    |some (.own o _ T0 s l0)=>bif Yb T0 e then
      (if h:s.beq r=true then(eW (fK (r:= .slice s) (s:= .slice r) (congrArg Row.slice (Row.eq_of_beq h)) l0) m).bind fun l=>k {dst:= .val false (.own n),eat:=[o],make:=[(n,(n, .own e r l))]}else none)else none
    |_=>none
   |none=>none
  |none=>none
 |_=>none
theorem xO(T:aG P){t:TypeId}{X Y:aj}{x y:Operand}{k:cU->Option R}{q:R}(h:lV T ob n t X Y k=some q)(hs:aq U H F w ob n)(hx:ai H F w X (ev ρ x))(hy:ai H F w Y (ev ρ y)):
 ∃e,k e=some q/\bJ P U H F w ρ ob n ⟨some d, .call {callee:= .builtin .append,args:= #[x,y],argTypes:= #[t,t]},ty,pos,aft,none⟩ e:=by
 unfold lV at h;split at h
 case h_2=>cases h
 rename_i e hu;split at h
 case h_2=>cases h
 rename_i r hr;obtain⟨ti,z,h1,h2,h3,h4,h5⟩:=T.row_ok _ _ hr;have ht:=T.und_ok _ _ hu;split at h
 case h_2=>cases h
 rename_i m hm;have dV:=Iy hs hm hy
 have key:∀{l out:List r.den},gY 0 F w e r (ev ρ x) l->eW l m=some out->∃v' w',(execOp (ev ρ) ⟨some d, .call {callee:= .builtin .append,args:= #[x,y],argTypes:= #[t,t]},ty,pos,aft,none⟩).run P w= .ok (.value v') w'/\Ext (aM (ev ρ x)) w w'/\gY 0 F w' e r v' out/\(∀k,aM v' k->aM (ev ρ x) k\/w.heap.size<=k):=by
  intro l out ho ha;obtain⟨v',w',bR,he,iJ,Kj⟩:=p8 ty ht h1 h2 h3 h4 h5 ho dV ha hs.lt (Yk _);refine⟨v',w',by simp[execOp,resolve,invoke,builtin,bR],he,iJ,fun k hk=>?_⟩
  rcases Kj with g|g
  .exact .inl (g▸hk)
  .rw[g]at hk;exact .inr (by omega)
 split at h
 .rename_i eR;obtain⟨l,hl,hk⟩:=bind_some h;have hv:ev ρ x=_:=fB hs eR hx;obtain⟨v',w',bR,he,iJ,hn⟩:=key (by rw[hv];exact gY.nil 0 F w e r) hl
  have no:∀k,¬aM (ev ρ x) k:=fun k hk=>by rw[hv]at hk;simp[aM,YE]at hk
  exact⟨_,hk,bp.val bR (ol hs ⟨he.os,he.tape,he.output,he.size,fun k hk _=>he.block k hk (no k)⟩ iJ fun k hk=>(hn k hk).imp (fun h=>absurd h (no k)) id)⟩
 .rename_i o s0 T0 s l0 eR;obtain⟨hb,h⟩:=ay h;obtain rfl:=beq_true hb;split at h
  case isFalse=>cases h
  rename_i vo;obtain rfl:=Row.eq_of_beq vo;obtain⟨l,hl,hk⟩:=bind_some h;obtain⟨hv,cA,dI⟩:=fB hs eR hx;obtain⟨v',w',bR,he,iJ,hn⟩:=key dI hl
  have gS:∀k,aM (ev ρ x) k->bx H ob [o] k:=fun k hk=>⟨o,by simp,_,_,_,cA,hv,hk⟩
  exact⟨_,hk,bp.val bR (ol hs ⟨he.os,he.tape,he.output,he.size,fun k hk uZ=>he.block k hk fun hm=>uZ (gS k hm)⟩ iJ fun k hk=>(hn k hk).imp (gS k) id)⟩
 .cases h
def vr(ob:Nat->Option (Nat×Th))(r:Row):List aj->Option (List r.den)
 |[]=>some []
 | .val _ u::l=>match flat ob r u with
   |some x=>match vr ob r l with
    |some xs=>some (x::xs)
    |none=>none
   |none=>none
 |_::_=>none
def nw(rd:Operand->Option aj):List Operand->Option (List aj)
 |[]=>some []
 |x::xs=>match rd x with
  |some d=>match nw rd xs with
   |some ds=>some (d::ds)
   |none=>none
  |none=>none
def dJ(H:ao)(F:Nat->Prop)(w:World):List aj->List Value->Prop
 |[],vs=>vs=[]
 |d::ds,vs=>∃v us,vs=v::us/\ai H F w d v/\dJ H F w ds us
theorem jO{rd:Operand->Option aj}(h:∀x d,rd x=some d->ai H F w d (ev ρ x)):{xs:List Operand}->{ds:List aj}->nw rd xs=some ds->dJ H F w ds (xs.map (ev ρ))
 |[],ds,e=>by obtain rfl:=X7 e;rfl
 |x::xs,ds,e=>by
  unfold nw at e
  cases h1:rd x with
  |none=>rw[h1]at e;cases e
  |some d=>
   cases h2:nw rd xs with
   |none=>simp only[h1,h2]at e;cases e
   |some MA=>
    simp only[h1,h2,Ye]at e;subst e;exact⟨_,_,rfl,h _ _ h1,jO h h2⟩
theorem vu(hs:aq U H F w ob n){r:Row}:{ds:List aj}->{l:List r.den}->{vs:List Value}->vr ob r ds=some l->dJ H F w ds vs->qb F w r vs l
 |[],l,vs,e,h=>by
  obtain rfl:=X7 e;rw[show vs=[]from h];exact .nil
 | .val _ u::ds,l,vs,e,h=>by
   obtain⟨v,us,rfl,h1,h2⟩:=h;unfold vr at e
   cases hf:flat ob r u with
   |none=>rw[hf]at e;cases e
   |some x=>
    cases hg:vr ob r ds with
    |none=>simp only[hf,hg]at e;cases e
    |some xs=>
     simp only[hf,hg,Ye]at e;subst e;obtain⟨cs,py,rP⟩:=aB.cells h1;exact .cons rP (fA hs hf py) (vu hs hg h2)
 | .dead::_,_,_,e,_=>by cases e
 | .undef::_,_,_,e,_=>by cases e
 | .ptr .. ::_,_,_,e,_=>by cases e
 | .at .. ::_,_,_,e,_=>by cases e
 | .elem .. ::_,_,_,e,_=>by cases e
 | .tup _::_,_,_,e,_=>by cases e
 | .dlm .. ::_,_,_,e,_=>by cases e
theorem qm{e t:TypeId}{r:Row}{xs:List Operand}{l:List r.den}{parts:Array (Nat×Operand)}(ht:P.underlying t=some (.slice e))(lj:TI P e r)(cC:parts=((xs.zipIdx).map fun p=>(p.2,p.1)).toArray)(Be:xs.length*r.size<=16777216)
 (hl:qb F w r (xs.map (ev ρ)) l)(hs:aq U H F w ob n):
 ∃v w',(execOp (ev ρ) ⟨some d, .buildSlice t xs.length parts,ty,pos,aft,none⟩).run P w= .ok (.value v) w'/\(∀g,Ext g w w')/\gY 0 F w' e r v l/\∀k,aM v k->w.heap.size<=k:=by
 obtain⟨ti,z,h1,h2,h3,h4,h5⟩:=lj
 have Bg:(xs.map (ev ρ)).length=xs.length:=by simp
 have n6:=hl.length;have nl:=r.size_pos
 have Kd:z.cells.size=r.size:=by rw[<-(bH.zero F w r).length,<-h3];simp
 have Bh:(parts.map fun(i,q)=>(i,ev ρ q)).toList=((xs.map (ev ρ)).zipIdx).map fun p=>(p.2,p.1):=by
  subst cC;simp[List.zipIdx_map,Function.comp_def]
 generalize hm:xs.length=m at*;generalize xs.map (ev ρ)=vs at*
 have key:∀zz:Array Value,zz.size=m*r.size->∃xy:List Value,Zy (fun i=>some (i*r.size,r.size)) zz ((vs.zipIdx).map fun p=>(p.2,p.1))=some xy.toArray/\xy.length=l.length*r.size/\∀i(hi:i<l.length),bH F w r ((xy.drop (i*r.size)).take r.size) l[i]:=by
  intro zz Kq;obtain⟨xy,a1,a2,a3⟩:=hl.fill 0 [] zz.toList (by simp) (by rw[Array.length_toList,Kq,Bg]);exact⟨xy,by simpa using a1,a2,a3⟩
 have bR:∃xy:List Value,(execOp (ev ρ) ⟨some d, .buildSlice t m parts,ty,pos,aft,none⟩).run P w= .ok (.value (.slice (some ⟨w.heap.size,0,none⟩) m m)) (w.alloc (.cells xy.toArray e))/\xy.length=l.length*r.size/\∀i(hi:i<l.length),bH F w r ((xy.drop (i*r.size)).take r.size) l[i]:=by
  by_cases h0:m*r.size=0
  .obtain⟨xy,a1,a2,a3⟩:=key #[] (by simp[h0]);refine⟨xy,?_,a2,a3⟩;simp only[execOp,Instr.buildSlice,Ys,run_underlying ht,YG];rw[Bh]
   have HJ:Array.range 0=(#[]:Array Nat):=by rfl
   simp[sizeOf,typeInfo,h1,h4,h0,newRow,HJ,a1]
  .obtain⟨xy,a1,a2,a3⟩:=key ((Array.range (m*r.size)).map (z.cells[· %z.cells.size]!)) (by simp);refine⟨xy,?_,a2,a3⟩;simp only[execOp,Instr.buildSlice,Ys,run_underlying ht,YG];rw[Bh];simp[sizeOf,typeInfo,h1,h4,h0,zeroValue,h2,newRow,a1,show¬(16777216<m*r.size)from by omega]
 obtain⟨xy,bR,a2,a3⟩:=bR
 have QR:m=l.length:=by omega
 have Sb:m<=16777216:=Nat.le_trans (Nat.le_mul_of_pos_right m nl) Be;refine⟨_,_,bR,fun g=>lU _,⟨fun k hk=>?_,xy,?_,fun i hi=>(a3 i hi).step (Step.alloc hs.lt _)⟩,fun k hk=>?_⟩
 .simp only[aM,YE,Ye]at hk;intro e;have:=hs.lt _ e;omega
 .have:=World.ownsRow_lit (base:=0) (e:=e) (size:=r.size) w xy.toArray m (Yk _) (by simp[maxLen];omega) (by simp[a2,QR]);rw[QR]at this⊢;simpa using jn.of this
 .simp only[aM,YE,Ye]at hk;omega
theorem run_build{e t:TypeId}{r:Row}{xs:List Operand}{l:List r.den}{parts:Array (Nat×Operand)}(ht:P.underlying t=some (.slice e))(lj:TI P e r)(cC:parts=((xs.zipIdx).map fun p=>(p.2,p.1)).toArray)(Be:xs.length*r.size<=16777216)
 (hl:qb F w r (xs.map (ev ρ)) l)(hs:aq U H F w ob n):
 bJ P U H F w ρ ob n ⟨some d, .buildSlice t xs.length parts,ty,pos,aft,none⟩ {dst:= .val false (.own n),make:=[(n,(n, .own e r l))]}:=by
 obtain⟨v,w',h1,h2,h3,h4⟩:=qm (d:=d) (ty:=ty) (pos:=pos) (aft:=aft) ht lj cC Be hl hs;exact bp.val h1 (ol hs (h2 _) h3 fun k hk=> .inr (h4 k hk))
def zu:Nat->List (Nat×Operand)->Bool
 |_,[]=>true
 |k,p::l=>Yb p.1 k&&zu (k+1) l
theorem qn:{k:Nat}->{l:List (Nat×Operand)}->zu k l=true->l=((l.map (·.2)).zipIdx k).map fun p=>(p.2,p.1)
 |_,[],_=>rfl
 |k,p::l,h=>by
  obtain⟨h1,h2⟩:=bU h;have h1:=beq_true h1;have ih:=qn h2;obtain⟨a,b⟩:=p;subst h1;rw[List.map_cons,List.zipIdx_cons,List.map_cons,<-ih]
def gm(T:aG P)(rd:Operand->Option aj)(ob:Nat->Option (Nat×Th))(n:Nat)(t:TypeId)(m:Nat)(parts:Array (Nat×Operand))(k:cU->Option R):Option R:=
 match find T.und t with
 |some (.slice e)=>match find T.row e with
  |some r=>bif zu 0 parts.toList&&Yb m parts.toList.length&&Nat.ble (m*r.size) 16777216 then
    (match nw rd (parts.toList.map (·.2))with
    |some ds=>match vr ob r ds with
     |some l=>k {dst:= .val false (.own n),make:=[(n,(n, .own e r l))]}
     |none=>none
    |none=>none)else none
  |none=>none
 |_=>none
theorem qo(T:aG P){rd:Operand->Option aj}(dV:∀x d,rd x=some d->ai H F w d (ev ρ x)){t:TypeId}{m:Nat}{parts:Array (Nat×Operand)}{k:cU->Option R}{q:R}(h:gm T rd ob n t m parts k=some q)(hs:aq U H F w ob n):
 ∃e,k e=some q/\bJ P U H F w ρ ob n ⟨some d, .buildSlice t m parts,ty,pos,aft,none⟩ e:=by
 unfold gm at h;split at h
 case h_2=>cases h
 rename_i e hu;split at h
 case h_2=>cases h
 rename_i r hr;obtain⟨h1,h⟩:=ay h;obtain⟨h1,h3⟩:=bU h1;obtain⟨h1,h2⟩:=bU h1;have h2:=beq_true h2
 have h3:m*r.size<=16777216:=by simpa using h3
 split at h
 case h_2=>cases h
 rename_i ds pP;split at h
 case h_2=>cases h
 rename_i l hl;have Kr:=vu hs hl (jO dV pP)
 have hp:parts=(((parts.toList.map (·.2)).zipIdx).map fun p=>(p.2,p.1)).toArray:=by
  rw[<-qn h1,YH]
 have hm:m=(parts.toList.map (·.2)).length:=by simpa using h2
 refine⟨_,h,?_⟩;have:=run_build (d:=d) (ty:=ty) (pos:=pos) (aft:=aft) (T.und_ok _ _ hu) (T.row_ok _ _ hr) hp (by rw[<-hm];exact h3) Kr hs;rw[<-hm]at this;exact this
def zw{P:Program}(T:aG P)(fs:List (TypeId×Nat)):Tree->List (Nat×aj)->Option Tree
 |t,[]=>some t
 |t,(f, .val _ u)::l=>match t.get (nu fs.length f)with
  |some (s,off)=>match fs[f]? with
   |some (ft,cF)=>bif Yb off cF&&Yb u.size s.size&&(match find T.row ft with|some r=>Yb r.size u.size|none=>false)then
     (match t.put (nu fs.length f) u with
     |some t'=>zw T fs t' l
     |none=>none)else none
   |none=>none
  |none=>none
 |_,_::_=>none
def pQ(T:aG P):List (TypeId×Nat)->Bool
 |[]=>true
 |p::fs=>(match find T.row p.1 with|some _=>true|none=>false)&&pQ T fs
def place(T:aG P)(fs:List (TypeId×Nat))(i:Nat):Option (Nat×Nat):=
 match fs[i]? with
 |some (ft,off)=>match find T.row ft with
  |some r=>some (off,r.size)
  |none=>none
 |none=>none
theorem qp(T:aG P):{l:List Field}->{fs:List (TypeId×Nat)}->l.map (fun f=>(f.type,f.offset))=fs->pQ T fs=true->
 ∃pl:List (Nat×Nat),(l.mapM fun(f:Field)=>(do pure (f.offset,<-sizeOf f.type):Sem (Nat×Nat))).run P w= .ok pl w/\∀i,pl[i]? =place T fs i
 |[],fs,h,_=>by
  subst h;exact⟨[],by simp,fun i=>by simp[place]⟩
 |f::l,fs,h,hz=>by
  subst h;obtain⟨h1,h2⟩:=bU hz;obtain⟨pl,JT,Iz⟩:=qp T (l:=l) rfl h2
  cases hr:find T.row f.type with
  |none=>rw[hr]at h1;cases h1
  |some r=>
   obtain⟨ti,z,g1,_,_,g4,_⟩:=T.row_ok _ _ hr;refine⟨(f.offset,r.size)::pl,?_,fun i=>?_⟩
   .have rQ:(sizeOf f.type).run P w= .ok r.size w:=by simp[sizeOf,typeInfo,g1,g4]
    rw[List.mapM_cons];simp only[Ys,rQ,Sem.run_pure,YG,JT]
   .cases i with
    |zero=>simp[place,hr]
    |succ i=>simpa[place]using Iz i
end
end Go.Proofs.YtlfjlhcigpejdaaGreatDoor
end
section
open _root_.Array renaming toArray_toList->YH
open _root_.Go.Instr renaming fill->Zy
open _root_.Int renaming tdiv->Yn,tmod->Yl,toNat_natCast->Yg
open _root_.List.cons renaming injEq->Zd
open _root_.List renaming getElem?_eq_getElem->X9
open _root_.Nat renaming add_mul->Yt,beq->Yb,le_refl->Yd,min_eq_left->YY,mul_le_mul_right->Ym
open _root_.Option.some renaming inj->X7
open _root_.Go.Result renaming andThen_ok->YG
open _root_.Go.Sem renaming run_bind->Ys
open _root_.Go.Value renaming ownBlock->YE
open _root_.Go.Value.slice renaming injEq->Zh
namespace Go.Proofs.YtlfjlhcigpejdaaGreatDoor
open Go Go.RowKit
section
variable {P:Program} {ρ:Nat->Value} {w w':World} {H H':ao} {F F':Nat->Prop} {U:Nat->Prop} {ob:Nat->Option (Nat×Th)} {n:Nat} {R:Type}
variable {op:Op} {ty:TypeId} {pos:String} {aft:Array Edge} {d:Nat}
theorem vv(T:aG P){fs:List (TypeId×Nat)}{pl:List (Nat×Nat)}(hz:pQ T fs=true)(ll:∀i,pl[i]? =place T fs i)(mv:∀ft off r,(ft,off)∈fs->find T.row ft=some r->True):
 {parts:List (Nat×aj)}->{t t':Tree}->{cs:List Value}->{vs:List (Nat×Value)}->zw T fs t parts=some t'->bi H F w t cs->parts.map (·.1)=vs.map (·.1)->dJ H F w (parts.map (·.2)) (vs.map (·.2))->
 ∃oa,Zy (pl[·]?) cs.toArray vs=some oa.toArray/\bi H F w t' oa
 |[],t,t',cs,vs,h,hh,h1,h2=>by
  obtain rfl:=X7 h
  have:vs=[]:=by simpa using h1.symm
  subst this;exact⟨cs,by simp[Zy],hh⟩
 |(f, .val agg u)::parts,t,t',cs,vs,h,hh,h1,h2=>by
  obtain⟨v,us,e,hv,h3⟩:=h2
  cases vs with
  |nil=>simp at e
  |cons fv vs=>
   obtain⟨f',v'⟩:=fv;simp only[List.map_cons,Zd]at h1 e;obtain⟨rfl,h1⟩:=h1;obtain⟨rfl,rfl⟩:=e;unfold zw at h;split at h
   case h_2=>cases h
   rename_i s off hg;split at h
   case h_2=>cases h
   rename_i ft cF hf;obtain⟨hb,h'⟩:=ay h;clear h;obtain⟨hb,Ks⟩:=bU hb;obtain⟨zx,sz⟩:=bU hb;have zx:=beq_true zx;subst zx;have sz:=beq_true sz;split at h'
   case h_2=>cases h'
   rename_i tp hp;obtain⟨c1,va,rP⟩:=aB.cells hv;have hl:=va.length;have hle:=(hh.get hg).2
   cases hr:find T.row ft with
   |none=>simp only[hr]at Ks;cases Ks
   |some r=>
    simp only[hr]at Ks;have Ks:=beq_true Ks
    have IA:pl[f]? =some (off,r.size):=by rw[ll];simp[place,hf,hr]
    rw[oc IA rP (by omega) (by omega)];have qg:=bi.put va hg hp sz.symm hh;rw[show u.size=r.size from by omega]at qg;exact vv T hz ll mv h' qg h1 h3
 |(_, .dead)::_,_,_,_,_,h,_,_,_=>by cases h
 |(_, .undef)::_,_,_,_,_,h,_,_,_=>by cases h
 |(_, .ptr ..)::_,_,_,_,_,h,_,_,_=>by cases h
 |(_, .at ..)::_,_,_,_,_,h,_,_,_=>by cases h
 |(_, .elem ..)::_,_,_,_,_,h,_,_,_=>by cases h
 |(_, .tup _)::_,_,_,_,_,h,_,_,_=>by cases h
 |(_, .dlm ..)::_,_,_,_,_,h,_,_,_=>by cases h
def om(T:aG P)(rd:Operand->Option aj)(t:TypeId)(parts:Array (Nat×Operand))(k:cU->Option R):Option R:=
 match find T.und t with
 |some (.struct fs)=>match find T.row t with
  |some r=>bif pQ T fs then
    (match nw rd (parts.toList.map (·.2))with
    |some ds=>match zw T fs r.vm ((parts.toList.map (·.1)).zip ds)with
     |some tr=>k {dst:= .val true tr}
     |none=>none
    |none=>none)else none
  |none=>none
 |_=>none
theorem gy:{ds:List aj}->{vs:List Value}->dJ H F w ds vs->ds.length=vs.length
 |[],_,h=>by rw[show _=[]from h];rfl
 |_::_,_,h=>by obtain⟨v,us,rfl,_,h2⟩:=h;simp[gy h2]
theorem Bi(T:aG P){rd:Operand->Option aj}(dV:∀x d,rd x=some d->ai H F w d (ev ρ x)){t:TypeId}{parts:Array (Nat×Operand)}{k:cU->Option R}{q:R}(h:om T rd t parts k=some q)(hs:aq U H F w ob n):
 ∃e,k e=some q/\bJ P U H F w ρ ob n ⟨some d, .build t parts,ty,pos,aft,none⟩ e:=by
 unfold om at h;split at h
 case h_2=>cases h
 rename_i fs hu;obtain⟨arr,tH,Ga⟩:=T.und_ok _ _ hu;split at h
 case h_2=>cases h
 rename_i r hr;obtain⟨ti,z,h1,h2,h3,h4,h5⟩:=T.row_ok _ _ hr;obtain⟨hz,h⟩:=ay h;split at h
 case h_2=>cases h
 rename_i ds pP;split at h
 case h_2=>cases h
 rename_i tr Kt;have hd:=jO (w:=w) (H:=H) (F:=F) (ρ:=ρ) dV pP;have hlen:=gy hd;obtain⟨pl,JT,Iz⟩:=qp (w:=w) T Ga hz
 have hn:∀(a:List Nat)(b:List aj),a.length=b.length->(a.zip b).map (·.1)=a/\(a.zip b).map (·.2)=b:=fun a b HK=>⟨List.map_fst_zip (by omega),List.map_snd_zip (by omega)⟩
 have Ku:=hn (parts.toList.map (·.1)) ds (by simp at hlen⊢;omega);obtain⟨oa,hf,hh⟩:=vv (w:=w) (H:=H) (F:=F) T hz Iz (fun _ _ _ _ _=>trivial) (vs:=parts.toList.map fun(i,q)=>(i,ev ρ q)) Kt (Row.jt H F w r) (by rw[Ku.1];simp[Function.comp_def]) (by rw[Ku.2];simpa[Function.comp_def]using hd);refine⟨_,h,aU hs (v:= .agg oa.toArray) ?_ ⟨oa,hh,rfl,by simp⟩⟩
 have Sc:z.cells=r.dn.toArray:=by rw[<-h3,YH]
 have Sd:(arr.mapM fun(f:Field)=>(do pure (f.offset,<-sizeOf f.type):Sem (Nat×Nat))).run P w= .ok pl.toArray w:=by
  rw[<-YH (xs:=arr),List.mapM_toArray];simp only[Sem.run_map,JT];rfl
 have Se:(parts.map fun(i,q)=>(i,ev ρ q)).toList=parts.toList.map fun(i,q)=>(i,ev ρ q):=by simp
 have No:(fun(x:Nat)=>pl.toArray[x]?)=fun x=>pl[x]? :=by funext x;simp
 simp only[execOp,Instr.build,Ys,zeroValue,typeInfo,h1,h2,run_program,Sem.run_pure,YG,run_underlying tH,Sc,Se,Sd,No,hf]
def Ge(rd:Operand->Option aj):Option Operand->Option (Option Int)
 |none=>some none
 |some x=>match rd x with
  |some d=>match asInt d with
   |some (_,i)=>some (some i)
   |none=>none
  |none=>none
theorem zy{rd:Operand->Option aj}(dV:∀x d,rd x=some d->ai H F w d (ev ρ x)){lo:Option Operand}{a:Option Int}(h:Ge rd lo=some a):Iw ρ lo a:=by
 unfold Ge at h;split at h
 .obtain rfl:=X7 h;exact .none
 .split at h
  .split at h
   .obtain rfl:=X7 h;rename_i hD _ _ _ hi;exact .some (ff hi (dV _ _ hD))
   .cases h
  .cases h
def oo(dr:Bool)(T:aG P)(rd:Operand->Option aj)(ob:Nat->Option (Nat×Th))(n:Nat)(t:TypeId)(D:aj)(lo hi:Option Operand)(k:cU->Option R):Option R:=
 match find T.und t with
 |some (.slice e)=>match find T.row e with
  |some re=>match Ge rd lo with
   |some a=>match Ge rd hi with
    |some b=>match pD ob D with
     |some (.read r l)=>bif Yb r.size re.size then(fO l (a.getD 0) (b.getD (l.length:Int))).bind fun m=>k {dst:= .val false (.leaf (.slice r) m)}else none
     |some .nil=>(fO ([]:List re.den) (a.getD 0) (b.getD 0)).bind fun _=>k {dst:= .val false .nil}
     |some (.own o s T0 r l)=>bif Yb r.size re.size&&Yb T0 e&&(lo.isNone||dr)then(fO l (a.getD 0) (b.getD (l.length:Int))).bind fun m=>k {dst:= .val false (.own n),eat:=[o],make:=[(n,(n, .own T0 r m))]}
       else bif Yb r.size re.size then(fO l (a.getD 0) (b.getD (l.length:Int))).bind fun m=>k {dst:= .val false (.view o s r m)}else none
     |_=>none
    |none=>none
   |none=>none
  |none=>none
 |_=>none
theorem Bj{e T0:TypeId}{ti:TypeInfo}{r:Row}{t:TypeId}{x:Operand}{lo hi:Option Operand}{a b:Option Int}{l m:List r.den}{o s:Nat}{v:Value}(ht:P.underlying t=some (.slice e))(h1:P.info? e=some ti)(h4:ti.size=r.size)(hx:ev ρ x=v)
 (hs:aq U H F w ob n)(cA:ob o=some (s, .own T0 r l))(DN:H.val o=some v)(ha:Iw ρ lo a)(hb:Iw ρ hi b)(hm:fO l (a.getD 0) (b.getD l.length)=some m):
 bJ P U H F w ρ ob n ⟨some d, .slice t x lo hi none,ty,pos,aft,none⟩ {dst:= .val false (.own n),eat:=[o],make:=[(n,(n, .own T0 r m))]}:=by
 have hv:=hs.own cA DN;obtain⟨p,q,ep,eq,Kv,hq,rfl⟩:=od hm;obtain⟨A,cap,rfl,hlen,Na,_⟩:=hv.reads;have bR:=pO (P:=P) (w:=w) (d:=d) (ty:=ty) (pos:=pos) (aft:=aft) ht h1 hx ha hb (by omega) (by omega) (by omega) hlen;rw[ep,eq,Yg,Yg,h4]at bR;obtain⟨uZ,xs,⟨xx,FF⟩,hr⟩:=hv
 have zA:((l.take q).drop p).length=q-p:=by simp;omega
 have hmul:q*r.size<=l.length*r.size:=Ym _ hq;have QS:p*r.size<=q*r.size:=Ym _ Kv;have QT:(q-p)*r.size=q*r.size-p*r.size:=Nat.sub_mul ..
 have bI:Ext (bx H ob [o]) w w:=⟨rfl,rfl,rfl,Yd _,fun _ _ _=>rfl⟩
 rcases FF with⟨A7,h0⟩|⟨g,o0,Dp,gi,eR,lQ,hh,Xr,Xs,py,Sf⟩
 .simp only[Zh]at A7;obtain⟨rfl,_,rfl⟩:=A7
  have Kw:q=0:=by omega
  subst Kw
  obtain rfl:p=0:=by omega
  refine bp.val bR (ol hs bI ?_ ?_)
  .simpa[sliced]using gY.nil 0 F w T0 r
  .intro k hk;simp[sliced,aM,YE]at hk
 .simp only[Zh,true_and]at eR;obtain⟨rfl,rfl⟩:=eR
  obtain⟨o1,oq,Sg,Kx⟩:∃o1,sliced (some ⟨g,o0,none⟩) p q cap r.size= .slice (some ⟨g,o1,none⟩) (q-p) (cap-p)/\o1+(cap-p)*r.size<=gi.size/\(gi.toList.drop o1).take ((q-p)*r.size)=(xs.drop (p*r.size)).take ((q-p)*r.size):=by
   have Xt:p*r.size<=cap*r.size:=Ym _ (by omega);have Si:(cap-p)*r.size=cap*r.size-p*r.size:=Nat.sub_mul ..;unfold sliced;by_cases hc:cap=p
   .refine⟨o0,by rw[if_pos hc],by omega,?_⟩
    have:q=p:=by omega
    subst this;simp
   .refine⟨o0+p*r.size,by rw[if_neg hc,Option.map_some,bN],by omega,?_⟩;rw[<-Sf,List.drop_take,List.take_take,List.drop_drop]
    congr 1
    omega
  rw[oq]at bR
  have QU:∀k,aM (.slice (some ⟨g,o1,none⟩) (q-p) (cap-p)) k->aM (.slice (some ⟨g,o0,none⟩) l.length cap) k:=fun k hk=>by simpa[aM,YE]using hk
  refine bp.val bR (ol hs bI ⟨fun k hk=>uZ k (QU k hk),(xs.drop (p*r.size)).take ((q-p)*r.size),⟨by rw[zA];simp;omega, .inr ⟨g,o1,cap-p,gi,by rw[zA],lQ,hh,by omega,by omega,Sg,?_⟩⟩,fun i hi=>?_⟩ fun k hk=> .inl ⟨o,by simp,_,_,_,cA,DN,QU k hk⟩)
  .rw[zA];exact Kx
  .have Sj:i<q-p:=by omega
   have hle:(i+1)*r.size<=(q-p)*r.size:=Ym _ Sj;rw[Yt]at hle;have:=hr (p+i) (by omega)
   have hg:((l.take q).drop p)[i]=l[p+i]'(by omega):=by simp
   rw[hg,List.drop_take,List.take_take,YY (by omega),List.drop_drop,show p*r.size+i*r.size=(p+i)*r.size from(Yt ..).symm];exact this
theorem Bk(dr:Bool)(T:aG P){rd:Operand->Option aj}(dV:∀x d,rd x=some d->ai H F w d (ev ρ x)){t:TypeId}{D:aj}{x:Operand}{lo hi:Option Operand}{k:cU->Option R}{q:R}(h:oo dr T rd ob n t D lo hi k=some q)(hs:aq U H F w ob n)(hx:ai H F w D (ev ρ x)):
 ∃e,k e=some q/\bJ P U H F w ρ ob n ⟨some d, .slice t x lo hi none,ty,pos,aft,none⟩ e:=by
 unfold oo at h;split at h
 case h_2=>cases h
 rename_i e hu;have ht:=T.und_ok _ _ hu;split at h
 case h_2=>cases h
 rename_i re Np;obtain⟨ti,z,h1,_,_,h4,_⟩:=T.row_ok _ _ Np;split at h
 case h_2=>cases h
 rename_i a ha;split at h
 case h_2=>cases h
 rename_i b hb;have MB:=zy (w:=w) (H:=H) (F:=F) (ρ:=ρ) dV ha;have lQ:=zy (w:=w) (H:=H) (F:=F) (ρ:=ρ) dV hb
 have IB:∀{r:Row}{l m:List r.den},bH F w (.slice r) [ev ρ x] l->r.size=re.size->fO l (a.getD 0) (b.getD (l.length:Int))=some m->bJ P U H F w ρ ob n ⟨some d, .slice t x lo hi none,ty,pos,aft,none⟩ {dst:= .val false (.leaf (.slice r) m)}:=by
  intro r l m hv hz hm;obtain⟨p,q',ep,eq,Kv,hq,rfl⟩:=od hm;have cy:=hv;obtain⟨A,cap,he,hc,Nq,_⟩:=hv;simp only[Zd,and_true]at he;have bR:=pO (P:=P) (w:=w) (d:=d) (ty:=ty) (pos:=pos) (aft:=aft) ht h1 he MB lQ (by omega) (by omega) (by omega) hc;rw[ep,eq,Yg,Yg,h4,<-hz]at bR;rw[he]at cy;exact aU hs bR (aB.jL (cy.cut Kv hq))
 split at h
 .rename_i r l eR;obtain⟨hz,h⟩:=ay h;obtain⟨m,hm,hk⟩:=bind_some h;exact⟨_,hk,IB (fB hs eR hx) (beq_true hz) hm⟩
 .rename_i eR;obtain⟨m,hm,hk⟩:=bind_some h;have hv:ev ρ x=_:=fB hs eR hx;unfold fO at hm;split at hm
  case isFalse=>cases hm
  rename_i hc
  have ea:a.getD 0=0:=by have:=hc.2.1;have:=hc.2.2;simp at this;omega
  have eb:b.getD ((0:Nat):Int)=0:=by have:=hc.2.1;have:=hc.2.2;simp at this⊢;omega
  have bR:=pO (P:=P) (w:=w) (d:=d) (ty:=ty) (pos:=pos) (aft:=aft) ht h1 hv MB lQ (by omega) (by omega) (by omega) (Yd _);rw[ea,eb]at bR;exact⟨_,hk,aU hs bR ⟨_,rfl,rfl,fun _=>rfl⟩⟩
 .rename_i o s T0 r l eR;obtain⟨hv,cA,dI⟩:=fB hs eR hx
  cases Nr:(Yb r.size re.size&&Yb T0 e&&(lo.isNone||dr))with
  |true=>
   rw[Nr,cond_true]at h;obtain⟨rQ,QV⟩:=bU Nr;obtain⟨tK,hT⟩:=bU rQ;have Kq:=beq_true tK;obtain⟨m,hm,hk⟩:=bind_some h;exact⟨_,hk,Bj ht h1 (h4.trans Kq.symm) rfl hs cA hv MB lQ hm⟩
  |false=>
   rw[Nr,cond_false]at h;obtain⟨tK,h'⟩:=ay h;clear h;have Kq:=beq_true tK;obtain⟨m,hm,hk⟩:=bind_some h';obtain⟨p,q',ep,eq,Kv,hq,rfl⟩:=od hm;obtain⟨A,cap,he,hc,Nq,_⟩:=dI.reads;have bR:=pO (P:=P) (w:=w) (d:=d) (ty:=ty) (pos:=pos) (aft:=aft) ht h1 he MB lQ (by omega) (by omega) (by omega) hc;rw[ep,eq,Yg,Yg,h4,<-Kq]at bR;obtain⟨v',cy,bO⟩:=hs.obj _ _ _ cA;refine⟨_,hk,aU hs bR ⟨_,⟨_,rfl,A,cap,T0,l,p,q',by rw[hv,he],bO.con,Kv,hq,rfl,rfl⟩,rfl,fun _=>rfl⟩⟩
 .cases h
noncomputable def IC(T:aG P)(ob:Nat->Option (Nat×Th))(o:BinOp)(t:TypeId)(X Y:aj):Option aj:=
 match X,Y with
 | .val false (.leaf .bool a), .val false (.leaf .bool b)=>match find T.und t with
   |some .bool=>match o with
    | .eql=>some (cJ (decide (a=b)))
    | .neq=>some (cJ (!decide (a=b)))
    |_=>none
   |_=>none
 | .val false (.leaf .str a), .val false (.leaf .str b)=>match o with
   | .eql=>some (cJ (decide (a=b)))
   | .neq=>some (cJ (!decide (a=b)))
   |_=>none
 | .val true u, .val true v=>match find T.eqs t with
   |some r=>match flat ob r u with
    |some x=>match flat ob r v with
     |some y=>match o with
      | .eql=>some (cJ (tE r x y))
      | .neq=>some (cJ (!(tE r x y)))
      |_=>none
     |none=>none
    |none=>none
   |none=>none
 |_,_=>none
theorem Gf(T:aG P){o:BinOp}{t u:TypeId}{X Y D:aj}{x y:Operand}(h:IC T ob o t X Y=some D)(hs:aq U H F w ob n)(hx:ai H F w X (ev ρ x))(hy:ai H F w Y (ev ρ y)):
 bJ P U H F w ρ ob n ⟨some d, .binOp o t x y u,ty,pos,aft,none⟩ {dst:=D}:=by
 unfold IC at h;split at h
 .rename_i a b;split at h
  case h_2=>cases h
  rename_i hu;have hu:=T.und_ok _ _ hu;have ha:ev ρ x= .bool a:=aB.bool hx;have hb:ev ρ y= .bool b:=aB.bool hy
  split at h<;>cases h
  .exact aA hs (AF hu ha hb) (aB.eu ..)
  .exact aA hs (AG hu ha hb) (aB.eu ..)
 .rename_i a b;have ha:ev ρ x= .string a:=aB.str hx;have hb:ev ρ y= .string b:=aB.str hy
  split at h<;>cases h
  .exact aA hs (AH ha hb) (aB.eu ..)
  .exact aA hs (AI ha hb) (aB.eu ..)
 .rename_i u v;split at h
  case h_2=>cases h
  rename_i r hr;obtain⟨K,dd,hE,hd,hg,hD⟩:=T.eqs_ok _ _ hr;split at h
  case h_2=>cases h
  rename_i a ha;split at h
  case h_2=>cases h
  rename_i b hb;obtain⟨c1,g1,e1,_⟩:=hx;obtain⟨c2,g2,e2,_⟩:=hy;have r1:=fA hs ha g1;have r2:=fA hs hb g2
  split at h<;>cases h
  .exact aA hs (AU hE hd hg hD e1 e2 r1 r2) (aB.eu ..)
  .exact aA hs (AV hE hd hg hD e1 e2 r1 r2) (aB.eu ..)
 .cases h
def ID(a b:ByteArray):Option ByteArray:=if a.size+b.size<=9223372036854775807 then some (a++b)else none
def xP(o:BinOp)(X Y:aj):Option (ByteArray×ByteArray):=
 match o,X,Y with
 | .add, .val false (.leaf .str a), .val false (.leaf .str b)=>some (a,b)
 |_,_,_=>none
theorem IE{t u:TypeId}{o:BinOp}{X Y:aj}{x y:Operand}{a b c:ByteArray}(h:xP o X Y=some (a,b))(hc:ID a b=some c)(hs:aq U H F w ob n)(hx:ai H F w X (ev ρ x))(hy:ai H F w Y (ev ρ y)):
 bJ P U H F w ρ ob n ⟨some d, .binOp o t x y u,ty,pos,aft,none⟩ {dst:= .val false (.leaf .str c)}:=by
 unfold xP at h
 split at h<;>cases h
 unfold ID at hc;split at hc
 case isFalse=>cases hc
 rename_i hle;obtain rfl:=X7 hc;have ha:ev ρ x= .string a:=aB.str hx;have hb:ev ρ y= .string b:=aB.str hy;refine aU hs (v:= .string (a++b)) ?_ (aB.jL rfl)
 have:¬(9223372036854775807:Int)<(a.size:Int)+(b.size:Int):=by omega
 simp[execOp,eqGuard,binOp,Op.stringOp,ha,hb,IntKind.max,IntKind.signed,IntKind.bits,this]
noncomputable def Bl(T:aG P)(ob:Nat->Option (Nat×Th))(o:BinOp)(t:TypeId)(lit:Bool)(X Y:aj)(k:cU->Option R):Option R:=
 match asInt X with
 |some (kx,a)=>match asInt Y with
  |some (ky,b)=>match o with
   | .shl=>bif lit then(bif !decide (b<0)then k {dst:=ja kx (pB kx a b)}else none)else(xJ kx a b).bind fun c=>k {dst:=ja kx c}
   | .shr=>bif lit then(bif !decide (b<0)then k {dst:=ja kx (ef kx a b)}else none)else(vh kx a b).bind fun c=>k {dst:=ja kx c}
   |o=>bif decide (kx=ky)then
    (match o with
    | .quo=>bif lit then(bif decide (b≠0)then k {dst:=ja kx (kx.wrap (Yn a b))}else none)else(gR a b).bind fun c=>k {dst:=ja kx (kx.wrap c)}
    | .rem=>bif lit then(bif decide (b≠0)then k {dst:=ja kx (Yl a b)}else none)else(li a b).bind fun c=>k {dst:=ja kx c}
    |_=>match arith o kx a b with
     |some D=>k {dst:=D}
     |none=>none)else none
  |none=>none
 |none=>match xP o X Y with
  |some (a,b)=>(ID a b).bind fun c=>k {dst:= .val false (.leaf .str c)}
  |none=>match IC T ob o t X Y with
   |some D=>k {dst:=D}
   |none=>none
theorem Gg(T:aG P){o:BinOp}{t u:TypeId}{lit:Bool}{X Y:aj}{x y:Operand}{k:cU->Option R}{q:R}(h:Bl T ob o t lit X Y k=some q)(hs:aq U H F w ob n)(hx:ai H F w X (ev ρ x))(hy:ai H F w Y (ev ρ y)):
 ∃e,k e=some q/\bJ P U H F w ρ ob n ⟨some d, .binOp o t x y u,ty,pos,aft,none⟩ e:=by
 unfold Bl at h;split at h
 .rename_i kx a hX;split at h
  case h_2=>cases h
  rename_i ky b hY;have ha:=ff hX hx;have hb:=ff hY hy;split at h
  .cases lit with
   |true=>
    rw[cond_true]at h;obtain⟨bu,h⟩:=ay h;exact⟨_,h,aA hs (vj ha hb (by simpa using bu)) (aB.gj ..)⟩
   |false=>
    rw[cond_false]at h;obtain⟨c,hc,h⟩:=bind_some h;unfold xJ at hc;split at hc
    .cases hc
    .rename_i bu;obtain rfl:=X7 hc;exact⟨_,h,aA hs (vj ha hb bu) (aB.gj ..)⟩
  .cases lit with
   |true=>
    rw[cond_true]at h;obtain⟨bu,h⟩:=ay h;exact⟨_,h,aA hs (vl ha hb (by simpa using bu)) (aB.gj ..)⟩
   |false=>
    rw[cond_false]at h;obtain⟨c,hc,h⟩:=bind_some h;unfold vh at hc;split at hc
    .cases hc
    .rename_i bu;obtain rfl:=X7 hc;exact⟨_,h,aA hs (vl ha hb bu) (aB.gj ..)⟩
  obtain⟨hk,h'⟩:=ay h;clear h;have hk:=of_decide_eq_true hk;subst hk;revert h';intro h;split at h
  .cases lit with
   |true=>
    rw[cond_true]at h;obtain⟨bu,h⟩:=ay h;exact⟨_,h,DE (of_decide_eq_true bu) hs ha hb⟩
   |false=>
    rw[cond_false]at h;obtain⟨c,hc,h⟩:=bind_some h;unfold gR at hc;split at hc
    .cases hc
    .rename_i bu;obtain rfl:=X7 hc;exact⟨_,h,DE bu hs ha hb⟩
  .cases lit with
   |true=>
    rw[cond_true]at h;obtain⟨bu,h⟩:=ay h;exact⟨_,h,DF (of_decide_eq_true bu) hs ha hb⟩
   |false=>
    rw[cond_false]at h;obtain⟨c,hc,h⟩:=bind_some h;unfold li at hc;split at hc
    .cases hc
    .rename_i bu;obtain rfl:=X7 hc;exact⟨_,h,DF bu hs ha hb⟩
  .split at h
   case h_2=>cases h
   rename_i D hD;exact⟨_,h,DD hD hs ha hb⟩
 .split at h
  .rename_i a b HK;obtain⟨c,hc,h⟩:=bind_some h;exact⟨_,h,IE HK hc hs hx hy⟩
  .split at h
   case h_2=>cases h
   rename_i D hD;exact⟨_,h,Gf T hD hs hx hy⟩
def Ns(o:UnOp)(X:aj):Option aj:=
 match o with
 | .not=>match asBool X with
   |some b=>some (cJ (!b))
   |none=>none
 | .neg=>match asInt X with
   |some (k,a)=>some (ja k (k.wrap (0-a)))
   |none=>none
 |_=>none
theorem IF{o:UnOp}{t:TypeId}{X D:aj}{x:Operand}(h:Ns o X=some D)(hs:aq U H F w ob n)(hx:ai H F w X (ev ρ x)):
 bJ P U H F w ρ ob n ⟨some d, .unOp o t x,ty,pos,aft,none⟩ {dst:=D}:=by
 unfold Ns at h;split at h
 .split at h<;>cases h
  rename_i b hb;exact aA hs (Dj (jM hb hx)) (aB.eu ..)
 .split at h<;>cases h
  rename_i k a ha;exact aA hs (Dk (ff ha hx)) (aB.gj ..)
 .cases h
def DO(T:aG P)(s t:TypeId)(X:aj):Option aj:=
 match find T.und s with
 |some _=>match find T.und t with
  |some (.int k)=>match asInt X with
   |some (_,a)=>some (ja k (k.wrap a))
   |none=>none
  |some .str=>match vg X with
   |some a=>some (Nl a)
   |none=>none
  |_=>none
 |none=>none
theorem DP(T:aG P){s t:TypeId}{X D:aj}{x:Operand}(h:DO T s t X=some D)(hs:aq U H F w ob n)(hx:ai H F w X (ev ρ x)):
 bJ P U H F w ρ ob n ⟨some d, .convert s t x,ty,pos,aft,none⟩ {dst:=D}:=by
 unfold DO at h;split at h
 case h_2=>cases h
 rename_i ks Sk;obtain⟨dd,pN,_⟩:=(T.und_ok _ _ Sk).agg;split at h
 .rename_i k Nt
  split at h<;>cases h
  rename_i k' a ha;exact aA hs (AJ pN (T.und_ok _ _ Nt) (ff ha hx)) (aB.gj ..)
 .rename_i Nt
  split at h<;>cases h
  rename_i a ha;have hv:=qi ha hx;have Nu:P.underlying t=some .string:=T.und_ok _ _ Nt;refine aU hs (v:= .string a) ?_ (aB.mkStr ..);simp[execOp,convert,run_underlying pN,run_underlying Nu,hv]
 .cases h
def qs(D:aj)(i:Nat):Option aj:=
 match D with
 | .tup ds=>match ds[i]? with
   |some (a,t)=>some (.val a t)
   |none=>none
 |_=>none
theorem nq.get:{ds:List (Bool×Tree)}->{vs:List Value}->{i:Nat}->{a:Bool}->{t:Tree}->nq H F w ds vs->ds[i]? =some (a,t)->∃v,vs[i]? =some v/\aB H F w a t v
 |[],_,_,_,_,_,h=>by cases h
 |d::ds,_,0,a,t,hh,h=>by
  obtain⟨v,us,rfl,h1,h2⟩:=hh
  obtain rfl:d=(a,t):=by simpa using h
  exact⟨v,rfl,h1⟩
 |d::ds,_,i+1,a,t,hh,h=>by
  obtain⟨v,us,rfl,h1,h2⟩:=hh;obtain⟨v',e,hv⟩:=nq.get h2 (by simpa using h);exact⟨v',by simpa using e,hv⟩
theorem vw{D D':aj}{i:Nat}{x:Operand}(h:qs D i=some D')(hs:aq U H F w ob n)(hx:ai H F w D (ev ρ x)):
 bJ P U H F w ρ ob n ⟨some d, .extract x i,ty,pos,aft,none⟩ {dst:=D'}:=by
 unfold qs at h;split at h
 case h_2=>cases h
 split at h<;>cases h
 rename_i ds a t hd;obtain⟨vs,e,ht⟩:=hx;obtain⟨v,hv,mP⟩:=ht.get hd;exact aA hs (tC e (by simpa using hv)) mP
def pR(mx:Bool)(X Y:aj):Option aj:=
 match asInt X,asInt Y with
 |some (k,a),some (k',b)=>bif decide (k=k')then some (ja k (bif mx then(if a<b then b else a)else(if b<a then b else a)))else none
 |_,_=>none
theorem qt{mx:Bool}{t t':TypeId}{X Y D:aj}{x y:Operand}(h:pR mx X Y=some D)(hs:aq U H F w ob n)(hx:ai H F w X (ev ρ x))(hy:ai H F w Y (ev ρ y)):
 bJ P U H F w ρ ob n ⟨some d, .call {callee:= .builtin (bif mx then .max else .min),args:= #[x,y],argTypes:= #[t,t']},ty,pos,aft,none⟩ {dst:=D}:=by
 unfold pR at h;split at h
 case h_2=>cases h
 rename_i k a k' b ha hb;obtain⟨hk,h'⟩:=ay h;clear h;have hk:=of_decide_eq_true hk;subst hk;obtain rfl:=X7 h';have ha:=ff ha hx;have hb:=ff hb hy
 cases mx with
 |true=>exact aA hs (AL ha hb) (aB.gj ..)
 |false=>exact aA hs (AM ha hb) (aB.gj ..)
theorem Bm{D:aj}{x:Operand}(hs:aq U H F w ob n)(hx:ai H F w D (ev ρ x)):bJ P U H F w ρ ob n ⟨some d, .move x,ty,pos,aft,none⟩ {dst:=D}:=aA hs (AE rfl) hx
theorem vx{D:aj}{x:Operand}(hs:aq U H F w ob n)(hx:ai H F w D (ev ρ x)):bJ P U H F w ρ ob n ⟨some d, .assign x,ty,pos,aft,none⟩ {dst:=D}:=aA hs (uY rfl) hx
def tM(T:aG P)(t:TypeId)(f:Nat)(X:aj):Option aj:=
 match find T.und t with
 |some (.struct fs)=>match fs[f]? with
  |some (ft,off)=>match find T.und ft with
   |some kk=>match X with
    | .val true u=>match u.get (nu fs.length f)with
      |some (s,cF)=>bif Yb cF off&&jc T ft kk s.size then some (.val (gQ kk) s)else none
      |none=>none
    |_=>none
   |none=>none
  |none=>none
 |_=>none
theorem xQ(T:aG P){t:TypeId}{f:Nat}{X D:aj}{x:Operand}(h:tM T t f X=some D)(hs:aq U H F w ob n)(hx:ai H F w X (ev ρ x)):
 bJ P U H F w ρ ob n ⟨some d, .field t x f,ty,pos,aft,none⟩ {dst:=D}:=by
 unfold tM at h;split at h
 case h_2=>cases h
 rename_i fs hu;obtain⟨arr,tH,Ga⟩:=T.und_ok _ _ hu;split at h
 case h_2=>cases h
 rename_i ft off hf;obtain⟨fd,JR,rfl,rfl⟩:=vn Ga hf;split at h
 case h_2=>cases h
 rename_i kk Sl;obtain⟨dd,pN,qc⟩:=(T.und_ok _ _ Sl).agg;split at h
 case h_2=>cases h
 rename_i u;split at h
 case h_2=>cases h
 rename_i s cF hg;obtain⟨hb,rfl⟩:=jb h;obtain⟨zx,sz⟩:=bU hb;obtain rfl:=beq_true zx;have hz:=gk T sz;obtain⟨cs,py,e,_⟩:=hx;obtain⟨g1,g2⟩:=py.get hg;have hl:=g1.length;have e':ev ρ x= .agg cs.toArray:=e
 have Ky:∃v,(part fd.type cs.toArray fd.offset).run P w= .ok v w/\aB H F w (gQ kk) s v:=by
  cases ha:gQ kk with
  |true=>
   rw[if_pos ha]at hz;obtain⟨r,hr,CP⟩:=hz;obtain⟨ti,z,h1,_,_,h4,_⟩:=T.row_ok _ _ hr;refine⟨.agg ((cs.drop fd.offset).take s.size).toArray,?_,_,g1,rfl,by simp⟩;unfold part;rw[Ys,dE pN,qc,ha];simp[sizeOf,typeInfo,h1,h4,CP]
  |false=>
   rw[if_neg (by simp[ha])]at hz
   have aW:fd.offset<cs.length:=by omega
   refine⟨cs[fd.offset],?_,_,g1,?_,fun _=>?_⟩
   .unfold part;rw[Ys,dE pN,qc,ha];simp[aW]
   .rw[hz,List.take_one,List.head?_drop,X9 aW];rfl
   .rw[hz,List.take_one,List.head?_drop,X9 aW];rfl
 obtain⟨v,hv,mP⟩:=Ky;refine aU hs (v:=v) ?_ mP;simp[execOp,Instr.field,run_underlying tH,JR,e',asAgg,hv]
end
end Go.Proofs.YtlfjlhcigpejdaaGreatDoor
end
