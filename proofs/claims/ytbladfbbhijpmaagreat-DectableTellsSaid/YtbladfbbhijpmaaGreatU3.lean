/- Joined texts: Effs4 Effs5 Effs6 Effs8 Effs9. -/
import Derived.Test.YtbladfbbhijpmaaGreatU2
import Derived.Carry
section
open _root_.Array renaming toArray_toList->Zi
open _root_.Go.Instr renaming fill->aaf
open _root_.Int renaming tdiv->ZK,tmod->Z7,toNat_natCast->YK
open _root_.List.cons renaming injEq->ZM
open _root_.List renaming getElem?_eq_getElem->YF
open _root_.Nat renaming add_mul->Zm,beq->YE,le_refl->YD,min_eq_left->ZF,mul_le_mul_right->YX
open _root_.Option.some renaming inj->YA
open _root_.Go.Result renaming andThen_ok->Zh
open _root_.Go.Sem renaming run_bind->Y6
open _root_.Go.Value renaming ownBlock->Y9
open _root_.Go.Value.slice renaming injEq->ZV
namespace Go.Proofs.YtbladfbbhijpmaaGreat
open Go Go.RowKit
section
variable {P:Program} {ρ:Nat->Value} {w w':World} {H H':aj} {F F':Nat->Prop} {U:Nat->Prop} {ob:Nat->Option (Nat×Th)} {n:Nat} {R:Type}
variable {op:Op} {ty:TypeId} {pos:String} {aft:Array Edge} {d:Nat}
theorem vB(T:aI P){fs:List (TypeId×Nat)}{pl:List (Nat×Nat)}(hz:p7 T fs=true)(Ge:∀i,pl[i]? =place T fs i)(iz:∀ft off r,(ft,off)∈fs->find T.row ft=some r->True):
 {parts:List (Nat×ag)}->{t t':Tree}->{cs:List Value}->{vs:List (Nat×Value)}->zM T fs t parts=some t'->Holds H F w t cs->parts.map (·.1)=vs.map (·.1)->du H F w (parts.map (·.2)) (vs.map (·.2))->
 ∃mL,aaf (pl[·]?) cs.toArray vs=some mL.toArray/\Holds H F w t' mL
 |[],t,t',cs,vs,h,hh,h1,h2=>by
  obtain rfl:=YA h
  have:vs=[]:=by simpa using h1.symm
  subst this;exact⟨cs,by simp[aaf],hh⟩
 |(f, .val agg u)::parts,t,t',cs,vs,h,hh,h1,h2=>by
  obtain⟨v,us,e,hv,h3⟩:=h2
  cases vs with
  |nil=>simp at e
  |cons fv vs=>
   obtain⟨f',v'⟩:=fv;simp only[List.map_cons,ZM]at h1 e;obtain⟨rfl,h1⟩:=h1;obtain⟨rfl,rfl⟩:=e;unfold zM at h;split at h
   case h_2=>cases h
   rename_i s off hg;split at h
   case h_2=>cases h
   rename_i ft cF hf;obtain⟨hb,h'⟩:=ax h;clear h;obtain⟨hb,Le⟩:=bE hb;obtain⟨CZ,Kz⟩:=bE hb;have CZ:=beq_true CZ;subst CZ;have Kz:=beq_true Kz;split at h'
   case h_2=>cases h'
   rename_i tp hp;obtain⟨c1,rM,sw⟩:=au.cells hv;have hl:=rM.length;have hle:=(hh.get hg).2
   cases hr:find T.row ft with
   |none=>simp only[hr]at Le;cases Le
   |some r=>
    simp only[hr]at Le;have Le:=beq_true Le
    have IS:pl[f]? =some (off,r.size):=by rw[Ge];simp[place,hf,hr]
    rw[oh IS sw (by omega) (by omega)];have mO:=Holds.put rM hg hp Kz.symm hh;rw[show u.size=r.size from by omega]at mO;exact vB T hz Ge iz h' mO h1 h3
 |(_, .dead)::_,_,_,_,_,h,_,_,_=>by cases h
 |(_, .undef)::_,_,_,_,_,h,_,_,_=>by cases h
 |(_, .ptr ..)::_,_,_,_,_,h,_,_,_=>by cases h
 |(_, .at ..)::_,_,_,_,_,h,_,_,_=>by cases h
 |(_, .elem ..)::_,_,_,_,_,h,_,_,_=>by cases h
 |(_, .tup _)::_,_,_,_,_,h,_,_,_=>by cases h
 |(_, .dlm ..)::_,_,_,_,_,h,_,_,_=>by cases h
def ov(T:aI P)(rd:Operand->Option ag)(t:TypeId)(parts:Array (Nat×Operand))(k:cL->Option R):Option R:=
 match find T.und t with
 |some (.struct fs)=>match find T.row t with
  |some r=>bif p7 T fs then
    (match nG rd (parts.toList.map (·.2))with
    |some ds=>match zM T fs r.vu ((parts.toList.map (·.1)).zip ds)with
     |some tr=>k {dst:= .val true tr}
     |none=>none
    |none=>none)else none
  |none=>none
 |_=>none
theorem fR:{ds:List ag}->{vs:List Value}->du H F w ds vs->ds.length=vs.length
 |[],_,h=>by rw[show _=[]from h];rfl
 |_::_,_,h=>by obtain⟨v,us,rfl,_,h2⟩:=h;simp[fR h2]
theorem Bo(T:aI P){rd:Operand->Option ag}(dj:∀x d,rd x=some d->af H F w d (ev ρ x)){t:TypeId}{parts:Array (Nat×Operand)}{k:cL->Option R}{q:R}(h:ov T rd t parts k=some q)(hs:ak U H F w ob n):
 ∃e,k e=some q/\bz P U H F w ρ ob n ⟨some d, .build t parts,ty,pos,aft,none⟩ e:=by
 unfold ov at h;split at h
 case h_2=>cases h
 rename_i fs hu;obtain⟨arr,CX,GB⟩:=T.und_ok _ _ hu;split at h
 case h_2=>cases h
 rename_i r hr;obtain⟨ti,z,h1,h2,h3,h4,h5⟩:=T.row_ok _ _ hr;obtain⟨hz,h⟩:=ax h;split at h
 case h_2=>cases h
 rename_i ds p6;split at h
 case h_2=>cases h
 rename_i tr Lf;have hd:=jJ (w:=w) (H:=H) (F:=F) (ρ:=ρ) dj p6;have hlen:=fR hd;obtain⟨pl,Ld,Gd⟩:=qC (w:=w) T GB hz
 have hn:∀(a:List Nat)(b:List ag),a.length=b.length->(a.zip b).map (·.1)=a/\(a.zip b).map (·.2)=b:=fun a b Ou=>⟨List.map_fst_zip (by omega),List.map_snd_zip (by omega)⟩
 have Lg:=hn (parts.toList.map (·.1)) ds (by simp at hlen⊢;omega);obtain⟨mL,hf,hh⟩:=vB (w:=w) (H:=H) (F:=F) T hz Gd (fun _ _ _ _ _=>trivial) (vs:=parts.toList.map fun(i,q)=>(i,ev ρ q)) Lf (Row.je H F w r) (by rw[Lg.1];simp[Function.comp_def]) (by rw[Lg.2];simpa[Function.comp_def]using hd);refine⟨_,h,aW hs (v:= .agg mL.toArray) ?_ ⟨mL,hh,rfl,by simp⟩⟩
 have TS:z.cells=r.dc.toArray:=by rw[<-h3,Zi]
 have Bp:(arr.mapM fun(f:Field)=>(do pure (f.offset,<-sizeOf f.type):Sem (Nat×Nat))).run P w= .ok pl.toArray w:=by
  rw[<-Zi (xs:=arr),List.mapM_toArray];simp only[Sem.run_map,Ld];rfl
 have TT:(parts.map fun(i,q)=>(i,ev ρ q)).toList=parts.toList.map fun(i,q)=>(i,ev ρ q):=by simp
 have Ov:(fun(x:Nat)=>pl.toArray[x]?)=fun x=>pl[x]? :=by funext x;simp
 simp only[execOp,Instr.build,Y6,zeroValue,typeInfo,h1,h2,run_program,Sem.run_pure,Zh,run_underlying CX,TS,TT,Bp,Ov,hf]
def GG(rd:Operand->Option ag):Option Operand->Option (Option Int)
 |none=>some none
 |some x=>match rd x with
  |some d=>match asInt d with
   |some (_,i)=>some (some i)
   |none=>none
  |none=>none
theorem zN{rd:Operand->Option ag}(dj:∀x d,rd x=some d->af H F w d (ev ρ x)){lo:Option Operand}{a:Option Int}(h:GG rd lo=some a):IQ ρ lo a:=by
 unfold GG at h;split at h
 .obtain rfl:=YA h;exact .none
 .split at h
  .split at h
   .obtain rfl:=YA h;rename_i hD _ _ _ hi;exact .some (eJ hi (dj _ _ hD))
   .cases h
  .cases h
def ow(dr:Bool)(T:aI P)(rd:Operand->Option ag)(ob:Nat->Option (Nat×Th))(n:Nat)(t:TypeId)(D:ag)(lo hi:Option Operand)(k:cL->Option R):Option R:=
 match find T.und t with
 |some (.slice e)=>match find T.row e with
  |some re=>match GG rd lo with
   |some a=>match GG rd hi with
    |some b=>match pL ob D with
     |some (.read r l)=>bif YE r.size re.size then(dT l (a.getD 0) (b.getD (l.length:Int))).bind fun m=>k {dst:= .val false (.leaf (.slice r) m)}else none
     |some .nil=>(dT ([]:List re.den) (a.getD 0) (b.getD 0)).bind fun _=>k {dst:= .val false .nil}
     |some (.own o s T0 r l)=>bif YE r.size re.size&&YE T0 e&&(lo.isNone||dr)then(dT l (a.getD 0) (b.getD (l.length:Int))).bind fun m=>k {dst:= .val false (.own n),eat:=[o],make:=[(n,(n, .own T0 r m))]}
       else bif YE r.size re.size then(dT l (a.getD 0) (b.getD (l.length:Int))).bind fun m=>k {dst:= .val false (.view o s r m)}else none
     |_=>none
    |none=>none
   |none=>none
  |none=>none
 |_=>none
theorem Bq{e T0:TypeId}{ti:TypeInfo}{r:Row}{t:TypeId}{x:Operand}{lo hi:Option Operand}{a b:Option Int}{l m:List r.den}{o s:Nat}{v:Value}(ht:P.underlying t=some (.slice e))(h1:P.info? e=some ti)(h4:ti.size=r.size)(hx:ev ρ x=v)
 (hs:ak U H F w ob n)(bJ:ob o=some (s, .own T0 r l))(Lh:H.val o=some v)(ha:IQ ρ lo a)(hb:IQ ρ hi b)(hm:dT l (a.getD 0) (b.getD l.length)=some m):
 bz P U H F w ρ ob n ⟨some d, .slice t x lo hi none,ty,pos,aft,none⟩ {dst:= .val false (.own n),eat:=[o],make:=[(n,(n, .own T0 r m))]}:=by
 have hv:=hs.own bJ Lh;obtain⟨p,q,ep,eq,Ie,hq,rfl⟩:=oi hm;obtain⟨A,cap,rfl,hlen,Gw,_⟩:=hv.reads;have aZ:=pZ (P:=P) (w:=w) (d:=d) (ty:=ty) (pos:=pos) (aft:=aft) ht h1 hx ha hb (by omega) (by omega) (by omega) hlen;rw[ep,eq,YK,YK,h4]at aZ;obtain⟨xy,xs,⟨xK,Ow⟩,hr⟩:=hv
 have Ox:((l.take q).drop p).length=q-p:=by simp;omega
 have hmul:q*r.size<=l.length*r.size:=YX _ hq;have Se:p*r.size<=q*r.size:=YX _ Ie;have Sf:(q-p)*r.size=q*r.size-p*r.size:=Nat.sub_mul ..
 have aY:Ext (bq H ob [o]) w w:=⟨rfl,⟨rfl,YD _⟩,rfl,YD _,fun _ _ _=>rfl⟩
 rcases Ow with⟨Bi,h0⟩|⟨g,o0,Dq,cur,eD,pW,hh,XP,XQ,mK,Br⟩
 .simp only[ZV]at Bi;obtain⟨rfl,_,rfl⟩:=Bi
  have Li:q=0:=by omega
  subst Li
  obtain rfl:p=0:=by omega
  refine bl.val aZ (ou hs aY ?_ ?_)
  .simpa[sliced]using fa.nil 0 F w T0 r
  .intro k hk;simp[sliced,aS,Y9]at hk
 .simp only[ZV,true_and]at eD;obtain⟨rfl,rfl⟩:=eD
  obtain⟨o1,k9,TU,Lj⟩:∃o1,sliced (some ⟨g,o0,none⟩) p q cap r.size= .slice (some ⟨g,o1,none⟩) (q-p) (cap-p)/\o1+(cap-p)*r.size<=cur.size/\(cur.toList.drop o1).take ((q-p)*r.size)=(xs.drop (p*r.size)).take ((q-p)*r.size):=by
   have XR:p*r.size<=cap*r.size:=YX _ (by omega);have TV:(cap-p)*r.size=cap*r.size-p*r.size:=Nat.sub_mul ..;unfold sliced;by_cases hc:cap=p
   .refine⟨o0,by rw[if_pos hc],by omega,?_⟩
    have:q=p:=by omega
    subst this;simp
   .refine⟨o0+p*r.size,by rw[if_neg hc,Option.map_some,bM],by omega,?_⟩;rw[<-Br,List.drop_take,List.take_take,List.drop_drop]
    congr 1
    omega
  rw[k9]at aZ
  have Sg:∀k,aS (.slice (some ⟨g,o1,none⟩) (q-p) (cap-p)) k->aS (.slice (some ⟨g,o0,none⟩) l.length cap) k:=fun k hk=>by simpa[aS,Y9]using hk
  refine bl.val aZ (ou hs aY ⟨fun k hk=>xy k (Sg k hk),(xs.drop (p*r.size)).take ((q-p)*r.size),⟨by rw[Ox];simp;omega, .inr ⟨g,o1,cap-p,cur,by rw[Ox],pW,hh,by omega,by omega,TU,?_⟩⟩,fun i hi=>?_⟩ fun k hk=> .inl ⟨o,by simp,_,_,_,bJ,Lh,Sg k hk⟩)
  .rw[Ox];exact Lj
  .have TW:i<q-p:=by omega
   have hle:(i+1)*r.size<=(q-p)*r.size:=YX _ TW;rw[Zm]at hle;have:=hr (p+i) (by omega)
   have hg:((l.take q).drop p)[i]=l[p+i]'(by omega):=by simp
   rw[hg,List.drop_take,List.take_take,ZF (by omega),List.drop_drop,show p*r.size+i*r.size=(p+i)*r.size from(Zm ..).symm];exact this
theorem Bt(dr:Bool)(T:aI P){rd:Operand->Option ag}(dj:∀x d,rd x=some d->af H F w d (ev ρ x)){t:TypeId}{D:ag}{x:Operand}{lo hi:Option Operand}{k:cL->Option R}{q:R}(h:ow dr T rd ob n t D lo hi k=some q)(hs:ak U H F w ob n)(hx:af H F w D (ev ρ x)):
 ∃e,k e=some q/\bz P U H F w ρ ob n ⟨some d, .slice t x lo hi none,ty,pos,aft,none⟩ e:=by
 unfold ow at h;split at h
 case h_2=>cases h
 rename_i e hu;have ht:=T.und_ok _ _ hu;split at h
 case h_2=>cases h
 rename_i re Oy;obtain⟨ti,z,h1,_,_,h4,_⟩:=T.row_ok _ _ Oy;split at h
 case h_2=>cases h
 rename_i a ha;split at h
 case h_2=>cases h
 rename_i b hb;have NL:=zN (w:=w) (H:=H) (F:=F) (ρ:=ρ) dj ha;have pW:=zN (w:=w) (H:=H) (F:=F) (ρ:=ρ) dj hb
 have IT:∀{r:Row}{l m:List r.den},bF F w (.slice r) [ev ρ x] l->r.size=re.size->dT l (a.getD 0) (b.getD (l.length:Int))=some m->bz P U H F w ρ ob n ⟨some d, .slice t x lo hi none,ty,pos,aft,none⟩ {dst:= .val false (.leaf (.slice r) m)}:=by
  intro r l m hv hz hm;obtain⟨p,q',ep,eq,Ie,hq,rfl⟩:=oi hm;have cQ:=hv;obtain⟨A,cap,he,hc,DS,_⟩:=hv;simp only[ZM,and_true]at he;have aZ:=pZ (P:=P) (w:=w) (d:=d) (ty:=ty) (pos:=pos) (aft:=aft) ht h1 he NL pW (by omega) (by omega) (by omega) hc;rw[ep,eq,YK,YK,h4,<-hz]at aZ;rw[he]at cQ;exact aW hs aZ (au.jd (cQ.cut Ie hq))
 split at h
 .rename_i r l eD;obtain⟨hz,h⟩:=ax h;obtain⟨m,hm,hk⟩:=bind_some h;exact⟨_,hk,IT (eT hs eD hx) (beq_true hz) hm⟩
 .rename_i eD;obtain⟨m,hm,hk⟩:=bind_some h;have hv:ev ρ x=_:=eT hs eD hx;unfold dT at hm;split at hm
  case isFalse=>cases hm
  rename_i hc
  have ea:a.getD 0=0:=by have:=hc.2.1;have:=hc.2.2;simp at this;omega
  have eb:b.getD ((0:Nat):Int)=0:=by have:=hc.2.1;have:=hc.2.2;simp at this⊢;omega
  have aZ:=pZ (P:=P) (w:=w) (d:=d) (ty:=ty) (pos:=pos) (aft:=aft) ht h1 hv NL pW (by omega) (by omega) (by omega) (YD _);rw[ea,eb]at aZ;exact⟨_,hk,aW hs aZ ⟨_,rfl,rfl,fun _=>rfl⟩⟩
 .rename_i o s T0 r l eD;obtain⟨hv,bJ,cV⟩:=eT hs eD hx
  cases Oz:(YE r.size re.size&&YE T0 e&&(lo.isNone||dr))with
  |true=>
   rw[Oz,cond_true]at h;obtain⟨xA,XS⟩:=bE Oz;obtain⟨xz,hT⟩:=bE xA;have Lb:=beq_true xz;obtain⟨m,hm,hk⟩:=bind_some h;exact⟨_,hk,Bq ht h1 (h4.trans Lb.symm) rfl hs bJ hv NL pW hm⟩
  |false=>
   rw[Oz,cond_false]at h;obtain⟨xz,h'⟩:=ax h;clear h;have Lb:=beq_true xz;obtain⟨m,hm,hk⟩:=bind_some h';obtain⟨p,q',ep,eq,Ie,hq,rfl⟩:=oi hm;obtain⟨A,cap,he,hc,DS,_⟩:=cV.reads;have aZ:=pZ (P:=P) (w:=w) (d:=d) (ty:=ty) (pos:=pos) (aft:=aft) ht h1 he NL pW (by omega) (by omega) (by omega) hc;rw[ep,eq,YK,YK,h4,<-Lb]at aZ;obtain⟨v',cQ,bH⟩:=hs.obj _ _ _ bJ;refine⟨_,hk,aW hs aZ ⟨_,⟨_,rfl,A,cap,T0,l,p,q',by rw[hv,he],bH.con,Ie,hq,rfl,rfl⟩,rfl,fun _=>rfl⟩⟩
 .cases h
noncomputable def IU(T:aI P)(ob:Nat->Option (Nat×Th))(o:BinOp)(t:TypeId)(X Y:ag):Option ag:=
 match X,Y with
 | .val false (.leaf .bool a), .val false (.leaf .bool b)=>match find T.und t with
   |some .bool=>match o with
    | .eql=>some (cJ (decide (a=b)))
    | .neq=>some (cJ (!decide (a=b)))
    |_=>none
   |_=>none
 | .val false (.leaf .str a), .val false (.leaf .str b)=>match o with
   | .eql=>some (cJ (decide (a=b)))
   | .neq=>some (cJ (!decide (a=b)))
   |_=>none
 | .val true u, .val true v=>match find T.eqs t with
   |some r=>match flat ob r u with
    |some x=>match flat ob r v with
     |some y=>match o with
      | .eql=>some (cJ (ki r x y))
      | .neq=>some (cJ (!(ki r x y)))
      |_=>none
     |none=>none
    |none=>none
   |none=>none
 |_,_=>none
theorem GH(T:aI P){o:BinOp}{t u:TypeId}{X Y D:ag}{x y:Operand}(h:IU T ob o t X Y=some D)(hs:ak U H F w ob n)(hx:af H F w X (ev ρ x))(hy:af H F w Y (ev ρ y)):
 bz P U H F w ρ ob n ⟨some d, .binOp o t x y u,ty,pos,aft,none⟩ {dst:=D}:=by
 unfold IU at h;split at h
 .rename_i a b;split at h
  case h_2=>cases h
  rename_i hu;have hu:=T.und_ok _ _ hu;have ha:ev ρ x= .bool a:=au.bool hx;have hb:ev ρ y= .bool b:=au.bool hy
  split at h<;>cases h
  .exact ay hs (AO hu ha hb) (au.dy ..)
  .exact ay hs (AP hu ha hb) (au.dy ..)
 .rename_i a b;have ha:ev ρ x= .string a:=au.str hx;have hb:ev ρ y= .string b:=au.str hy
  split at h<;>cases h
  .exact ay hs (AQ ha hb) (au.dy ..)
  .exact ay hs (AR ha hb) (au.dy ..)
 .rename_i u v;split at h
  case h_2=>cases h
  rename_i r hr;obtain⟨K,dd,hE,hd,hg,hD⟩:=T.eqs_ok _ _ hr;split at h
  case h_2=>cases h
  rename_i a ha;split at h
  case h_2=>cases h
  rename_i b hb;obtain⟨c1,g1,e1,_⟩:=hx;obtain⟨c2,g2,e2,_⟩:=hy;have r1:=dV hs ha g1;have r2:=dV hs hb g2
  split at h<;>cases h
  .exact ay hs (A6 hE hd hg hD e1 e2 r1 r2) (au.dy ..)
  .exact ay hs (A7 hE hd hg hD e1 e2 r1 r2) (au.dy ..)
 .cases h
def IV(a b:ByteArray):Option ByteArray:=if a.size+b.size<=9223372036854775807 then some (a++b)else none
def xX(o:BinOp)(X Y:ag):Option (ByteArray×ByteArray):=
 match o,X,Y with
 | .add, .val false (.leaf .str a), .val false (.leaf .str b)=>some (a,b)
 |_,_,_=>none
theorem IW{t u:TypeId}{o:BinOp}{X Y:ag}{x y:Operand}{a b c:ByteArray}(h:xX o X Y=some (a,b))(hc:IV a b=some c)(hs:ak U H F w ob n)(hx:af H F w X (ev ρ x))(hy:af H F w Y (ev ρ y)):
 bz P U H F w ρ ob n ⟨some d, .binOp o t x y u,ty,pos,aft,none⟩ {dst:= .val false (.leaf .str c)}:=by
 unfold xX at h
 split at h<;>cases h
 unfold IV at hc;split at hc
 case isFalse=>cases hc
 rename_i hle;obtain rfl:=YA hc;have ha:ev ρ x= .string a:=au.str hx;have hb:ev ρ y= .string b:=au.str hy;refine aW hs (v:= .string (a++b)) ?_ (au.jd rfl)
 have:¬(9223372036854775807:Int)<(a.size:Int)+(b.size:Int):=by omega
 simp[execOp,eqGuard,binOp,Op.stringOp,ha,hb,IntKind.max,IntKind.signed,IntKind.bits,this]
noncomputable def Bu(T:aI P)(ob:Nat->Option (Nat×Th))(o:BinOp)(t:TypeId)(lit:Bool)(X Y:ag)(k:cL->Option R):Option R:=
 match asInt X with
 |some (kx,a)=>match asInt Y with
  |some (ky,b)=>match o with
   | .shl=>bif lit then(bif !decide (b<0)then k {dst:=iG kx (DD kx a b)}else none)else(om kx a b).bind fun c=>k {dst:=iG kx c}
   | .shr=>bif lit then(bif !decide (b<0)then k {dst:=iG kx (bQ kx a b)}else none)else(Bf kx a b).bind fun c=>k {dst:=iG kx c}
   |o=>bif decide (kx=ky)then
    (match o with
    | .quo=>bif lit then(bif decide (b≠0)then k {dst:=iG kx (kx.wrap (ZK a b))}else none)else(K7 a b).bind fun c=>k {dst:=iG kx (kx.wrap c)}
    | .rem=>bif lit then(bif decide (b≠0)then k {dst:=iG kx (Z7 a b)}else none)else(K8 a b).bind fun c=>k {dst:=iG kx c}
    |_=>match arith o kx a b with
     |some D=>k {dst:=D}
     |none=>none)else none
  |none=>none
 |none=>match xX o X Y with
  |some (a,b)=>(IV a b).bind fun c=>k {dst:= .val false (.leaf .str c)}
  |none=>match IU T ob o t X Y with
   |some D=>k {dst:=D}
   |none=>none
theorem GI(T:aI P){o:BinOp}{t u:TypeId}{lit:Bool}{X Y:ag}{x y:Operand}{k:cL->Option R}{q:R}(h:Bu T ob o t lit X Y k=some q)(hs:ak U H F w ob n)(hx:af H F w X (ev ρ x))(hy:af H F w Y (ev ρ y)):
 ∃e,k e=some q/\bz P U H F w ρ ob n ⟨some d, .binOp o t x y u,ty,pos,aft,none⟩ e:=by
 unfold Bu at h;split at h
 .rename_i kx a hX;split at h
  case h_2=>cases h
  rename_i ky b hY;have ha:=eJ hX hx;have hb:=eJ hY hy;split at h
  .cases lit with
   |true=>
    rw[cond_true]at h;obtain⟨b8,h⟩:=ax h;exact⟨_,h,ay hs (vq ha hb (by simpa using b8)) (au.fD ..)⟩
   |false=>
    rw[cond_false]at h;obtain⟨c,hc,h⟩:=bind_some h;unfold om at hc;split at hc
    .cases hc
    .rename_i b8;obtain rfl:=YA hc;exact⟨_,h,ay hs (vq ha hb b8) (au.fD ..)⟩
  .cases lit with
   |true=>
    rw[cond_true]at h;obtain⟨b8,h⟩:=ax h;exact⟨_,h,ay hs (vr ha hb (by simpa using b8)) (au.fD ..)⟩
   |false=>
    rw[cond_false]at h;obtain⟨c,hc,h⟩:=bind_some h;unfold Bf at hc;split at hc
    .cases hc
    .rename_i b8;obtain rfl:=YA hc;exact⟨_,h,ay hs (vr ha hb b8) (au.fD ..)⟩
  obtain⟨hk,h'⟩:=ax h;clear h;have hk:=of_decide_eq_true hk;subst hk;revert h';intro h;split at h
  .cases lit with
   |true=>
    rw[cond_true]at h;obtain⟨b8,h⟩:=ax h;exact⟨_,h,DG (of_decide_eq_true b8) hs ha hb⟩
   |false=>
    rw[cond_false]at h;obtain⟨c,hc,h⟩:=bind_some h;unfold K7 at hc;split at hc
    .cases hc
    .rename_i b8;obtain rfl:=YA hc;exact⟨_,h,DG b8 hs ha hb⟩
  .cases lit with
   |true=>
    rw[cond_true]at h;obtain⟨b8,h⟩:=ax h;exact⟨_,h,DH (of_decide_eq_true b8) hs ha hb⟩
   |false=>
    rw[cond_false]at h;obtain⟨c,hc,h⟩:=bind_some h;unfold K8 at hc;split at hc
    .cases hc
    .rename_i b8;obtain rfl:=YA hc;exact⟨_,h,DH b8 hs ha hb⟩
  .split at h
   case h_2=>cases h
   rename_i D hD;exact⟨_,h,DF hD hs ha hb⟩
 .split at h
  .rename_i a b Ou;obtain⟨c,hc,h⟩:=bind_some h;exact⟨_,h,IW Ou hc hs hx hy⟩
  .split at h
   case h_2=>cases h
   rename_i D hD;exact⟨_,h,GH T hD hs hx hy⟩
def OA(o:UnOp)(X:ag):Option ag:=
 match o with
 | .not=>match asBool X with
   |some b=>some (cJ (!b))
   |none=>none
 | .neg=>match asInt X with
   |some (k,a)=>some (iG k (k.wrap (0-a)))
   |none=>none
 |_=>none
theorem IX{o:UnOp}{t:TypeId}{X D:ag}{x:Operand}(h:OA o X=some D)(hs:ak U H F w ob n)(hx:af H F w X (ev ρ x)):
 bz P U H F w ρ ob n ⟨some d, .unOp o t x,ty,pos,aft,none⟩ {dst:=D}:=by
 unfold OA at h;split at h
 .split at h<;>cases h
  rename_i b hb;exact ay hs (Dj (jG hb hx)) (au.dy ..)
 .split at h<;>cases h
  rename_i k a ha;exact ay hs (Dk (eJ ha hx)) (au.fD ..)
 .cases h
def DT(T:aI P)(s t:TypeId)(X:ag):Option ag:=
 match find T.und s with
 |some _=>match find T.und t with
  |some (.int k)=>match asInt X with
   |some (_,a)=>some (iG k (k.wrap a))
   |none=>none
  |some .str=>match vo X with
   |some a=>some (On a)
   |none=>none
  |_=>none
 |none=>none
theorem DU(T:aI P){s t:TypeId}{X D:ag}{x:Operand}(h:DT T s t X=some D)(hs:ak U H F w ob n)(hx:af H F w X (ev ρ x)):
 bz P U H F w ρ ob n ⟨some d, .convert s t x,ty,pos,aft,none⟩ {dst:=D}:=by
 unfold DT at h;split at h
 case h_2=>cases h
 rename_i ks TX;obtain⟨dd,si,_⟩:=(T.und_ok _ _ TX).agg;split at h
 .rename_i k OB
  split at h<;>cases h
  rename_i k' a ha;exact ay hs (AS si (T.und_ok _ _ OB) (eJ ha hx)) (au.fD ..)
 .rename_i OB
  split at h<;>cases h
  rename_i a ha;have hv:=qt ha hx;have OC:P.underlying t=some .string:=T.und_ok _ _ OB;refine aW hs (v:= .string a) ?_ (au.mkStr ..);simp[execOp,convert,run_underlying si,run_underlying OC,hv]
 .cases h
def qD(D:ag)(i:Nat):Option ag:=
 match D with
 | .tup ds=>match ds[i]? with
   |some (a,t)=>some (.val a t)
   |none=>none
 |_=>none
theorem nC.get:{ds:List (Bool×Tree)}->{vs:List Value}->{i:Nat}->{a:Bool}->{t:Tree}->nC H F w ds vs->ds[i]? =some (a,t)->∃v,vs[i]? =some v/\au H F w a t v
 |[],_,_,_,_,_,h=>by cases h
 |d::ds,_,0,a,t,hh,h=>by
  obtain⟨v,us,rfl,h1,h2⟩:=hh
  obtain rfl:d=(a,t):=by simpa using h
  exact⟨v,rfl,h1⟩
 |d::ds,_,i+1,a,t,hh,h=>by
  obtain⟨v,us,rfl,h1,h2⟩:=hh;obtain⟨v',e,hv⟩:=nC.get h2 (by simpa using h);exact⟨v',by simpa using e,hv⟩
theorem vC{D D':ag}{i:Nat}{x:Operand}(h:qD D i=some D')(hs:ak U H F w ob n)(hx:af H F w D (ev ρ x)):
 bz P U H F w ρ ob n ⟨some d, .extract x i,ty,pos,aft,none⟩ {dst:=D'}:=by
 unfold qD at h;split at h
 case h_2=>cases h
 split at h<;>cases h
 rename_i ds a t hd;obtain⟨vs,e,ht⟩:=hx;obtain⟨v,hv,iV⟩:=ht.get hd;exact ay hs (tO e (by simpa using hv)) iV
def p8(mx:Bool)(X Y:ag):Option ag:=
 match asInt X,asInt Y with
 |some (k,a),some (k',b)=>bif decide (k=k')then some (iG k (bif mx then(if a<b then b else a)else(if b<a then b else a)))else none
 |_,_=>none
theorem qE{mx:Bool}{t t':TypeId}{X Y D:ag}{x y:Operand}(h:p8 mx X Y=some D)(hs:ak U H F w ob n)(hx:af H F w X (ev ρ x))(hy:af H F w Y (ev ρ y)):
 bz P U H F w ρ ob n ⟨some d, .call {callee:= .builtin (bif mx then .max else .min),args:= #[x,y],argTypes:= #[t,t']},ty,pos,aft,none⟩ {dst:=D}:=by
 unfold p8 at h;split at h
 case h_2=>cases h
 rename_i k a k' b ha hb;obtain⟨hk,h'⟩:=ax h;clear h;have hk:=of_decide_eq_true hk;subst hk;obtain rfl:=YA h';have ha:=eJ ha hx;have hb:=eJ hb hy
 cases mx with
 |true=>exact ay hs (AU ha hb) (au.fD ..)
 |false=>exact ay hs (AV ha hb) (au.fD ..)
theorem Bv{D:ag}{x:Operand}(hs:ak U H F w ob n)(hx:af H F w D (ev ρ x)):bz P U H F w ρ ob n ⟨some d, .move x,ty,pos,aft,none⟩ {dst:=D}:=ay hs (AN rfl) hx
theorem vD{D:ag}{x:Operand}(hs:ak U H F w ob n)(hx:af H F w D (ev ρ x)):bz P U H F w ρ ob n ⟨some d, .assign x,ty,pos,aft,none⟩ {dst:=D}:=ay hs (vk rfl) hx
def tV(T:aI P)(t:TypeId)(f:Nat)(X:ag):Option ag:=
 match find T.und t with
 |some (.struct fs)=>match fs[f]? with
  |some (ft,off)=>match find T.und ft with
   |some kk=>match X with
    | .val true u=>match u.get (nD fs.length f)with
      |some (s,cF)=>bif YE cF off&&iH T ft kk s.size then some (.val (fP kk) s)else none
      |none=>none
    |_=>none
   |none=>none
  |none=>none
 |_=>none
theorem xY(T:aI P){t:TypeId}{f:Nat}{X D:ag}{x:Operand}(h:tV T t f X=some D)(hs:ak U H F w ob n)(hx:af H F w X (ev ρ x)):
 bz P U H F w ρ ob n ⟨some d, .field t x f,ty,pos,aft,none⟩ {dst:=D}:=by
 unfold tV at h;split at h
 case h_2=>cases h
 rename_i fs hu;obtain⟨arr,CX,GB⟩:=T.und_ok _ _ hu;split at h
 case h_2=>cases h
 rename_i ft off hf;obtain⟨fd,Ky,rfl,rfl⟩:=vv GB hf;split at h
 case h_2=>cases h
 rename_i kk TY;obtain⟨dd,si,rI⟩:=(T.und_ok _ _ TY).agg;split at h
 case h_2=>cases h
 rename_i u;split at h
 case h_2=>cases h
 rename_i s cF hg;obtain⟨hb,rfl⟩:=nE h;obtain⟨CZ,Kz⟩:=bE hb;obtain rfl:=beq_true CZ;have hz:=fE T Kz;obtain⟨cs,mK,e,_⟩:=hx;obtain⟨g1,g2⟩:=mK.get hg;have hl:=g1.length;have e':ev ρ x= .agg cs.toArray:=e
 have Lk:∃v,(part fd.type cs.toArray fd.offset).run P w= .ok v w/\au H F w (fP kk) s v:=by
  cases ha:fP kk with
  |true=>
   rw[if_pos ha]at hz;obtain⟨r,hr,Ga⟩:=hz;obtain⟨ti,z,h1,_,_,h4,_⟩:=T.row_ok _ _ hr;refine⟨.agg ((cs.drop fd.offset).take s.size).toArray,?_,_,g1,rfl,by simp⟩;unfold part;rw[Y6,dn si,rI,ha];simp[sizeOf,typeInfo,h1,h4,Ga]
  |false=>
   rw[if_neg (by simp[ha])]at hz
   have av:fd.offset<cs.length:=by omega
   refine⟨cs[fd.offset],?_,_,g1,?_,fun _=>?_⟩
   .unfold part;rw[Y6,dn si,rI,ha];simp[av]
   .rw[hz,List.take_one,List.head?_drop,YF av];rfl
   .rw[hz,List.take_one,List.head?_drop,YF av];rfl
 obtain⟨v,hv,iV⟩:=Lk;refine aW hs (v:=v) ?_ iV;simp[execOp,Instr.field,run_underlying CX,Ky,e',asAgg,hv]
end
end Go.Proofs.YtbladfbbhijpmaaGreat
end
section
open _root_.Array renaming getElem?_eq_some_iff->Zb
open _root_.Go.Instr renaming findNow->Zy,lookup->aak,mapUpdate->ZR
open _root_.List.cons renaming injEq->ZM
open _root_.List renaming length_append->YV,mem_cons->YM,take_length->YS
open _root_.Go.MapKept renaming run_checkKey->ZS,run_findKey->ZY,run_getObj_map->Zq,run_setObj_map->ZX
open _root_.Nat renaming add_mul->Zm,beq->YE,le_refl->YD,mul_le_mul_right->YX,zero_add->Ze
open _root_.Option.some renaming inj->YA,injEq->YH
open _root_.Prod.mk renaming injEq->Zx
open _root_.Go.Result renaming andThen->YO
open _root_.Go.Sem renaming run_bind->Y6
open _root_.Go.Value renaming int->Zv
namespace Go.Proofs.YtbladfbbhijpmaaGreat
open Go Go.RowKit Go.MapKept
noncomputable def aX{α:Type}(K:Row):List (K.den×α)->K.den->Option α
 |[],_=>none
 |p::l,k=>if bP K p.1 k=true then some p.2 else aX K l k
noncomputable def jK{α:Type}(K:Row):List (K.den×α)->K.den->α->List (K.den×α)
 |[],k,v=>[(k,v)]
 |p::l,k,v=>if bP K p.1 k=true then(p.1,v)::l else p::jK K l k v
theorem eU{K:Row}{a b:K.den}{u v:Value}(ha:fN K a=some u)(hb:fN K b=some v):bP K a b=true↔u=v:=by
 unfold fN at ha
 split at ha<;>first|cases ha|skip
 all_goals
  simp only[fN,YH]at hb;subst hb;simp[bP]
def vE{P:Program}(T:aI P)(kt:TypeId):Row->Bool
 | .int k=>match find T.und kt with
   |some (.int k')=>decide (k=k')
   |_=>false
 | .bool=>match find T.und kt with
   |some .bool=>true
   |_=>false
 | .str=>match find T.und kt with
   |some .str=>true
   |_=>false
 |_=>false
section
variable {P:Program} {ρ:Nat->Value} {w w':World} {H H':aj} {F F':Nat->Prop} {U:Nat->Prop} {ob:Nat->Option (Nat×Th)} {n:Nat} {R:Type}
variable {op:Op} {ty:TypeId} {pos:String} {aft:Array Edge} {d:Nat}
theorem qF(T:aI P){kt:TypeId}{K:Row}(h:vE T kt K=true):∃d,P.underlying kt=some d/\(∀x v,fN K x=some v->IsKey d v)/\(∀x v,bF F w K [v] x->fN K x=some v):=by
 unfold vE at h;split at h
 .split at h
  .rename_i k _ k' hu;obtain rfl:=of_decide_eq_true h;refine⟨_,T.und_ok _ _ hu,fun x v hx=>?_,fun x v hr=>?_⟩
   .obtain rfl:=YA hx;rfl
   .have CY:[v]=[Zv k x]:=hr;simp only[ZM,and_true]at CY;rw[CY];rfl
  .cases h
 .split at h
  .rename_i hu;refine⟨_,T.und_ok _ _ hu,fun x v hx=>?_,fun x v hr=>?_⟩
   .obtain rfl:=YA hx;trivial
   .have CY:[v]=[Value.bool x]:=hr;simp only[ZM,and_true]at CY;rw[CY];rfl
  .cases h
 .split at h
  .rename_i hu;refine⟨_,T.und_ok _ _ hu,fun x v hx=>?_,fun x v hr=>?_⟩
   .obtain rfl:=YA hx;trivial
   .have CY:[v]=[Value.string x]:=hr;simp only[ZM,and_true]at CY;rw[CY];rfl
  .cases h
 .cases h
theorem ox{K:Row}{agg:Bool}{V:Row}{dd:TypeDesc}{x:K.den}{kv:Value}(hK:∀x v,fN K x=some v->IsKey dd v)(hx:fN K x=some kv):{es:List MapEntry}->{l:List (K.den×V.den)}->(i:Nat)->dD H F w K agg V es l->
 (Zy dd kv es i=some none/\aX K l x=none/\(∀e∈es,e.key≠kv)/\∀H' F' w' y(e:MapEntry),e.key=kv->H.le H'->Step F w F' w'->au H' F' w' agg (.leaf V y) e.val->dD H' F' w' K agg V (es++[e]) (jK K l x y))\/
 ∃j e y,Zy dd kv es i=some (some (i+j,e.val))/\es[j]? =some e/\e.key=kv/\aX K l x=some y/\au H F w agg (.leaf V y) e.val/\
  ∀H' F' w' y(f:MapEntry->MapEntry),(f e).key=kv->H.le H'->Step F w F' w'->au H' F' w' agg (.leaf V y) (f e).val->dD H' F' w' K agg V (es.modify j f) (jK K l x y)
 |[],l,i,h=>by
  obtain rfl:l=[]:=h;refine .inl ⟨rfl,rfl,by simp,fun H' F' w' y e he hH hs hv=>⟨x,y,[],rfl,by rw[he];exact hx,hv,rfl⟩⟩
 |e::es,l,i,h=>by
  obtain⟨k,y,l',rfl,h1,h2,h3⟩:=h;obtain⟨r,hr,DV⟩:=sameNow_of_keys (hK x kv hx) (hK k _ h1);have Bc:=eU h1 hx
  cases r with
  |true=>
   have OD:kv=e.key:=DV.1 rfl;have hq:bP K k x=true:=Bc.2 OD.symm;refine .inr ⟨0,e,y,by simp[Zy,hr],rfl,OD.symm,by simp[aX,hq],h2,fun H' F' w' y' f hf hH hs hv=>?_⟩;refine⟨k,y',l',by simp[jK,hq],?_,hv,h3.keep hH hs⟩
   show fN K k=some (f e).key
   rw[hf,h1,OD]
  |false=>
   have b8:¬e.key=kv:=fun q=>by have:=DV.2 q.symm;cases this
   have hq:¬bP K k x=true:=fun q=>b8 (Bc.1 q)
   rcases ox hK hx (i+1) h3 with⟨a1,a2,a3,a4⟩|⟨j,e',z,a1,a2,a3,a4,a5,a6⟩
   .refine .inl ⟨by simp[Zy,hr,a1],by simp[aX,hq,a2],fun e' he'=>?_,fun H' F' w' y' e' he' hH hs hv=>?_⟩
    .rcases YM.1 he' with rfl|he'
     .exact b8
     .exact a3 e' he'
    .exact⟨k,y,_,by simp[jK,hq],h1,h2.keep hH hs,a4 H' F' w' y' e' he' hH hs hv⟩
   .refine .inr ⟨j+1,e',z,by simp[Zy,hr,a1];omega,by simpa using a2,a3,by simp[aX,hq,a4],a5,fun H' F' w' y' f hf hH hs hv=>?_⟩;refine⟨k,y,_,by simp[jK,hq],?_,?_,a6 H' F' w' y' f hf hH hs hv⟩
    .exact h1
    .exact h2.keep hH hs
noncomputable def asKey(ob:Nat->Option (Nat×Th))(K:Row):ag->Option K.den
 | .val false t=>flat ob K t
 |_=>none
theorem qG(hs:ak U H F w ob n){K:Row}{D:ag}{x:K.den}{v:Value}(h:asKey ob K D=some x)(hd:af H F w D v):bF F w K [v] x:=by
 unfold asKey at h;split at h
 .obtain⟨cs,h1,_,h3⟩:=hd;rw[h3 rfl]at h1;exact dV hs h h1
 .cases h
def zO(ob:Nat->Option (Nat×Th)):ag->Option (Nat×Nat×Th)
 | .val false (.own o)=>match ob o with
   |some (s, .map T K agg V l)=>some (o,s, .map T K agg V l)
   |_=>none
 |_=>none
theorem vF(hs:ak U H F w ob n){D:ag}{o s:Nat}{t:Th}{v:Value}(h:zO ob D=some (o,s,t))(hd:af H F w D v):∃T K agg V l b es clock,t= .map T K agg V l/\ob o=some (s,t)/\H.val o=some v/\v= .map (some b)/\
 w.heap[b]? =some (.map es clock)/\Stamped es clock/\dD H F w K agg V es.toList l:=by
 unfold zO at h;split at h
 .rename_i o';split at h
  .rename_i s' T K agg V l bJ;simp only[YH,Zx]at h;obtain⟨rfl,rfl,rfl⟩:=h;obtain⟨cs,⟨u,hu,_,e⟩,_,h3⟩:=hd;rw[h3 rfl]at e
   obtain rfl:v=u:=by simpa using e
   obtain⟨v',cQ,bH⟩:=hs.obj _ _ _ bJ;rw[hu]at cQ;obtain rfl:=YA cQ;obtain⟨b,es,clock,e,h1,h2,h3⟩:=bH.ok;exact⟨T,K,agg,V,l,b,es,clock,rfl,bJ,hu,e,h1,h2,h3⟩
  .cases h
 .cases h
def jL(T:aI P)(n:Nat)(t:TypeId)(k:cL->Option R):Option R:=
 match find T.und t with
 |some (.map kt vt)=>match find T.row kt with
  |some K=>match find T.row vt with
   |some V=>match find T.und vt with
    |some kk=>k {dst:= .val false (.own n),make:=[(n,(n, .map t K (fP kk) V []))]}
    |none=>none
   |none=>none
  |none=>none
 |_=>none
theorem vG(T:aI P){t:TypeId}{k:cL->Option R}{q:R}(h:jL T n t k=some q)(hs:ak U H F w ob n):
 ∃e,k e=some q/\bz P U H F w ρ ob n ⟨some d, .makeMap t none,ty,pos,aft,none⟩ e:=by
 unfold jL at h;split at h
 case h_2=>cases h
 split at h
 case h_2=>cases h
 rename_i K _;split at h
 case h_2=>cases h
 rename_i V _;split at h
 case h_2=>cases h
 rename_i kk _
 have aZ:(execOp (ev ρ) ⟨some d, .makeMap t none,ty,pos,aft,none⟩).run P w= .ok (.value (.map (some w.heap.size))) (w.alloc (.map #[] 0)):=by
  simp[execOp,Instr.makeMap,YO]
 refine⟨_,h,bl.val aZ ?_⟩
 have hv:((H.aP n (.map t K (fP kk) V [])).bL n (.map (some w.heap.size))).val n=some (.map (some w.heap.size)):=by simp[aj.bL]
 refine gZ.new (v0:= .map (some w.heap.size)) hs rfl rfl (jI _) ⟨_, #[],0,rfl,(heap_alloc w _).1,stamped_empty 0,rfl⟩ (fun k hk=>?_) (jf hv rfl);simp only[fp,Value.map.injEq,YH]at hk;subst hk;exact⟨fun e=>by have:=hs.lt _ e;omega,by simp, .inl (YD _)⟩
noncomputable def gp(T:aI P)(ob:Nat->Option (Nat×Th))(n:Nat)(t:TypeId)(M X Y:ag)(k:cL->Option R):Option R:=
 match find T.und t with
 |some (.map kt _)=>match zO ob M with
  |some (o,_, .map T0 K agg V l)=>bif vE T kt K then(match asKey ob K X with
   |some x=>match Y with
    | .val cZ tr=>bif (bif agg then cZ else !cZ)then(match flat ob V tr with
      |some y=>k {dst:= .dead,eat:=[o],make:=[(o,(n, .map T0 K agg V (jK K l x y)))]}
      |none=>none)else none
    |_=>none
   |none=>none)else none
  |_=>none
 |_=>none
theorem oy{IY kt et:TypeId}{dd:TypeDesc}{b clock:Nat}{es:Array MapEntry}{key val:Value}(hm:P.underlying IY=some (.map kt et))(hd:P.underlying kt=some dd)(hb:w.heap[b]? =some (.map es clock))(hk:IsKey dd key):
 (Zy dd key es.toList 0=some none->(ZR IY (.map (some b)) key val).run P w= .ok () {w with heap:=w.heap.setIfInBounds b (.map (es.push {key,val,born:=clock}) (clock+1))})/\
 (∀j e,Zy dd key es.toList 0=some (some (j,e))->((es[j]?).map (·.key)).getD key=key->(ZR IY (.map (some b)) key val).run P w= .ok () {w with heap:=w.heap.setIfInBounds b (.map (es.modify j fun e=>{e with key,val}) clock)}):=by
 refine⟨fun h1=>?_,fun j e h1 h2=>?_⟩
 .simp[ZR,run_underlying hm,Zq hb,ZS hd hk,ZY hd h1,ZX _ hb,YO]
 .simp[ZR,run_underlying hm,Zq hb,ZS hd hk,ZY hd h1,h2,run_keyThatStays hk,ZX _ hb,YO]
theorem rP(T:aI P){t:TypeId}{M X Y:ag}{m x y:Operand}{k:cL->Option R}{q:R}(h:gp T ob n t M X Y k=some q)(hs:ak U H F w ob n)(hm:af H F w M (ev ρ m))(hx:af H F w X (ev ρ x))(hy:af H F w Y (ev ρ y)):
 ∃e,k e=some q/\bz P U H F w ρ ob n ⟨none, .mapUpdate t m x y,ty,pos,aft,none⟩ e:=by
 unfold gp at h;split at h
 case h_2=>cases h
 rename_i kt vt hu;split at h
 case h_2=>cases h
 rename_i o s T0 K agg V l nH;obtain⟨hk,h'⟩:=ax h;clear h;split at h'
 case h_2=>cases h'
 rename_i a ha;split at h'
 case h_2=>cases h'
 rename_i cZ tr;obtain⟨mQ,h⟩:=ax h';clear h'
 have mQ:agg=cZ:=by cases agg<;>cases cZ<;>simp_all
 subst mQ;split at h
 case h_2=>cases h
 rename_i b hb;refine⟨_,h,?_⟩;obtain⟨dd,hd,hK,hR⟩:=qF (F:=F) (w:=w) T hk;obtain⟨T1,K1,OE,V1,l1,r,es,clock,e0,bJ,hv,jw,hh,dC,oz⟩:=vF hs nH hm;cases e0;have jM:=hR _ _ (qG hs ha hx)
 have k9:au H F w agg (.leaf V b) (ev ρ y):=by
  obtain⟨cs,h1,h2⟩:=hy;exact⟨cs,dV hs hb h1,h2⟩
 have OF:r<w.heap.size:=(Zb.1 hh).1
 have fin:∀o',(ZR t (.map (some r)) (ev ρ x) (ev ρ y)).run P w= .ok () {w with heap:=w.heap.setIfInBounds r o'}->
  (∀w',(∀k,k≠r->w'.heap[k]? =w.heap[k]?)->∃gG jx,o'= .map gG jx/\Stamped gG jx/\dD (H.aP n (.map T0 K agg V (jK K l a b))) F w' K agg V gG.toList (jK K l a b))->
  bz P U H F w ρ ob n ⟨none, .mapUpdate t m x y,ty,pos,aft,none⟩ {dst:= .dead,eat:=[o],make:=[(o,(n, .map T0 K agg V (jK K l a b)))]}:=by
  intro o' aZ DW;refine bl.unit (w':={w with heap:=w.heap.setIfInBounds r o'}) ?_ ?_
  .simp[execOp,jw,aZ,YO]
  .have gq:∀k,k≠r->(w.heap.setIfInBounds r o')[k]? =w.heap[k]? :=(heap_set hh).2;obtain⟨gG,jx,rfl,g1,g2⟩:=DW {w with heap:=w.heap.setIfInBounds r o'} gq;refine gZ.p4 (t':= .map T0 K agg V (jK K l a b)) (w':={w with heap:=w.heap.setIfInBounds r (.map gG jx)}) hs bJ hv rfl (fun k hk=>hk) ⟨rfl,⟨rfl,YD _⟩,rfl,by simp,fun k hk hn=>gq k fun e=>hn (by subst e;exact jw)⟩ ⟨r,gG,jx,jw,(heap_set hh).1,g1,g2⟩ trivial
 have vH:H.le (H.aP n (.map T0 K agg V (jK K l a b))):=aj.dH (hs.fresh n (YD _) (by omega)).2
 have cI:∀w':World,(∀k,k≠r->w'.heap[k]? =w.heap[k]?)->Step F w F w':=by
  intro w' hw b hb;refine⟨hb,hw b fun e=>?_⟩;subst e;obtain⟨v',cQ,bH⟩:=hs.obj _ _ _ bJ;rw[hv]at cQ;obtain rfl:=YA cQ;exact bH.no b jw hb
 obtain⟨r1,r2⟩:=oy (val:=ev ρ y) (T.und_ok _ _ hu) hd hh (hK _ _ jM)
 rcases ox hK jM 0 oz with⟨a1,a2,a3,a4⟩|⟨j,e,z,a1,a2,a3,a4,a5,a6⟩
 .refine fin _ (r1 a1) fun w' hw=>⟨_,_,rfl,stamped_push dC a3,?_⟩
  rw[Array.toList_push];exact a4 _ F w' b _ rfl vH (cI w' hw) (k9.keep vH (cI w' hw))
 .rw[Ze]at a1
  have hj:es[j]? =some e:=by simpa using a2
  refine fin _ (r2 j _ a1 (by rw[hj];exact a3)) fun w' hw=>⟨_,_,rfl,stamped_modify dC _ _ (fun _ _=>rfl) (fun e' _ he'=>?_),?_⟩
  .rw[hj]at he';cases he';exact a3.symm
  .rw[Array.toList_modify];exact a6 _ F w' b _ rfl vH (cI w' hw) (k9.keep vH (cI w' hw))
noncomputable def kU{α:Type}(K:Row):List (K.den×α)->K.den->List (K.den×α)
 |[],_=>[]
 |p::l,k=>if bP K p.1 k=true then l else p::kU K l k
theorem sz{K:Row}{agg:Bool}{V:Row}{dd:TypeDesc}{x:K.den}{kv:Value}(hK:∀x v,fN K x=some v->IsKey dd v)(hx:fN K x=some kv):{es:List MapEntry}->{l:List (K.den×V.den)}->(i:Nat)->dD H F w K agg V es l->
 (Zy dd kv es i=some none/\kU K l x=l)\/
 ∃(j:Nat)(e:MapEntry),Zy dd kv es i=some (some (i+j,e.val))/\j<es.length/\∀H' F' w',H.le H'->Step F w F' w'->dD H' F' w' K agg V (es.eraseIdx j) (kU K l x)
 |[],l,i,h=>by
  obtain rfl:l=[]:=h;exact .inl ⟨rfl,rfl⟩
 |e::es,l,i,h=>by
  obtain⟨k,y,l',rfl,h1,h2,h3⟩:=h;obtain⟨r,hr,DV⟩:=sameNow_of_keys (hK x kv hx) (hK k _ h1);have Bc:=eU h1 hx
  cases r with
  |true=>
   have hq:bP K k x=true:=Bc.2 (DV.1 rfl).symm;exact .inr ⟨0,e,by simp[Zy,hr],by simp,fun H' F' w' hH hs=>by simpa[kU,hq]using h3.keep hH hs⟩
  |false=>
   have hq:¬bP K k x=true:=fun q=>by have:=DV.2 (Bc.1 q).symm;cases this
   rcases sz hK hx (i+1) h3 with⟨a1,a2⟩|⟨j,e',a1,a2,a3⟩
   .exact .inl ⟨by simp[Zy,hr,a1],by simp[kU,hq,a2]⟩
   .exact .inr ⟨j+1,e',by simp[Zy,hr,a1];omega,by simpa using a2,fun H' F' w' hH hs=>⟨k,y,_,by simp[kU,hq],h1,h2.keep hH hs,a3 H' F' w' hH hs⟩⟩
noncomputable def lS(T:aI P)(ob:Nat->Option (Nat×Th))(n:Nat)(t:TypeId)(M X:ag)(k:cL->Option R):Option R:=
 match find T.und t with
 |some (.map kt _)=>match zO ob M with
  |some (o,_, .map T0 K agg V l)=>bif vE T kt K then(match asKey ob K X with
   |some x=>k {dst:= .dead,eat:=[o],make:=[(o,(n, .map T0 K agg V (kU K l x)))]}
   |none=>none)else none
  |_=>none
 |_=>none
theorem xZ(T:aI P){t t':TypeId}{M X:ag}{m x:Operand}{k:cL->Option R}{q:R}{dst:Option Nat}(h:lS T ob n t M X k=some q)(hs:ak U H F w ob n)(hm:af H F w M (ev ρ m))(hx:af H F w X (ev ρ x)):
 ∃e,k e=some q/\bz P U H F w ρ ob n ⟨dst, .call {callee:= .builtin .delete,args:= #[m,x],argTypes:= #[t,t']},ty,pos,aft,none⟩ e:=by
 unfold lS at h;split at h
 case h_2=>cases h
 rename_i kt vt hu;split at h
 case h_2=>cases h
 rename_i o s T0 K agg V l nH;obtain⟨hk,h'⟩:=ax h;clear h;split at h'
 case h_2=>cases h'
 rename_i a ha;refine⟨_,h',?_⟩;obtain⟨dd,hd,hK,hR⟩:=qF (F:=F) (w:=w) T hk;obtain⟨T1,K1,OE,V1,l1,r,es,clock,e0,bJ,hv,jw,hh,dC,oz⟩:=vF hs nH hm;cases e0;have jM:=hR _ _ (qG hs ha hx);have vH:H.le (H.aP n (.map T0 K agg V (kU K l a))):=aj.dH (hs.fresh n (YD _) (by omega)).2
 have fin:∀gG,(Builtin.delete_ #[t,t'] ty #[.map (some r),ev ρ x]).run P w= .ok (.tuple #[]) {w with heap:=w.heap.setIfInBounds r (.map gG clock)}->Stamped gG clock->
  (∀w',Step F w F w'->dD (H.aP n (.map T0 K agg V (kU K l a))) F w' K agg V gG.toList (kU K l a))->
  bz P U H F w ρ ob n ⟨dst, .call {callee:= .builtin .delete,args:= #[m,x],argTypes:= #[t,t']},ty,pos,aft,none⟩ {dst:= .dead,eat:=[o],make:=[(o,(n, .map T0 K agg V (kU K l a)))]}:=by
  intro gG aZ IZ DW;have gq:∀k,k≠r->(w.heap.setIfInBounds r (.map gG clock))[k]? =w.heap[k]? :=(heap_set hh).2;refine bl.val (v:= .tuple #[]) (w':={w with heap:=w.heap.setIfInBounds r (.map gG clock)}) (by simp[execOp,resolve,invoke,builtin,jw,aZ,YO]) ?_;refine gZ.p4 (t':= .map T0 K agg V (kU K l a)) (w':={w with heap:=w.heap.setIfInBounds r (.map gG clock)}) hs bJ hv rfl (fun k hk=>hk) ⟨rfl,⟨rfl,YD _⟩,rfl,by simp,fun k hk hn=>gq k fun e=>hn (by subst e;exact jw)⟩ ⟨r,gG,clock,jw,(heap_set hh).1,IZ,DW _ fun b hb=>?_⟩ trivial;refine⟨hb,gq b fun e=>?_⟩;subst e;obtain⟨v',cQ,bH⟩:=hs.obj _ _ _ bJ;rw[hv]at cQ;obtain rfl:=YA cQ;exact bH.no b jw hb
 rcases sz hK jM 0 oz with⟨a1,a2⟩|⟨j,e,a1,a2,a3⟩
 .refine fin es ?_ dC fun w' hw=>?_
  .simp[Builtin.delete_,run_underlying (T.und_ok _ _ hu),Zq hh,ZS hd (hK _ _ jM),ZY hd a1,ZX _ hh,YO]
  .rw[a2];exact oz.keep (by rw[a2]at vH;exact vH) hw
 .rw[Ze]at a1
  refine fin (es.eraseIdxIfInBounds j) ?_ (MapKept.stamped_erase dC j) fun w' hw=>?_
  .simp[Builtin.delete_,run_underlying (T.und_ok _ _ hu),Zq hh,ZS hd (hK _ _ jM),ZY hd a1,ZX _ hh,YO]
  .have hj:j<es.size:=by simpa using a2
   have:(es.eraseIdxIfInBounds j).toList=es.toList.eraseIdx j:=by
    unfold Array.eraseIdxIfInBounds;rw[dif_pos hj,Array.toList_eraseIdx]
   rw[this];exact a3 _ F w' vH hw
theorem vI{t:TypeId}{agg:Bool}{V:Row}(h:tS P t agg V)(h1:agg=false->V.size=1):∃z,(zeroValue t).run P w= .ok z w/\au H F w agg (.leaf V V.zero) z:=by
 obtain⟨z,hz,e⟩:=h
 cases hi:P.info? t with
 |none=>rw[hi]at hz;cases hz
 |some ti=>
  rw[hi]at hz;refine⟨z,?_,V.dc,bF.zero F w V,e,fun ha=>?_⟩
  .have hz':ti.zero=some z:=hz;simp[zeroValue,typeInfo,hi,hz',YO]
  .have hl:V.dc.length=V.size:=(bF.zero F w V).length;rw[h1 ha]at hl;subst ha;rw[cond_false]at e
   match hv:V.dc,hl with
   |[u],_=>rw[hv]at e;rw[e];rfl
theorem zP{K:Row}{agg:Bool}{V:Row}:{es:List MapEntry}->{l:List (K.den×V.den)}->es.length=l.length->(∀i(h:i<l.length),∃(e:MapEntry)(cs:List Value),es[i]? =some e/\fN K l[i].1=some e.key/\bF F w V cs l[i].2/\e.val=(bif agg then .agg cs.toArray else cs.headD undef)/\(agg=false->cs=[e.val]))->dD H F w K agg V es l
 |[],[],_,_=>rfl
 |[],_::_,h,_=>by cases h
 |_::_,[],h,_=>by cases h
 |e::es,(k,x)::l,hl,h=>by
  obtain⟨e',cs,h1,h2,h3,h4,h5⟩:=h 0 (by simp)
  obtain rfl:e=e':=by simpa using h1
  exact⟨k,x,l,rfl,h2,⟨cs,h3,h4,h5⟩,zP (by simpa using hl) fun i hi=>by
   obtain⟨e',mL,q1,q2,q3,q4⟩:=h (i+1) (by simpa using hi)
   exact⟨e',mL,by simpa only[List.getElem?_cons_succ]using q1,q2,q3,q4⟩⟩
theorem zQ{K:Row}{agg:Bool}{V:Row}:{es:List MapEntry}->{l:List (K.den×V.den)}->dD H F w K agg V es l->es.length=l.length/\∀i(h:i<l.length),∃(e:MapEntry)(cs:List Value),es[i]? =some e/\fN K l[i].1=some e.key/\bF F w V cs l[i].2/\e.val=(bif agg then .agg cs.toArray else cs.headD undef)/\(agg=false->cs=[e.val])
 |[],l,h=>by obtain rfl:l=[]:=h;exact⟨rfl,fun i h=>by simp at h⟩
 |e::es,l,h=>by
  obtain⟨k,x,l',rfl,h1,⟨cs,h2,h3,h4⟩,h5⟩:=h;obtain⟨g1,g2⟩:=zQ h5;refine⟨by simp[g1],fun i hi=>?_⟩
  cases i with
  |zero=>exact⟨e,cs,rfl,h1,h2,h3,h4⟩
  |succ i=>
   obtain⟨e',mL,q1,q2,q3,q4⟩:=g2 i (by simpa using hi);exact⟨e',mL,by simpa only[List.getElem?_cons_succ]using q1,q2,q3,q4⟩
structure Ll where
 K:Row
 agg:Bool
 V:Row
 l:List (K.den×V.den)
def ya(ob:Nat->Option (Nat×Th)):ag->Option Ll
 | .val false (.leaf (.map K agg V) l)=>some ⟨K,agg,V,l⟩
 | .val false (.own o)=>match ob o with
   |some (_, .map _ K agg V l)=>some ⟨K,agg,V,l⟩
   |some (_, .fmap _ K agg V l)=>some ⟨K,agg,V,l⟩
   |_=>none
 |_=>none
theorem zR{K:Row}{agg:Bool}{V:Row}{l:List (K.den×V.den)}{v:Value}(h:bF F w (.map K agg V) [v] l):(v= .map none/\l=[])\/∃b es clock,v= .map (some b)/\w.heap[b]? =some (.map es clock)/\Stamped es clock/\dD H F w K agg V es.toList l:=by
 obtain⟨u,e,h⟩:=h
 obtain rfl:v=u:=by simpa using e
 refine h.imp id fun⟨b,es,clock,h1,h2,h3,h4,h5,h6⟩=>⟨b,es,clock,h1,h3,h4,zP (by simpa using h5) fun i hi=>by simpa using h6 i hi⟩
theorem Bw(hs:ak U H F w ob n){D:ag}{m:Ll}{v:Value}(h:ya ob D=some m)(hd:af H F w D v):(v= .map none/\m.l=[])\/∃b es clock,v= .map (some b)/\w.heap[b]? =some (.map es clock)/\Stamped es clock/\dD H F w m.K m.agg m.V es.toList m.l:=by
 unfold ya at h;split at h
 .cases h;exact zR hd.inv
 .rename_i o;obtain⟨cs,⟨u,hu,_,e⟩,_,h3⟩:=hd;rw[h3 rfl]at e
  obtain rfl:v=u:=by simpa using e
  split at h
  .rename_i s T K agg V l bJ;cases h;obtain⟨v',cQ,bH⟩:=hs.obj _ _ _ bJ;rw[hu]at cQ;obtain rfl:=YA cQ;obtain⟨b,es,clock,e,h1,h2,h3⟩:=bH.ok;exact .inr ⟨b,es,clock,e,h1,h2,h3⟩
  .rename_i s T K agg V l bJ;cases h;obtain⟨v',cQ,bH⟩:=hs.obj _ _ _ bJ;rw[hu]at cQ;obtain rfl:=YA cQ;exact zR bH.ok
  .cases h
 .cases h
noncomputable def lT(T:aI P)(ob:Nat->Option (Nat×Th))(t:TypeId)(ok:Bool)(M X:ag)(k:cL->Option R):Option R:=
 match find T.und t with
 |some (.map kt vt)=>match ya ob M with
  |some ⟨K,agg,V,l⟩=>match find T.zer vt with
   |some (cZ,V')=>bif vE T kt K&&(bif agg then cZ else !cZ)&&V'.beq V&&(agg||YE V.size 1)then(match asKey ob K X with
    |some x=>bif ok then k {dst:= .tup [(agg, .leaf V ((aX K l x).getD V.zero)),(false, .leaf .bool (aX K l x).isSome)]}
     else k {dst:= .val agg (.leaf V ((aX K l x).getD V.zero))}
    |none=>none)else none
   |none=>none
  |none=>none
 |_=>none
theorem yb(T:aI P){t:TypeId}{ok:Bool}{M X:ag}{m x:Operand}{k:cL->Option R}{q:R}(h:lT T ob t ok M X k=some q)(hs:ak U H F w ob n)(hm:af H F w M (ev ρ m))(hx:af H F w X (ev ρ x)):
 ∃e,k e=some q/\bz P U H F w ρ ob n ⟨some d, .lookup t m x ok,ty,pos,aft,none⟩ e:=by
 unfold lT at h;split at h
 case h_2=>cases h
 rename_i kt vt hu;split at h
 case h_2=>cases h
 rename_i K agg V l nH;split at h
 case h_2=>cases h
 rename_i cZ V' hz;obtain⟨hc,h'⟩:=ax h;clear h;obtain⟨hc,If⟩:=bE hc;obtain⟨hc,GJ⟩:=bE hc;obtain⟨rM,vm⟩:=bE hc
 have mQ:agg=cZ:=by cases agg<;>cases cZ<;>simp_all
 subst mQ;obtain rfl:=Row.eq_of_beq GJ;split at h'
 case h_2=>cases h'
 rename_i a ha;obtain⟨dd,hd,hK,hR⟩:=qF (F:=F) (w:=w) T rM;have jM:=hR _ _ (qG hs ha hx)
 have iz:agg=false->V'.size=1:=fun e=>by subst e;exact beq_true (by simpa using If)
 obtain⟨z,xA,xz⟩:=vI (w:=w) (H:=H) (F:=F) (T.zer_ok _ _ _ hz) iz
 have main:∃v,(aak t (ev ρ m) (ev ρ x) ok).run P w= .ok (if ok then .tuple #[v, .bool (aX K l a).isSome]else v) w/\au H F w agg (.leaf V' ((aX K l a).getD V'.zero)) v:=by
  have OG:=hK _ _ jM;have zS:=T.und_ok _ _ hu
  rcases Bw hs nH hm with⟨jw,hl⟩|⟨r,es,clock,jw,hh,dC,oz⟩
  .dsimp only at hl;subst hl;refine⟨z,?_,xz⟩;rw[jw];have hf:=ZY (w:=w) hd (show Zy dd (ev ρ x) [] 0=some none from rfl)
   cases ok<;>simp[aak,run_underlying zS,ZS hd OG,hf,xA,aX,YO]
  .dsimp only at oz
   rcases ox hK jM 0 oz with⟨a1,a2,_⟩|⟨j,e,y,a1,_,_,a4,a5,_⟩
   .refine⟨z,?_,by rw[a2];exact xz⟩;rw[jw,a2];simp[aak,run_underlying zS,Zq hh,ZS hd OG,ZY hd a1,xA,YO]
   .refine⟨e.val,?_,by rw[a4];exact a5⟩;rw[jw,a4];simp[aak,run_underlying zS,Zq hh,ZS hd OG,ZY hd a1,YO]
 obtain⟨v,aZ,iV⟩:=main
 cases ok with
 |true=>
  refine⟨_,h',aW hs (v:= .tuple #[v, .bool (aX K l a).isSome]) (by simp[execOp,aZ,YO]) ⟨[v, .bool (aX K l a).isSome],rfl,_,_,rfl,iV,_,_,rfl,au.dy ..,rfl⟩⟩
 |false=>exact⟨_,h',aW hs (v:=v) (by simp[execOp,aZ,YO]) iV⟩
def mz(s:ByteArray)(i:Int):Option Int:=(if 0<=i then s[i.toNat]? else none).map fun b=>(b.toNat:Int)
theorem vJ{e:Row}:{m:Nat}->{r:Row}->{x:r.den}->{l:List e.den}->{cs:List Value}->hU m r x e=some l->bF F w r cs x->l.length=m/\cs.length=m*e.size/\∀i(h:i<l.length),bF F w e ((cs.drop (i*e.size)).take e.size) l[i]
 |0,r,x,l,cs,h,_=>by unfold hU at h;cases h
 |1,r,x,l,cs,h,ha=>by
  unfold hU at h;split at h
  case isFalse=>cases h
  rename_i hb;obtain rfl:=Row.eq_of_beq hb;obtain rfl:=YA h;have hl:=ha.length;refine⟨rfl,by simp[hl],fun i hi=>?_⟩
  obtain rfl:i=0:=by simp at hi;omega
  rw[Nat.zero_mul,List.drop_zero,<-hl,YS];exact ha
 |m+2, .pair a b,x,l,cs,h,ha=>by
  unfold hU at h;split at h
  case isFalse=>cases h
  rename_i hb;obtain rfl:=Row.eq_of_beq hb;split at h
  case h_2=>cases h
  rename_i l' hl;obtain rfl:=YA h;obtain⟨c1,c2,rfl,h1,h2⟩:=ha;have CW:=h1.length;obtain⟨g1,g2,g3⟩:=vJ hl h2;refine⟨by simp[g1],by rw[YV,CW,g2,show m+2=(m+1)+1 from rfl,Zm (m+1) 1,Nat.one_mul];omega,fun i hi=>?_⟩
  cases i with
  |zero=>
   rw[Nat.zero_mul,List.drop_zero,List.take_append_of_le_length (by omega),<-CW,YS];exact h1
  |succ i=>
   have:=g3 i (by simpa using hi);rw[show(i+1)*a.size=c1.length+i*a.size from by rw[Zm];omega,<-List.drop_drop,List.drop_left];exact this
 |m+2, .int _,_,_,_,h,_=>by unfold hU at h;cases h
 |m+2, .bool,_,_,_,h,_=>by unfold hU at h;cases h
 |m+2, .str,_,_,_,h,_=>by unfold hU at h;cases h
 |m+2, .slice _,_,_,_,h,_=>by unfold hU at h;cases h
 |m+2, .gW,_,_,_,h,_=>by unfold hU at h;cases h
 |m+2, .nul _,_,_,_,h,_=>by unfold hU at h;cases h
 |m+2, .map ..,_,_,_,h,_=>by unfold hU at h;cases h
def lU(T:aI P)(ob:Nat->Option (Nat×Th))(t:TypeId)(D:ag)(i:Int)(k:cL->Option R):Option R:=
 match find T.und t with
 |some .str=>match vo D with
  |some s=>(mz s i).bind fun c=>k {dst:=iG .u8 c}
  |none=>none
 |some (.array m e)=>match find T.row t with
  |some r=>match find T.row e with
   |some re=>match find T.und e with
    |some kk=>match D with
     | .val true tr=>match flat ob r tr with
       |some x=>match hU m r x re with
        |some l=>bif fP kk||YE re.size 1 then(idx l i).bind fun y=>k {dst:= .val (fP kk) (.leaf re y)}else none
        |none=>none
       |none=>none
     |_=>none
    |none=>none
   |none=>none
  |none=>none
 |_=>none
theorem yc(T:aI P){t:TypeId}{D:ag}{x y:Operand}{kd:IntKind}{i:Int}{k:cL->Option R}{q:R}(h:lU T ob t D i k=some q)(hs:ak U H F w ob n)(hx:af H F w D (ev ρ x))(hy:ev ρ y= .int kd i):
 ∃e,k e=some q/\bz P U H F w ρ ob n ⟨some d, .index t x y,ty,pos,aft,none⟩ e:=by
 unfold lU at h;split at h
 .rename_i hu;have hu:=T.und_ok _ _ hu;split at h
  case h_2=>cases h
  rename_i s hS;obtain⟨c,hc,hk⟩:=bind_some h;have hv:=qt hS hx;unfold mz at hc;obtain⟨b,hb,rfl⟩:=Option.map_eq_some_iff.1 hc;refine⟨_,hk,aW hs (v:= .int .u8 b.toNat) ?_ (au.fD ..)⟩;have zS:P.underlying t=some .string:=hu;simp[execOp,Instr.index,asIntOf,run_underlying zS,hv,hy,hb]
 .rename_i m e hu;have hu:P.underlying t=some (.array m e):=T.und_ok _ _ hu;split at h
  case h_2=>cases h
  rename_i r hr;split at h
  case h_2=>cases h
  rename_i re Oy;split at h
  case h_2=>cases h
  rename_i kk Bc;split at h
  case h_2=>cases h
  rename_i tr;split at h
  case h_2=>cases h
  rename_i z hz;split at h
  case h_2=>cases h
  rename_i l hl;obtain⟨Si,h'⟩:=ax h;clear h;obtain⟨a,ha,hk⟩:=bind_some h';obtain⟨cs,hh,hv,_⟩:=hx;rw[cond_true]at hv;obtain⟨g1,g2,g3⟩:=vJ hl (dV hs hz hh);obtain⟨j,hj,av,rfl⟩:=dF ha;obtain⟨ti,z0,h1,_,_,h4,_⟩:=T.row_ok _ _ Oy;obtain⟨dd,si,rI⟩:=(T.und_ok _ _ Bc).agg;have nI:=g3 j av
  have iz:(j+1)*re.size<=cs.length:=by rw[g2];exact YX _ (by omega)
  rw[Zm]at iz;refine⟨_,hk,?_⟩
  cases mQ:fP kk with
  |true=>
   refine aW hs (v:= .agg ((cs.drop (j*re.size)).take re.size).toArray) ?_ ⟨_,nI,rfl,by simp⟩;subst hj;simp[execOp,Instr.index,asIntOf,run_underlying hu,hv,hy,show j<m by omega,part,Y6,dn si,rI,mQ,sizeOf,typeInfo,h1,h4,List.extract_eq_take_drop]
  |false=>
   rw[mQ,Bool.false_or]at Si;have ir:=beq_true Si;have hlen:=nI.length;rw[ir,Nat.mul_one]at nI iz;rw[ir]at hlen
   obtain⟨v,sw⟩:∃v,(cs.drop j).take 1=[v]:=by
    match hq:(cs.drop j).take 1,sA:((cs.drop j).take 1).length with
    |[v],_=>exact⟨v,rfl⟩
    |[],_=>rw[Nat.mul_one,hq]at hlen;cases hlen
    |_::_::_,_=>rw[Nat.mul_one,hq]at hlen;cases hlen
   rw[sw]at nI
   have Gv:cs[j]? =some v:=by
    have:(cs.drop j)[0]? =some v:=by
     have h0:((cs.drop j).take 1)[0]? =some v:=by rw[sw];rfl
     rwa [List.getElem?_take_of_lt (by omega)]at h0
    simpa using this
   refine aW hs (v:=v) ?_ (au.jd nI);subst hj;simp[execOp,Instr.index,asIntOf,run_underlying hu,hv,hy,show j<m by omega,part,Y6,dn si,rI,mQ,sizeOf,typeInfo,h1,h4,ir,Gv]
 .cases h
end
end Go.Proofs.YtbladfbbhijpmaaGreat
end
section
open _root_.Nat renaming beq->YE,le_refl->YD,lt_of_lt_of_le->Y8
open _root_.Option renaming isSome_iff_exists->Zg
open _root_.Option.some renaming inj->YA,injEq->YH
open _root_.Prod.mk renaming inj->Z3,injEq->Zx
namespace Go.Proofs.YtbladfbbhijpmaaGreat
open Go Go.RowKit
def Bx(T:TypeId):(e:DR)->List e.row.den->Th
 | .leaf r,y=> .own T r y
 | .sl T' e,y=> .deep T (.sl T' e) y none
 | .pair a b,y=> .deep T (.pair a b) y none
section
variable {P:Program} {ρ:Nat->Value} {w w':World} {H H':aj} {F F':Nat->Prop} {U:Nat->Prop} {ob:Nat->Option (Nat×Th)} {n:Nat} {R:Type}
variable {op:Op} {ty:TypeId} {pos:String} {aft:Array Edge} {d:Nat}
theorem qH(T:TypeId)(e:DR)(y:List e.row.den):(Bx T e y).base=Bx T e y:=by cases e<;>rfl
theorem oA{T:TypeId}{e:DR}{u:Value}{y:List e.row.den}{A:Nat->Prop}(h:fO F w (.sl T e) u y A):eF H F w A u (Bx T e y)/\(∀k,fp A u (Bx T e y) k->A k)/\u.oneCell'=true:=by
 obtain⟨lh,Ss,h1,h2,h3,h4⟩:=h;have ir:=h1.one
 cases e with
 |leaf r=>
  have hl:lh=y:=List.ext_getElem h2 fun i a b=>(h3 i a b).1
  subst hl;exact⟨h1,fun k hk=>h4.aS k hk,ir⟩
 |sl T' e=>exact⟨⟨lh,Ss,h1,h2,h3,h4⟩,fun k hk=>hk,ir⟩
 |pair a b=>exact⟨⟨lh,Ss,h1,h2,h3,h4⟩,fun k hk=>hk,ir⟩
theorem qI{T:TypeId}{e:DR}{u:Value}{y:List e.row.den}{A:Nat->Prop}(h:eF H F w A u (Bx T e y)):fO F w (.sl T e) u y (fun k=>fp A u (Bx T e y) k):=by
 cases e with
 |leaf r=>
  have h':gJ F w T r u y:=h;refine⟨y,fun _ _=>False,h',rfl,fun i a b=>⟨rfl,fun _ h=>h⟩,⟨fun k=>?_,fun _ _ _ _ _ _ h=>h.elim,fun _ _ _ h=>h.elim⟩⟩
  show aS u k↔_
  simp
 |sl T' e=>exact h
 |pair a b=>exact h
theorem p9{d:DR}{r:Row}(q:dA d (.leaf r)){x':d.low.den}{x:d.row.den}{S:Nat->Prop}(h:fO F w d x' x S):q.lo.get x'=q.hi.get x:=by
 obtain⟨A,B,h1,_⟩:=h.out q;exact h1.1
theorem qJ:{d e:DR}->{T:TypeId}->{r:Row}->(p:dA d (.sl T e))->(q:dA d (.leaf r))->{x':d.low.den}->{x:d.row.den}->{S:Nat->Prop}->gX F w p x' x S->q.lo.get x'=q.hi.get x
 |_,_,_,_, .fst p, .fst q,_,_,_,h=>by obtain⟨A,B,h1,_⟩:=h;exact qJ p q h1
 |_,_,_,_, .fst p, .snd q,_,_,_,h=>by obtain⟨A,B,_,h2,_⟩:=h;exact p9 q h2
 |_,_,_,_, .snd p, .fst q,_,_,_,h=>by obtain⟨A,B,h1,_⟩:=h;exact p9 q h1
 |_,_,_,_, .snd p, .snd q,_,_,_,h=>by obtain⟨A,B,_,h2,_⟩:=h;exact qJ p q h2
theorem DX{d:DR}{h:Option ql}{i:Nat}{x':d.low.den}{x:d.row.den}{S:Nat->Prop}{r:Row}(q:dA d (.leaf r))(hr:km H F w d h i x' x S):q.lo.get x'=q.hi.get x:=by
 cases h with
 |none=>exact p9 q hr
 |some h=>
  by_cases hi:h.i=(i:Int)
  .obtain⟨T',e,p,_,h2,_⟩:=hr.2 hi;exact qJ p q h2
  .exact p9 q (hr.1 hi)
theorem nJ{d:DR}{r:Row}(q:dA d (.leaf r)){x':d.low.den}{x:d.row.den}{S:Nat->Prop}(y:r.den)(h:fO F w d x' x S):fO F w d (q.lo.set x' y) (q.hi.set x y) S:=by
 obtain⟨A,B,h1,h2,h3⟩:=h.out q;exact h2.put q (y':=y) (A:=A) ⟨rfl,h1.2⟩ h3
theorem oB:{d e:DR}->{T:TypeId}->{r:Row}->(p:dA d (.sl T e))->(q:dA d (.leaf r))->{x':d.low.den}->{x:d.row.den}->{S:Nat->Prop}->(y:r.den)->gX F w p x' x S->gX F w p (q.lo.set x' y) (q.hi.set x y) S/\p.lo.get (q.lo.set x' y)=p.lo.get x'
 |_,_,_,_, .fst p, .fst q,_,_,_,y,h=>by
  obtain⟨A,B,h1,h2,h3⟩:=h;obtain⟨g1,g2⟩:=oB p q y h1;exact⟨⟨A,B,g1,h2,h3⟩,g2⟩
 |_,_,_,_, .fst p, .snd q,_,_,_,y,h=>by
  obtain⟨A,B,h1,h2,h3⟩:=h;exact⟨⟨A,B,h1,nJ q y h2,h3⟩,rfl⟩
 |_,_,_,_, .snd p, .fst q,_,_,_,y,h=>by
  obtain⟨A,B,h1,h2,h3⟩:=h;exact⟨⟨A,B,nJ q y h1,h2,h3⟩,rfl⟩
 |_,_,_,_, .snd p, .snd q,_,_,_,y,h=>by
  obtain⟨A,B,h1,h2,h3⟩:=h;obtain⟨g1,g2⟩:=oB p q y h2;exact⟨⟨A,B,h1,g1,h3⟩,g2⟩
theorem By{d:DR}{h:Option ql}{i:Nat}{x':d.low.den}{x:d.row.den}{S:Nat->Prop}{r:Row}(q:dA d (.leaf r))(y:r.den)(hr:km H F w d h i x' x S):km H F w d h i (q.lo.set x' y) (q.hi.set x y) S:=by
 cases h with
 |none=>exact nJ q y hr
 |some h=>
  refine⟨fun hi=>nJ q y (hr.1 hi),fun hi=>?_⟩;obtain⟨T',e,p,h1,h2,h3⟩:=hr.2 hi;obtain⟨g1,g2⟩:=oB p q y h2;exact⟨T',e,p,h1,g1,by rw[g2];exact h3⟩
theorem ak.low(hs:ak U H F w ob n){o s:Nat}{T:TypeId}{dr:DR}{l:List dr.row.den}{h:Option ql}(ho:ob o=some (s, .deep T dr l h)){v:Value}(hv:H.val o=some v):
 ∃(lh:List dr.low.den)(Ss:Nat->Nat->Prop),fa 0 F w T dr.low v lh/\lh.length=l.length/\(∀i(h1:i<lh.length)(h2:i<l.length),km H F w dr h i lh[i] l[i] (Ss i))/\jF Ss l.length (aS v) (H.sub s):=by
 obtain⟨v',cQ,bH⟩:=hs.obj _ _ _ ho;rw[hv]at cQ;obtain rfl:=YA cQ;obtain⟨lh,Ss,h1,h2,h3,h4⟩:=bH.ok;exact⟨lh,Ss,⟨fun k hk=>bH.no k (h4.aS k hk),h1⟩,h2,h3,h4⟩
theorem Path.tW:{r s:Row}->(p:Path r s)->(x:r.den)->(y:s.den)->p.get (p.set x y)=y
 |_,_, .here,_,_=>rfl
 |_,_, .fst p,x,y=>Path.tW p x.1 y
 |_,_, .snd p,x,y=>Path.tW p x.2 y
theorem gX.DY:{d e:DR}->(p:dA d e)->{x':d.low.den}->{x:d.row.den}->{S:Nat->Prop}->(y':e.low.den)->gX F w p x' x S->gX F w p (p.lo.set x' y') x S
 |_,_, .here,_,_,_,_,h=>h
 |_,_, .fst p,_,_,_,y',h=>by
  obtain⟨A,B,h1,h2,h3⟩:=h;exact⟨A,B,h1.DY p y',h2,h3⟩
 |_,_, .snd p,_,_,_,y',h=>by
  obtain⟨A,B,h1,h2,h3⟩:=h;exact⟨A,B,h1,h2.DY p y',h3⟩
def mR(m:Nat->Prop)(Ss:Nat->Nat->Prop)(c:Nat)(k:Nat):Prop:=m k\/∃i,i<c/\Ss i k
theorem jF.less{Ss:Nat->Nat->Prop}{c:Nat}{m S:Nat->Prop}(h:jF Ss c m S)(j:Nat){B:Nat->Prop}(hB:∀k,B k->Ss j k):jF (fun i=>if i=j then B else Ss i) c m (mR m (fun i=>if i=j then B else Ss i) c):=by
 have sub:∀i k,(if i=j then B else Ss i) k->Ss i k:=by
  intro i k hk;by_cases e:i=j
  .subst e;rw[if_pos rfl]at hk;exact hB k hk
  .rwa [if_neg e]at hk
 exact⟨fun k=>Iff.rfl,fun i i' k h1 h2 b8 h3 h4=>h.two i i' k h1 h2 b8 (sub i k h3) (sub i' k h4),fun i k h1 h2=>h.out i k h1 (sub i k h2)⟩
theorem jF.vK{Ss:Nat->Nat->Prop}{c:Nat}{m S:Nat->Prop}(h:jF Ss c m S)(j:Nat){B:Nat->Prop}(hB:∀k,B k->Ss j k):∀k,mR m (fun i=>if i=j then B else Ss i) c k->S k:=by
 rintro k (hk|⟨i,hi,hk⟩)
 .exact h.aS k hk
 .by_cases e:i=j
  .subst e;rw[if_pos rfl]at hk;exact h.part hi k (hB k hk)
  .rw[if_neg e]at hk;exact h.part hi k hk
theorem GK{α β:Type}{rel:Nat->α->β->(Nat->Prop)->Prop}{lh:List α}{l:List β}{Ss:Nat->Nat->Prop}{j:Nat}{x':α}{x:β}{B:Nat->Prop}(h:∀i(h1:i<lh.length)(h2:i<l.length),i≠j->rel i lh[i] l[i] (Ss i))(hj:rel j x' x B):
 ∀i(h1:i<(lh.set j x').length)(h2:i<(l.set j x).length),rel i (lh.set j x')[i] (l.set j x)[i] ((fun i=>if i=j then B else Ss i) i):=by
 intro i h1 h2;by_cases e:i=j
 .subst e;simp only[List.getElem_set_self,if_true];exact hj
 .simp only[List.getElem_set_ne (Ne.symm e),if_neg e];exact h i (by simpa using h1) (by simpa using h2) e
theorem aj.lV{H:aj}{n:Nat}{S:Nat->Prop}{t:Th}(h:H.con n=none):H.le ((H.cW n S).aP n t):=(aj.Bj h).trans (aj.dH h)
theorem gZ.tX(hs:ak U H F w ob n){o s:Nat}{t t':Th}{v0:Value}(ho:ob o=some (s,t))(hv:H.val o=some v0)(hb:t'.base=t'){eat:List Nat}(TZ:o∈eat)(S':Nat->Prop)(DL:∀k,fp S' v0 t' k->bq H ob eat k){D:ag}{v:Value}
 (aY:Ext (bq H ob eat) w w')(iV:eF ((H.cW n S').aP n t') F w' S' v0 t')(hd:af ((H.cW n S').aP n t') F w' D v):ie H F w ob n {dst:=D,eat:=eat,make:=[(o,(n,t'))]} v w':=by
 obtain⟨v1,p5,bH⟩:=hs.obj _ _ _ ho;rw[hv]at p5;obtain rfl:=YA p5;have hf:=hs.fresh n (YD _) (by omega)
 have dQ:((H.cW n S').aP n t').sub n=S':=by simp[aj.aP,aj.cW]
 refine⟨(H.cW n S').aP n t',F,⟨aj.lV hf.2,aY,fun _ h=>h,fun _ h=> .inl h,fun b hb=>Y8 (hs.lt b hb) aY.size⟩,fun m hm=>?_,hd,⟨fun o' s' q hq=>?_,fun o1 o2 s1 s2 q1 q2 u1 u2 b8 h1 h2=>?_⟩,fun o' h=>?_⟩
 .refine⟨id,fun h=>?_⟩;simp[aj.aP,aj.cW,show m≠n from by omega,h]
 .obtain⟨rfl,e⟩:=bh hq;obtain⟨rfl,rfl⟩:=Z3 e;refine⟨v0,hv,bH.one,by simp[aj.aP,hb],by rw[dQ];exact iV,fun k hk=>?_⟩;rw[dQ]at hk;have:=DL k hk;exact⟨hs.de k this,Y8 (hs.qm k this) aY.size, .inr this⟩
 .exact absurd ((bh h1).1.trans (bh h2).1.symm) b8
 .left
  obtain⟨y,hy⟩:=Zg.1 h;rw[(bh hy).1];exact TZ
def mS(T:aI P)(ob:Nat->Option (Nat×Th))(n:Nat)(t:TypeId)(D:ag)(k:cL->Option R):Option R:=
 match find T.und t with
 |none=>none
 |some kk=>match D with
  | .dlm o d0 i p off=>match ob o with
    |some (_, .deep T0 dr l h)=>bif d0.beq dr then(match dr.path p with
     |some ⟨.leaf r,q⟩=>bif YE q.lo.off off&&iH T t kk r.size then(idx l i).bind fun x=>k {dst:= .val (fP kk) (.leaf r (q.hi.get x))}else none
     |some ⟨.sl T' e',q⟩=>bif YE q.lo.off off&&iH T t kk 1&& !fP kk then(match h with
       |none=>(idx l i).bind fun x=>k {dst:= .val false (.own n),eat:=[o],make:=[(o,(n, .deep T0 dr l (some ⟨i,p,n,n+1⟩))),(n,(n+1,Bx T' e' (q.hi.get x)))]}
       |some hh=>bif kq hh.p p then(if decide (hh.i=i)=true then(idx l i).bind fun _=>k {dst:= .val false (.own hh.o)}else none)else none)else none
     |_=>none)else none
    |_=>none
  |_=>none
theorem vL(hs:ak U H F w ob n){o s:Nat}{T0 T':TypeId}{dr e':DR}{l:List dr.row.den}{i:Int}{p:List Bool}{q:dA dr (.sl T' e')}(hq:dr.path p=some ⟨_,q⟩)(bJ:ob o=some (s, .deep T0 dr l none)){v:Value}(hv:H.val o=some v)
 {j:Nat}(Ig:i=(j:Nat))(hj:j<l.length){lh:List dr.low.den}{Ss:Nat->Nat->Prop}(hm:gJ F w T0 dr.low v lh)(hlen:lh.length=l.length)(qK:∀i(h1:i<lh.length)(h2:i<l.length),km H F w dr none i lh[i] l[i] (Ss i))(cD:jF Ss l.length (aS v) (H.sub s)):
 ie H F w ob n {dst:= .val false (.own n),eat:=[o],make:=[(o,(n, .deep T0 dr l (some ⟨i,p,n,n+1⟩))),(n,(n+1,Bx T' e' (q.hi.get l[j])))]} (q.lo.get (lh[j]'(by omega))) w:=by
 have Gf:j<lh.length:=by omega
 obtain⟨v1,p5,bH⟩:=hs.obj _ _ _ bJ;rw[hv]at p5;obtain rfl:=YA p5;obtain⟨A,B,hA,hB,h2⟩:=fO.out q (qK j Gf hj);obtain⟨_,m2,m3⟩:=oA (H:=H) hA;have Sj:∀k,B k->Ss j k:=h2.right;obtain⟨f1,f2⟩:=hs.fresh n (YD _) (by omega);obtain⟨f3,f4⟩:=hs.fresh (n+1) (by omega) (by omega)
 have xy:o≠n:=fun e=>by rw[e,f1]at hv;cases hv
 generalize KA:Th.deep T0 dr l (some ⟨i,p,n,n+1⟩)=t1;generalize NM:Bx T' e' (q.hi.get l[j])=t2;generalize hu:q.lo.get lh[j]=u;generalize OH:mR (aS v) (fun i=>if i=j then B else Ss i) l.length=So
 have OI:∀k,So k->H.sub s k:=by rw[<-OH];exact cD.vK j Sj
 have T4:∀k,A k->H.sub s k:=fun k hk=>cD.part hj k (h2.left k hk)
 have T5:∀k,So k->¬A k:=by
  rw[<-OH]
  rintro k (hk|⟨i',gH,hk⟩) ha
  .exact cD.out j k hj (h2.left k ha) hk
  .by_cases e:i'=j
   .subst e;rw[if_pos rfl]at hk;exact h2.off k ha hk
   .rw[if_neg e]at hk;exact cD.two i' j k gH hj e hk (h2.left k ha)
 let H1:aj:=⟨fun m=>if m=n then some u else H.val m,fun m=>if m=n then some t1 else if m=n+1 then some t2 else H.con m,fun m=>if m=n then So else if m=n+1 then A else H.sub m⟩
 have hle:H.le H1:=by
  refine⟨fun o v ho=>?_,fun s t dC=>?_,fun s t dC=>?_⟩
  .have:o≠n:=fun e=>by rw[e,f1]at ho;cases ho
   simp[H1,this,ho]
  .have a1:s≠n:=fun e=>by rw[e,f2]at dC;cases dC
   have a2:s≠n+1:=fun e=>by rw[e,f4]at dC;cases dC
   simp[H1,a1,a2,dC]
  .have a1:s≠n:=fun e=>by rw[e,f2]at dC;cases dC
   have a2:s≠n+1:=fun e=>by rw[e,f4]at dC;cases dC
   simp[H1,a1,a2]
 have Lm:H1.val n=some u:=by simp[H1]
 have ee:∀k,H.sub s k->bq H ob [o] k:=fun k hk=>⟨o,by simp,s,_,v,bJ,hv,hk⟩
 have ir:u.oneCell'=true:=by rw[<-hu];exact m3
 refine⟨H1,F,⟨hle,⟨rfl,⟨rfl,YD _⟩,rfl,YD _,fun _ _ _=>rfl⟩,fun _ h=>h,fun _ h=> .inl h,hs.lt⟩,fun m hm=>?_,jf Lm ir,⟨fun o' s' t hf=>?_,fun o1 o2 s1 s2 q1 q2 u1 u2 b8 g1 g2 e1 e2 k hk ig=>?_⟩,fun o' gm=>?_⟩
 .have a1:m≠n:=by omega
  have a2:m≠n+1:=by omega
  simp[H1,a1,a2]
 .rw[aw]at hf;split at hf
  .rename_i e;subst e;simp only[YH,Zx]at hf;obtain⟨rfl,rfl⟩:=hf
   have I0:H1.sub n=So:=by simp[H1]
   refine⟨v,hle.val _ _ hv,bH.one,?_,?_,fun k hk=>?_⟩
   .rw[<-KA];simp[H1,Th.base,KA]
   .rw[I0,<-KA,<-OH];refine⟨lh,_,hm,hlen,fun i' a b=>?_,cD.less j Sj⟩;have hr:fO F w dr lh[i'] l[i'] (Ss i'):=qK i' a b;refine⟨fun hi=>?_,fun hi=>?_⟩
    .have:i'≠j:=fun e=>hi (by subst e;exact Ig)
     show fO F w dr lh[i'] l[i'] (if i'=j then B else Ss i')
     rw[if_neg this];exact hr
    .have hi:i=(i':Int):=hi
     obtain rfl:i'=j:=by omega
     refine⟨T',e',q,hq,?_,?_⟩
     .show gX F w q lh[i'] l[i'] (if i'=i' then B else Ss i')
      rw[if_pos rfl];exact hB
     .rw[hu];exact Lm
   .rw[I0,<-KA]at hk;have hk:So k:=hk;have:=OI k hk;exact⟨bH.no k this,bH.lt k this, .inr (ee k this)⟩
  .obtain⟨e0,e⟩:=bh hf;obtain⟨rfl,rfl⟩:=Z3 e;rw[e0]
   have I0:H1.sub (n+1)=A:=by simp[H1]
   obtain⟨m1,Sk,_⟩:=oA (H:=H1) hA;rw[NM,hu]at m1 Sk;refine⟨u,Lm,ir,?_,by rw[I0];exact m1,fun k hk=>?_⟩
   .rw[<-NM,qH,NM];simp[H1]
   .rw[I0]at hk;have:=T4 k (Sk k hk);exact⟨bH.no k this,bH.lt k this, .inr (ee k this)⟩
 .have key:∀{k},So k->A k->False:=fun a b=>T5 _ a b
  have Sl:∀k,fp A u t2 k->A k:=by rw[<-NM,<-hu];exact m2
  have oC:H1.sub n=So:=by simp[H1]
  have Sm:H1.sub (n+1)=A:=by simp[H1]
  have two:∀{o' s' t'},find [(o,(n,t1)),(n,(n+1,t2))] o'=some (s',t')->(o'=o/\s'=n/\t'=t1)\/(o'=n/\s'=n+1/\t'=t2):=by
   intro o' s' t' hf;rw[aw]at hf;split at hf
   .rename_i e;simp only[YH,Zx]at hf;exact .inl ⟨e.symm,hf.1.symm,hf.2.symm⟩
   .obtain⟨e1,e⟩:=bh hf;obtain⟨e2,e3⟩:=Z3 e;exact .inr ⟨e1,e2,e3⟩
  rcases two g1 with⟨rfl,rfl,rfl⟩|⟨rfl,rfl,rfl⟩<;>rcases two g2 with⟨rfl,rfl,rfl⟩|⟨rfl,rfl,rfl⟩
  .exact b8 rfl
  .rw[oC,<-KA]at hk;rw[Sm]at ig;rw[Lm]at e2;obtain rfl:=YA e2;exact key (show So k from hk) (Sl k ig)
  .rw[oC,<-KA]at ig;rw[Sm]at hk;rw[Lm]at e1;obtain rfl:=YA e1;exact key (show So k from ig) (Sl k hk)
  .exact b8 rfl
 .obtain⟨y,hy⟩:=Zg.1 gm;rw[aw]at hy;split at hy
  .rename_i e;exact .inl (by rw[<-e];simp)
  .exact .inr (by rw[(bh hy).1];exact YD _)
theorem tY{α β:Type}{l:List α}{lh:List β}(h:lh.length=l.length){i:Int}{x:α}(hi:idx l i=some x):∃j,i=(j:Nat)/\∃(h1:j<lh.length)(h2:j<l.length),x=l[j]/\idx lh i=some lh[j]:=by
 obtain⟨j,hj,av,rfl⟩:=dF hi;refine⟨j,hj,by omega,av,rfl,?_⟩;subst hj
 have GL:j<lh.length:=by omega
 simp[idx,GL]
theorem Bz(T:aI P){t:TypeId}{D:ag}{x:Operand}{k:cL->Option R}{q:R}(h:mS T ob n t D k=some q)(hs:ak U H F w ob n)(hx:af H F w D (ev ρ x)):
 ∃e,k e=some q/\bz P U H F w ρ ob n ⟨some d, .load t x,ty,pos,aft,none⟩ e:=by
 unfold mS at h;split at h
 .cases h
 rename_i kk hu;split at h
 case h_2=>cases h
 rename_i o d0 i p off;split at h
 case h_2=>cases h
 rename_i s T0 dr l hh bJ;obtain⟨hd,h'⟩:=ax h;clear h;obtain rfl:=DR.eq_of_beq hd;obtain⟨g,o0,qq,m,cap,e1,e2,e5⟩:=hx;obtain⟨lh,Ss,cV,hlen,qK,cD⟩:=hs.low bJ e1;split at h'
 .rename_i r sv tU;obtain⟨h1,h2⟩:=ax h';obtain⟨h1,h3⟩:=bE h1;obtain rfl:=beq_true h1;obtain⟨a,ha,hk⟩:=bind_some h2;obtain⟨j,hj,g1,g2,rfl,kl⟩:=tY hlen ha;have pV:=(cV.at rfl e2 kl).path sv.lo _ rfl;rw[DX sv (qK j g1 g2)]at pV;obtain⟨es,hl,GD,hr⟩:=pV;exact⟨_,hk,jH T hu e5 hs (s:= .leaf r _) hr GD (fE T h3)⟩
 .rename_i T' e' sv tU;obtain⟨h1,h2⟩:=ax h';obtain⟨h1,h4⟩:=bE h1;obtain⟨h1,h3⟩:=bE h1;obtain rfl:=beq_true h1
  have mQ:fP kk=false:=by simpa using h4
  obtain⟨dd,si,rI⟩:=(T.und_ok _ _ hu).agg
  have run:∀{j:Nat}(g1:j<lh.length),idx lh i=some lh[j]->(execOp (ev ρ) ⟨some d, .load t x,ty,pos,aft,none⟩).run P w= .ok (.value (sv.lo.get lh[j])) w:=by
   intro j g1 kl;have pV:=(cV.at rfl e2 kl).path sv.lo _ rfl;obtain⟨es,hl,GD,hr,_⟩:=pV;rw[hr]at GD;exact sd si (rI.trans mQ) e5 (GD 0 _ rfl)
  split at h2
  .obtain⟨a,ha,hk⟩:=bind_some h2;obtain⟨j,hj,g1,g2,rfl,kl⟩:=tY hlen ha;exact⟨_,hk,bl.val (run g1 kl) (vL hs tU bJ e1 hj g2 cV.2 hlen qK cD)⟩
  .rename_i hh;obtain⟨hp,h3⟩:=ax h2;have hp:=mP hp;split at h3
   case isFalse=>cases h3
   rename_i hi;have hi:hh.i=i:=of_decide_eq_true hi;obtain⟨a,ha,hk⟩:=bind_some h3;obtain⟨j,hj,g1,g2,rfl,kl⟩:=tY hlen ha;obtain⟨T6,T7,T8,k1,_,k3⟩:=(qK j g1 g2).2 (hi.trans hj);rw[hp,tU]at k1;cases k1;refine⟨_,hk,aW hs (run g1 kl) (jf k3 ?_)⟩;have pV:=(cV.at rfl e2 kl).path sv.lo _ rfl;obtain⟨es,_,_,_,A,m',c,zS⟩:=pV;rw[zS];rfl
 .cases h'
def Ln(T:TypeId):(e:DR)->Th->Option (List e.row.den)
 | .leaf r, .own T1 r1 y=>bif YE T1 T then(if h:r1.beq r=true then some (fj (r:= .slice r1) (s:= .slice r) (congrArg Row.slice (Row.eq_of_beq h)) y)else none)else none
 | .sl T2 e2, .deep T1 (.sl T3 e3) y none=>bif YE T1 T then(if h:(DR.sl T3 e3).beq (.sl T2 e2)=true then some (DR.eq_of_beq h▸y)else none)else none
 | .pair a b, .deep T1 (.pair a1 b1) y none=>bif YE T1 T then(if h:(DR.pair a1 b1).beq (.pair a b)=true then some (DR.eq_of_beq h▸y)else none)else none
 |_,_=>none
theorem yd{T:TypeId}{e:DR}{t:Th}{y:List e.row.den}(h:Ln T e t=some y):t=Bx T e y:=by
 unfold Ln at h;split at h
 .obtain⟨h1,h2⟩:=ax h;split at h2
  .rename_i hb;obtain rfl:=Row.eq_of_beq hb;obtain rfl:=YA h2;rw[beq_true h1];rfl
  .cases h2
 .obtain⟨h1,h2⟩:=ax h;split at h2
  .rename_i hb;cases DR.eq_of_beq hb;obtain rfl:=YA h2;rw[beq_true h1];rfl
  .cases h2
 .obtain⟨h1,h2⟩:=ax h;split at h2
  .rename_i hb;cases DR.eq_of_beq hb;obtain rfl:=YA h2;rw[beq_true h1];rfl
  .cases h2
 .cases h
def tZ(h:Option ql)(i:Int)(p:List Bool):Bool:=
 match h with
 |none=>true
 |some h=>kq h.p p&&decide (h.i=i)
theorem vM{h:Option ql}{i:Int}{p:List Bool}(hh:tZ h i p=true){dr e:DR}{T:TypeId}{q:dA dr (.sl T e)}(hq:dr.path p=some ⟨_,q⟩){j:Nat}(hj:i=(j:Nat)){x':dr.low.den}{x:dr.row.den}{S:Nat->Prop}(hr:km H F w dr h j x' x S):
 ∃B,(∀k,B k->S k)/\gX F w q x' x B:=by
 cases h with
 |none=>
  obtain⟨A,B,_,h2,h3⟩:=fO.out q (show fO F w dr x' x S from hr);exact⟨B,h3.right,h2⟩
 |some h=>
  have h':(kq h.p p&&decide (h.i=i))=true:=hh;obtain⟨h1,h2⟩:=bE h';obtain⟨T',e',q',k1,k2,_⟩:=hr.2 ((of_decide_eq_true h2).trans hj);rw[mP h1,hq]at k1;cases k1;exact⟨S,fun _ h=>h,k2⟩
theorem qL{h:Option ql}{i:Int}{p:List Bool}(hh:tZ h i p=true){dr:DR}{j:Nat}(hj:i≠(j:Nat)){x':dr.low.den}{x:dr.row.den}{S:Nat->Prop}(hr:km H F w dr h j x' x S):fO F w dr x' x S:=by
 cases h with
 |none=>exact hr
 |some h=>
  have h':(kq h.p p&&decide (h.i=i))=true:=hh;obtain⟨h1,h2⟩:=bE h';exact hr.1 (fun e=>hj ((of_decide_eq_true h2).symm.trans e))
end
end Go.Proofs.YtbladfbbhijpmaaGreat
end
section
open _root_.Int renaming toNat_natCast->YK
open _root_.Nat renaming beq->YE,le_refl->YD
open _root_.Option.some renaming inj->YA
open _root_.Go.Value renaming ownBlock->Y9
namespace Go.Proofs.YtbladfbbhijpmaaGreat
open Go Go.RowKit
section
variable {P:Program} {ρ:Nat->Value} {w w':World} {H H':aj} {F F':Nat->Prop} {U:Nat->Prop} {ob:Nat->Option (Nat×Th)} {n:Nat} {R:Type}
variable {op:Op} {ty:TypeId} {pos:String} {aft:Array Edge} {d:Nat}
noncomputable def lW(T:aI P)(ob:Nat->Option (Nat×Th))(n:Nat)(t:TypeId)(D V:ag)(k:cL->Option R):Option R:=
 match find T.row t with
 |none=>none
 |some rt=>match V with
  | .val _ u=>match D with
    | .dlm o d0 i p off=>match ob o with
      |some (_, .deep T0 dr l h)=>bif d0.beq dr then(match dr.path p with
       |some ⟨.leaf r,q⟩=>bif YE q.lo.off off&&YE rt.size r.size then(match flat ob r u with
        |some y=>(idx l i).bind fun x=>k {dst:= .dead,eat:=[o],make:=[(o,(n, .deep T0 dr (bg l i (q.hi.set x y)) h))]}
        |none=>none)else none
       |some ⟨.sl T' e',q⟩=>bif YE q.lo.off off&&YE rt.size 1 then(match u with
        | .own o1=>match ob o1 with
          |some (_,t1)=>match Ln T' e' t1 with
           |some _=>if tZ h i p=true then(idx l i).bind fun _=>k {dst:= .dead,eat:=[o],make:=[(o,(n, .deep T0 dr l (some ⟨i,p,o1,n⟩)))]}else none
           |none=>none
          |none=>none
        | .nil=>if tZ h i p=true then(idx l i).bind fun x=>k {dst:= .dead,eat:=[o],make:=[(o,(n, .deep T0 dr (bg l i (q.hi.set x ([]:List e'.row.den))) none))]}else none
        |_=>none)else none
       |_=>none)else none
      |_=>none
    |_=>none
  |_=>none
theorem mT(T:aI P){t:TypeId}{rt:Row}(DM:find T.row t=some rt){x y:Operand}{o s:Nat}{T0:TypeId}{dr e:DR}{i:Int}{l l':List dr.row.den}{h h':Option ql}{q:dA dr e}{g o0 qq m cap j:Nat}{u:e.low.den}{cs:List Value}{x1:dr.row.den}
 (hs:ak U H F w ob n)(bJ:ob o=some (s, .deep T0 dr l h))(hv:H.val o=some (.slice (some ⟨g,o0,none⟩) m cap))(hj:i=(j:Nat))(DZ:j<l.length)(hx:ev ρ x= .pointer (some ⟨g,o0+qq*dr.low.size+q.lo.off,none⟩))(XT:i=(qq:Nat))(hz:rt.size=e.low.size)
 (hr:bF F w e.low cs u)(sw:(ev ρ y).cells.toList=cs)(OJ:l'=l.set j x1)
 (qK:∀{w':World}{H1:aj},H.le H1->Step F w F w'->∀{x':dr.low.den}{S:Nat->Prop},(∀k,S k->w'.heap[k]? =w.heap[k]?)->km H F w dr h j x' l[j] S->∃B,(∀k,B k->S k)/\km H1 F w' dr h' j (q.lo.set x' u) x1 B)
 (OK:∀{H1:aj}{w':World}{i':Nat}{x':dr.low.den}{x:dr.row.den}{S:Nat->Prop},i'≠j->km H1 F w' dr h i' x' x S->km H1 F w' dr h' i' x' x S):
 bz P U H F w ρ ob n ⟨none, .store t x y,ty,pos,aft,none⟩ {dst:= .dead,eat:=[o],make:=[(o,(n, .deep T0 dr l' h'))]}:=by
 obtain⟨ti,z0,h1,_,_,h4,_⟩:=T.row_ok _ _ DM;obtain⟨lh,Ss,cV,hlen,D1,cD⟩:=hs.low bJ hv;obtain⟨v1,p5,bH⟩:=hs.obj _ _ _ bJ;rw[hv]at p5;obtain rfl:=YA p5
 have OL:j<lh.length:=by omega
 obtain rfl:qq=j:=by omega
 obtain⟨cur,hh,hle,aY,ed⟩:=cV.put rfl OL hs.lt q.lo hr;generalize T9:w.setRow g (cur.toList.take (o0+qq*dr.low.size+q.lo.off)++cs++cur.toList.drop (o0+qq*dr.low.size+q.lo.off+cs.length)).toArray=w' at aY ed;refine bl.unit (w':=w') (by rw[<-T9];exact kh h1 (h4.trans (hz.trans hr.length.symm)) hx rfl sw hr.fu hh hle) ?_;have dC:Step F w F w':=Step.ext aY hs.lt cV.no
 have hblk:∀i',i'<l.length->∀k,Ss i' k->w'.heap[k]? =w.heap[k]? :=fun i' gH k hk=>aY.block k (bH.lt k (cD.part gH k hk)) (cD.out i' k gH hk)
 have hf:=hs.fresh n (YD _) (by omega)
 have ee:∀k,H.sub s k->bq H ob [o] k:=fun k hk=>⟨o,by simp,s,_,_,bJ,hv,hk⟩
 obtain⟨B0,XU,_⟩:=qK (w':=w') (H1:=H) (aj.le.refl H) dC (hblk qq DZ) (D1 qq OL DZ)
 have main:∀{H1:aj},H.le H1->∃B,(∀k,B k->Ss qq k)/\km H1 F w' dr h' qq (q.lo.set lh[qq] u) x1 B:=fun BA=>qK BA dC (hblk qq DZ) (D1 qq OL DZ)
 have Lo:∃B,(∀k,B k->Ss qq k)/\∀{H1:aj},H.le H1->km H1 F w' dr h' qq (q.lo.set lh[qq] u) x1 B:=by
  obtain⟨B,b1,b2⟩:=main (aj.le.refl H);exact⟨B,b1,fun BA=>b2.keep BA (Step.refl F w') fun _ _=>rfl⟩
 obtain⟨B,b1,b2⟩:=Lo;have Ua:∀k,mR (aS (Value.slice (some ⟨g,o0,none⟩) m cap)) (fun i=>if i=qq then B else Ss i) l.length k->H.sub s k:=cD.vK qq b1;refine gZ.tX (t':= .deep T0 dr l' h') hs bJ hv rfl (by simp) (mR (aS (Value.slice (some ⟨g,o0,none⟩) m cap)) (fun i=>if i=qq then B else Ss i) l.length) (fun k hk=>ee k (Ua k hk)) ⟨aY.os,aY.tape,aY.output,aY.size,fun k hk hn=>aY.block k hk fun e=>hn (ee k (cD.aS k e))⟩ ?_ trivial;have BA:=aj.lV (H:=H) (S:=mR (aS (Value.slice (some ⟨g,o0,none⟩) m cap)) (fun i=>if i=qq then B else Ss i) l.length) (t:= .deep T0 dr l' h') hf.2
 have sA:l'.length=l.length:=by rw[OJ];simp
 refine⟨lh.set qq (q.lo.set lh[qq] u),(fun i=>if i=qq then B else Ss i),ed.2,by rw[sA];simpa using hlen,?_,?_⟩
 .intro i' a b
  have:=GK (rel:=km ((H.cW n (mR (aS (Value.slice (some ⟨g,o0,none⟩) m cap)) (fun i=>if i=qq then B else Ss i) l.length)).aP n (.deep T0 dr l' h')) F w' dr h') (lh:=lh) (l:=l) (Ss:=Ss) (j:=qq) (x':=q.lo.set lh[qq] u) (x:=x1) (B:=B)
   (fun i2 c1 c2 b8=>OK b8 ((D1 i2 c1 c2).keep BA dC (hblk i2 c2))) (b2 BA) i' a (by simpa[OJ]using b)
  simpa only[OJ]using this
 .rw[sA];exact cD.less qq b1
theorem ye(T:aI P){t:TypeId}{D V:ag}{x y:Operand}{k:cL->Option R}{q:R}(h:lW T ob n t D V k=some q)(hs:ak U H F w ob n)(hx:af H F w D (ev ρ x))(hy:af H F w V (ev ρ y)):
 ∃e,k e=some q/\bz P U H F w ρ ob n ⟨none, .store t x y,ty,pos,aft,none⟩ e:=by
 unfold lW at h;split at h
 .cases h
 rename_i rt DM;split at h
 case h_2=>cases h
 rename_i agg u;split at h
 case h_2=>cases h
 rename_i o d0 i p off;split at h
 case h_2=>cases h
 rename_i s T0 dr l hh bJ;obtain⟨hd,h'⟩:=ax h;clear h;obtain rfl:=DR.eq_of_beq hd;obtain⟨g,o0,qq,m,cap,e1,e2,e5⟩:=hx;obtain⟨cs,mK,sw⟩:=au.cells hy;split at h'
 .rename_i r sv tU;obtain⟨h1,h2⟩:=ax h';obtain⟨h1,h3⟩:=bE h1;obtain rfl:=beq_true h1;split at h2
  case h_2=>cases h2
  rename_i z hz;obtain⟨a,ha,hk⟩:=bind_some h2;obtain⟨j,hj,DZ,rfl⟩:=dF ha;refine⟨_,hk,mT (l':=bg l i (sv.hi.set l[j] z)) (x1:=sv.hi.set l[j] z) (u:=z) T DM hs bJ e1 hj DZ e5 e2 (beq_true h3) (dV hs hz mK) sw ?_ ?_ ?_⟩
  .unfold bg;rw[hj,YK]
  .intro w' H1 hle dC x' S hb hr;exact⟨S,fun _ h=>h,By sv z (hr.keep hle dC hb)⟩
  .intro H1 w' i' x' x S _ hr;exact hr
 .rename_i T' e' sv tU;obtain⟨h1,h2⟩:=ax h';obtain⟨h1,h3⟩:=bE h1;obtain rfl:=beq_true h1;split at h2
  .rename_i o1;split at h2
   case h_2=>cases h2
   rename_i s1 t1 ua;split at h2
   case h_2=>cases h2
   rename_i y1 hD;split at h2
   case isFalse=>cases h2
   rename_i vN;obtain⟨a,ha,hk⟩:=bind_some h2;obtain⟨j,hj,DZ,rfl⟩:=dF ha;obtain⟨u1,CX,kV⟩:=hs.obj _ _ _ ua;obtain⟨v,hv,ir,rfl⟩:=mK;rw[CX]at hv;obtain rfl:=YA hv
   have OM:bF F w .gW [u1] u1:=by
    have:=kV.ok;rw[yd hD]at this;obtain⟨Ub,_,g1,_⟩:=qI this;obtain⟨xs,⟨_,hx⟩,_⟩:=g1
    rcases hx with⟨rfl,_⟩|⟨gg,o0,cp,cur,rfl,_⟩<;>exact⟨rfl,_,_,_,rfl⟩
   refine⟨_,hk,mT (l':=l) (x1:=l[j]) (u:=u1) (e:= .sl T' e') T DM hs bJ e1 hj DZ e5 e2 (beq_true h3) OM sw ?_ ?_ ?_⟩
   .exact(List.set_getElem_self DZ).symm
   .intro w' H1 hle dC x' S hb hr;obtain⟨B,b1,b2⟩:=vM vN tU hj hr;refine⟨B,b1,fun b8=>absurd hj b8,fun _=>⟨T',e',sv,tU,(b2.keep dC fun k hk=>hb k (b1 k hk)).DY sv u1,?_⟩⟩;rw[Path.tW];exact hle.val _ _ CX
   .intro H1 w' i' x' x S b8 hr
    have BC:i≠(i':Int):=fun e=>b8 (by omega)
    exact⟨fun _=>qL vN BC hr,fun e=>absurd e BC⟩
  .split at h2
   case isFalse=>cases h2
   rename_i vN;obtain⟨a,ha,hk⟩:=bind_some h2;obtain⟨j,hj,DZ,rfl⟩:=dF ha;have ON:cs=_:=mK;subst ON;refine⟨_,hk,mT (x1:=sv.hi.set l[j] ([]:List e'.row.den)) (u:=Value.slice none 0 0) (e:= .sl T' e') T DM hs bJ e1 hj DZ e5 e2 (beq_true h3) ⟨rfl,_,_,_,rfl⟩ sw ?_ ?_ ?_⟩
   .unfold bg;rw[hj,YK]
   .intro w' H1 hle dC x' S hb hr;obtain⟨B,b1,b2⟩:=vM vN tU hj hr;refine⟨B,b1,?_⟩;refine gX.put (e:= .sl T' e') sv (b2.keep dC fun k hk=>hb k (b1 k hk)) (A:=fun _=>False) ?_ ⟨fun k=>by simp,fun _ h=>h.elim⟩;exact⟨[],fun _ _=>False,gJ.nil F w' T' e'.low,rfl,fun i h=>absurd h (by simp),⟨fun k=>by simp[aS,Y9],fun _ _ _ h=>absurd h (by simp),fun _ _ h=>absurd h (by simp)⟩⟩
   .intro H1 w' i' x' x S b8 hr
    have BC:i≠(i':Int):=fun e=>b8 (by omega)
    exact qL vN BC hr
  .cases h2
 .cases h'
end
end Go.Proofs.YtbladfbbhijpmaaGreat
namespace Go.Proofs.YtbladfbbhijpmaaGreat
open Go Go.RowKit
def oD{α:Type}(l:List α)(i:Int)(f:α->α):List α:=if 0<=i then l.modify i.toNat f else l
theorem gK{α:Type}(l:List α)(i:Int)(f:α->α):(oD l i f).length=l.length:=by unfold oD;split<;>simp
theorem ub{α:Type}{l:List α}{i:Int}{f:α->α}{j:Nat}(h:j<(oD l i f).length)(h':j<l.length):(oD l i f)[j]=if i=(j:Int)then f l[j]else l[j]:=by
 by_cases hi:0<=i
 .have e:oD l i f=l.modify i.toNat f:=by unfold oD;rw[if_pos hi]
  simp only[e,List.getElem_modify]
  by_cases Ig:i=(j:Int)
  .rw[if_pos Ig,if_pos (by omega)]
  .rw[if_neg Ig,if_neg (by omega)]
 .have e:oD l i f=l:=by unfold oD;rw[if_neg hi]
  simp only[e];rw[if_neg (by omega)]
theorem Path.uc:{r s:Row}->(p:Path r s)->(x:r.den)->p.set x (p.get x)=x
 |_,_, .here,_=>rfl
 |_,_, .fst p,x=>by show(p.set x.1 (p.get x.1),x.2)=x;rw[Path.uc p]
 |_,_, .snd p,x=>by show(x.1,p.set x.2 (p.get x.2))=x;rw[Path.uc p]
section
variable {P:Program} {ρ:Nat->Value} {w w':World} {H H':aj} {F F':Nat->Prop} {U:Nat->Prop} {ob:Nat->Option (Nat×Th)} {n:Nat} {R:Type}
variable {op:Op} {ty:TypeId} {pos:String} {aft:Array Edge} {d:Nat}
def D2(ob:Nat->Option (Nat×Th))(n o:Nat):Option cL:=
 match ob o with
 |some (_, .deep T0 dr l (some h))=>match dr.path h.p with
  |some ⟨.sl T' e',q⟩=>match ob h.o with
   |some (_,t1)=>bif YE h.o o then none else(match Ln T' e' t1 with
    |some y=>some {dst:= .dead,eat:=[o,h.o],make:=[(o,(n, .deep T0 dr (oD l h.i fun x=>q.hi.set x y) none))]}
    |none=>none)
   |none=>none
  |_=>none
 |_=>none
theorem BD(hs:ak U H F w ob n){o:Nat}{e:cL}(h:D2 ob n o=some e):ie H F w ob n e undef w:=by
 unfold D2 at h;split at h
 case h_2=>cases h
 rename_i s T0 dr l hh bJ;split at h
 case h_2=>cases h
 rename_i T' e' q hq;split at h
 case h_2=>cases h
 rename_i s1 t1 ua
 cases b8:YE hh.o o with
 |true=>rw[b8]at h;cases h
 |false=>
  rw[b8,cond_false]at h
  have b8:o≠hh.o:=fun e=>by rw[e]at b8;simp at b8
  split at h
  case h_2=>cases h
  rename_i y hD;obtain rfl:=YA h;have hD:=yd hD;subst hD;obtain⟨v,hv,bH⟩:=hs.obj _ _ _ bJ;obtain⟨u,hu,kV⟩:=hs.obj _ _ _ ua;obtain⟨lh,Ss,cV,hlen,qK,cD⟩:=hs.low bJ hv;have hA:=qI kV.ok;generalize Sp:(fun k=>fp (H.sub s1) u (Bx T' e' y) k)=A at hA
  have NN:∀k,A k->¬H.sub s k:=fun k hk=>by
   rw[<-Sp]at hk
   exact fun h2=>hs.apart _ _ _ _ _ _ _ _ b8 bJ ua hv hu k h2 hk
  have hf:=hs.fresh n (YD _) (by omega)
  let Lp:Nat->Nat->Prop:=fun i k=>Ss i k\/(hh.i=(i:Int)/\A k)
  have ee:∀k,H.sub s k\/A k->bq H ob [o,hh.o] k:=by
   rintro k (hk|hk)
   .exact⟨o,by simp,s,_,v,bJ,hv,hk⟩
   .rw[<-Sp]at hk;exact⟨hh.o,by simp,s1,_,u,ua,hu,hk⟩
  have hS:∀k,mR (aS v) Lp l.length k->H.sub s k\/A k:=by
   rintro k (hk|⟨i,hi,hk|hk⟩)
   .exact .inl (cD.aS k hk)
   .exact .inl (cD.part hi k hk)
   .exact .inr hk.2
  refine gZ.tX (t':= .deep T0 dr (oD l hh.i fun x=>q.hi.set x y) none) hs bJ hv rfl (by simp) (mR (aS v) Lp l.length) (fun k hk=>ee k (hS k hk)) ⟨rfl,⟨rfl,YD _⟩,rfl,YD _,fun _ _ _=>rfl⟩ ?_ trivial;have sA:(oD l hh.i fun x=>q.hi.set x y).length=l.length:=gK ..;refine⟨lh,Lp,cV.2,by rw[sA];exact hlen,fun i a b=>?_,?_⟩
  .have b':i<l.length:=by omega
   rw[ub b b'];have hr:=qK i a b'
   by_cases hi:hh.i=(i:Int)
   .rw[if_pos hi];obtain⟨T6,T7,T8,k1,k2,k3⟩:=hr.2 hi;rw[hq]at k1;cases k1;rw[hu]at k3;have k3:=YA k3;have:fO F w dr (q.lo.set lh[i] u) (q.hi.set l[i] y) (Lp i):=k2.put q hA ⟨fun k=>⟨fun hk=>hk.elim .inr fun hk=> .inl hk.2,fun hk=>hk.elim (fun hk=> .inr ⟨hi,hk⟩) .inl⟩,fun k hk h2=>NN k hk (cD.part b' k h2)⟩;rw[k3,Path.uc]at this;exact this
   .rw[if_neg hi];have Uc:=hr.1 hi
    have:Lp i=Ss i:=by
     funext k;exact propext ⟨fun hk=>hk.elim id fun hk=>absurd hk.1 hi, .inl⟩
    rw[this];exact Uc
  .rw[sA];refine⟨fun k=>Iff.rfl,fun i j k h1 h2 Ig h3 h4=>?_,fun i k h1 h3 h4=>?_⟩
   .rcases h3 with h3|h3<;>rcases h4 with h4|h4
    .exact cD.two i j k h1 h2 Ig h3 h4
    .exact NN k h4.2 (cD.part h1 k h3)
    .exact NN k h3.2 (cD.part h2 k h4)
    .have:=h3.1;have:=h4.1;omega
   .rcases h3 with h3|h3
    .exact cD.out i k h1 h3 h4
    .exact NN k h3.2 (cD.aS k h4)
end
end Go.Proofs.YtbladfbbhijpmaaGreat
end
section
open _root_.Array renaming toArray_toList->Zi
open _root_.List renaming replicate->Y4
open _root_.Nat renaming beq->YE,le_refl->YD,lt_of_lt_of_le->Y8
open _root_.Option renaming isSome_iff_exists->Zg
open _root_.Option.some renaming inj->YA
open _root_.Prod.mk renaming inj->Z3
open _root_.Go.Value renaming ownBlock->Y9
namespace Go.Proofs.YtbladfbbhijpmaaGreat
open Go Go.RowKit
theorem DR.dc:(d:DR)->d.low.dc=d.row.dc
 | .leaf _=>rfl
 | .sl _ _=>rfl
 | .pair a b=>by show a.low.dc++b.low.dc=a.row.dc++b.row.dc;rw[a.dc,b.dc]
theorem TI.low{P:Program}{e:TypeId}{d:DR}(h:TI P e d.row):TI P e d.low:=by
 obtain⟨ti,z,h1,h2,h3,h4,h5⟩:=h;exact⟨ti,z,h1,h2,by rw[d.dc];exact h3,by rw[d.size];exact h4,h5⟩
def yf:List Nat->Bool
 |[]=>true
 |o::l=> !l.any (YE o)&&yf l
theorem sB:{l:List Nat}->yf l=true->l.Nodup
 |[],_=>List.nodup_nil
 |o::l,h=>by
  obtain⟨h1,h2⟩:=bE h;refine List.nodup_cons.2 ⟨fun hm=>?_,sB h2⟩;rw[any_beq.2 hm]at h1;cases h1
def DR.Ud:DR->DR->DR
 | .leaf a, .leaf b=> .leaf (.pair a b)
 |a,b=> .pair a b
def I1(ob:Nat->Option (Nat×Th)):Row->Tree->DR
 | .slice e, .own o=>match ob o with
   |some (_, .own T r _)=> .sl T (.leaf r)
   |some (_, .deep T d _ none)=> .sl T d
   |_=> .leaf (.slice e)
 | .pair a b,t=>match t.split with
   |some (x,y)=>DR.Ud (I1 ob a x) (I1 ob b y)
   |none=> .leaf (.pair a b)
 |r,_=> .leaf r
def yg(ob:Nat->Option (Nat×Th)):(d:DR)->Tree->Option (d.row.den×List Nat)
 | .leaf r,t=>match flat ob r t with
   |some x=>some (x,[])
   |none=>none
 | .sl T e, .own o=>match ob o with
   |some (_,t1)=>match Ln T e t1 with
    |some y=>some (y,[o])
    |none=>none
   |none=>none
 | .sl _ _, .nil=>some ([],[])
 | .sl _ _,_=>none
 | .pair a b,t=>match t.split with
   |some (x,y)=>match yg ob a x with
    |some (u,os)=>match yg ob b y with
     |some (v,BE)=>some ((u,v),os++BE)
     |none=>none
    |none=>none
   |none=>none
def zT(ob:Nat->Option (Nat×Th))(d:DR):List ag->Option (List d.row.den×List Nat)
 |[]=>some ([],[])
 | .val _ u::l=>match yg ob d u with
   |some (x,os)=>match zT ob d l with
    |some (xs,BE)=>some (x::xs,os++BE)
    |none=>none
   |none=>none
 |_::_=>none
section
variable {P:Program} {ρ:Nat->Value} {w w':World} {H H':aj} {F F':Nat->Prop} {U:Nat->Prop} {ob:Nat->Option (Nat×Th)} {n:Nat} {R:Type}
variable {op:Op} {ty:TypeId} {pos:String} {aft:Array Edge} {d:Nat}
theorem pe(hs:ak U H F w ob n){os BE:List Nat}(hd:∀o,o∈os->o∉BE):∀k,bq H ob os k->¬bq H ob BE k:=by
 rintro k ⟨o,ho,s,t,v,h1,h2,h3⟩ ⟨o',gm,s',t',v',g1,g2,g3⟩
 exact hs.apart o o' s s' t t' v v' (fun e=>hd o ho (e▸gm)) h1 g1 h2 g2 k h3 g3
theorem lX{os BE:List Nat}(h:∀o,o∈os->o∈BE):∀k,bq H ob os k->bq H ob BE k:=fun _ ⟨o,ho,rest⟩=>⟨o,h o ho,rest⟩
theorem ud(hs:ak U H F w ob n):{d:DR}->{t:Tree}->{x:d.row.den}->{os:List Nat}->{cs:List Value}->yg ob d t=some (x,os)->Holds H F w t cs->os.Nodup->∃x' S,bF F w d.low cs x'/\fO F w d x' x S/\∀k,S k->bq H ob os k
 | .leaf r,t,x,os,cs,h,hh,yh=>by
   unfold yg at h
   split at h<;>cases h
   rename_i hf;exact⟨x,fun _=>False,dV hs hf hh,⟨rfl,fun _ h=>h⟩,fun _ h=>h.elim⟩
 | .sl T e, .own o,x,os,cs,h,hh,yh=>by
   unfold yg at h;split at h
   case h_2=>cases h
   rename_i s1 t1 ho
   split at h<;>cases h
   rename_i hD;obtain⟨v,hv,_,rfl⟩:=hh;obtain⟨v',cQ,bH⟩:=hs.obj _ _ _ ho;rw[hv]at cQ;obtain rfl:=YA cQ;have hD:=yd hD;subst hD;have hb:=qI bH.ok;refine⟨v,_,?_,hb,fun k hk=>⟨o,by simp,s1,_,v,ho,hv,hk⟩⟩;obtain⟨Ub,_,⟨xs,⟨_,hx⟩,_⟩,_⟩:=hb
   rcases hx with⟨rfl,_⟩|⟨gg,o0,cp,cur,rfl,_⟩<;>exact⟨rfl,_,_,_,rfl⟩
 | .sl T e, .nil,x,os,cs,h,hh,_=>by
   cases h;have NO:cs=_:=hh;subst NO;exact⟨.slice none 0 0,fun _=>False,⟨rfl,_,_,_,rfl⟩,⟨[],fun _ _=>False,gJ.nil F w T e.low,rfl,fun i h=>absurd h (by simp),⟨fun k=>by simp[aS,Y9],fun _ _ _ h=>absurd h (by simp),fun _ _ h=>absurd h (by simp)⟩⟩,fun _ h=>h.elim⟩
 | .pair a b,t,x,os,cs,h,hh,hn=>by
   unfold yg at h;split at h
   case h_2=>cases h
   rename_i t1 t2 rN;split at h
   case h_2=>cases h
   rename_i u Ue h1;split at h
   case h_2=>cases h
   rename_i v Uf h2;cases h;obtain⟨c1,c2,rfl,g1,g2,_⟩:=hh.split rN;obtain⟨n1,n2,n3⟩:=List.nodup_append.1 hn;obtain⟨x1,S1,r1,e1,s1⟩:=ud hs h1 g1 n1;obtain⟨x2,S2,r2,e2,s2⟩:=ud hs h2 g2 n2;refine⟨(x1,x2),fun k=>S1 k\/S2 k,⟨c1,c2,rfl,r1,r2⟩,⟨S1,S2,e1,e2,fun _=>Iff.rfl,fun k hk ig=>pe hs (fun o ho gm=>n3 o ho o gm rfl) k (s1 k hk) (s2 k ig)⟩,fun k hk=>hk.elim (fun hk=>lX (fun o ho=>by simp[ho]) k (s1 k hk)) fun hk=>lX (fun o ho=>by simp[ho]) k (s2 k hk)⟩
 | .sl _ _, .leaf _ _,_,_,_,h,_,_=>by cases h
 | .sl _ _, .pair _ _,_,_,_,h,_,_=>by cases h
 | .sl _ _, .view ..,_,_,_,h,_,_=>by cases h
theorem vO(hs:ak U H F w ob n){d:DR}:{ds:List ag}->{l:List d.row.den}->{os:List Nat}->{vs:List Value}->zT ob d ds=some (l,os)->du H F w ds vs->os.Nodup->
 ∃(lh:List d.low.den)(Ss:Nat->Nat->Prop),qk F w d.low vs lh/\lh.length=l.length/\(∀i(h1:i<lh.length)(h2:i<l.length),fO F w d lh[i] l[i] (Ss i))/\(∀i k,i<l.length->Ss i k->bq H ob os k)/\∀i j k,i<l.length->j<l.length->i≠j->Ss i k->¬Ss j k
 |[],l,os,vs,h,hd,_=>by
  cases h;rw[show vs=[]from hd];exact⟨[],fun _ _=>False, .nil,rfl,fun i h=>absurd h (by simp),fun _ _ h=>absurd h (by simp),fun _ _ _ h=>absurd h (by simp)⟩
 | .val _ u::ds,l,os,vs,h,hd,hn=>by
   obtain⟨v,us,rfl,h1,h2⟩:=hd;unfold zT at h;split at h
   case h_2=>cases h
   rename_i x Ue hf;split at h
   case h_2=>cases h
   rename_i xs Uf hg;cases h;obtain⟨cs,mK,sw⟩:=au.cells h1;obtain⟨n1,n2,n3⟩:=List.nodup_append.1 hn;obtain⟨x',S,r1,e1,s1⟩:=ud hs hf mK n1;obtain⟨lh,Ss,k1,k2,k3,k4,k5⟩:=vO hs hg h2 n2
   have ap:∀i k,i<xs.length->S k->¬Ss i k:=fun i k hi hk ig=>pe hs (fun o ho gm=>n3 o ho o gm rfl) k (s1 k hk) (k4 i k hi ig)
   refine⟨x'::lh,fun i=>match i with|0=>S|i+1=>Ss i, .cons sw r1 k1,by simp[k2],fun i a b=>?_,fun i k hi hk=>?_,fun i j k hi hj b8 hk ig=>?_⟩
   .cases i with
    |zero=>exact e1
    |succ i=>exact k3 i (by simpa using a) (by simpa using b)
   .cases i with
    |zero=>exact lX (fun o ho=>by simp[ho]) k (s1 k hk)
    |succ i=>exact lX (fun o ho=>by simp[ho]) k (k4 i k (by simpa using hi) hk)
   .cases i with
    |zero=>
     cases j with
     |zero=>exact b8 rfl
     |succ j=>exact ap j k (by simpa using hj) hk ig
    |succ i=>
     cases j with
     |zero=>exact ap i k (by simpa using hi) ig hk
     |succ j=>exact k5 i j k (by simpa using hi) (by simpa using hj) (fun e=>b8 (by rw[e])) hk ig
 | .dead::_,_,_,_,h,_,_=>by cases h
 | .undef::_,_,_,_,h,_,_=>by cases h
 | .ptr .. ::_,_,_,_,h,_,_=>by cases h
 | .at .. ::_,_,_,_,h,_,_=>by cases h
 | .elem .. ::_,_,_,_,h,_,_=>by cases h
 | .tup _::_,_,_,_,h,_,_=>by cases h
 | .dlm .. ::_,_,_,_,h,_,_=>by cases h
 | .fn .. ::_,_,_,_,h,_,_=>by cases h
 | .ifc .. ::_,_,_,_,h,_,_=>by cases h
theorem gZ.GM(hs:ak U H F w ob n){eat:List Nat}{t:Th}{v0:Value}{S:Nat->Prop}(hb:t.base=t)(h1:v0.oneCell'=true){D:ag}{v:Value}
 (aY:Ext (bq H ob eat) w w')(iV:eF (((H.cW n S).aP n t).bL n v0) F w' S v0 t)(DL:∀k,fp S v0 t k->¬F k/\k<w'.heap.size/\(w.heap.size<=k\/bq H ob eat k))
 (hd:af (((H.cW n S).aP n t).bL n v0) F w' D v):ie H F w ob n {dst:=D,eat:=eat,make:=[(n,(n,t))]} v w':=by
 have hf:=hs.fresh n (YD _) (by omega)
 have dQ:(((H.cW n S).aP n t).bL n v0).sub n=S:=by simp[aj.bL,aj.aP,aj.cW]
 refine⟨((H.cW n S).aP n t).bL n v0,F,⟨(aj.lV hf.2).trans (aj.lP (by simp[aj.aP,aj.cW,hf.1])),aY,fun _ h=>h,fun _ h=> .inl h,fun b hb=>Y8 (hs.lt b hb) aY.size⟩,fun m hm=>?_,hd,⟨fun o' s' q hq=>?_,fun o1 o2 s1 s2 q1 q2 u1 u2 b8 h1 h2=>?_⟩,fun o' h=>?_⟩
 .simp[aj.aP,aj.bL,aj.cW,show m≠n from by omega]
 .obtain⟨rfl,e⟩:=bh hq;obtain⟨rfl,rfl⟩:=Z3 e;exact⟨v0,by simp[aj.bL],h1,by simp[aj.aP,aj.bL,hb],by rw[dQ];exact iV,by rw[dQ];exact DL⟩
 .exact absurd ((bh h1).1.trans (bh h2).1.symm) b8
 .right
  obtain⟨y,hy⟩:=Zg.1 h;rw[(bh hy).1];exact YD _
def ue(ob:Nat->Option (Nat×Th))(r:Row):List ag->DR
 | .val _ u::_=>I1 ob r u
 |_=> .leaf r
def la(e:TypeId)(dr:DR)(ob:Nat->Option (Nat×Th))(n:Nat)(ds:List ag)(k:cL->Option R):Option R:=
 match zT ob dr ds with
 |some (l,os)=>bif yf os then k {dst:= .val false (.own n),eat:=os,make:=[(n,(n,Bx e dr l))]}else none
 |none=>none
def lY(T:aI P)(rd:Operand->Option ag)(ob:Nat->Option (Nat×Th))(n:Nat)(t:TypeId)(m:Nat)(parts:Array (Nat×Operand))(k:cL->Option R):Option R:=
 match find T.und t with
 |some (.slice e)=>match find T.row e with
  |some r=>bif zL 0 parts.toList&&YE m parts.toList.length&&Nat.ble (m*r.size) 16777216 then
    (match nG rd (parts.toList.map (·.2))with
    |some ds=>bif (ue ob r ds).row.beq r then la e (ue ob r ds) ob n ds k else none
    |none=>none)else none
  |none=>none
 |_=>none
theorem yi(T:aI P){rd:Operand->Option ag}(dj:∀x d,rd x=some d->af H F w d (ev ρ x)){t:TypeId}{m:Nat}{parts:Array (Nat×Operand)}{k:cL->Option R}{q:R}(h:lY T rd ob n t m parts k=some q)(hs:ak U H F w ob n):
 ∃e,k e=some q/\bz P U H F w ρ ob n ⟨some d, .buildSlice t m parts,ty,pos,aft,none⟩ e:=by
 unfold lY at h;split at h
 case h_2=>cases h
 rename_i e hu;split at h
 case h_2=>cases h
 rename_i r hr;obtain⟨c0,h8⟩:=ax h;clear h;obtain⟨c1,c3⟩:=bE c0;obtain⟨h1,c2⟩:=bE c1;have h2:=beq_true c2
 have h3:m*r.size<=16777216:=by simpa using c3
 clear c0 c1 c2 c3;split at h8
 case h_2=>cases h8
 rename_i ds p6;obtain⟨Lq,h⟩:=ax h8;clear h8;have gW:=Row.eq_of_beq Lq;clear Lq
 obtain⟨dr,KB⟩:∃dr,dr=ue ob r ds:=⟨_,rfl⟩
 rw[<-KB]at h gW;clear KB;subst gW;unfold la at h;split at h
 case h_2=>cases h
 rename_i l os hl;obtain⟨hn,hk⟩:=ax h;clear h;obtain⟨lh,Ss,k1,k2,k3,k4,k5⟩:=vO hs hl (jJ dj p6) (sB hn)
 have hp:parts=(((parts.toList.map (·.2)).zipIdx).map fun p=>(p.2,p.1)).toArray:=by
  rw[<-qA h1,Zi]
 have hm:m=(parts.toList.map (·.2)).length:=by simpa using h2
 obtain⟨v,w',aZ,aY,cV,qx⟩:=qz (d:=d) (ty:=ty) (pos:=pos) (aft:=aft) (T.und_ok _ _ hu) (TI.low (T.row_ok _ _ hr)) hp (by rw[<-hm,DR.size];exact h3) k1 hs;rw[<-hm]at aZ;refine⟨_,hk,bl.val aZ ?_⟩
 have av:∀i k,i<l.length->Ss i k->k<w.heap.size:=fun i k hi hk=>hs.qm k (k4 i k hi hk)
 have dC:Step F w F w':=fun b hb=>⟨hb,(aY fun _=>False).block b (hs.lt b hb) fun h=>h⟩
 have cD:jF Ss l.length (aS v) (mR (aS v) Ss l.length):=⟨fun _=>Iff.rfl,k5,fun i k hi hk hm=>by have:=av i k hi hk;have:=qx k hm;omega⟩
 have pF:fO F w' (.sl e dr) v l (mR (aS v) Ss l.length):=⟨lh,Ss,cV.2,k2,fun i a b=>(k3 i a b).keep dC fun k hk=>(aY fun _=>False).block k (av i k b hk) fun h=>h,cD⟩
 have DL:∀k,mR (aS v) Ss l.length k->¬F k/\k<w'.heap.size/\(w.heap.size<=k\/bq H ob os k):=by
  rintro k (hk|⟨i,hi,hk⟩)
  .exact⟨cV.1 k hk,cV.lt k hk, .inl (qx k hk)⟩
  .have:=k4 i k hi hk;exact⟨hs.de k this,Y8 (hs.qm k this) (aY fun _=>False).size, .inr this⟩
 refine gZ.GM (S:=mR (aS v) Ss l.length) (v0:=v) hs (qH ..) (lQ cV) (aY _) (oA pF).1 (fun k hk=>DL k ((oA (H:=H) pF).2.1 k hk)) (jf (by simp[aj.bL]) (lQ cV))
def uf(T:aI P)(n:Nat)(t:TypeId)(same:Bool)(a b:Int)(k:cL->Option R):Option R:=
 match find T.und t with
 |some (.slice e)=>match find T.row e with
  |some (.slice r)=>match find T.und e with
   |some (.slice e')=>(bif same then sf a ([]:List r.den)else NJ a b ([]:List r.den)).bind fun l=>k {dst:= .val false (.own n),make:=[(n,(n, .deep e (.sl e' (.leaf r)) l none))]}
   |_=>none
  |_=>qy T n t same a b k
 |_=>none
theorem sC{e e' t:TypeId}{r:Row}{a b:Int}(ht:P.underlying t=some (.slice e))(sr:TI P e (.slice r))(hs:ak U H F w ob n){ka kb:IntKind}{x y:Operand}(hx:ev ρ x= .int ka a)(hy:ev ρ y= .int kb b)(h0:0<=a)(h1:a<=b)(h2:b<=4294967296):
 bz P U H F w ρ ob n ⟨some d, .makeSlice t x y,ty,pos,aft,none⟩ {dst:= .val false (.own n),make:=[(n,(n, .deep e (.sl e' (.leaf r)) (Y4 a.toNat ([]:List r.den)) none))]}:=by
 obtain⟨v,w',aZ,aY,cV,qx⟩:=sx (d:=d) (ty:=ty) (pos:=pos) (aft:=aft) (r:= .gW) ht (TI.low (d:= .sl e' (.leaf r)) sr) hs hx hy h0 h1 h2
 have pF:fO F w' (.sl e (.sl e' (.leaf r))) v (Y4 a.toNat ([]:List r.den)) (aS v):=by
  refine⟨Y4 a.toNat (Value.slice none 0 0),fun _ _=>False,cV.2,by simp,fun i h1 h2=>?_,⟨fun k=>by simp,fun _ _ _ _ _ _ h=>h.elim,fun _ _ _ h=>h.elim⟩⟩;simp only[List.getElem_replicate];exact⟨[],fun _ _=>False,gJ.nil F w' e' r,rfl,fun i h=>absurd h (by simp),⟨fun k=>by simp[aS,Y9],fun _ _ _ h=>absurd h (by simp),fun _ _ h=>absurd h (by simp)⟩⟩
 refine bl.val aZ (gZ.GM (S:=aS v) (v0:=v) (eat:=[]) (t:=Bx e (.sl e' (.leaf r)) (Y4 a.toNat ([]:List r.den))) hs (qH ..) (lQ cV) (aY _) (oA pF).1 (fun k hk=>?_) (jf (by simp[aj.bL]) (lQ cV)));have hk:=(oA (H:=H) pF).2.1 k hk;exact⟨cV.1 k hk,cV.lt k hk, .inl (qx k hk)⟩
theorem BF(T:aI P){t:TypeId}{a b:Int}{ka kb:IntKind}{x y:Operand}{k:cL->Option R}{q:R}(h:uf T n t (k8 x y) a b k=some q)(hs:ak U H F w ob n)(hx:ev ρ x= .int ka a)(hy:ev ρ y= .int kb b):
 ∃e,k e=some q/\bz P U H F w ρ ob n ⟨some d, .makeSlice t x y,ty,pos,aft,none⟩ e:=by
 unfold uf at h;split at h
 case h_2=>cases h
 rename_i e hu;split at h
 case h_2=>exact vy T h hs hx hy
 rename_i r hr;split at h
 case h_2=>cases h
 rename_i e' zS;obtain⟨l,hl,hk⟩:=bind_some h;have sr:=T.row_ok _ _ hr;have ht:=T.und_ok _ _ hu
 cases DP:k8 x y with
 |true=>
  rw[DP,cond_true]at hl;unfold sf at hl;split at hl
  case isFalse=>cases hl
  rename_i hc;obtain rfl:=YA hl;obtain rfl:=sy DP hx hy;exact⟨_,hk,sC ht sr hs hx hy hc.1 (Int.le_refl _) hc.2⟩
 |false=>
  rw[DP,cond_false]at hl;unfold NJ at hl;split at hl
  case isFalse=>cases hl
  rename_i hc;obtain rfl:=YA hl;exact⟨_,hk,sC ht sr hs hx hy hc.1 hc.2.1 hc.2.2⟩
def qM(deep:Bool)(T:aI P)(n:Nat)(t:TypeId)(same:Bool)(a b:Int)(k:cL->Option R):Option R:=
 match deep with
 |true=>uf T n t same a b k
 |false=>qy T n t same a b k
theorem BG(deep:Bool)(T:aI P){t:TypeId}{a b:Int}{ka kb:IntKind}{x y:Operand}{k:cL->Option R}{q:R}(h:qM deep T n t (k8 x y) a b k=some q)(hs:ak U H F w ob n)(hx:ev ρ x= .int ka a)(hy:ev ρ y= .int kb b):
 ∃e,k e=some q/\bz P U H F w ρ ob n ⟨some d, .makeSlice t x y,ty,pos,aft,none⟩ e:=by
 cases deep with
 |true=>exact BF T h hs hx hy
 |false=>exact vy T h hs hx hy
def lb(T:aI P)(ob:Nat->Option (Nat×Th))(n:Nat)(t:TypeId)(D:ag)(k:cL->Option R):Option R:=
 match D with
 | .dlm .. =>mS T ob n t D k
 |_=>su T ob t D k
theorem BH(T:aI P){t:TypeId}{D:ag}{x:Operand}{k:cL->Option R}{q:R}(h:lb T ob n t D k=some q)(hs:ak U H F w ob n)(hx:af H F w D (ev ρ x)):
 ∃e,k e=some q/\bz P U H F w ρ ob n ⟨some d, .load t x,ty,pos,aft,none⟩ e:=by
 unfold lb at h;split at h
 .exact Bz T h hs hx
 .exact DK T h hs hx
noncomputable def lZ(T:aI P)(ob:Nat->Option (Nat×Th))(n:Nat)(t:TypeId)(D V:ag)(k:cL->Option R):Option R:=
 match D with
 | .dlm .. =>lW T ob n t D V k
 |_=>oq T ob n t D V k
theorem yj(T:aI P){t:TypeId}{D V:ag}{x y:Operand}{k:cL->Option R}{q:R}(h:lZ T ob n t D V k=some q)(hs:ak U H F w ob n)(hx:af H F w D (ev ρ x))(hy:af H F w V (ev ρ y)):
 ∃e,k e=some q/\bz P U H F w ρ ob n ⟨none, .store t x y,ty,pos,aft,none⟩ e:=by
 unfold lZ at h;split at h
 .exact ye T h hs hx hy
 .exact Bk T h hs hx hy
def qa(deep:Bool)(T:aI P)(rd:Operand->Option ag)(ob:Nat->Option (Nat×Th))(n:Nat)(t:TypeId)(m:Nat)(parts:Array (Nat×Operand))(k:cL->Option R):Option R:=
 match deep with
 |true=>lY T rd ob n t m parts k
 |false=>fF T rd ob n t m parts k
theorem yk(deep:Bool)(T:aI P){rd:Operand->Option ag}(dj:∀x d,rd x=some d->af H F w d (ev ρ x)){t:TypeId}{m:Nat}{parts:Array (Nat×Operand)}{k:cL->Option R}{q:R}(h:qa deep T rd ob n t m parts k=some q)(hs:ak U H F w ob n):
 ∃e,k e=some q/\bz P U H F w ρ ob n ⟨some d, .buildSlice t m parts,ty,pos,aft,none⟩ e:=by
 cases deep with
 |true=>exact yi T dj h hs
 |false=>exact qB T dj h hs
end
end Go.Proofs.YtbladfbbhijpmaaGreat
end
