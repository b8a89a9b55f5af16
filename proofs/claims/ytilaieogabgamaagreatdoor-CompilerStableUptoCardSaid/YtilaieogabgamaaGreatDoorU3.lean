/- Joined texts: Effs4 Effs5 Effs6 Effs8 Effs9. -/
import Derived.Test.YtilaieogabgamaaGreatDoorU2
import Derived.Carry
section
open _root_.Array renaming toArray_toList->ajR
open _root_.Go.Instr renaming fill->akJ
open _root_.Int renaming tdiv->ajo,tmod->ajL,toNat_natCast->aja
open _root_.List.cons renaming injEq->aka
open _root_.List renaming getElem?_eq_getElem->ai5
open _root_.Nat renaming add_mul->aj4,beq->aje,le_refl->ai8,min_eq_left->ajQ,mul_le_mul_right->ajw
open _root_.Option.some renaming inj->ai4
open _root_.Go.Result renaming andThen_ok->ajO
open _root_.Go.Sem renaming run_bind->ajx
open _root_.Go.Value renaming ownBlock->ajz
open _root_.Go.Value.slice renaming injEq->akr
namespace Go.Proofs.YtilaieogabgamaaGreatDoor
open Go Go.RowKit
section
variable {P:Program} {ρ:Nat->Value} {w w':World} {H H':ao} {F F':Nat->Prop} {U:Nat->Prop} {ob:Nat->Option (Nat×Th)} {n:Nat} {R:Type}
variable {op:Op} {ty:TypeId} {pos:String} {aft:Array Edge} {d:Nat}
theorem AF(T:bc P){fs:List (TypeId×Nat)}{pl:List (Nat×Nat)}(hz:ux T fs=true)(rc:∀i,pl[i]? =place T fs i)(kz:∀ft off r,(ft,off)∈fs->find T.row ft=some r->True):
 {parts:List (Nat×ak)}->{t t':Tree}->{cs:List Value}->{vs:List (Nat×Value)}->E0 T fs t parts=some t'->Holds H F w t cs->parts.map (·.1)=vs.map (·.1)->fc H F w (parts.map (·.2)) (vs.map (·.2))->
 ∃qZ,akJ (pl[·]?) cs.toArray vs=some qZ.toArray/\Holds H F w t' qZ
 |[],t,t',cs,vs,h,hh,h1,h2=>by
  obtain rfl:=ai4 h
  have:vs=[]:=by simpa using h1.symm
  subst this;exact⟨cs,by simp[akJ],hh⟩
 |(f, .val agg u)::parts,t,t',cs,vs,h,hh,h1,h2=>by
  obtain⟨v,us,e,hv,h3⟩:=h2
  cases vs with
  |nil=>simp at e
  |cons fv vs=>
   obtain⟨f',v'⟩:=fv;simp only[List.map_cons,aka]at h1 e;obtain⟨rfl,h1⟩:=h1;obtain⟨rfl,rfl⟩:=e;unfold E0 at h;split at h
   case h_2=>cases h
   rename_i s off hg;split at h
   case h_2=>cases h
   rename_i ft dx hf;obtain⟨hb,h'⟩:=aD h;clear h;obtain⟨hb,RD⟩:=cO hb;obtain⟨E1,Dc⟩:=cO hb;have E1:=beq_true E1;subst E1;have Dc:=beq_true Dc;split at h'
   case h_2=>cases h'
   rename_i tp hp;obtain⟨c1,Aq,xD⟩:=aE.cells hv;have hl:=Aq.length;have hle:=(hh.get hg).2
   cases hr:find T.row ft with
   |none=>simp only[hr]at RD;cases RD
   |some r=>
    simp only[hr]at RD;have RD:=beq_true RD
    have O7:pl[f]? =some (off,r.size):=by rw[rc];simp[place,hf,hr]
    rw[sd O7 xD (by omega) (by omega)];have uS:=Holds.put Aq hg hp Dc.symm hh;rw[show u.size=r.size from by omega]at uS;exact AF T hz rc kz h' uS h1 h3
 |(_, .dead)::_,_,_,_,_,h,_,_,_=>by cases h
 |(_, .undef)::_,_,_,_,_,h,_,_,_=>by cases h
 |(_, .ptr ..)::_,_,_,_,_,h,_,_,_=>by cases h
 |(_, .at ..)::_,_,_,_,_,h,_,_,_=>by cases h
 |(_, .elem ..)::_,_,_,_,_,h,_,_,_=>by cases h
 |(_, .tup _)::_,_,_,_,_,h,_,_,_=>by cases h
 |(_, .dlm ..)::_,_,_,_,_,h,_,_,_=>by cases h
def sv(T:bc P)(rd:Operand->Option ak)(t:TypeId)(parts:Array (Nat×Operand))(k:dN->Option R):Option R:=
 match find T.und t with
 |some (.struct fs)=>match find T.row t with
  |some r=>bif ux T fs then
    (match rb rd (parts.toList.map (·.2))with
    |some ds=>match E0 T fs r.Ax ((parts.toList.map (·.1)).zip ds)with
     |some tr=>k {dst:= .val true tr}
     |none=>none
    |none=>none)else none
  |none=>none
 |_=>none
theorem jK:{ds:List ak}->{vs:List Value}->fc H F w ds vs->ds.length=vs.length
 |[],_,h=>by rw[show _=[]from h];rfl
 |_::_,_,h=>by obtain⟨v,us,rfl,_,h2⟩:=h;simp[jK h2]
theorem GS(T:bc P){rd:Operand->Option ak}(fE:∀x d,rd x=some d->ai H F w d (ev ρ x)){t:TypeId}{parts:Array (Nat×Operand)}{k:dN->Option R}{q:R}(h:sv T rd t parts k=some q)(hs:au U H F w ob n):
 ∃e,k e=some q/\cD P U H F w ρ ob n ⟨some d, .build t parts,ty,pos,aft,none⟩ e:=by
 unfold sv at h;split at h
 case h_2=>cases h
 rename_i fs hu;obtain⟨arr,CH,Ml⟩:=T.und_ok _ _ hu;split at h
 case h_2=>cases h
 rename_i r hr;obtain⟨ti,z,h1,h2,h3,h4,h5⟩:=T.row_ok _ _ hr;obtain⟨hz,h⟩:=aD h;split at h
 case h_2=>cases h
 rename_i ds uw;split at h
 case h_2=>cases h
 rename_i tr Su;have hd:=nn (w:=w) (H:=H) (F:=F) (ρ:=ρ) fE uw;have hlen:=jK hd;obtain⟨pl,Sr,O6⟩:=u7 (w:=w) T Ml hz
 have hn:∀(a:List Nat)(b:List ak),a.length=b.length->(a.zip b).map (·.1)=a/\(a.zip b).map (·.2)=b:=fun a b wX=>⟨List.map_fst_zip (by omega),List.map_snd_zip (by omega)⟩
 have Sv:=hn (parts.toList.map (·.1)) ds (by simp at hlen⊢;omega);obtain⟨qZ,hf,hh⟩:=AF (w:=w) (H:=H) (F:=F) T hz O6 (fun _ _ _ _ _=>trivial) (vs:=parts.toList.map fun(i,q)=>(i,ev ρ q)) Su (Row.mB H F w r) (by rw[Sv.1];simp[Function.comp_def]) (by rw[Sv.2];simpa[Function.comp_def]using hd);refine⟨_,h,bP hs (v:= .agg qZ.toArray) ?_ ⟨qZ,hh,rfl,by simp⟩⟩
 have hzc:z.cells=r.eA.toArray:=by rw[<-h3,ajR]
 have hpm:(arr.mapM fun(f:Field)=>(do pure (f.offset,<-sizeOf f.type):Sem (Nat×Nat))).run P w= .ok pl.toArray w:=by
  rw[<-ajR (xs:=arr),List.mapM_toArray];simp only[Sem.run_map,Sr];rfl
 have Og:(parts.map fun(i,q)=>(i,ev ρ q)).toList=parts.toList.map fun(i,q)=>(i,ev ρ q):=by simp
 have V2:(fun(x:Nat)=>pl.toArray[x]?)=fun x=>pl[x]? :=by funext x;simp
 simp only[execOp,Instr.build,ajx,zeroValue,typeInfo,h1,h2,run_program,Sem.run_pure,ajO,run_underlying CH,hzc,Og,hpm,V2,hf]
def Mr(rd:Operand->Option ak):Option Operand->Option (Option Int)
 |none=>some none
 |some x=>match rd x with
  |some d=>match asInt d with
   |some (_,i)=>some (some i)
   |none=>none
  |none=>none
theorem E2{rd:Operand->Option ak}(fE:∀x d,rd x=some d->ai H F w d (ev ρ x)){lo:Option Operand}{a:Option Int}(h:Mr rd lo=some a):O2 ρ lo a:=by
 unfold Mr at h;split at h
 .obtain rfl:=ai4 h;exact .none
 .split at h
  .split at h
   .obtain rfl:=ai4 h;rename_i hD _ _ _ hi;exact .some (gM hi (fE _ _ hD))
   .cases h
  .cases h
def sx(dr:Bool)(T:bc P)(rd:Operand->Option ak)(ob:Nat->Option (Nat×Th))(n:Nat)(t:TypeId)(D:ak)(lo hi:Option Operand)(k:dN->Option R):Option R:=
 match find T.und t with
 |some (.slice e)=>match find T.row e with
  |some re=>match Mr rd lo with
   |some a=>match Mr rd hi with
    |some b=>match uc ob D with
     |some (.read r l)=>bif aje r.size re.size then(eR l (a.getD 0) (b.getD (l.length:Int))).bind fun m=>k {dst:= .val false (.leaf (.slice r) m)}else none
     |some .nil=>(eR ([]:List re.den) (a.getD 0) (b.getD 0)).bind fun _=>k {dst:= .val false .nil}
     |some (.own o s T0 r l)=>bif aje r.size re.size&&aje T0 e&&(lo.isNone||dr)then(eR l (a.getD 0) (b.getD (l.length:Int))).bind fun m=>k {dst:= .val false (.own n),eat:=[o],make:=[(n,(n, .own T0 r m))]}
       else bif aje r.size re.size then(eR l (a.getD 0) (b.getD (l.length:Int))).bind fun m=>k {dst:= .val false (.view o s r m)}else none
     |_=>none
    |none=>none
   |none=>none
  |none=>none
 |_=>none
theorem GU{e T0:TypeId}{ti:TypeInfo}{r:Row}{t:TypeId}{x:Operand}{lo hi:Option Operand}{a b:Option Int}{l m:List r.den}{o s:Nat}{v:Value}(ht:P.underlying t=some (.slice e))(h1:P.info? e=some ti)(h4:ti.size=r.size)(hx:ev ρ x=v)
 (hs:au U H F w ob n)(cC:ob o=some (s, .own T0 r l))(O8:H.val o=some v)(ha:O2 ρ lo a)(hb:O2 ρ hi b)(hm:eR l (a.getD 0) (b.getD l.length)=some m):
 cD P U H F w ρ ob n ⟨some d, .slice t x lo hi none,ty,pos,aft,none⟩ {dst:= .val false (.own n),eat:=[o],make:=[(n,(n, .own T0 r m))]}:=by
 have hv:=hs.own cC O8;obtain⟨p,q,ep,eq,Sw,hq,rfl⟩:=se hm;obtain⟨A,cap,rfl,hlen,VQ,_⟩:=hv.reads;have bx:=ur (P:=P) (w:=w) (d:=d) (ty:=ty) (pos:=pos) (aft:=aft) ht h1 hx ha hb (by omega) (by omega) (by omega) hlen;rw[ep,eq,aja,aja,h4]at bx;obtain⟨CG,xs,⟨Ji,V3⟩,hr⟩:=hv
 have Dd:((l.take q).drop p).length=q-p:=by simp;omega
 have hmul:q*r.size<=l.length*r.size:=ajw _ hq;have ab1:p*r.size<=q*r.size:=ajw _ Sw;have ab2:(q-p)*r.size=q*r.size-p*r.size:=Nat.sub_mul ..
 have bI:Ext (cm H ob [o]) w w:=⟨rfl,rfl,rfl,ai8 _,fun _ _ _=>rfl⟩
 rcases V3 with⟨GJ,h0⟩|⟨g,o0,Jf,cur,fO,p5,hh,hn1,hn2,qp,RE⟩
 .simp only[akr]at GJ;obtain⟨rfl,_,rfl⟩:=GJ
  have Ms:q=0:=by omega
  subst Ms
  obtain rfl:p=0:=by omega
  refine cd.val bx (su hs bI ?_ ?_)
  .simpa[sliced]using iE.nil 0 F w T0 r
  .intro k hk;simp[sliced,bm,ajz]at hk
 .simp only[akr,true_and]at fO;obtain⟨rfl,rfl⟩:=fO
  obtain⟨o1,kK,ho1,JA⟩:∃o1,sliced (some ⟨g,o0,none⟩) p q cap r.size= .slice (some ⟨g,o1,none⟩) (q-p) (cap-p)/\o1+(cap-p)*r.size<=cur.size/\(cur.toList.drop o1).take ((q-p)*r.size)=(xs.drop (p*r.size)).take ((q-p)*r.size):=by
   have hcp:p*r.size<=cap*r.size:=ajw _ (by omega);have adG:(cap-p)*r.size=cap*r.size-p*r.size:=Nat.sub_mul ..;unfold sliced;by_cases hc:cap=p
   .refine⟨o0,by rw[if_pos hc],by omega,?_⟩
    have:q=p:=by omega
    subst this;simp
   .refine⟨o0+p*r.size,by rw[if_neg hc,Option.map_some,cI],by omega,?_⟩;rw[<-RE,List.drop_take,List.take_take,List.drop_drop]
    congr 1
    omega
  rw[kK]at bx
  have hmy:∀k,bm (.slice (some ⟨g,o1,none⟩) (q-p) (cap-p)) k->bm (.slice (some ⟨g,o0,none⟩) l.length cap) k:=fun k hk=>by simpa[bm,ajz]using hk
  refine cd.val bx (su hs bI ⟨fun k hk=>CG k (hmy k hk),(xs.drop (p*r.size)).take ((q-p)*r.size),⟨by rw[Dd];simp;omega, .inr ⟨g,o1,cap-p,cur,by rw[Dd],p5,hh,by omega,by omega,ho1,?_⟩⟩,fun i hi=>?_⟩ fun k hk=> .inl ⟨o,by simp,_,_,_,cC,O8,hmy k hk⟩)
  .rw[Dd];exact JA
  .have hi2:i<q-p:=by omega
   have hle:(i+1)*r.size<=(q-p)*r.size:=ajw _ hi2;rw[aj4]at hle;have:=hr (p+i) (by omega)
   have hg:((l.take q).drop p)[i]=l[p+i]'(by omega):=by simp
   rw[hg,List.drop_take,List.take_take,ajQ (by omega),List.drop_drop,show p*r.size+i*r.size=(p+i)*r.size from(aj4 ..).symm];exact this
theorem GV(dr:Bool)(T:bc P){rd:Operand->Option ak}(fE:∀x d,rd x=some d->ai H F w d (ev ρ x)){t:TypeId}{D:ak}{x:Operand}{lo hi:Option Operand}{k:dN->Option R}{q:R}(h:sx dr T rd ob n t D lo hi k=some q)(hs:au U H F w ob n)(hx:ai H F w D (ev ρ x)):
 ∃e,k e=some q/\cD P U H F w ρ ob n ⟨some d, .slice t x lo hi none,ty,pos,aft,none⟩ e:=by
 unfold sx at h;split at h
 case h_2=>cases h
 rename_i e hu;have ht:=T.und_ok _ _ hu;split at h
 case h_2=>cases h
 rename_i re V4;obtain⟨ti,z,h1,_,_,h4,_⟩:=T.row_ok _ _ V4;split at h
 case h_2=>cases h
 rename_i a ha;split at h
 case h_2=>cases h
 rename_i b hb;have De:=E2 (w:=w) (H:=H) (F:=F) (ρ:=ρ) fE ha;have p5:=E2 (w:=w) (H:=H) (F:=F) (ρ:=ρ) fE hb
 have Pa:∀{r:Row}{l m:List r.den},cA F w (.slice r) [ev ρ x] l->r.size=re.size->eR l (a.getD 0) (b.getD (l.length:Int))=some m->cD P U H F w ρ ob n ⟨some d, .slice t x lo hi none,ty,pos,aft,none⟩ {dst:= .val false (.leaf (.slice r) m)}:=by
  intro r l m hv hz hm;obtain⟨p,q',ep,eq,Sw,hq,rfl⟩:=se hm;have di:=hv;obtain⟨A,cap,he,hc,Mt,_⟩:=hv;simp only[aka,and_true]at he;have bx:=ur (P:=P) (w:=w) (d:=d) (ty:=ty) (pos:=pos) (aft:=aft) ht h1 he De p5 (by omega) (by omega) (by omega) hc;rw[ep,eq,aja,aja,h4,<-hz]at bx;rw[he]at di;exact bP hs bx (aE.mA (di.cut Sw hq))
 split at h
 .rename_i r l fO;obtain⟨hz,h⟩:=aD h;obtain⟨m,hm,hk⟩:=bind_some h;exact⟨_,hk,Pa (iq hs fO hx) (beq_true hz) hm⟩
 .rename_i fO;obtain⟨m,hm,hk⟩:=bind_some h;have hv:ev ρ x=_:=iq hs fO hx;unfold eR at hm;split at hm
  case isFalse=>cases hm
  rename_i hc
  have ea:a.getD 0=0:=by have:=hc.2.1;have:=hc.2.2;simp at this;omega
  have eb:b.getD ((0:Nat):Int)=0:=by have:=hc.2.1;have:=hc.2.2;simp at this⊢;omega
  have bx:=ur (P:=P) (w:=w) (d:=d) (ty:=ty) (pos:=pos) (aft:=aft) ht h1 hv De p5 (by omega) (by omega) (by omega) (ai8 _);rw[ea,eb]at bx;exact⟨_,hk,bP hs bx ⟨_,rfl,rfl,fun _=>rfl⟩⟩
 .rename_i o s T0 r l fO;obtain⟨hv,cC,dH⟩:=iq hs fO hx
  cases V5:(aje r.size re.size&&aje T0 e&&(lo.isNone||dr))with
  |true=>
   rw[V5,cond_true]at h;obtain⟨wW,hlo⟩:=cO V5;obtain⟨CI,hT⟩:=cO wW;have Sp:=beq_true CI;obtain⟨m,hm,hk⟩:=bind_some h;exact⟨_,hk,GU ht h1 (h4.trans Sp.symm) rfl hs cC hv De p5 hm⟩
  |false=>
   rw[V5,cond_false]at h;obtain⟨CI,h'⟩:=aD h;clear h;have Sp:=beq_true CI;obtain⟨m,hm,hk⟩:=bind_some h';obtain⟨p,q',ep,eq,Sw,hq,rfl⟩:=se hm;obtain⟨A,cap,he,hc,Mt,_⟩:=dH.reads;have bx:=ur (P:=P) (w:=w) (d:=d) (ty:=ty) (pos:=pos) (aft:=aft) ht h1 he De p5 (by omega) (by omega) (by omega) hc;rw[ep,eq,aja,aja,h4,<-Sp]at bx;obtain⟨v',di,cc⟩:=hs.obj _ _ _ cC;refine⟨_,hk,bP hs bx ⟨_,⟨_,rfl,A,cap,T0,l,p,q',by rw[hv,he],cc.con,Sw,hq,rfl,rfl⟩,rfl,fun _=>rfl⟩⟩
 .cases h
noncomputable def Pb(T:bc P)(ob:Nat->Option (Nat×Th))(o:BinOp)(t:TypeId)(X Y:ak):Option ak:=
 match X,Y with
 | .val false (.leaf .bool a), .val false (.leaf .bool b)=>match find T.und t with
   |some .bool=>match o with
    | .eql=>some (dD (decide (a=b)))
    | .neq=>some (dD (!decide (a=b)))
    |_=>none
   |_=>none
 | .val false (.leaf .str a), .val false (.leaf .str b)=>match o with
   | .eql=>some (dD (decide (a=b)))
   | .neq=>some (dD (!decide (a=b)))
   |_=>none
 | .val true u, .val true v=>match find T.eqs t with
   |some r=>match flat ob r u with
    |some x=>match flat ob r v with
     |some y=>match o with
      | .eql=>some (dD (nh r x y))
      | .neq=>some (dD (!(nh r x y)))
      |_=>none
     |none=>none
    |none=>none
   |none=>none
 |_,_=>none
theorem Mu(T:bc P){o:BinOp}{t u:TypeId}{X Y D:ak}{x y:Operand}(h:Pb T ob o t X Y=some D)(hs:au U H F w ob n)(hx:ai H F w X (ev ρ x))(hy:ai H F w Y (ev ρ y)):
 cD P U H F w ρ ob n ⟨some d, .binOp o t x y u,ty,pos,aft,none⟩ {dst:=D}:=by
 unfold Pb at h;split at h
 .rename_i a b;split at h
  case h_2=>cases h
  rename_i hu;have hu:=T.und_ok _ _ hu;have ha:ev ρ x= .bool a:=aE.bool hx;have hb:ev ρ y= .bool b:=aE.bool hy
  split at h<;>cases h
  .exact aI hs (Gh hu ha hb) (aE.fT ..)
  .exact aI hs (Gi hu ha hb) (aE.fT ..)
 .rename_i a b;have ha:ev ρ x= .string a:=aE.str hx;have hb:ev ρ y= .string b:=aE.str hy
  split at h<;>cases h
  .exact aI hs (Gj ha hb) (aE.fT ..)
  .exact aI hs (Gk ha hb) (aE.fT ..)
 .rename_i u v;split at h
  case h_2=>cases h
  rename_i r hr;obtain⟨K,dd,hE,hd,hg,hD⟩:=T.eqs_ok _ _ hr;split at h
  case h_2=>cases h
  rename_i a ha;split at h
  case h_2=>cases h
  rename_i b hb;obtain⟨c1,g1,e1,_⟩:=hx;obtain⟨c2,g2,e2,_⟩:=hy;have r1:=im hs ha g1;have r2:=im hs hb g2
  split at h<;>cases h
  .exact aI hs (Gw hE hd hg hD e1 e2 r1 r2) (aE.fT ..)
  .exact aI hs (Gx hE hd hg hD e1 e2 r1 r2) (aE.fT ..)
 .cases h
def Pd(a b:ByteArray):Option ByteArray:=if a.size+b.size<=9223372036854775807 then some (a++b)else none
def Df(o:BinOp)(X Y:ak):Option (ByteArray×ByteArray):=
 match o,X,Y with
 | .add, .val false (.leaf .str a), .val false (.leaf .str b)=>some (a,b)
 |_,_,_=>none
theorem Pe{t u:TypeId}{o:BinOp}{X Y:ak}{x y:Operand}{a b c:ByteArray}(h:Df o X Y=some (a,b))(hc:Pd a b=some c)(hs:au U H F w ob n)(hx:ai H F w X (ev ρ x))(hy:ai H F w Y (ev ρ y)):
 cD P U H F w ρ ob n ⟨some d, .binOp o t x y u,ty,pos,aft,none⟩ {dst:= .val false (.leaf .str c)}:=by
 unfold Df at h
 split at h<;>cases h
 unfold Pd at hc;split at hc
 case isFalse=>cases hc
 rename_i hle;obtain rfl:=ai4 hc;have ha:ev ρ x= .string a:=aE.str hx;have hb:ev ρ y= .string b:=aE.str hy;refine bP hs (v:= .string (a++b)) ?_ (aE.mA rfl)
 have:¬(9223372036854775807:Int)<(a.size:Int)+(b.size:Int):=by omega
 simp[execOp,eqGuard,binOp,Op.stringOp,ha,hb,IntKind.max,IntKind.signed,IntKind.bits,this]
noncomputable def GW(T:bc P)(ob:Nat->Option (Nat×Th))(o:BinOp)(t:TypeId)(lit:Bool)(X Y:ak)(k:dN->Option R):Option R:=
 match asInt X with
 |some (kx,a)=>match asInt Y with
  |some (ky,b)=>match o with
   | .shl=>bif lit then(bif !decide (b<0)then k {dst:=lV kx (yE kx a b)}else none)else(GD kx a b).bind fun c=>k {dst:=lV kx c}
   | .shr=>bif lit then(bif !decide (b<0)then k {dst:=lV kx (fU kx a b)}else none)else(GF kx a b).bind fun c=>k {dst:=lV kx c}
   |o=>bif decide (kx=ky)then
    (match o with
    | .quo=>bif lit then(bif decide (b≠0)then k {dst:=lV kx (kx.wrap (ajo a b))}else none)else(yF a b).bind fun c=>k {dst:=lV kx (kx.wrap c)}
    | .rem=>bif lit then(bif decide (b≠0)then k {dst:=lV kx (ajL a b)}else none)else(GG a b).bind fun c=>k {dst:=lV kx c}
    |_=>match arith o kx a b with
     |some D=>k {dst:=D}
     |none=>none)else none
  |none=>none
 |none=>match Df o X Y with
  |some (a,b)=>(Pd a b).bind fun c=>k {dst:= .val false (.leaf .str c)}
  |none=>match Pb T ob o t X Y with
   |some D=>k {dst:=D}
   |none=>none
theorem Mv(T:bc P){o:BinOp}{t u:TypeId}{lit:Bool}{X Y:ak}{x y:Operand}{k:dN->Option R}{q:R}(h:GW T ob o t lit X Y k=some q)(hs:au U H F w ob n)(hx:ai H F w X (ev ρ x))(hy:ai H F w Y (ev ρ y)):
 ∃e,k e=some q/\cD P U H F w ρ ob n ⟨some d, .binOp o t x y u,ty,pos,aft,none⟩ e:=by
 unfold GW at h;split at h
 .rename_i kx a hX;split at h
  case h_2=>cases h
  rename_i ky b hY;have ha:=gM hX hx;have hb:=gM hY hy;split at h
  .cases lit with
   |true=>
    rw[cond_true]at h;obtain⟨bN,h⟩:=aD h;exact⟨_,h,aI hs (Av ha hb (by simpa using bN)) (aE.ju ..)⟩
   |false=>
    rw[cond_false]at h;obtain⟨c,hc,h⟩:=bind_some h;unfold GD at hc;split at hc
    .cases hc
    .rename_i bN;obtain rfl:=ai4 hc;exact⟨_,h,aI hs (Av ha hb bN) (aE.ju ..)⟩
  .cases lit with
   |true=>
    rw[cond_true]at h;obtain⟨bN,h⟩:=aD h;exact⟨_,h,aI hs (Aw ha hb (by simpa using bN)) (aE.ju ..)⟩
   |false=>
    rw[cond_false]at h;obtain⟨c,hc,h⟩:=bind_some h;unfold GF at hc;split at hc
    .cases hc
    .rename_i bN;obtain rfl:=ai4 hc;exact⟨_,h,aI hs (Aw ha hb bN) (aE.ju ..)⟩
  obtain⟨hk,h'⟩:=aD h;clear h;have hk:=of_decide_eq_true hk;subst hk;revert h';intro h;split at h
  .cases lit with
   |true=>
    rw[cond_true]at h;obtain⟨bN,h⟩:=aD h;exact⟨_,h,Js (of_decide_eq_true bN) hs ha hb⟩
   |false=>
    rw[cond_false]at h;obtain⟨c,hc,h⟩:=bind_some h;unfold yF at hc;split at hc
    .cases hc
    .rename_i bN;obtain rfl:=ai4 hc;exact⟨_,h,Js bN hs ha hb⟩
  .cases lit with
   |true=>
    rw[cond_true]at h;obtain⟨bN,h⟩:=aD h;exact⟨_,h,Jt (of_decide_eq_true bN) hs ha hb⟩
   |false=>
    rw[cond_false]at h;obtain⟨c,hc,h⟩:=bind_some h;unfold GG at hc;split at hc
    .cases hc
    .rename_i bN;obtain rfl:=ai4 hc;exact⟨_,h,Jt bN hs ha hb⟩
  .split at h
   case h_2=>cases h
   rename_i D hD;exact⟨_,h,Jr hD hs ha hb⟩
 .split at h
  .rename_i a b wX;obtain⟨c,hc,h⟩:=bind_some h;exact⟨_,h,Pe wX hc hs hx hy⟩
  .split at h
   case h_2=>cases h
   rename_i D hD;exact⟨_,h,Mu T hD hs hx hy⟩
def V6(o:UnOp)(X:ak):Option ak:=
 match o with
 | .not=>match asBool X with
   |some b=>some (dD (!b))
   |none=>none
 | .neg=>match asInt X with
   |some (k,a)=>some (lV k (k.wrap (0-a)))
   |none=>none
 |_=>none
theorem Pf{o:UnOp}{t:TypeId}{X D:ak}{x:Operand}(h:V6 o X=some D)(hs:au U H F w ob n)(hx:ai H F w X (ev ρ x)):
 cD P U H F w ρ ob n ⟨some d, .unOp o t x,ty,pos,aft,none⟩ {dst:=D}:=by
 unfold V6 at h;split at h
 .split at h<;>cases h
  rename_i b hb;exact aI hs (I9 (nk hb hx)) (aE.fT ..)
 .split at h<;>cases h
  rename_i k a ha;exact aI hs (Ja (gM ha hx)) (aE.ju ..)
 .cases h
def JB(T:bc P)(s t:TypeId)(X:ak):Option ak:=
 match find T.und s with
 |some _=>match find T.und t with
  |some (.int k)=>match asInt X with
   |some (_,a)=>some (lV k (k.wrap a))
   |none=>none
  |some .str=>match As X with
   |some a=>some (VX a)
   |none=>none
  |_=>none
 |none=>none
theorem JC(T:bc P){s t:TypeId}{X D:ak}{x:Operand}(h:JB T s t X=some D)(hs:au U H F w ob n)(hx:ai H F w X (ev ρ x)):
 cD P U H F w ρ ob n ⟨some d, .convert s t x,ty,pos,aft,none⟩ {dst:=D}:=by
 unfold JB at h;split at h
 case h_2=>cases h
 rename_i ks hsu;obtain⟨dd,wQ,_⟩:=(T.und_ok _ _ hsu).agg;split at h
 .rename_i k V7
  split at h<;>cases h
  rename_i k' a ha;exact aI hs (Gl wQ (T.und_ok _ _ V7) (gM ha hx)) (aE.ju ..)
 .rename_i V7
  split at h<;>cases h
  rename_i a ha;have hv:=uU ha hx;have V8:P.underlying t=some .string:=T.und_ok _ _ V7;refine bP hs (v:= .string a) ?_ (aE.mkStr ..);simp[execOp,convert,run_underlying wQ,run_underlying V8,hv]
 .cases h
def u9(D:ak)(i:Nat):Option ak:=
 match D with
 | .tup ds=>match ds[i]? with
   |some (a,t)=>some (.val a t)
   |none=>none
 |_=>none
theorem q7.get:{ds:List (Bool×Tree)}->{vs:List Value}->{i:Nat}->{a:Bool}->{t:Tree}->q7 H F w ds vs->ds[i]? =some (a,t)->∃v,vs[i]? =some v/\aE H F w a t v
 |[],_,_,_,_,_,h=>by cases h
 |d::ds,_,0,a,t,hh,h=>by
  obtain⟨v,us,rfl,h1,h2⟩:=hh
  obtain rfl:d=(a,t):=by simpa using h
  exact⟨v,rfl,h1⟩
 |d::ds,_,i+1,a,t,hh,h=>by
  obtain⟨v,us,rfl,h1,h2⟩:=hh;obtain⟨v',e,hv⟩:=q7.get h2 (by simpa using h);exact⟨v',by simpa using e,hv⟩
theorem AG{D D':ak}{i:Nat}{x:Operand}(h:u9 D i=some D')(hs:au U H F w ob n)(hx:ai H F w D (ev ρ x)):
 cD P U H F w ρ ob n ⟨some d, .extract x i,ty,pos,aft,none⟩ {dst:=D'}:=by
 unfold u9 at h;split at h
 case h_2=>cases h
 split at h<;>cases h
 rename_i ds a t hd;obtain⟨vs,e,ht⟩:=hx;obtain⟨v,hv,my⟩:=ht.get hd;exact aI hs (yB e (by simpa using hv)) my
def uy(mx:Bool)(X Y:ak):Option ak:=
 match asInt X,asInt Y with
 |some (k,a),some (k',b)=>bif decide (k=k')then some (lV k (bif mx then(if a<b then b else a)else(if b<a then b else a)))else none
 |_,_=>none
theorem va{mx:Bool}{t t':TypeId}{X Y D:ak}{x y:Operand}(h:uy mx X Y=some D)(hs:au U H F w ob n)(hx:ai H F w X (ev ρ x))(hy:ai H F w Y (ev ρ y)):
 cD P U H F w ρ ob n ⟨some d, .call {callee:= .builtin (bif mx then .max else .min),args:= #[x,y],argTypes:= #[t,t']},ty,pos,aft,none⟩ {dst:=D}:=by
 unfold uy at h;split at h
 case h_2=>cases h
 rename_i k a k' b ha hb;obtain⟨hk,h'⟩:=aD h;clear h;have hk:=of_decide_eq_true hk;subst hk;obtain rfl:=ai4 h';have ha:=gM ha hx;have hb:=gM hb hy
 cases mx with
 |true=>exact aI hs (Gn ha hb) (aE.ju ..)
 |false=>exact aI hs (Gp ha hb) (aE.ju ..)
theorem GX{D:ak}{x:Operand}(hs:au U H F w ob n)(hx:ai H F w D (ev ρ x)):cD P U H F w ρ ob n ⟨some d, .move x,ty,pos,aft,none⟩ {dst:=D}:=aI hs (Gg rfl) hx
theorem AH{D:ak}{x:Operand}(hs:au U H F w ob n)(hx:ai H F w D (ev ρ x)):cD P U H F w ρ ob n ⟨some d, .assign x,ty,pos,aft,none⟩ {dst:=D}:=aI hs (Ao rfl) hx
def yJ(T:bc P)(t:TypeId)(f:Nat)(X:ak):Option ak:=
 match find T.und t with
 |some (.struct fs)=>match fs[f]? with
  |some (ft,off)=>match find T.und ft with
   |some kk=>match X with
    | .val true u=>match u.get (q9 fs.length f)with
      |some (s,dx)=>bif aje dx off&&lX T ft kk s.size then some (.val (kA kk) s)else none
      |none=>none
    |_=>none
   |none=>none
  |none=>none
 |_=>none
theorem Dg(T:bc P){t:TypeId}{f:Nat}{X D:ak}{x:Operand}(h:yJ T t f X=some D)(hs:au U H F w ob n)(hx:ai H F w X (ev ρ x)):
 cD P U H F w ρ ob n ⟨some d, .field t x f,ty,pos,aft,none⟩ {dst:=D}:=by
 unfold yJ at h;split at h
 case h_2=>cases h
 rename_i fs hu;obtain⟨arr,CH,Ml⟩:=T.und_ok _ _ hu;split at h
 case h_2=>cases h
 rename_i ft off hf;obtain⟨fd,RC,rfl,rfl⟩:=Ay Ml hf;split at h
 case h_2=>cases h
 rename_i kk hft;obtain⟨dd,wQ,xy⟩:=(T.und_ok _ _ hft).agg;split at h
 case h_2=>cases h
 rename_i u;split at h
 case h_2=>cases h
 rename_i s dx hg;obtain⟨hb,rfl⟩:=lW h;obtain⟨E1,Dc⟩:=cO hb;obtain rfl:=beq_true E1;have hz:=jv T Dc;obtain⟨cs,qp,e,_⟩:=hx;obtain⟨g1,g2⟩:=qp.get hg;have hl:=g1.length;have e':ev ρ x= .agg cs.toArray:=e
 have Sz:∃v,(part fd.type cs.toArray fd.offset).run P w= .ok v w/\aE H F w (kA kk) s v:=by
  cases ha:kA kk with
  |true=>
   rw[if_pos ha]at hz;obtain⟨r,hr,IC⟩:=hz;obtain⟨ti,z,h1,_,_,h4,_⟩:=T.row_ok _ _ hr;refine⟨.agg ((cs.drop fd.offset).take s.size).toArray,?_,_,g1,rfl,by simp⟩;unfold part;rw[ajx,eY wQ,xy,ha];simp[sizeOf,typeInfo,h1,h4,IC]
  |false=>
   rw[if_neg (by simp[ha])]at hz
   have al:fd.offset<cs.length:=by omega
   refine⟨cs[fd.offset],?_,_,g1,?_,fun _=>?_⟩
   .unfold part;rw[ajx,eY wQ,xy,ha];simp[al]
   .rw[hz,List.take_one,List.head?_drop,ai5 al];rfl
   .rw[hz,List.take_one,List.head?_drop,ai5 al];rfl
 obtain⟨v,hv,my⟩:=Sz;refine bP hs (v:=v) ?_ my;simp[execOp,Instr.field,run_underlying CH,RC,e',asAgg,hv]
end
end Go.Proofs.YtilaieogabgamaaGreatDoor
end
section
open _root_.Array renaming getElem?_eq_some_iff->aj0
open _root_.Go.Instr renaming findNow->akk,mapUpdate->akN
open _root_.List.cons renaming injEq->aka
open _root_.List renaming length_append->ai6,mem_cons->ajq,take_append_of_le_length->ajy,take_length->aju
open _root_.Go.MapKept renaming run_checkKey->ako,run_findKey->akt,run_getObj_map->aks
open _root_.Nat renaming add_mul->aj4,beq->aje,le_refl->ai8,mul_le_mul_right->ajw,zero_add->ajC
open _root_.Option.some renaming inj->ai4,injEq->ajg
open _root_.Prod.mk renaming injEq->aj3
open _root_.Go.Result renaming andThen->ajI
open _root_.Go.Sem renaming run_bind->ajx
open _root_.Go.Value renaming int->aj6
namespace Go.Proofs.YtilaieogabgamaaGreatDoor
open Go Go.RowKit Go.MapKept
noncomputable def gN{α:Type}(K:Row):List (K.den×α)->K.den->Option α
 |[],_=>none
 |p::l,k=>if gI K p.1 k=true then some p.2 else gN K l k
noncomputable def lY{α:Type}(K:Row):List (K.den×α)->K.den->α->List (K.den×α)
 |[],k,v=>[(k,v)]
 |p::l,k,v=>if gI K p.1 k=true then(p.1,v)::l else p::lY K l k v
theorem xG{K:Row}{a b:K.den}{u v:Value}(ha:nO K a=some u)(hb:nO K b=some v):gI K a b=true↔u=v:=by
 unfold nO at ha
 split at ha<;>first|cases ha|skip
 all_goals
  simp only[nO,ajg]at hb;subst hb;simp[gI]
def vb{P:Program}(T:bc P)(kt:TypeId):Row->Bool
 | .int k=>match find T.und kt with
   |some (.int k')=>decide (k=k')
   |_=>false
 | .bool=>match find T.und kt with
   |some .bool=>true
   |_=>false
 | .str=>match find T.und kt with
   |some .str=>true
   |_=>false
 |_=>false
section
variable {P:Program} {ρ:Nat->Value} {w w':World} {H H':ao} {F F':Nat->Prop} {U:Nat->Prop} {ob:Nat->Option (Nat×Th)} {n:Nat} {R:Type}
variable {op:Op} {ty:TypeId} {pos:String} {aft:Array Edge} {d:Nat}
theorem rf(T:bc P){kt:TypeId}{K:Row}(h:vb T kt K=true):∃d,P.underlying kt=some d/\(∀x v,nO K x=some v->IsKey d v)/\(∀x v,cA F w K [v] x->nO K x=some v):=by
 unfold vb at h;split at h
 .split at h
  .rename_i k _ k' hu;obtain rfl:=of_decide_eq_true h;refine⟨_,T.und_ok _ _ hu,fun x v hx=>?_,fun x v hr=>?_⟩
   .obtain rfl:=ai4 hx;rfl
   .have oz:[v]=[aj6 k x]:=hr;simp only[aka,and_true]at oz;rw[oz];rfl
  .cases h
 .split at h
  .rename_i hu;refine⟨_,T.und_ok _ _ hu,fun x v hx=>?_,fun x v hr=>?_⟩
   .obtain rfl:=ai4 hx;trivial
   .have oz:[v]=[Value.bool x]:=hr;simp only[aka,and_true]at oz;rw[oz];rfl
  .cases h
 .split at h
  .rename_i hu;refine⟨_,T.und_ok _ _ hu,fun x v hx=>?_,fun x v hr=>?_⟩
   .obtain rfl:=ai4 hx;trivial
   .have oz:[v]=[Value.string x]:=hr;simp only[aka,and_true]at oz;rw[oz];rfl
  .cases h
 .cases h
theorem sy{K:Row}{agg:Bool}{V:Row}{dd:TypeDesc}{x:K.den}{kv:Value}(hK:∀x v,nO K x=some v->IsKey dd v)(hx:nO K x=some kv):{es:List MapEntry}->{l:List (K.den×V.den)}->(i:Nat)->lD H F w K agg V es l->
 (akk dd kv es i=some none/\gN K l x=none/\(∀e∈es,e.key≠kv)/\∀H' F' w' y(e:MapEntry),e.key=kv->H.le H'->Step F w F' w'->aE H' F' w' agg (.leaf V y) e.val->lD H' F' w' K agg V (es++[e]) (lY K l x y))\/
 ∃j e y,akk dd kv es i=some (some (i+j,e.val))/\es[j]? =some e/\e.key=kv/\gN K l x=some y/\aE H F w agg (.leaf V y) e.val/\
  ∀H' F' w' y(f:MapEntry->MapEntry),(f e).key=kv->H.le H'->Step F w F' w'->aE H' F' w' agg (.leaf V y) (f e).val->lD H' F' w' K agg V (es.modify j f) (lY K l x y)
 |[],l,i,h=>by
  obtain rfl:l=[]:=h;refine .inl ⟨rfl,rfl,by simp,fun H' F' w' y e he hH hs hv=>⟨x,y,[],rfl,by rw[he];exact hx,hv,rfl⟩⟩
 |e::es,l,i,h=>by
  obtain⟨k,y,l',rfl,h1,h2,h3⟩:=h;obtain⟨r,hr,JD⟩:=sameNow_of_keys (hK x kv hx) (hK k _ h1);have C5:=xG h1 hx
  cases r with
  |true=>
   have Pg:kv=e.key:=JD.1 rfl;have hq:gI K k x=true:=C5.2 Pg.symm;refine .inr ⟨0,e,y,by simp[akk,hr],rfl,Pg.symm,by simp[gN,hq],h2,fun H' F' w' y' f hf hH hs hv=>?_⟩;refine⟨k,y',l',by simp[lY,hq],?_,hv,h3.keep hH hs⟩
   show nO K k=some (f e).key
   rw[hf,h1,Pg]
  |false=>
   have bN:¬e.key=kv:=fun q=>by have:=JD.2 q.symm;cases this
   have hq:¬gI K k x=true:=fun q=>bN (C5.1 q)
   rcases sy hK hx (i+1) h3 with⟨a1,a2,a3,a4⟩|⟨j,e',z,a1,a2,a3,a4,a5,a6⟩
   .refine .inl ⟨by simp[akk,hr,a1],by simp[gN,hq,a2],fun e' he'=>?_,fun H' F' w' y' e' he' hH hs hv=>?_⟩
    .rcases ajq.1 he' with rfl|he'
     .exact bN
     .exact a3 e' he'
    .exact⟨k,y,_,by simp[lY,hq],h1,h2.keep hH hs,a4 H' F' w' y' e' he' hH hs hv⟩
   .refine .inr ⟨j+1,e',z,by simp[akk,hr,a1];omega,by simpa using a2,a3,by simp[gN,hq,a4],a5,fun H' F' w' y' f hf hH hs hv=>?_⟩;refine⟨k,y,_,by simp[lY,hq],?_,?_,a6 H' F' w' y' f hf hH hs hv⟩
    .exact h1
    .exact h2.keep hH hs
noncomputable def asKey(ob:Nat->Option (Nat×Th))(K:Row):ak->Option K.den
 | .val false t=>flat ob K t
 |_=>none
theorem ri(hs:au U H F w ob n){K:Row}{D:ak}{x:K.den}{v:Value}(h:asKey ob K D=some x)(hd:ai H F w D v):cA F w K [v] x:=by
 unfold asKey at h;split at h
 .obtain⟨cs,h1,_,h3⟩:=hd;rw[h3 rfl]at h1;exact im hs h h1
 .cases h
def JE(ob:Nat->Option (Nat×Th)):ak->Option (Nat×Nat×Th)
 | .val false (.own o)=>match ob o with
   |some (s, .map T K agg V l)=>some (o,s, .map T K agg V l)
   |_=>none
 |_=>none
theorem JF(hs:au U H F w ob n){D:ak}{o s:Nat}{t:Th}{v:Value}(h:JE ob D=some (o,s,t))(hd:ai H F w D v):∃T K agg V l b es clock,t= .map T K agg V l/\ob o=some (s,t)/\H.val o=some v/\v= .map (some b)/\
 w.heap[b]? =some (.map es clock)/\Stamped es clock/\lD H F w K agg V es.toList l:=by
 unfold JE at h;split at h
 .rename_i o';split at h
  .rename_i s' T K agg V l cC;simp only[ajg,aj3]at h;obtain⟨rfl,rfl,rfl⟩:=h;obtain⟨cs,⟨u,hu,_,e⟩,_,h3⟩:=hd;rw[h3 rfl]at e
   obtain rfl:v=u:=by simpa using e
   obtain⟨v',di,cc⟩:=hs.obj _ _ _ cC;rw[hu]at di;obtain rfl:=ai4 di;obtain⟨b,es,clock,e,h1,h2,h3⟩:=cc.ok;exact⟨T,K,agg,V,l,b,es,clock,rfl,cC,hu,e,h1,h2,h3⟩
  .cases h
 .cases h
def np(T:bc P)(n:Nat)(t:TypeId)(k:dN->Option R):Option R:=
 match find T.und t with
 |some (.map kt vt)=>match find T.row kt with
  |some K=>match find T.row vt with
   |some V=>match find T.und vt with
    |some kk=>k {dst:= .val false (.own n),make:=[(n,(n, .map t K (kA kk) V []))]}
    |none=>none
   |none=>none
  |none=>none
 |_=>none
theorem AI(T:bc P){t:TypeId}{k:dN->Option R}{q:R}(h:np T n t k=some q)(hs:au U H F w ob n):
 ∃e,k e=some q/\cD P U H F w ρ ob n ⟨some d, .makeMap t none,ty,pos,aft,none⟩ e:=by
 unfold np at h;split at h
 case h_2=>cases h
 split at h
 case h_2=>cases h
 rename_i K _;split at h
 case h_2=>cases h
 rename_i V _;split at h
 case h_2=>cases h
 rename_i kk _
 have bx:(execOp (ev ρ) ⟨some d, .makeMap t none,ty,pos,aft,none⟩).run P w= .ok (.value (.map (some w.heap.size))) (w.alloc (.map #[] 0)):=by
  simp[execOp,Instr.makeMap,ajI]
 refine⟨_,h,cd.val bx ?_⟩
 have hv:((H.bz n (.map t K (kA kk) V [])).cq n (.map (some w.heap.size))).val n=some (.map (some w.heap.size)):=by simp[ao.cq]
 refine lU.new (v0:= .map (some w.heap.size)) hs rfl rfl (pt _) ⟨_, #[],0,rfl,(heap_alloc w _).1,stamped_empty 0,rfl⟩ (fun k hk=>?_) (mC hv rfl);simp only[fp,Value.map.injEq,ajg]at hk;subst hk;exact⟨fun e=>by have:=hs.lt _ e;omega,by simp, .inl (ai8 _)⟩
noncomputable def jc(T:bc P)(ob:Nat->Option (Nat×Th))(n:Nat)(t:TypeId)(M X Y:ak)(k:dN->Option R):Option R:=
 match find T.und t with
 |some (.map kt _)=>match JE ob M with
  |some (o,_, .map T0 K agg V l)=>bif vb T kt K then(match asKey ob K X with
   |some x=>match Y with
    | .val la tr=>bif (bif agg then la else !la)then(match flat ob V tr with
      |some y=>k {dst:= .dead,eat:=[o],make:=[(o,(n, .map T0 K agg V (lY K l x y)))]}
      |none=>none)else none
    |_=>none
   |none=>none)else none
  |_=>none
 |_=>none
theorem nq{V9 kt et:TypeId}{dd:TypeDesc}{b clock:Nat}{es:Array MapEntry}{key val:Value}(hm:P.underlying V9=some (.map kt et))(hd:P.underlying kt=some dd)(hb:w.heap[b]? =some (.map es clock))(hk:IsKey dd key):
 (akk dd key es.toList 0=some none->(akN V9 (.map (some b)) key val).run P w= .ok () {w with heap:=w.heap.setIfInBounds b (.map (es.push {key,val,born:=clock}) (clock+1))})/\
 (∀j e,akk dd key es.toList 0=some (some (j,e))->((es[j]?).map (·.key)).getD key=key->(akN V9 (.map (some b)) key val).run P w= .ok () {w with heap:=w.heap.setIfInBounds b (.map (es.modify j fun e=>{e with key,val}) clock)}):=by
 refine⟨fun h1=>?_,fun j e h1 h2=>?_⟩
 .simp[akN,run_underlying hm,aks hb,ako hd hk,akt hd h1,MapKept.run_setObj_map _ hb,ajI]
 .simp[akN,run_underlying hm,aks hb,ako hd hk,akt hd h1,h2,run_keyThatStays hk,MapKept.run_setObj_map _ hb,ajI]
theorem p9(T:bc P){t:TypeId}{M X Y:ak}{m x y:Operand}{k:dN->Option R}{q:R}(h:jc T ob n t M X Y k=some q)(hs:au U H F w ob n)(hm:ai H F w M (ev ρ m))(hx:ai H F w X (ev ρ x))(hy:ai H F w Y (ev ρ y)):
 ∃e,k e=some q/\cD P U H F w ρ ob n ⟨none, .mapUpdate t m x y,ty,pos,aft,none⟩ e:=by
 unfold jc at h;split at h
 case h_2=>cases h
 rename_i kt vt hu;split at h
 case h_2=>cases h
 rename_i o s T0 K agg V l GQ;obtain⟨hk,h'⟩:=aD h;clear h;split at h'
 case h_2=>cases h'
 rename_i a ha;split at h'
 case h_2=>cases h'
 rename_i la tr;obtain⟨wY,h⟩:=aD h';clear h'
 have wY:agg=la:=by cases agg<;>cases la<;>simp_all
 subst wY;split at h
 case h_2=>cases h
 rename_i b hb;refine⟨_,h,?_⟩;obtain⟨dd,hd,hK,hR⟩:=rf (F:=F) (w:=w) T hk;obtain⟨T1,K1,adK,V1,l1,r,es,clock,e0,cC,hv,tA,hh,eB,GY⟩:=JF hs GQ hm;cases e0;have sz:=hR _ _ (ri hs ha hx)
 have kK:aE H F w agg (.leaf V b) (ev ρ y):=by
  obtain⟨cs,h1,h2⟩:=hy;exact⟨cs,im hs hb h1,h2⟩
 have adL:r<w.heap.size:=(aj0.1 hh).1
 have fin:∀o',(akN t (.map (some r)) (ev ρ x) (ev ρ y)).run P w= .ok () {w with heap:=w.heap.setIfInBounds r o'}->
  (∀w',(∀k,k≠r->w'.heap[k]? =w.heap[k]?)->∃mw mW,o'= .map mw mW/\Stamped mw mW/\lD (H.bz n (.map T0 K agg V (lY K l a b))) F w' K agg V mw.toList (lY K l a b))->
  cD P U H F w ρ ob n ⟨none, .mapUpdate t m x y,ty,pos,aft,none⟩ {dst:= .dead,eat:=[o],make:=[(o,(n, .map T0 K agg V (lY K l a b)))]}:=by
  intro o' bx Ph;refine cd.unit (w':={w with heap:=w.heap.setIfInBounds r o'}) ?_ ?_
  .simp[execOp,tA,bx,ajI]
  .have sA:∀k,k≠r->(w.heap.setIfInBounds r o')[k]? =w.heap[k]? :=(heap_set hh).2;obtain⟨mw,mW,rfl,g1,g2⟩:=Ph {w with heap:=w.heap.setIfInBounds r o'} sA;refine lU.yH (t':= .map T0 K agg V (lY K l a b)) (w':={w with heap:=w.heap.setIfInBounds r (.map mw mW)}) hs cC hv rfl (fun k hk=>hk) ⟨rfl,rfl,rfl,by simp,fun k hk hn=>sA k fun e=>hn (by subst e;exact tA)⟩ ⟨r,mw,mW,tA,(heap_set hh).1,g1,g2⟩ trivial
 have Mw:H.le (H.bz n (.map T0 K agg V (lY K l a b))):=ao.fI (hs.fresh n (ai8 _) (by omega)).2
 have kD:∀w':World,(∀k,k≠r->w'.heap[k]? =w.heap[k]?)->Step F w F w':=by
  intro w' hw b hb;refine⟨hb,hw b fun e=>?_⟩;subst e;obtain⟨v',di,cc⟩:=hs.obj _ _ _ cC;rw[hv]at di;obtain rfl:=ai4 di;exact cc.no b tA hb
 obtain⟨r1,r2⟩:=nq (val:=ev ρ y) (T.und_ok _ _ hu) hd hh (hK _ _ sz)
 rcases sy hK sz 0 GY with⟨a1,a2,a3,a4⟩|⟨j,e,z,a1,a2,a3,a4,a5,a6⟩
 .refine fin _ (r1 a1) fun w' hw=>⟨_,_,rfl,stamped_push eB a3,?_⟩
  rw[Array.toList_push];exact a4 _ F w' b _ rfl Mw (kD w' hw) (kK.keep Mw (kD w' hw))
 .rw[ajC]at a1
  have hj:es[j]? =some e:=by simpa using a2
  refine fin _ (r2 j _ a1 (by rw[hj];exact a3)) fun w' hw=>⟨_,_,rfl,stamped_modify eB _ _ (fun _ _=>rfl) (fun e' _ he'=>?_),?_⟩
  .rw[hj]at he';cases he';exact a3.symm
  .rw[Array.toList_modify];exact a6 _ F w' b _ rfl Mw (kD w' hw) (kK.keep Mw (kD w' hw))
theorem JG{t:TypeId}{agg:Bool}{V:Row}(h:Jp P t agg V)(h1:agg=false->V.size=1):∃z,(zeroValue t).run P w= .ok z w/\aE H F w agg (.leaf V V.zero) z:=by
 obtain⟨z,hz,e⟩:=h
 cases hi:P.info? t with
 |none=>rw[hi]at hz;cases hz
 |some ti=>
  rw[hi]at hz;refine⟨z,?_,V.eA,cA.zero F w V,e,fun ha=>?_⟩
  .have hz':ti.zero=some z:=hz;simp[zeroValue,typeInfo,hi,hz',ajI]
  .have hl:V.eA.length=V.size:=(cA.zero F w V).length;rw[h1 ha]at hl;subst ha;rw[cond_false]at e
   match hv:V.eA,hl with
   |[u],_=>rw[hv]at e;rw[e];rfl
theorem E3{K:Row}{agg:Bool}{V:Row}:{es:List MapEntry}->{l:List (K.den×V.den)}->es.length=l.length->(∀i(h:i<l.length),∃(e:MapEntry)(cs:List Value),es[i]? =some e/\nO K l[i].1=some e.key/\cA F w V cs l[i].2/\e.val=(bif agg then .agg cs.toArray else cs.headD undef)/\(agg=false->cs=[e.val]))->lD H F w K agg V es l
 |[],[],_,_=>rfl
 |[],_::_,h,_=>by cases h
 |_::_,[],h,_=>by cases h
 |e::es,(k,x)::l,hl,h=>by
  obtain⟨e',cs,h1,h2,h3,h4,h5⟩:=h 0 (by simp)
  obtain rfl:e=e':=by simpa using h1
  exact⟨k,x,l,rfl,h2,⟨cs,h3,h4,h5⟩,E3 (by simpa using hl) fun i hi=>by
   obtain⟨e',qZ,q1,q2,q3,q4⟩:=h (i+1) (by simpa using hi)
   exact⟨e',qZ,by simpa only[List.getElem?_cons_succ]using q1,q2,q3,q4⟩⟩
theorem E4{K:Row}{agg:Bool}{V:Row}:{es:List MapEntry}->{l:List (K.den×V.den)}->lD H F w K agg V es l->es.length=l.length/\∀i(h:i<l.length),∃(e:MapEntry)(cs:List Value),es[i]? =some e/\nO K l[i].1=some e.key/\cA F w V cs l[i].2/\e.val=(bif agg then .agg cs.toArray else cs.headD undef)/\(agg=false->cs=[e.val])
 |[],l,h=>by obtain rfl:l=[]:=h;exact⟨rfl,fun i h=>by simp at h⟩
 |e::es,l,h=>by
  obtain⟨k,x,l',rfl,h1,⟨cs,h2,h3,h4⟩,h5⟩:=h;obtain⟨g1,g2⟩:=E4 h5;refine⟨by simp[g1],fun i hi=>?_⟩
  cases i with
  |zero=>exact⟨e,cs,rfl,h1,h2,h3,h4⟩
  |succ i=>
   obtain⟨e',qZ,q1,q2,q3,q4⟩:=g2 i (by simpa using hi);exact⟨e',qZ,by simpa only[List.getElem?_cons_succ]using q1,q2,q3,q4⟩
structure SA where
 K:Row
 agg:Bool
 V:Row
 l:List (K.den×V.den)
def Dh(ob:Nat->Option (Nat×Th)):ak->Option SA
 | .val false (.leaf (.map K agg V) l)=>some ⟨K,agg,V,l⟩
 | .val false (.own o)=>match ob o with
   |some (_, .map _ K agg V l)=>some ⟨K,agg,V,l⟩
   |some (_, .fmap _ K agg V l)=>some ⟨K,agg,V,l⟩
   |some (_, .fdmap _ K _ r l)=>some ⟨K,false, .slice r,l⟩
   |_=>none
 |_=>none
theorem yK{K:Row}{agg:Bool}{V:Row}{l:List (K.den×V.den)}{v:Value}(h:cA F w (.map K agg V) [v] l):(v= .map none/\l=[])\/∃b es clock,v= .map (some b)/\w.heap[b]? =some (.map es clock)/\Stamped es clock/\lD H F w K agg V es.toList l:=by
 obtain⟨u,e,h⟩:=h
 obtain rfl:v=u:=by simpa using e
 refine h.imp id fun⟨b,es,clock,h1,h2,h3,h4,h5,h6⟩=>⟨b,es,clock,h1,h3,h4,E3 (by simpa using h5) fun i hi=>by simpa using h6 i hi⟩
theorem GZ(hs:au U H F w ob n){D:ak}{m:SA}{v:Value}(h:Dh ob D=some m)(hd:ai H F w D v):(v= .map none/\m.l=[])\/∃b es clock,v= .map (some b)/\w.heap[b]? =some (.map es clock)/\Stamped es clock/\lD H F w m.K m.agg m.V es.toList m.l:=by
 unfold Dh at h;split at h
 .cases h;exact yK hd.inv
 .rename_i o;obtain⟨cs,⟨u,hu,_,e⟩,_,h3⟩:=hd;rw[h3 rfl]at e
  obtain rfl:v=u:=by simpa using e
  split at h
  .rename_i s T K agg V l cC;cases h;obtain⟨v',di,cc⟩:=hs.obj _ _ _ cC;rw[hu]at di;obtain rfl:=ai4 di;obtain⟨b,es,clock,e,h1,h2,h3⟩:=cc.ok;exact .inr ⟨b,es,clock,e,h1,h2,h3⟩
  .rename_i s T K agg V l cC;cases h;obtain⟨v',di,cc⟩:=hs.obj _ _ _ cC;rw[hu]at di;obtain rfl:=ai4 di;exact yK cc.ok
  .rename_i s T K E r l cC;cases h;obtain⟨v',di,cc⟩:=hs.obj _ _ _ cC;rw[hu]at di;obtain rfl:=ai4 di;exact yK (K:=K) (agg:=false) (V:= .slice r) cc.ok
  .cases h
 .cases h
noncomputable def nV(T:bc P)(ob:Nat->Option (Nat×Th))(t:TypeId)(ok:Bool)(M X:ak)(k:dN->Option R):Option R:=
 match find T.und t with
 |some (.map kt vt)=>match Dh ob M with
  |some ⟨K,agg,V,l⟩=>match find T.zer vt with
   |some (la,V')=>bif vb T kt K&&(bif agg then la else !la)&&V'.beq V&&(agg||aje V.size 1)then(match asKey ob K X with
    |some x=>bif ok then k {dst:= .tup [(agg, .leaf V ((gN K l x).getD V.zero)),(false, .leaf .bool (gN K l x).isSome)]}
     else k {dst:= .val agg (.leaf V ((gN K l x).getD V.zero))}
    |none=>none)else none
   |none=>none
  |none=>none
 |_=>none
theorem vc(T:bc P){t:TypeId}{ok:Bool}{M X:ak}{m x:Operand}{k:dN->Option R}{q:R}(h:nV T ob t ok M X k=some q)(hs:au U H F w ob n)(hm:ai H F w M (ev ρ m))(hx:ai H F w X (ev ρ x)):
 ∃e,k e=some q/\cD P U H F w ρ ob n ⟨some d, .lookup t m x ok,ty,pos,aft,none⟩ e:=by
 unfold nV at h;split at h
 case h_2=>cases h
 rename_i kt vt hu;split at h
 case h_2=>cases h
 rename_i K agg V l GQ;split at h
 case h_2=>cases h
 rename_i la V' hz;obtain⟨hc,h'⟩:=aD h;clear h;obtain⟨hc,RF⟩:=cO hc;obtain⟨hc,JH⟩:=cO hc;obtain⟨Aq,uo⟩:=cO hc
 have wY:agg=la:=by cases agg<;>cases la<;>simp_all
 subst wY;obtain rfl:=Row.eq_of_beq JH;split at h'
 case h_2=>cases h'
 rename_i a ha;obtain⟨dd,hd,hK,hR⟩:=rf (F:=F) (w:=w) T Aq;have sz:=hR _ _ (ri hs ha hx)
 have kz:agg=false->V'.size=1:=fun e=>by subst e;exact beq_true (by simpa using RF)
 obtain⟨z,wW,CI⟩:=JG (w:=w) (H:=H) (F:=F) (T.zer_ok _ _ _ hz) kz
 have main:∃v,(Instr.lookup t (ev ρ m) (ev ρ x) ok).run P w= .ok (if ok then .tuple #[v, .bool (gN K l a).isSome]else v) w/\aE H F w agg (.leaf V' ((gN K l a).getD V'.zero)) v:=by
  have G0:=hK _ _ sz;have AJ:=T.und_ok _ _ hu
  rcases GZ hs GQ hm with⟨tA,hl⟩|⟨r,es,clock,tA,hh,eB,GY⟩
  .dsimp only at hl;subst hl;refine⟨z,?_,CI⟩;rw[tA];have hf:=akt (w:=w) hd (show akk dd (ev ρ x) [] 0=some none from rfl)
   cases ok<;>simp[Instr.lookup,run_underlying AJ,ako hd G0,hf,wW,gN,ajI]
  .dsimp only at GY
   rcases sy hK sz 0 GY with⟨a1,a2,_⟩|⟨j,e,y,a1,_,_,a4,a5,_⟩
   .refine⟨z,?_,by rw[a2];exact CI⟩;rw[tA,a2];simp[Instr.lookup,run_underlying AJ,aks hh,ako hd G0,akt hd a1,wW,ajI]
   .refine⟨e.val,?_,by rw[a4];exact a5⟩;rw[tA,a4];simp[Instr.lookup,run_underlying AJ,aks hh,ako hd G0,akt hd a1,ajI]
 obtain⟨v,bx,my⟩:=main
 cases ok with
 |true=>
  refine⟨_,h',bP hs (v:= .tuple #[v, .bool (gN K l a).isSome]) (by simp[execOp,bx,ajI]) ⟨[v, .bool (gN K l a).isSome],rfl,_,_,rfl,my,_,_,rfl,aE.fT ..,rfl⟩⟩
 |false=>exact⟨_,h',bP hs (v:=v) (by simp[execOp,bx,ajI]) my⟩
def kF(s:ByteArray)(i:Int):Option Int:=(if 0<=i then s[i.toNat]? else none).map fun b=>(b.toNat:Int)
theorem AK{e:Row}:{m:Nat}->{r:Row}->{x:r.den}->{l:List e.den}->{cs:List Value}->lu m r x e=some l->cA F w r cs x->l.length=m/\cs.length=m*e.size/\∀i(h:i<l.length),cA F w e ((cs.drop (i*e.size)).take e.size) l[i]
 |0,r,x,l,cs,h,_=>by unfold lu at h;cases h
 |1,r,x,l,cs,h,ha=>by
  unfold lu at h;split at h
  case isFalse=>cases h
  rename_i hb;obtain rfl:=Row.eq_of_beq hb;obtain rfl:=ai4 h;have hl:=ha.length;refine⟨rfl,by simp[hl],fun i hi=>?_⟩
  obtain rfl:i=0:=by simp at hi;omega
  rw[Nat.zero_mul,List.drop_zero,<-hl,aju];exact ha
 |m+2, .pair a b,x,l,cs,h,ha=>by
  unfold lu at h;split at h
  case isFalse=>cases h
  rename_i hb;obtain rfl:=Row.eq_of_beq hb;split at h
  case h_2=>cases h
  rename_i l' hl;obtain rfl:=ai4 h;obtain⟨c1,c2,rfl,h1,h2⟩:=ha;have IB:=h1.length;obtain⟨g1,g2,g3⟩:=AK hl h2;refine⟨by simp[g1],by rw[ai6,IB,g2,show m+2=(m+1)+1 from rfl,aj4 (m+1) 1,Nat.one_mul];omega,fun i hi=>?_⟩
  cases i with
  |zero=>
   rw[Nat.zero_mul,List.drop_zero,ajy (by omega),<-IB,aju];exact h1
  |succ i=>
   have:=g3 i (by simpa using hi);rw[show(i+1)*a.size=c1.length+i*a.size from by rw[aj4];omega,<-List.drop_drop,List.drop_left];exact this
 |m+2, .int _,_,_,_,h,_=>by unfold lu at h;cases h
 |m+2, .bool,_,_,_,h,_=>by unfold lu at h;cases h
 |m+2, .str,_,_,_,h,_=>by unfold lu at h;cases h
 |m+2, .slice _,_,_,_,h,_=>by unfold lu at h;cases h
 |m+2, .jJ,_,_,_,h,_=>by unfold lu at h;cases h
 |m+2, .nul _,_,_,_,h,_=>by unfold lu at h;cases h
 |m+2, .map ..,_,_,_,h,_=>by unfold lu at h;cases h
def pw(T:bc P)(ob:Nat->Option (Nat×Th))(t:TypeId)(D:ak)(i:Int)(k:dN->Option R):Option R:=
 match find T.und t with
 |some .str=>match As D with
  |some s=>(kF s i).bind fun c=>k {dst:=lV .u8 c}
  |none=>none
 |some (.array m e)=>match find T.row t with
  |some r=>match find T.row e with
   |some re=>match find T.und e with
    |some kk=>match D with
     | .val true tr=>match flat ob r tr with
       |some x=>match lu m r x re with
        |some l=>bif kA kk||aje re.size 1 then(idx l i).bind fun y=>k {dst:= .val (kA kk) (.leaf re y)}else none
        |none=>none
       |none=>none
     |_=>none
    |none=>none
   |none=>none
  |none=>none
 |_=>none
theorem Di(T:bc P){t:TypeId}{D:ak}{x y:Operand}{kd:IntKind}{i:Int}{k:dN->Option R}{q:R}(h:pw T ob t D i k=some q)(hs:au U H F w ob n)(hx:ai H F w D (ev ρ x))(hy:ev ρ y= .int kd i):
 ∃e,k e=some q/\cD P U H F w ρ ob n ⟨some d, .index t x y,ty,pos,aft,none⟩ e:=by
 unfold pw at h;split at h
 .rename_i hu;have hu:=T.und_ok _ _ hu;split at h
  case h_2=>cases h
  rename_i s hS;obtain⟨c,hc,hk⟩:=bind_some h;have hv:=uU hS hx;unfold kF at hc;obtain⟨b,hb,rfl⟩:=Option.map_eq_some_iff.1 hc;refine⟨_,hk,bP hs (v:= .int .u8 b.toNat) ?_ (aE.ju ..)⟩;have AJ:P.underlying t=some .string:=hu;simp[execOp,Instr.index,asIntOf,run_underlying AJ,hv,hy,hb]
 .rename_i m e hu;have hu:P.underlying t=some (.array m e):=T.und_ok _ _ hu;split at h
  case h_2=>cases h
  rename_i r hr;split at h
  case h_2=>cases h
  rename_i re V4;split at h
  case h_2=>cases h
  rename_i kk C5;split at h
  case h_2=>cases h
  rename_i tr;split at h
  case h_2=>cases h
  rename_i z hz;split at h
  case h_2=>cases h
  rename_i l hl;obtain⟨hag,h'⟩:=aD h;clear h;obtain⟨a,ha,hk⟩:=bind_some h';obtain⟨cs,hh,hv,_⟩:=hx;rw[cond_true]at hv;obtain⟨g1,g2,g3⟩:=AK hl (im hs hz hh);obtain⟨j,hj,al,rfl⟩:=fG ha;obtain⟨ti,z0,h1,_,_,h4,_⟩:=T.row_ok _ _ V4;obtain⟨dd,wQ,xy⟩:=(T.und_ok _ _ C5).agg;have wZ:=g3 j al
  have kz:(j+1)*re.size<=cs.length:=by rw[g2];exact ajw _ (by omega)
  rw[aj4]at kz;refine⟨_,hk,?_⟩
  cases wY:kA kk with
  |true=>
   refine bP hs (v:= .agg ((cs.drop (j*re.size)).take re.size).toArray) ?_ ⟨_,wZ,rfl,by simp⟩;subst hj;simp[execOp,Instr.index,asIntOf,run_underlying hu,hv,hy,show j<m by omega,part,ajx,eY wQ,xy,wY,sizeOf,typeInfo,h1,h4,List.extract_eq_take_drop]
  |false=>
   rw[wY,Bool.false_or]at hag;have k8:=beq_true hag;have hlen:=wZ.length;rw[k8,Nat.mul_one]at wZ kz;rw[k8]at hlen
   obtain⟨v,xD⟩:∃v,(cs.drop j).take 1=[v]:=by
    match hq:(cs.drop j).take 1,xH:((cs.drop j).take 1).length with
    |[v],_=>exact⟨v,rfl⟩
    |[],_=>rw[Nat.mul_one,hq]at hlen;cases hlen
    |_::_::_,_=>rw[Nat.mul_one,hq]at hlen;cases hlen
   rw[xD]at wZ
   have Gt:cs[j]? =some v:=by
    have:(cs.drop j)[0]? =some v:=by
     have h0:((cs.drop j).take 1)[0]? =some v:=by rw[xD];rfl
     rwa [List.getElem?_take_of_lt (by omega)]at h0
    simpa using this
   refine bP hs (v:=v) ?_ (aE.mA wZ);subst hj;simp[execOp,Instr.index,asIntOf,run_underlying hu,hv,hy,show j<m by omega,part,ajx,eY wQ,xy,wY,sizeOf,typeInfo,h1,h4,k8,Gt]
 .cases h
end
end Go.Proofs.YtilaieogabgamaaGreatDoor
end
section
open _root_.Nat renaming beq->aje,le_refl->ai8,lt_of_lt_of_le->ajJ
open _root_.Option renaming isSome_iff_exists->ajH
open _root_.Option.some renaming inj->ai4,injEq->ajg
open _root_.Prod.mk renaming inj->akx,injEq->aj3
namespace Go.Proofs.YtilaieogabgamaaGreatDoor
open Go Go.RowKit
def G1(T:TypeId):(e:DR)->List e.row.den->Th
 | .leaf r,y=> .own T r y
 | .sl T' e,y=> .deep T (.sl T' e) y none
 | .pair a b,y=> .deep T (.pair a b) y none
section
variable {P:Program} {ρ:Nat->Value} {w w':World} {H H':ao} {F F':Nat->Prop} {U:Nat->Prop} {ob:Nat->Option (Nat×Th)} {n:Nat} {R:Type}
variable {op:Op} {ty:TypeId} {pos:String} {aft:Array Edge} {d:Nat}
theorem vd(T:TypeId)(e:DR)(y:List e.row.den):(G1 T e y).base=G1 T e y:=by cases e<;>rfl
theorem sC{T:TypeId}{e:DR}{u:Value}{y:List e.row.den}{A:Nat->Prop}(h:jH F w (.sl T e) u y A):il H F w A u (G1 T e y)/\(∀k,fp A u (G1 T e y) k->A k)/\u.oneCell'=true:=by
 obtain⟨lh,Ss,h1,h2,h3,h4⟩:=h;have k8:=h1.one
 cases e with
 |leaf r=>
  have hl:lh=y:=List.ext_getElem h2 fun i a b=>(h3 i a b).1
  subst hl;exact⟨h1,fun k hk=>h4.bm k hk,k8⟩
 |sl T' e=>exact⟨⟨lh,Ss,h1,h2,h3,h4⟩,fun k hk=>hk,k8⟩
 |pair a b=>exact⟨⟨lh,Ss,h1,h2,h3,h4⟩,fun k hk=>hk,k8⟩
theorem vf{T:TypeId}{e:DR}{u:Value}{y:List e.row.den}{A:Nat->Prop}(h:il H F w A u (G1 T e y)):jH F w (.sl T e) u y (fun k=>fp A u (G1 T e y) k):=by
 cases e with
 |leaf r=>
  have h':jG F w T r u y:=h;refine⟨y,fun _ _=>False,h',rfl,fun i a b=>⟨rfl,fun _ h=>h⟩,⟨fun k=>?_,fun _ _ _ _ _ _ h=>h.elim,fun _ _ _ h=>h.elim⟩⟩
  show bm u k↔_
  simp
 |sl T' e=>exact h
 |pair a b=>exact h
theorem uz{d:DR}{r:Row}(q:fB d (.leaf r)){x':d.low.den}{x:d.row.den}{S:Nat->Prop}(h:jH F w d x' x S):q.lo.get x'=q.hi.get x:=by
 obtain⟨A,B,h1,_⟩:=h.out q;exact h1.1
theorem vg:{d e:DR}->{T:TypeId}->{r:Row}->(p:fB d (.sl T e))->(q:fB d (.leaf r))->{x':d.low.den}->{x:d.row.den}->{S:Nat->Prop}->lp F w p x' x S->q.lo.get x'=q.hi.get x
 |_,_,_,_, .fst p, .fst q,_,_,_,h=>by obtain⟨A,B,h1,_⟩:=h;exact vg p q h1
 |_,_,_,_, .fst p, .snd q,_,_,_,h=>by obtain⟨A,B,_,h2,_⟩:=h;exact uz q h2
 |_,_,_,_, .snd p, .fst q,_,_,_,h=>by obtain⟨A,B,h1,_⟩:=h;exact uz q h1
 |_,_,_,_, .snd p, .snd q,_,_,_,h=>by obtain⟨A,B,_,h2,_⟩:=h;exact vg p q h2
theorem JI{d:DR}{h:Option uP}{i:Nat}{x':d.low.den}{x:d.row.den}{S:Nat->Prop}{r:Row}(q:fB d (.leaf r))(hr:nT H F w d h i x' x S):q.lo.get x'=q.hi.get x:=by
 cases h with
 |none=>exact uz q hr
 |some h=>
  by_cases hi:h.i=(i:Int)
  .obtain⟨T',e,p,_,h2,_⟩:=hr.2 hi;exact vg p q h2
  .exact uz q (hr.1 hi)
theorem rk{d:DR}{r:Row}(q:fB d (.leaf r)){x':d.low.den}{x:d.row.den}{S:Nat->Prop}(y:r.den)(h:jH F w d x' x S):jH F w d (q.lo.set x' y) (q.hi.set x y) S:=by
 obtain⟨A,B,h1,h2,h3⟩:=h.out q;exact h2.put q (y':=y) (A:=A) ⟨rfl,h1.2⟩ h3
theorem sD:{d e:DR}->{T:TypeId}->{r:Row}->(p:fB d (.sl T e))->(q:fB d (.leaf r))->{x':d.low.den}->{x:d.row.den}->{S:Nat->Prop}->(y:r.den)->lp F w p x' x S->lp F w p (q.lo.set x' y) (q.hi.set x y) S/\p.lo.get (q.lo.set x' y)=p.lo.get x'
 |_,_,_,_, .fst p, .fst q,_,_,_,y,h=>by
  obtain⟨A,B,h1,h2,h3⟩:=h;obtain⟨g1,g2⟩:=sD p q y h1;exact⟨⟨A,B,g1,h2,h3⟩,g2⟩
 |_,_,_,_, .fst p, .snd q,_,_,_,y,h=>by
  obtain⟨A,B,h1,h2,h3⟩:=h;exact⟨⟨A,B,h1,rk q y h2,h3⟩,rfl⟩
 |_,_,_,_, .snd p, .fst q,_,_,_,y,h=>by
  obtain⟨A,B,h1,h2,h3⟩:=h;exact⟨⟨A,B,rk q y h1,h2,h3⟩,rfl⟩
 |_,_,_,_, .snd p, .snd q,_,_,_,y,h=>by
  obtain⟨A,B,h1,h2,h3⟩:=h;obtain⟨g1,g2⟩:=sD p q y h2;exact⟨⟨A,B,h1,g1,h3⟩,g2⟩
theorem G2{d:DR}{h:Option uP}{i:Nat}{x':d.low.den}{x:d.row.den}{S:Nat->Prop}{r:Row}(q:fB d (.leaf r))(y:r.den)(hr:nT H F w d h i x' x S):nT H F w d h i (q.lo.set x' y) (q.hi.set x y) S:=by
 cases h with
 |none=>exact rk q y hr
 |some h=>
  refine⟨fun hi=>rk q y (hr.1 hi),fun hi=>?_⟩;obtain⟨T',e,p,h1,h2,h3⟩:=hr.2 hi;obtain⟨g1,g2⟩:=sD p q y h2;exact⟨T',e,p,h1,g1,by rw[g2];exact h3⟩
theorem au.low(hs:au U H F w ob n){o s:Nat}{T:TypeId}{dr:DR}{l:List dr.row.den}{h:Option uP}(ho:ob o=some (s, .deep T dr l h)){v:Value}(hv:H.val o=some v):
 ∃(lh:List dr.low.den)(Ss:Nat->Nat->Prop),iE 0 F w T dr.low v lh/\lh.length=l.length/\(∀i(h1:i<lh.length)(h2:i<l.length),nT H F w dr h i lh[i] l[i] (Ss i))/\ni Ss l.length (bm v) (H.sub s):=by
 obtain⟨v',di,cc⟩:=hs.obj _ _ _ ho;rw[hv]at di;obtain rfl:=ai4 di;obtain⟨lh,Ss,h1,h2,h3,h4⟩:=cc.ok;exact⟨lh,Ss,⟨fun k hk=>cc.no k (h4.bm k hk),h1⟩,h2,h3,h4⟩
theorem Path.yL:{r s:Row}->(p:Path r s)->(x:r.den)->(y:s.den)->p.get (p.set x y)=y
 |_,_, .here,_,_=>rfl
 |_,_, .fst p,x,y=>Path.yL p x.1 y
 |_,_, .snd p,x,y=>Path.yL p x.2 y
theorem lp.JJ:{d e:DR}->(p:fB d e)->{x':d.low.den}->{x:d.row.den}->{S:Nat->Prop}->(y':e.low.den)->lp F w p x' x S->lp F w p (p.lo.set x' y') x S
 |_,_, .here,_,_,_,_,h=>h
 |_,_, .fst p,_,_,_,y',h=>by
  obtain⟨A,B,h1,h2,h3⟩:=h;exact⟨A,B,h1.JJ p y',h2,h3⟩
 |_,_, .snd p,_,_,_,y',h=>by
  obtain⟨A,B,h1,h2,h3⟩:=h;exact⟨A,B,h1,h2.JJ p y',h3⟩
def qw(m:Nat->Prop)(Ss:Nat->Nat->Prop)(c:Nat)(k:Nat):Prop:=m k\/∃i,i<c/\Ss i k
theorem ni.less{Ss:Nat->Nat->Prop}{c:Nat}{m S:Nat->Prop}(h:ni Ss c m S)(j:Nat){B:Nat->Prop}(hB:∀k,B k->Ss j k):ni (fun i=>if i=j then B else Ss i) c m (qw m (fun i=>if i=j then B else Ss i) c):=by
 have sub:∀i k,(if i=j then B else Ss i) k->Ss i k:=by
  intro i k hk;by_cases e:i=j
  .subst e;rw[if_pos rfl]at hk;exact hB k hk
  .rwa [if_neg e]at hk
 exact⟨fun k=>Iff.rfl,fun i i' k h1 h2 bN h3 h4=>h.two i i' k h1 h2 bN (sub i k h3) (sub i' k h4),fun i k h1 h2=>h.out i k h1 (sub i k h2)⟩
theorem ni.AL{Ss:Nat->Nat->Prop}{c:Nat}{m S:Nat->Prop}(h:ni Ss c m S)(j:Nat){B:Nat->Prop}(hB:∀k,B k->Ss j k):∀k,qw m (fun i=>if i=j then B else Ss i) c k->S k:=by
 rintro k (hk|⟨i,hi,hk⟩)
 .exact h.bm k hk
 .by_cases e:i=j
  .subst e;rw[if_pos rfl]at hk;exact h.part hi k (hB k hk)
  .rw[if_neg e]at hk;exact h.part hi k hk
theorem Mx{α β:Type}{rel:Nat->α->β->(Nat->Prop)->Prop}{lh:List α}{l:List β}{Ss:Nat->Nat->Prop}{j:Nat}{x':α}{x:β}{B:Nat->Prop}(h:∀i(h1:i<lh.length)(h2:i<l.length),i≠j->rel i lh[i] l[i] (Ss i))(hj:rel j x' x B):
 ∀i(h1:i<(lh.set j x').length)(h2:i<(l.set j x).length),rel i (lh.set j x')[i] (l.set j x)[i] ((fun i=>if i=j then B else Ss i) i):=by
 intro i h1 h2;by_cases e:i=j
 .subst e;simp only[List.getElem_set_self,if_true];exact hj
 .simp only[List.getElem_set_ne (Ne.symm e),if_neg e];exact h i (by simpa using h1) (by simpa using h2) e
theorem ao.uA{H:ao}{n:Nat}{S:Nat->Prop}{t:Th}(h:H.con n=none):H.le ((H.eU n S).bz n t):=(ao.GK h).trans (ao.fI h)
theorem lU.yM(hs:au U H F w ob n){o s:Nat}{t t':Th}{v0:Value}(ho:ob o=some (s,t))(hv:H.val o=some v0)(hb:t'.base=t'){eat:List Nat}(SB:o∈eat)(S':Nat->Prop)(Jw:∀k,fp S' v0 t' k->cm H ob eat k){D:ak}{v:Value}
 (bI:Ext (cm H ob eat) w w')(my:il ((H.eU n S').bz n t') F w' S' v0 t')(hd:ai ((H.eU n S').bz n t') F w' D v):kE H F w ob n {dst:=D,eat:=eat,make:=[(o,(n,t'))]} v w':=by
 obtain⟨v1,uv,cc⟩:=hs.obj _ _ _ ho;rw[hv]at uv;obtain rfl:=ai4 uv;have hf:=hs.fresh n (ai8 _) (by omega)
 have fN:((H.eU n S').bz n t').sub n=S':=by simp[ao.bz,ao.eU]
 refine⟨(H.eU n S').bz n t',F,⟨ao.uA hf.2,bI,fun _ h=>h,fun _ h=> .inl h,fun b hb=>ajJ (hs.lt b hb) bI.size⟩,fun m hm=>?_,hd,⟨fun o' s' q hq=>?_,fun o1 o2 s1 s2 q1 q2 u1 u2 bN h1 h2=>?_⟩,fun o' h=>?_⟩
 .refine⟨id,fun h=>?_⟩;simp[ao.bz,ao.eU,show m≠n from by omega,h]
 .obtain⟨rfl,e⟩:=bT hq;obtain⟨rfl,rfl⟩:=akx e;refine⟨v0,hv,cc.one,by simp[ao.bz,hb],by rw[fN];exact my,fun k hk=>?_⟩;rw[fN]at hk;have:=Jw k hk;exact⟨hs.gK k this,ajJ (hs.uQ k this) bI.size, .inr this⟩
 .exact absurd ((bT h1).1.trans (bT h2).1.symm) bN
 .left
  obtain⟨y,hy⟩:=ajH.1 h;rw[(bT hy).1];exact SB
def qx(T:bc P)(ob:Nat->Option (Nat×Th))(n:Nat)(t:TypeId)(D:ak)(k:dN->Option R):Option R:=
 match find T.und t with
 |none=>none
 |some kk=>match D with
  | .dlm o d0 i p off=>match ob o with
    |some (_, .deep T0 dr l h)=>bif d0.beq dr then(match dr.path p with
     |some ⟨.leaf r,q⟩=>bif aje q.lo.off off&&lX T t kk r.size then(idx l i).bind fun x=>k {dst:= .val (kA kk) (.leaf r (q.hi.get x))}else none
     |some ⟨.sl T' e',q⟩=>bif aje q.lo.off off&&lX T t kk 1&& !kA kk then(match h with
       |none=>(idx l i).bind fun x=>k {dst:= .val false (.own n),eat:=[o],make:=[(o,(n, .deep T0 dr l (some ⟨i,p,n,n+1⟩))),(n,(n+1,G1 T' e' (q.hi.get x)))]}
       |some hh=>bif nU hh.p p then(if decide (hh.i=i)=true then(idx l i).bind fun _=>k {dst:= .val false (.own hh.o)}else none)else none)else none
     |_=>none)else none
    |_=>none
  |_=>none
theorem AM(hs:au U H F w ob n){o s:Nat}{T0 T':TypeId}{dr e':DR}{l:List dr.row.den}{i:Int}{p:List Bool}{q:fB dr (.sl T' e')}(hq:dr.path p=some ⟨_,q⟩)(cC:ob o=some (s, .deep T0 dr l none)){v:Value}(hv:H.val o=some v)
 {j:Nat}(JK:i=(j:Nat))(hj:j<l.length){lh:List dr.low.den}{Ss:Nat->Nat->Prop}(hm:jG F w T0 dr.low v lh)(hlen:lh.length=l.length)(vh:∀i(h1:i<lh.length)(h2:i<l.length),nT H F w dr none i lh[i] l[i] (Ss i))(dq:ni Ss l.length (bm v) (H.sub s)):
 kE H F w ob n {dst:= .val false (.own n),eat:=[o],make:=[(o,(n, .deep T0 dr l (some ⟨i,p,n,n+1⟩))),(n,(n+1,G1 T' e' (q.hi.get l[j])))]} (q.lo.get (lh[j]'(by omega))) w:=by
 have IE:j<lh.length:=by omega
 obtain⟨v1,uv,cc⟩:=hs.obj _ _ _ cC;rw[hv]at uv;obtain rfl:=ai4 uv;obtain⟨A,B,hA,hB,h2⟩:=jH.out q (vh j IE hj);obtain⟨_,m2,m3⟩:=sC (H:=H) hA;have hBs:∀k,B k->Ss j k:=h2.right;obtain⟨f1,f2⟩:=hs.fresh n (ai8 _) (by omega);obtain⟨f3,f4⟩:=hs.fresh (n+1) (by omega) (by omega)
 have CG:o≠n:=fun e=>by rw[e,f1]at hv;cases hv
 generalize RG:Th.deep T0 dr l (some ⟨i,p,n,n+1⟩)=t1;generalize LZ:G1 T' e' (q.hi.get l[j])=t2;generalize hu:q.lo.get lh[j]=u;generalize Wa:qw (bm v) (fun i=>if i=j then B else Ss i) l.length=So
 have Wb:∀k,So k->H.sub s k:=by rw[<-Wa];exact dq.AL j hBs
 have My:∀k,A k->H.sub s k:=fun k hk=>dq.part hj k (h2.left k hk)
 have hAo:∀k,So k->¬A k:=by
  rw[<-Wa]
  rintro k (hk|⟨i',gv,hk⟩) ha
  .exact dq.out j k hj (h2.left k ha) hk
  .by_cases e:i'=j
   .subst e;rw[if_pos rfl]at hk;exact h2.off k ha hk
   .rw[if_neg e]at hk;exact dq.two i' j k gv hj e hk (h2.left k ha)
 let H1:ao:=⟨fun m=>if m=n then some u else H.val m,fun m=>if m=n then some t1 else if m=n+1 then some t2 else H.con m,fun m=>if m=n then So else if m=n+1 then A else H.sub m⟩
 have hle:H.le H1:=by
  refine⟨fun o v ho=>?_,fun s t eB=>?_,fun s t eB=>?_⟩
  .have:o≠n:=fun e=>by rw[e,f1]at ho;cases ho
   simp[H1,this,ho]
  .have a1:s≠n:=fun e=>by rw[e,f2]at eB;cases eB
   have a2:s≠n+1:=fun e=>by rw[e,f4]at eB;cases eB
   simp[H1,a1,a2,eB]
  .have a1:s≠n:=fun e=>by rw[e,f2]at eB;cases eB
   have a2:s≠n+1:=fun e=>by rw[e,f4]at eB;cases eB
   simp[H1,a1,a2]
 have wI:H1.val n=some u:=by simp[H1]
 have kB:∀k,H.sub s k->cm H ob [o] k:=fun k hk=>⟨o,by simp,s,_,v,cC,hv,hk⟩
 have k8:u.oneCell'=true:=by rw[<-hu];exact m3
 refine⟨H1,F,⟨hle,⟨rfl,rfl,rfl,ai8 _,fun _ _ _=>rfl⟩,fun _ h=>h,fun _ h=> .inl h,hs.lt⟩,fun m hm=>?_,mC wI k8,⟨fun o' s' t hf=>?_,fun o1 o2 s1 s2 q1 q2 u1 u2 bN g1 g2 e1 e2 k hk dO=>?_⟩,fun o' iN=>?_⟩
 .have a1:m≠n:=by omega
  have a2:m≠n+1:=by omega
  simp[H1,a1,a2]
 .rw[aA]at hf;split at hf
  .rename_i e;subst e;simp only[ajg,aj3]at hf;obtain⟨rfl,rfl⟩:=hf
   have Pj:H1.sub n=So:=by simp[H1]
   refine⟨v,hle.val _ _ hv,cc.one,?_,?_,fun k hk=>?_⟩
   .rw[<-RG];simp[H1,Th.base,RG]
   .rw[Pj,<-RG,<-Wa];refine⟨lh,_,hm,hlen,fun i' a b=>?_,dq.less j hBs⟩;have hr:jH F w dr lh[i'] l[i'] (Ss i'):=vh i' a b;refine⟨fun hi=>?_,fun hi=>?_⟩
    .have:i'≠j:=fun e=>hi (by subst e;exact JK)
     show jH F w dr lh[i'] l[i'] (if i'=j then B else Ss i')
     rw[if_neg this];exact hr
    .have hi:i=(i':Int):=hi
     obtain rfl:i'=j:=by omega
     refine⟨T',e',q,hq,?_,?_⟩
     .show lp F w q lh[i'] l[i'] (if i'=i' then B else Ss i')
      rw[if_pos rfl];exact hB
     .rw[hu];exact wI
   .rw[Pj,<-RG]at hk;have hk:So k:=hk;have:=Wb k hk;exact⟨cc.no k this,cc.lt k this, .inr (kB k this)⟩
  .obtain⟨e0,e⟩:=bT hf;obtain⟨rfl,rfl⟩:=akx e;rw[e0]
   have Pj:H1.sub (n+1)=A:=by simp[H1]
   obtain⟨m1,m2',_⟩:=sC (H:=H1) hA;rw[LZ,hu]at m1 m2';refine⟨u,wI,k8,?_,by rw[Pj];exact m1,fun k hk=>?_⟩
   .rw[<-LZ,vd,LZ];simp[H1]
   .rw[Pj]at hk;have:=My k (m2' k hk);exact⟨cc.no k this,cc.lt k this, .inr (kB k this)⟩
 .have key:∀{k},So k->A k->False:=fun a b=>hAo _ a b
  have hfA:∀k,fp A u t2 k->A k:=by rw[<-LZ,<-hu];exact m2
  have qa:H1.sub n=So:=by simp[H1]
  have Pk:H1.sub (n+1)=A:=by simp[H1]
  have two:∀{o' s' t'},find [(o,(n,t1)),(n,(n+1,t2))] o'=some (s',t')->(o'=o/\s'=n/\t'=t1)\/(o'=n/\s'=n+1/\t'=t2):=by
   intro o' s' t' hf;rw[aA]at hf;split at hf
   .rename_i e;simp only[ajg,aj3]at hf;exact .inl ⟨e.symm,hf.1.symm,hf.2.symm⟩
   .obtain⟨e1,e⟩:=bT hf;obtain⟨e2,e3⟩:=akx e;exact .inr ⟨e1,e2,e3⟩
  rcases two g1 with⟨rfl,rfl,rfl⟩|⟨rfl,rfl,rfl⟩<;>rcases two g2 with⟨rfl,rfl,rfl⟩|⟨rfl,rfl,rfl⟩
  .exact bN rfl
  .rw[qa,<-RG]at hk;rw[Pk]at dO;rw[wI]at e2;obtain rfl:=ai4 e2;exact key (show So k from hk) (hfA k dO)
  .rw[qa,<-RG]at dO;rw[Pk]at hk;rw[wI]at e1;obtain rfl:=ai4 e1;exact key (show So k from dO) (hfA k hk)
  .exact bN rfl
 .obtain⟨y,hy⟩:=ajH.1 iN;rw[aA]at hy;split at hy
  .rename_i e;exact .inl (by rw[<-e];simp)
  .exact .inr (by rw[(bT hy).1];exact ai8 _)
theorem yN{α β:Type}{l:List α}{lh:List β}(h:lh.length=l.length){i:Int}{x:α}(hi:idx l i=some x):∃j,i=(j:Nat)/\∃(h1:j<lh.length)(h2:j<l.length),x=l[j]/\idx lh i=some lh[j]:=by
 obtain⟨j,hj,al,rfl⟩:=fG hi;refine⟨j,hj,by omega,al,rfl,?_⟩;subst hj
 have pT:j<lh.length:=by omega
 simp[idx,pT]
theorem G3(T:bc P){t:TypeId}{D:ak}{x:Operand}{k:dN->Option R}{q:R}(h:qx T ob n t D k=some q)(hs:au U H F w ob n)(hx:ai H F w D (ev ρ x)):
 ∃e,k e=some q/\cD P U H F w ρ ob n ⟨some d, .load t x,ty,pos,aft,none⟩ e:=by
 unfold qx at h;split at h
 .cases h
 rename_i kk hu;split at h
 case h_2=>cases h
 rename_i o d0 i p off;split at h
 case h_2=>cases h
 rename_i s T0 dr l hh cC;obtain⟨hd,h'⟩:=aD h;clear h;obtain rfl:=DR.eq_of_beq hd;obtain⟨g,o0,qq,m,cap,e1,e2,e5⟩:=hx;obtain⟨lh,Ss,dH,hlen,vh,dq⟩:=hs.low cC e1;split at h'
 .rename_i r xC yI;obtain⟨h1,h2⟩:=aD h';obtain⟨h1,h3⟩:=cO h1;obtain rfl:=beq_true h1;obtain⟨a,ha,hk⟩:=bind_some h2;obtain⟨j,hj,g1,g2,rfl,nS⟩:=yN hlen ha;have oi:=(dH.at rfl e2 nS).path xC.lo _ rfl;rw[JI xC (vh j g1 g2)]at oi;obtain⟨es,hl,Mo,hr⟩:=oi;exact⟨_,hk,nl T hu e5 hs (s:= .leaf r _) hr Mo (jv T h3)⟩
 .rename_i T' e' xC yI;obtain⟨h1,h2⟩:=aD h';obtain⟨h1,h4⟩:=cO h1;obtain⟨h1,h3⟩:=cO h1;obtain rfl:=beq_true h1
  have wY:kA kk=false:=by simpa using h4
  obtain⟨dd,wQ,xy⟩:=(T.und_ok _ _ hu).agg
  have run:∀{j:Nat}(g1:j<lh.length),idx lh i=some lh[j]->(execOp (ev ρ) ⟨some d, .load t x,ty,pos,aft,none⟩).run P w= .ok (.value (xC.lo.get lh[j])) w:=by
   intro j g1 nS;have oi:=(dH.at rfl e2 nS).path xC.lo _ rfl;obtain⟨es,hl,Mo,hr,_⟩:=oi;rw[hr]at Mo;exact xv wQ (xy.trans wY) e5 (Mo 0 _ rfl)
  split at h2
  .obtain⟨a,ha,hk⟩:=bind_some h2;obtain⟨j,hj,g1,g2,rfl,nS⟩:=yN hlen ha;exact⟨_,hk,cd.val (run g1 nS) (AM hs yI cC e1 hj g2 dH.2 hlen vh dq)⟩
  .rename_i hh;obtain⟨hp,h3⟩:=aD h2;have hp:=qv hp;split at h3
   case isFalse=>cases h3
   rename_i hi;have hi:hh.i=i:=of_decide_eq_true hi;obtain⟨a,ha,hk⟩:=bind_some h3;obtain⟨j,hj,g1,g2,rfl,nS⟩:=yN hlen ha;obtain⟨T'',e'',q'',k1,_,k3⟩:=(vh j g1 g2).2 (hi.trans hj);rw[hp,yI]at k1;cases k1;refine⟨_,hk,bP hs (run g1 nS) (mC k3 ?_)⟩;have oi:=(dH.at rfl e2 nS).path xC.lo _ rfl;obtain⟨es,_,_,_,A,m',c,AJ⟩:=oi;rw[AJ];rfl
 .cases h'
def Pm(T:TypeId):(e:DR)->Th->Option (List e.row.den)
 | .leaf r, .own T1 r1 y=>bif aje T1 T then(if h:r1.beq r=true then some (iC (r:= .slice r1) (s:= .slice r) (congrArg Row.slice (Row.eq_of_beq h)) y)else none)else none
 | .sl T2 e2, .deep T1 (.sl T3 e3) y none=>bif aje T1 T then(if h:(DR.sl T3 e3).beq (.sl T2 e2)=true then some (DR.eq_of_beq h▸y)else none)else none
 | .pair a b, .deep T1 (.pair a1 b1) y none=>bif aje T1 T then(if h:(DR.pair a1 b1).beq (.pair a b)=true then some (DR.eq_of_beq h▸y)else none)else none
 |_,_=>none
theorem vi{T:TypeId}{e:DR}{t:Th}{y:List e.row.den}(h:Pm T e t=some y):t=G1 T e y:=by
 unfold Pm at h;split at h
 .obtain⟨h1,h2⟩:=aD h;split at h2
  .rename_i hb;obtain rfl:=Row.eq_of_beq hb;obtain rfl:=ai4 h2;rw[beq_true h1];rfl
  .cases h2
 .obtain⟨h1,h2⟩:=aD h;split at h2
  .rename_i hb;cases DR.eq_of_beq hb;obtain rfl:=ai4 h2;rw[beq_true h1];rfl
  .cases h2
 .obtain⟨h1,h2⟩:=aD h;split at h2
  .rename_i hb;cases DR.eq_of_beq hb;obtain rfl:=ai4 h2;rw[beq_true h1];rfl
  .cases h2
 .cases h
def yO(h:Option uP)(i:Int)(p:List Bool):Bool:=
 match h with
 |none=>true
 |some h=>nU h.p p&&decide (h.i=i)
theorem AN{h:Option uP}{i:Int}{p:List Bool}(hh:yO h i p=true){dr e:DR}{T:TypeId}{q:fB dr (.sl T e)}(hq:dr.path p=some ⟨_,q⟩){j:Nat}(hj:i=(j:Nat)){x':dr.low.den}{x:dr.row.den}{S:Nat->Prop}(hr:nT H F w dr h j x' x S):
 ∃B,(∀k,B k->S k)/\lp F w q x' x B:=by
 cases h with
 |none=>
  obtain⟨A,B,_,h2,h3⟩:=jH.out q (show jH F w dr x' x S from hr);exact⟨B,h3.right,h2⟩
 |some h=>
  have h':(nU h.p p&&decide (h.i=i))=true:=hh;obtain⟨h1,h2⟩:=cO h';obtain⟨T',e',q',k1,k2,_⟩:=hr.2 ((of_decide_eq_true h2).trans hj);rw[qv h1,hq]at k1;cases k1;exact⟨S,fun _ h=>h,k2⟩
theorem vj{h:Option uP}{i:Int}{p:List Bool}(hh:yO h i p=true){dr:DR}{j:Nat}(hj:i≠(j:Nat)){x':dr.low.den}{x:dr.row.den}{S:Nat->Prop}(hr:nT H F w dr h j x' x S):jH F w dr x' x S:=by
 cases h with
 |none=>exact hr
 |some h=>
  have h':(nU h.p p&&decide (h.i=i))=true:=hh;obtain⟨h1,h2⟩:=cO h';exact hr.1 (fun e=>hj ((of_decide_eq_true h2).symm.trans e))
end
end Go.Proofs.YtilaieogabgamaaGreatDoor
end
section
open _root_.Int renaming toNat_natCast->aja
open _root_.Nat renaming beq->aje,le_refl->ai8
open _root_.Option.some renaming inj->ai4
open _root_.Go.Value renaming ownBlock->ajz
namespace Go.Proofs.YtilaieogabgamaaGreatDoor
open Go Go.RowKit
section
variable {P:Program} {ρ:Nat->Value} {w w':World} {H H':ao} {F F':Nat->Prop} {U:Nat->Prop} {ob:Nat->Option (Nat×Th)} {n:Nat} {R:Type}
variable {op:Op} {ty:TypeId} {pos:String} {aft:Array Edge} {d:Nat}
noncomputable def px(T:bc P)(ob:Nat->Option (Nat×Th))(n:Nat)(t:TypeId)(D V:ak)(k:dN->Option R):Option R:=
 match find T.row t with
 |none=>none
 |some rt=>match V with
  | .val _ u=>match D with
    | .dlm o d0 i p off=>match ob o with
      |some (_, .deep T0 dr l h)=>bif d0.beq dr then(match dr.path p with
       |some ⟨.leaf r,q⟩=>bif aje q.lo.off off&&aje rt.size r.size then(match flat ob r u with
        |some y=>(idx l i).bind fun x=>k {dst:= .dead,eat:=[o],make:=[(o,(n, .deep T0 dr (aT l i (q.hi.set x y)) h))]}
        |none=>none)else none
       |some ⟨.sl T' e',q⟩=>bif aje q.lo.off off&&aje rt.size 1 then(match u with
        | .own o1=>match ob o1 with
          |some (_,t1)=>match Pm T' e' t1 with
           |some _=>if yO h i p=true then(idx l i).bind fun _=>k {dst:= .dead,eat:=[o],make:=[(o,(n, .deep T0 dr l (some ⟨i,p,o1,n⟩)))]}else none
           |none=>none
          |none=>none
        | .nil=>if yO h i p=true then(idx l i).bind fun x=>k {dst:= .dead,eat:=[o],make:=[(o,(n, .deep T0 dr (aT l i (q.hi.set x ([]:List e'.row.den))) none))]}else none
        |_=>none)else none
       |_=>none)else none
      |_=>none
    |_=>none
  |_=>none
theorem qy(T:bc P){t:TypeId}{rt:Row}(ID:find T.row t=some rt){x y:Operand}{o s:Nat}{T0:TypeId}{dr e:DR}{i:Int}{l l':List dr.row.den}{h h':Option uP}{q:fB dr e}{g o0 qq m cap j:Nat}{u:e.low.den}{cs:List Value}{x1:dr.row.den}
 (hs:au U H F w ob n)(cC:ob o=some (s, .deep T0 dr l h))(hv:H.val o=some (.slice (some ⟨g,o0,none⟩) m cap))(hj:i=(j:Nat))(Ai:j<l.length)(hx:ev ρ x= .pointer (some ⟨g,o0+qq*dr.low.size+q.lo.off,none⟩))(hqq:i=(qq:Nat))(hz:rt.size=e.low.size)
 (hr:cA F w e.low cs u)(xD:(ev ρ y).cells.toList=cs)(CK:l'=l.set j x1)
 (vh:∀{w':World}{H1:ao},H.le H1->Step F w F w'->∀{x':dr.low.den}{S:Nat->Prop},(∀k,S k->w'.heap[k]? =w.heap[k]?)->nT H F w dr h j x' l[j] S->∃B,(∀k,B k->S k)/\nT H1 F w' dr h' j (q.lo.set x' u) x1 B)
 (Mz:∀{H1:ao}{w':World}{i':Nat}{x':dr.low.den}{x:dr.row.den}{S:Nat->Prop},i'≠j->nT H1 F w' dr h i' x' x S->nT H1 F w' dr h' i' x' x S):
 cD P U H F w ρ ob n ⟨none, .store t x y,ty,pos,aft,none⟩ {dst:= .dead,eat:=[o],make:=[(o,(n, .deep T0 dr l' h'))]}:=by
 obtain⟨ti,z0,h1,_,_,h4,_⟩:=T.row_ok _ _ ID;obtain⟨lh,Ss,dH,hlen,JL,dq⟩:=hs.low cC hv;obtain⟨v1,uv,cc⟩:=hs.obj _ _ _ cC;rw[hv]at uv;obtain rfl:=ai4 uv
 have Wc:j<lh.length:=by omega
 obtain rfl:qq=j:=by omega
 obtain⟨cur,hh,hle,bI,fQ⟩:=dH.put rfl Wc hs.lt q.lo hr;generalize SC:w.setRow g (cur.toList.take (o0+qq*dr.low.size+q.lo.off)++cs++cur.toList.drop (o0+qq*dr.low.size+q.lo.off+cs.length)).toArray=w' at bI fQ;refine cd.unit (w':=w') (by rw[<-SC];exact nQ h1 (h4.trans (hz.trans hr.length.symm)) hx rfl xD hr.iT hh hle) ?_;have eB:Step F w F w':=Step.ext bI hs.lt dH.no
 have JM:∀i',i'<l.length->∀k,Ss i' k->w'.heap[k]? =w.heap[k]? :=fun i' gv k hk=>bI.block k (cc.lt k (dq.part gv k hk)) (dq.out i' k gv hk)
 have hf:=hs.fresh n (ai8 _) (by omega)
 have kB:∀k,H.sub s k->cm H ob [o] k:=fun k hk=>⟨o,by simp,s,_,_,cC,hv,hk⟩
 obtain⟨B0,hB0,_⟩:=vh (w':=w') (H1:=H) (ao.le.refl H) eB (JM qq Ai) (JL qq Wc Ai)
 have main:∀{H1:ao},H.le H1->∃B,(∀k,B k->Ss qq k)/\nT H1 F w' dr h' qq (q.lo.set lh[qq] u) x1 B:=fun G4=>vh G4 eB (JM qq Ai) (JL qq Wc Ai)
 have SD:∃B,(∀k,B k->Ss qq k)/\∀{H1:ao},H.le H1->nT H1 F w' dr h' qq (q.lo.set lh[qq] u) x1 B:=by
  obtain⟨B,b1,b2⟩:=main (ao.le.refl H);exact⟨B,b1,fun G4=>b2.keep G4 (Step.refl F w') fun _ _=>rfl⟩
 obtain⟨B,b1,b2⟩:=SD;have hSs:∀k,qw (bm (Value.slice (some ⟨g,o0,none⟩) m cap)) (fun i=>if i=qq then B else Ss i) l.length k->H.sub s k:=dq.AL qq b1;refine lU.yM (t':= .deep T0 dr l' h') hs cC hv rfl (by simp) (qw (bm (Value.slice (some ⟨g,o0,none⟩) m cap)) (fun i=>if i=qq then B else Ss i) l.length) (fun k hk=>kB k (hSs k hk)) ⟨bI.os,bI.tape,bI.output,bI.size,fun k hk hn=>bI.block k hk fun e=>hn (kB k (dq.bm k e))⟩ ?_ trivial;have G4:=ao.uA (H:=H) (S:=qw (bm (Value.slice (some ⟨g,o0,none⟩) m cap)) (fun i=>if i=qq then B else Ss i) l.length) (t:= .deep T0 dr l' h') hf.2
 have xH:l'.length=l.length:=by rw[CK];simp
 refine⟨lh.set qq (q.lo.set lh[qq] u),(fun i=>if i=qq then B else Ss i),fQ.2,by rw[xH];simpa using hlen,?_,?_⟩
 .intro i' a b
  have:=Mx (rel:=nT ((H.eU n (qw (bm (Value.slice (some ⟨g,o0,none⟩) m cap)) (fun i=>if i=qq then B else Ss i) l.length)).bz n (.deep T0 dr l' h')) F w' dr h') (lh:=lh) (l:=l) (Ss:=Ss) (j:=qq) (x':=q.lo.set lh[qq] u) (x:=x1) (B:=B)
   (fun i2 c1 c2 bN=>Mz bN ((JL i2 c1 c2).keep G4 eB (JM i2 c2))) (b2 G4) i' a (by simpa[CK]using b)
  simpa only[CK]using this
 .rw[xH];exact dq.less qq b1
theorem Dj(T:bc P){t:TypeId}{D V:ak}{x y:Operand}{k:dN->Option R}{q:R}(h:px T ob n t D V k=some q)(hs:au U H F w ob n)(hx:ai H F w D (ev ρ x))(hy:ai H F w V (ev ρ y)):
 ∃e,k e=some q/\cD P U H F w ρ ob n ⟨none, .store t x y,ty,pos,aft,none⟩ e:=by
 unfold px at h;split at h
 .cases h
 rename_i rt ID;split at h
 case h_2=>cases h
 rename_i agg u;split at h
 case h_2=>cases h
 rename_i o d0 i p off;split at h
 case h_2=>cases h
 rename_i s T0 dr l hh cC;obtain⟨hd,h'⟩:=aD h;clear h;obtain rfl:=DR.eq_of_beq hd;obtain⟨g,o0,qq,m,cap,e1,e2,e5⟩:=hx;obtain⟨cs,qp,xD⟩:=aE.cells hy;split at h'
 .rename_i r xC yI;obtain⟨h1,h2⟩:=aD h';obtain⟨h1,h3⟩:=cO h1;obtain rfl:=beq_true h1;split at h2
  case h_2=>cases h2
  rename_i z hz;obtain⟨a,ha,hk⟩:=bind_some h2;obtain⟨j,hj,Ai,rfl⟩:=fG ha;refine⟨_,hk,qy (l':=aT l i (xC.hi.set l[j] z)) (x1:=xC.hi.set l[j] z) (u:=z) T ID hs cC e1 hj Ai e5 e2 (beq_true h3) (im hs hz qp) xD ?_ ?_ ?_⟩
  .unfold aT;rw[hj,aja]
  .intro w' H1 hle eB x' S hb hr;exact⟨S,fun _ h=>h,G2 xC z (hr.keep hle eB hb)⟩
  .intro H1 w' i' x' x S _ hr;exact hr
 .rename_i T' e' xC yI;obtain⟨h1,h2⟩:=aD h';obtain⟨h1,h3⟩:=cO h1;obtain rfl:=beq_true h1;split at h2
  .rename_i o1;split at h2
   case h_2=>cases h2
   rename_i s1 t1 oG;split at h2
   case h_2=>cases h2
   rename_i y1 hD;split at h2
   case isFalse=>cases h2
   rename_i tD;obtain⟨a,ha,hk⟩:=bind_some h2;obtain⟨j,hj,Ai,rfl⟩:=fG ha;obtain⟨u1,CH,lZ⟩:=hs.obj _ _ _ oG;obtain⟨v,hv,k8,rfl⟩:=qp;rw[CH]at hv;obtain rfl:=ai4 hv
   have We:cA F w .jJ [u1] u1:=by
    have:=lZ.ok;rw[vi hD]at this;obtain⟨lh1,_,g1,_⟩:=vf this;obtain⟨xs,⟨_,hx⟩,_⟩:=g1
    rcases hx with⟨rfl,_⟩|⟨gg,o0,cp,cur,rfl,_⟩<;>exact⟨rfl,_,_,_,rfl⟩
   refine⟨_,hk,qy (l':=l) (x1:=l[j]) (u:=u1) (e:= .sl T' e') T ID hs cC e1 hj Ai e5 e2 (beq_true h3) We xD ?_ ?_ ?_⟩
   .exact(List.set_getElem_self Ai).symm
   .intro w' H1 hle eB x' S hb hr;obtain⟨B,b1,b2⟩:=AN tD yI hj hr;refine⟨B,b1,fun bN=>absurd hj bN,fun _=>⟨T',e',xC,yI,(b2.keep eB fun k hk=>hb k (b1 k hk)).JJ xC u1,?_⟩⟩;rw[Path.yL];exact hle.val _ _ CH
   .intro H1 w' i' x' x S bN hr
    have MA:i≠(i':Int):=fun e=>bN (by omega)
    exact⟨fun _=>vj tD MA hr,fun e=>absurd e MA⟩
  .split at h2
   case isFalse=>cases h2
   rename_i tD;obtain⟨a,ha,hk⟩:=bind_some h2;obtain⟨j,hj,Ai,rfl⟩:=fG ha;have Wf:cs=_:=qp;subst Wf;refine⟨_,hk,qy (x1:=xC.hi.set l[j] ([]:List e'.row.den)) (u:=Value.slice none 0 0) (e:= .sl T' e') T ID hs cC e1 hj Ai e5 e2 (beq_true h3) ⟨rfl,_,_,_,rfl⟩ xD ?_ ?_ ?_⟩
   .unfold aT;rw[hj,aja]
   .intro w' H1 hle eB x' S hb hr;obtain⟨B,b1,b2⟩:=AN tD yI hj hr;refine⟨B,b1,?_⟩;refine lp.put (e:= .sl T' e') xC (b2.keep eB fun k hk=>hb k (b1 k hk)) (A:=fun _=>False) ?_ ⟨fun k=>by simp,fun _ h=>h.elim⟩;exact⟨[],fun _ _=>False,jG.nil F w' T' e'.low,rfl,fun i h=>absurd h (by simp),⟨fun k=>by simp[bm,ajz],fun _ _ _ h=>absurd h (by simp),fun _ _ h=>absurd h (by simp)⟩⟩
   .intro H1 w' i' x' x S bN hr
    have MA:i≠(i':Int):=fun e=>bN (by omega)
    exact vj tD MA hr
  .cases h2
 .cases h'
end
end Go.Proofs.YtilaieogabgamaaGreatDoor
namespace Go.Proofs.YtilaieogabgamaaGreatDoor
open Go Go.RowKit
def oH{α:Type}(l:List α)(i:Int)(f:α->α):List α:=if 0<=i then l.modify i.toNat f else l
theorem gO{α:Type}(l:List α)(i:Int)(f:α->α):(oH l i f).length=l.length:=by unfold oH;split<;>simp
theorem uB{α:Type}{l:List α}{i:Int}{f:α->α}{j:Nat}(h:j<(oH l i f).length)(h':j<l.length):(oH l i f)[j]=if i=(j:Int)then f l[j]else l[j]:=by
 by_cases hi:0<=i
 .have e:oH l i f=l.modify i.toNat f:=by unfold oH;rw[if_pos hi]
  simp only[e,List.getElem_modify]
  by_cases JK:i=(j:Int)
  .rw[if_pos JK,if_pos (by omega)]
  .rw[if_neg JK,if_neg (by omega)]
 .have e:oH l i f=l:=by unfold oH;rw[if_neg hi]
  simp only[e];rw[if_neg (by omega)]
theorem Path.yP:{r s:Row}->(p:Path r s)->(x:r.den)->p.set x (p.get x)=x
 |_,_, .here,_=>rfl
 |_,_, .fst p,x=>by show(p.set x.1 (p.get x.1),x.2)=x;rw[Path.yP p]
 |_,_, .snd p,x=>by show(x.1,p.set x.2 (p.get x.2))=x;rw[Path.yP p]
section
variable {P:Program} {ρ:Nat->Value} {w w':World} {H H':ao} {F F':Nat->Prop} {U:Nat->Prop} {ob:Nat->Option (Nat×Th)} {n:Nat} {R:Type}
variable {op:Op} {ty:TypeId} {pos:String} {aft:Array Edge} {d:Nat}
def JN(ob:Nat->Option (Nat×Th))(n o:Nat):Option dN:=
 match ob o with
 |some (_, .deep T0 dr l (some h))=>match dr.path h.p with
  |some ⟨.sl T' e',q⟩=>match ob h.o with
   |some (_,t1)=>bif aje h.o o then none else(match Pm T' e' t1 with
    |some y=>some {dst:= .dead,eat:=[o,h.o],make:=[(o,(n, .deep T0 dr (oH l h.i fun x=>q.hi.set x y) none))]}
    |none=>none)
   |none=>none
  |_=>none
 |_=>none
theorem G5(hs:au U H F w ob n){o:Nat}{e:dN}(h:JN ob n o=some e):kE H F w ob n e undef w:=by
 unfold JN at h;split at h
 case h_2=>cases h
 rename_i s T0 dr l hh cC;split at h
 case h_2=>cases h
 rename_i T' e' q hq;split at h
 case h_2=>cases h
 rename_i s1 t1 oG
 cases bN:aje hh.o o with
 |true=>rw[bN]at h;cases h
 |false=>
  rw[bN,cond_false]at h
  have bN:o≠hh.o:=fun e=>by rw[e]at bN;simp at bN
  split at h
  case h_2=>cases h
  rename_i y hD;obtain rfl:=ai4 h;have hD:=vi hD;subst hD;obtain⟨v,hv,cc⟩:=hs.obj _ _ _ cC;obtain⟨u,hu,lZ⟩:=hs.obj _ _ _ oG;obtain⟨lh,Ss,dH,hlen,vh,dq⟩:=hs.low cC hv;have hA:=vf lZ.ok;generalize hAA:(fun k=>fp (H.sub s1) u (G1 T' e' y) k)=A at hA
  have U8:∀k,A k->¬H.sub s k:=fun k hk=>by
   rw[<-hAA]at hk
   exact fun h2=>hs.apart _ _ _ _ _ _ _ _ bN cC oG hv hu k h2 hk
  have hf:=hs.fresh n (ai8 _) (by omega)
  let SE:Nat->Nat->Prop:=fun i k=>Ss i k\/(hh.i=(i:Int)/\A k)
  have kB:∀k,H.sub s k\/A k->cm H ob [o,hh.o] k:=by
   rintro k (hk|hk)
   .exact⟨o,by simp,s,_,v,cC,hv,hk⟩
   .rw[<-hAA]at hk;exact⟨hh.o,by simp,s1,_,u,oG,hu,hk⟩
  have hS:∀k,qw (bm v) SE l.length k->H.sub s k\/A k:=by
   rintro k (hk|⟨i,hi,hk|hk⟩)
   .exact .inl (dq.bm k hk)
   .exact .inl (dq.part hi k hk)
   .exact .inr hk.2
  refine lU.yM (t':= .deep T0 dr (oH l hh.i fun x=>q.hi.set x y) none) hs cC hv rfl (by simp) (qw (bm v) SE l.length) (fun k hk=>kB k (hS k hk)) ⟨rfl,rfl,rfl,ai8 _,fun _ _ _=>rfl⟩ ?_ trivial;have xH:(oH l hh.i fun x=>q.hi.set x y).length=l.length:=gO ..;refine⟨lh,SE,dH.2,by rw[xH];exact hlen,fun i a b=>?_,?_⟩
  .have b':i<l.length:=by omega
   rw[uB b b'];have hr:=vh i a b'
   by_cases hi:hh.i=(i:Int)
   .rw[if_pos hi];obtain⟨T'',e'',q'',k1,k2,k3⟩:=hr.2 hi;rw[hq]at k1;cases k1;rw[hu]at k3;have k3:=ai4 k3;have:jH F w dr (q.lo.set lh[i] u) (q.hi.set l[i] y) (SE i):=k2.put q hA ⟨fun k=>⟨fun hk=>hk.elim .inr fun hk=> .inl hk.2,fun hk=>hk.elim (fun hk=> .inr ⟨hi,hk⟩) .inl⟩,fun k hk h2=>U8 k hk (dq.part b' k h2)⟩;rw[k3,Path.yP]at this;exact this
   .rw[if_neg hi];have hr1:=hr.1 hi
    have:SE i=Ss i:=by
     funext k;exact propext ⟨fun hk=>hk.elim id fun hk=>absurd hk.1 hi, .inl⟩
    rw[this];exact hr1
  .rw[xH];refine⟨fun k=>Iff.rfl,fun i j k h1 h2 JK h3 h4=>?_,fun i k h1 h3 h4=>?_⟩
   .rcases h3 with h3|h3<;>rcases h4 with h4|h4
    .exact dq.two i j k h1 h2 JK h3 h4
    .exact U8 k h4.2 (dq.part h1 k h3)
    .exact U8 k h3.2 (dq.part h2 k h4)
    .have:=h3.1;have:=h4.1;omega
   .rcases h3 with h3|h3
    .exact dq.out i k h1 h3 h4
    .exact U8 k h3.2 (dq.bm k h4)
end
end Go.Proofs.YtilaieogabgamaaGreatDoor
end
section
open _root_.Array renaming toArray_toList->ajR
open _root_.Int renaming le_refl->aki
open _root_.List renaming replicate->ai9
open _root_.Nat renaming beq->aje,le_refl->ai8,lt_of_lt_of_le->ajJ
open _root_.Option renaming isSome_iff_exists->ajH
open _root_.Option.some renaming inj->ai4
open _root_.Prod.mk renaming inj->akx
open _root_.Go.Value renaming ownBlock->ajz
namespace Go.Proofs.YtilaieogabgamaaGreatDoor
open Go Go.RowKit
theorem DR.eA:(d:DR)->d.low.eA=d.row.eA
 | .leaf _=>rfl
 | .sl _ _=>rfl
 | .pair a b=>by show a.low.eA++b.low.eA=a.row.eA++b.row.eA;rw[a.eA,b.eA]
theorem TI.low{P:Program}{e:TypeId}{d:DR}(h:TI P e d.row):TI P e d.low:=by
 obtain⟨ti,z,h1,h2,h3,h4,h5⟩:=h;exact⟨ti,z,h1,h2,by rw[d.eA];exact h3,by rw[d.size];exact h4,h5⟩
def Dk:List Nat->Bool
 |[]=>true
 |o::l=> !l.any (aje o)&&Dk l
theorem xI:{l:List Nat}->Dk l=true->l.Nodup
 |[],_=>List.nodup_nil
 |o::l,h=>by
  obtain⟨h1,h2⟩:=cO h;refine List.nodup_cons.2 ⟨fun hm=>?_,xI h2⟩;rw[any_beq.2 hm]at h1;cases h1
def DR.mk2:DR->DR->DR
 | .leaf a, .leaf b=> .leaf (.pair a b)
 |a,b=> .pair a b
def Pn(ob:Nat->Option (Nat×Th)):Row->Tree->DR
 | .slice e, .own o=>match ob o with
   |some (_, .own T r _)=> .sl T (.leaf r)
   |some (_, .deep T d _ none)=> .sl T d
   |_=> .leaf (.slice e)
 | .pair a b,t=>match t.split with
   |some (x,y)=>DR.mk2 (Pn ob a x) (Pn ob b y)
   |none=> .leaf (.pair a b)
 |r,_=> .leaf r
def Dl(ob:Nat->Option (Nat×Th)):(d:DR)->Tree->Option (d.row.den×List Nat)
 | .leaf r,t=>match flat ob r t with
   |some x=>some (x,[])
   |none=>none
 | .sl T e, .own o=>match ob o with
   |some (_,t1)=>match Pm T e t1 with
    |some y=>some (y,[o])
    |none=>none
   |none=>none
 | .sl _ _, .nil=>some ([],[])
 | .sl _ _,_=>none
 | .pair a b,t=>match t.split with
   |some (x,y)=>match Dl ob a x with
    |some (u,os)=>match Dl ob b y with
     |some (v,MB)=>some ((u,v),os++MB)
     |none=>none
    |none=>none
   |none=>none
def E5(ob:Nat->Option (Nat×Th))(d:DR):List ak->Option (List d.row.den×List Nat)
 |[]=>some ([],[])
 | .val _ u::l=>match Dl ob d u with
   |some (x,os)=>match E5 ob d l with
    |some (xs,MB)=>some (x::xs,os++MB)
    |none=>none
   |none=>none
 |_::_=>none
section
variable {P:Program} {ρ:Nat->Value} {w w':World} {H H':ao} {F F':Nat->Prop} {U:Nat->Prop} {ob:Nat->Option (Nat×Th)} {n:Nat} {R:Type}
variable {op:Op} {ty:TypeId} {pos:String} {aft:Array Edge} {d:Nat}
theorem tE(hs:au U H F w ob n){os MB:List Nat}(hd:∀o,o∈os->o∉MB):∀k,cm H ob os k->¬cm H ob MB k:=by
 rintro k ⟨o,ho,s,t,v,h1,h2,h3⟩ ⟨o',iN,s',t',v',g1,g2,g3⟩
 exact hs.apart o o' s s' t t' v v' (fun e=>hd o ho (e▸iN)) h1 g1 h2 g2 k h3 g3
theorem py{os MB:List Nat}(h:∀o,o∈os->o∈MB):∀k,cm H ob os k->cm H ob MB k:=fun _ ⟨o,ho,rest⟩=>⟨o,h o ho,rest⟩
theorem yQ(hs:au U H F w ob n):{d:DR}->{t:Tree}->{x:d.row.den}->{os:List Nat}->{cs:List Value}->Dl ob d t=some (x,os)->Holds H F w t cs->os.Nodup->∃x' S,cA F w d.low cs x'/\jH F w d x' x S/\∀k,S k->cm H ob os k
 | .leaf r,t,x,os,cs,h,hh,MC=>by
   unfold Dl at h
   split at h<;>cases h
   rename_i hf;exact⟨x,fun _=>False,im hs hf hh,⟨rfl,fun _ h=>h⟩,fun _ h=>h.elim⟩
 | .sl T e, .own o,x,os,cs,h,hh,MC=>by
   unfold Dl at h;split at h
   case h_2=>cases h
   rename_i s1 t1 ho
   split at h<;>cases h
   rename_i hD;obtain⟨v,hv,_,rfl⟩:=hh;obtain⟨v',di,cc⟩:=hs.obj _ _ _ ho;rw[hv]at di;obtain rfl:=ai4 di;have hD:=vi hD;subst hD;have hb:=vf cc.ok;refine⟨v,_,?_,hb,fun k hk=>⟨o,by simp,s1,_,v,ho,hv,hk⟩⟩;obtain⟨lh1,_,⟨xs,⟨_,hx⟩,_⟩,_⟩:=hb
   rcases hx with⟨rfl,_⟩|⟨gg,o0,cp,cur,rfl,_⟩<;>exact⟨rfl,_,_,_,rfl⟩
 | .sl T e, .nil,x,os,cs,h,hh,_=>by
   cases h;have U9:cs=_:=hh;subst U9;exact⟨.slice none 0 0,fun _=>False,⟨rfl,_,_,_,rfl⟩,⟨[],fun _ _=>False,jG.nil F w T e.low,rfl,fun i h=>absurd h (by simp),⟨fun k=>by simp[bm,ajz],fun _ _ _ h=>absurd h (by simp),fun _ _ h=>absurd h (by simp)⟩⟩,fun _ h=>h.elim⟩
 | .pair a b,t,x,os,cs,h,hh,hn=>by
   unfold Dl at h;split at h
   case h_2=>cases h
   rename_i t1 t2 wR;split at h
   case h_2=>cases h
   rename_i u os1 h1;split at h
   case h_2=>cases h
   rename_i v os2 h2;cases h;obtain⟨c1,c2,rfl,g1,g2,_⟩:=hh.split wR;obtain⟨n1,n2,n3⟩:=List.nodup_append.1 hn;obtain⟨x1,S1,r1,e1,s1⟩:=yQ hs h1 g1 n1;obtain⟨x2,S2,r2,e2,s2⟩:=yQ hs h2 g2 n2;refine⟨(x1,x2),fun k=>S1 k\/S2 k,⟨c1,c2,rfl,r1,r2⟩,⟨S1,S2,e1,e2,fun _=>Iff.rfl,fun k hk dO=>tE hs (fun o ho iN=>n3 o ho o iN rfl) k (s1 k hk) (s2 k dO)⟩,fun k hk=>hk.elim (fun hk=>py (fun o ho=>by simp[ho]) k (s1 k hk)) fun hk=>py (fun o ho=>by simp[ho]) k (s2 k hk)⟩
 | .sl _ _, .leaf _ _,_,_,_,h,_,_=>by cases h
 | .sl _ _, .pair _ _,_,_,_,h,_,_=>by cases h
 | .sl _ _, .view ..,_,_,_,h,_,_=>by cases h
theorem AO(hs:au U H F w ob n){d:DR}:{ds:List ak}->{l:List d.row.den}->{os:List Nat}->{vs:List Value}->E5 ob d ds=some (l,os)->fc H F w ds vs->os.Nodup->
 ∃(lh:List d.low.den)(Ss:Nat->Nat->Prop),uN F w d.low vs lh/\lh.length=l.length/\(∀i(h1:i<lh.length)(h2:i<l.length),jH F w d lh[i] l[i] (Ss i))/\(∀i k,i<l.length->Ss i k->cm H ob os k)/\∀i j k,i<l.length->j<l.length->i≠j->Ss i k->¬Ss j k
 |[],l,os,vs,h,hd,_=>by
  cases h;rw[show vs=[]from hd];exact⟨[],fun _ _=>False, .nil,rfl,fun i h=>absurd h (by simp),fun _ _ h=>absurd h (by simp),fun _ _ _ h=>absurd h (by simp)⟩
 | .val _ u::ds,l,os,vs,h,hd,hn=>by
   obtain⟨v,us,rfl,h1,h2⟩:=hd;unfold E5 at h;split at h
   case h_2=>cases h
   rename_i x os1 hf;split at h
   case h_2=>cases h
   rename_i xs os2 hg;cases h;obtain⟨cs,qp,xD⟩:=aE.cells h1;obtain⟨n1,n2,n3⟩:=List.nodup_append.1 hn;obtain⟨x',S,r1,e1,s1⟩:=yQ hs hf qp n1;obtain⟨lh,Ss,k1,k2,k3,k4,k5⟩:=AO hs hg h2 n2
   have ap:∀i k,i<xs.length->S k->¬Ss i k:=fun i k hi hk dO=>tE hs (fun o ho iN=>n3 o ho o iN rfl) k (s1 k hk) (k4 i k hi dO)
   refine⟨x'::lh,fun i=>match i with|0=>S|i+1=>Ss i, .cons xD r1 k1,by simp[k2],fun i a b=>?_,fun i k hi hk=>?_,fun i j k hi hj bN hk dO=>?_⟩
   .cases i with
    |zero=>exact e1
    |succ i=>exact k3 i (by simpa using a) (by simpa using b)
   .cases i with
    |zero=>exact py (fun o ho=>by simp[ho]) k (s1 k hk)
    |succ i=>exact py (fun o ho=>by simp[ho]) k (k4 i k (by simpa using hi) hk)
   .cases i with
    |zero=>
     cases j with
     |zero=>exact bN rfl
     |succ j=>exact ap j k (by simpa using hj) hk dO
    |succ i=>
     cases j with
     |zero=>exact ap i k (by simpa using hi) dO hk
     |succ j=>exact k5 i j k (by simpa using hi) (by simpa using hj) (fun e=>bN (by rw[e])) hk dO
 | .dead::_,_,_,_,h,_,_=>by cases h
 | .undef::_,_,_,_,h,_,_=>by cases h
 | .ptr .. ::_,_,_,_,h,_,_=>by cases h
 | .at .. ::_,_,_,_,h,_,_=>by cases h
 | .elem .. ::_,_,_,_,h,_,_=>by cases h
 | .tup _::_,_,_,_,h,_,_=>by cases h
 | .dlm .. ::_,_,_,_,h,_,_=>by cases h
 | .fn .. ::_,_,_,_,h,_,_=>by cases h
 | .ifc .. ::_,_,_,_,h,_,_=>by cases h
theorem lU.Po(hs:au U H F w ob n){eat:List Nat}{t:Th}{v0:Value}{S:Nat->Prop}(hb:t.base=t)(h1:v0.oneCell'=true){D:ak}{v:Value}
 (bI:Ext (cm H ob eat) w w')(my:il (((H.eU n S).bz n t).cq n v0) F w' S v0 t)(Jw:∀k,fp S v0 t k->¬F k/\k<w'.heap.size/\(w.heap.size<=k\/cm H ob eat k))
 (hd:ai (((H.eU n S).bz n t).cq n v0) F w' D v):kE H F w ob n {dst:=D,eat:=eat,make:=[(n,(n,t))]} v w':=by
 have hf:=hs.fresh n (ai8 _) (by omega)
 have fN:(((H.eU n S).bz n t).cq n v0).sub n=S:=by simp[ao.cq,ao.bz,ao.eU]
 refine⟨((H.eU n S).bz n t).cq n v0,F,⟨(ao.uA hf.2).trans (ao.po (by simp[ao.bz,ao.eU,hf.1])),bI,fun _ h=>h,fun _ h=> .inl h,fun b hb=>ajJ (hs.lt b hb) bI.size⟩,fun m hm=>?_,hd,⟨fun o' s' q hq=>?_,fun o1 o2 s1 s2 q1 q2 u1 u2 bN h1 h2=>?_⟩,fun o' h=>?_⟩
 .simp[ao.bz,ao.cq,ao.eU,show m≠n from by omega]
 .obtain⟨rfl,e⟩:=bT hq;obtain⟨rfl,rfl⟩:=akx e;exact⟨v0,by simp[ao.cq],h1,by simp[ao.bz,ao.cq,hb],by rw[fN];exact my,by rw[fN];exact Jw⟩
 .exact absurd ((bT h1).1.trans (bT h2).1.symm) bN
 .right
  obtain⟨y,hy⟩:=ajH.1 h;rw[(bT hy).1];exact ai8 _
def yR(ob:Nat->Option (Nat×Th))(r:Row):List ak->DR
 | .val _ u::_=>Pn ob r u
 |_=> .leaf r
def oI(e:TypeId)(dr:DR)(ob:Nat->Option (Nat×Th))(n:Nat)(ds:List ak)(k:dN->Option R):Option R:=
 match E5 ob dr ds with
 |some (l,os)=>bif Dk os then k {dst:= .val false (.own n),eat:=os,make:=[(n,(n,G1 e dr l))]}else none
 |none=>none
def pz(T:bc P)(rd:Operand->Option ak)(ob:Nat->Option (Nat×Th))(n:Nat)(t:TypeId)(m:Nat)(parts:Array (Nat×Operand))(k:dN->Option R):Option R:=
 match find T.und t with
 |some (.slice e)=>match find T.row e with
  |some r=>bif EZ 0 parts.toList&&aje m parts.toList.length&&Nat.ble (m*r.size) 16777216 then
    (match rb rd (parts.toList.map (·.2))with
    |some ds=>bif (yR ob r ds).row.beq r then oI e (yR ob r ds) ob n ds k else none
    |none=>none)else none
  |none=>none
 |_=>none
theorem Dm(T:bc P){rd:Operand->Option ak}(fE:∀x d,rd x=some d->ai H F w d (ev ρ x)){t:TypeId}{m:Nat}{parts:Array (Nat×Operand)}{k:dN->Option R}{q:R}(h:pz T rd ob n t m parts k=some q)(hs:au U H F w ob n):
 ∃e,k e=some q/\cD P U H F w ρ ob n ⟨some d, .buildSlice t m parts,ty,pos,aft,none⟩ e:=by
 unfold pz at h;split at h
 case h_2=>cases h
 rename_i e hu;split at h
 case h_2=>cases h
 rename_i r hr;obtain⟨c0,h8⟩:=aD h;clear h;obtain⟨c1,c3⟩:=cO c0;obtain⟨h1,c2⟩:=cO c1;have h2:=beq_true c2
 have h3:m*r.size<=16777216:=by simpa using c3
 clear c0 c1 c2 c3;split at h8
 case h_2=>cases h8
 rename_i ds uw;obtain⟨SF,h⟩:=aD h8;clear h8;have jJ:=Row.eq_of_beq SF;clear SF
 obtain⟨dr,MD⟩:∃dr,dr=yR ob r ds:=⟨_,rfl⟩
 rw[<-MD]at h jJ;clear MD;subst jJ;unfold oI at h;split at h
 case h_2=>cases h
 rename_i l os hl;obtain⟨hn,hk⟩:=aD h;clear h;obtain⟨lh,Ss,k1,k2,k3,k4,k5⟩:=AO hs hl (nn fE uw) (xI hn)
 have hp:parts=(((parts.toList.map (·.2)).zipIdx).map fun p=>(p.2,p.1)).toArray:=by
  rw[<-u5 h1,ajR]
 have hm:m=(parts.toList.map (·.2)).length:=by simpa using h2
 obtain⟨v,w',bx,bI,dH,GO⟩:=uZ (d:=d) (ty:=ty) (pos:=pos) (aft:=aft) (T.und_ok _ _ hu) (TI.low (T.row_ok _ _ hr)) hp (by rw[<-hm,DR.size];exact h3) k1 hs;rw[<-hm]at bx;refine⟨_,hk,cd.val bx ?_⟩
 have al:∀i k,i<l.length->Ss i k->k<w.heap.size:=fun i k hi hk=>hs.uQ k (k4 i k hi hk)
 have eB:Step F w F w':=fun b hb=>⟨hb,(bI fun _=>False).block b (hs.lt b hb) fun h=>h⟩
 have dq:ni Ss l.length (bm v) (qw (bm v) Ss l.length):=⟨fun _=>Iff.rfl,k5,fun i k hi hk hm=>by have:=al i k hi hk;have:=GO k hm;omega⟩
 have qW:jH F w' (.sl e dr) v l (qw (bm v) Ss l.length):=⟨lh,Ss,dH.2,k2,fun i a b=>(k3 i a b).keep eB fun k hk=>(bI fun _=>False).block k (al i k b hk) fun h=>h,dq⟩
 have Jw:∀k,qw (bm v) Ss l.length k->¬F k/\k<w'.heap.size/\(w.heap.size<=k\/cm H ob os k):=by
  rintro k (hk|⟨i,hi,hk⟩)
  .exact⟨dH.1 k hk,dH.lt k hk, .inl (GO k hk)⟩
  .have:=k4 i k hi hk;exact⟨hs.gK k this,ajJ (hs.uQ k this) (bI fun _=>False).size, .inr this⟩
 refine lU.Po (S:=qw (bm v) Ss l.length) (v0:=v) hs (vd ..) (pq dH) (bI _) (sC qW).1 (fun k hk=>Jw k ((sC (H:=H) qW).2.1 k hk)) (mC (by simp[ao.cq]) (pq dH))
def yS(T:bc P)(n:Nat)(t:TypeId)(same:Bool)(a b:Int)(k:dN->Option R):Option R:=
 match find T.und t with
 |some (.slice e)=>match find T.row e with
  |some (.slice r)=>match find T.und e with
   |some (.slice e')=>(bif same then mV a ([]:List r.den)else U6 a b ([]:List r.den)).bind fun l=>k {dst:= .val false (.own n),make:=[(n,(n, .deep e (.sl e' (.leaf r)) l none))]}
   |_=>none
  |_=>uY T n t same a b k
 |_=>none
theorem xJ{e e' t:TypeId}{r:Row}{a b:Int}(ht:P.underlying t=some (.slice e))(uV:TI P e (.slice r))(hs:au U H F w ob n){ka kb:IntKind}{x y:Operand}(hx:ev ρ x= .int ka a)(hy:ev ρ y= .int kb b)(h0:0<=a)(h1:a<=b)(h2:b<=4294967296):
 cD P U H F w ρ ob n ⟨some d, .makeSlice t x y,ty,pos,aft,none⟩ {dst:= .val false (.own n),make:=[(n,(n, .deep e (.sl e' (.leaf r)) (ai9 a.toNat ([]:List r.den)) none))]}:=by
 obtain⟨v,w',bx,bI,dH,GO⟩:=xE (d:=d) (ty:=ty) (pos:=pos) (aft:=aft) (r:= .jJ) ht (TI.low (d:= .sl e' (.leaf r)) uV) hs hx hy h0 h1 h2
 have qW:jH F w' (.sl e (.sl e' (.leaf r))) v (ai9 a.toNat ([]:List r.den)) (bm v):=by
  refine⟨ai9 a.toNat (Value.slice none 0 0),fun _ _=>False,dH.2,by simp,fun i h1 h2=>?_,⟨fun k=>by simp,fun _ _ _ _ _ _ h=>h.elim,fun _ _ _ h=>h.elim⟩⟩;simp only[List.getElem_replicate];exact⟨[],fun _ _=>False,jG.nil F w' e' r,rfl,fun i h=>absurd h (by simp),⟨fun k=>by simp[bm,ajz],fun _ _ _ h=>absurd h (by simp),fun _ _ h=>absurd h (by simp)⟩⟩
 refine cd.val bx (lU.Po (S:=bm v) (v0:=v) (eat:=[]) (t:=G1 e (.sl e' (.leaf r)) (ai9 a.toNat ([]:List r.den))) hs (vd ..) (pq dH) (bI _) (sC qW).1 (fun k hk=>?_) (mC (by simp[ao.cq]) (pq dH)));have hk:=(sC (H:=H) qW).2.1 k hk;exact⟨dH.1 k hk,dH.lt k hk, .inl (GO k hk)⟩
theorem G6(T:bc P){t:TypeId}{a b:Int}{ka kb:IntKind}{x y:Operand}{k:dN->Option R}{q:R}(h:yS T n t (oF x y) a b k=some q)(hs:au U H F w ob n)(hx:ev ρ x= .int ka a)(hy:ev ρ y= .int kb b):
 ∃e,k e=some q/\cD P U H F w ρ ob n ⟨some d, .makeSlice t x y,ty,pos,aft,none⟩ e:=by
 unfold yS at h;split at h
 case h_2=>cases h
 rename_i e hu;split at h
 case h_2=>exact AB T h hs hx hy
 rename_i r hr;split at h
 case h_2=>cases h
 rename_i e' AJ;obtain⟨l,hl,hk⟩:=bind_some h;have uV:=T.row_ok _ _ hr;have ht:=T.und_ok _ _ hu
 cases mr:oF x y with
 |true=>
  rw[mr,cond_true]at hl;unfold mV at hl;split at hl
  case isFalse=>cases hl
  rename_i hc;obtain rfl:=ai4 hl;obtain rfl:=xF mr hx hy;exact⟨_,hk,xJ ht uV hs hx hy hc.1 (aki _) hc.2⟩
 |false=>
  rw[mr,cond_false]at hl;unfold U6 at hl;split at hl
  case isFalse=>cases hl
  rename_i hc;obtain rfl:=ai4 hl;exact⟨_,hk,xJ ht uV hs hx hy hc.1 hc.2.1 hc.2.2⟩
def vm(deep:Bool)(T:bc P)(n:Nat)(t:TypeId)(same:Bool)(a b:Int)(k:dN->Option R):Option R:=
 match deep with
 |true=>yS T n t same a b k
 |false=>uY T n t same a b k
theorem G7(deep:Bool)(T:bc P){t:TypeId}{a b:Int}{ka kb:IntKind}{x y:Operand}{k:dN->Option R}{q:R}(h:vm deep T n t (oF x y) a b k=some q)(hs:au U H F w ob n)(hx:ev ρ x= .int ka a)(hy:ev ρ y= .int kb b):
 ∃e,k e=some q/\cD P U H F w ρ ob n ⟨some d, .makeSlice t x y,ty,pos,aft,none⟩ e:=by
 cases deep with
 |true=>exact G6 T h hs hx hy
 |false=>exact AB T h hs hx hy
def oJ(T:bc P)(ob:Nat->Option (Nat×Th))(n:Nat)(t:TypeId)(D:ak)(k:dN->Option R):Option R:=
 match D with
 | .dlm .. =>qx T ob n t D k
 |_=>xB T ob t D k
theorem G8(T:bc P){t:TypeId}{D:ak}{x:Operand}{k:dN->Option R}{q:R}(h:oJ T ob n t D k=some q)(hs:au U H F w ob n)(hx:ai H F w D (ev ρ x)):
 ∃e,k e=some q/\cD P U H F w ρ ob n ⟨some d, .load t x,ty,pos,aft,none⟩ e:=by
 unfold oJ at h;split at h
 .exact G3 T h hs hx
 .exact Jv T h hs hx
noncomputable def pA(T:bc P)(ob:Nat->Option (Nat×Th))(n:Nat)(t:TypeId)(D V:ak)(k:dN->Option R):Option R:=
 match D with
 | .dlm .. =>px T ob n t D V k
 |_=>sq T ob n t D V k
theorem Dn(T:bc P){t:TypeId}{D V:ak}{x y:Operand}{k:dN->Option R}{q:R}(h:pA T ob n t D V k=some q)(hs:au U H F w ob n)(hx:ai H F w D (ev ρ x))(hy:ai H F w V (ev ρ y)):
 ∃e,k e=some q/\cD P U H F w ρ ob n ⟨none, .store t x y,ty,pos,aft,none⟩ e:=by
 unfold pA at h;split at h
 .exact Dj T h hs hx hy
 .exact GL T h hs hx hy
def uC(deep:Bool)(T:bc P)(rd:Operand->Option ak)(ob:Nat->Option (Nat×Th))(n:Nat)(t:TypeId)(m:Nat)(parts:Array (Nat×Operand))(k:dN->Option R):Option R:=
 match deep with
 |true=>pz T rd ob n t m parts k
 |false=>jw T rd ob n t m parts k
theorem Dq(deep:Bool)(T:bc P){rd:Operand->Option ak}(fE:∀x d,rd x=some d->ai H F w d (ev ρ x)){t:TypeId}{m:Nat}{parts:Array (Nat×Operand)}{k:dN->Option R}{q:R}(h:uC deep T rd ob n t m parts k=some q)(hs:au U H F w ob n):
 ∃e,k e=some q/\cD P U H F w ρ ob n ⟨some d, .buildSlice t m parts,ty,pos,aft,none⟩ e:=by
 cases deep with
 |true=>exact Dm T fE h hs
 |false=>exact u6 T fE h hs
end
end Go.Proofs.YtilaieogabgamaaGreatDoor
end
