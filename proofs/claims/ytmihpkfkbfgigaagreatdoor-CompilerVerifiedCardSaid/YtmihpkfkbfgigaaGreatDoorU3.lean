/- Joined texts: Effs4 Effs5 Effs6 Effs8 Effs9. -/
import Derived.Test.YtmihpkfkbfgigaaGreatDoorU2
import Derived.Carry
section
open _root_.Array renaming toArray_toList->aj9
open _root_.Go.Instr renaming fill->ak0
open _root_.Int renaming tdiv->ajE,tmod->ajY,toNat_natCast->ajr
open _root_.List.cons renaming injEq->ake
open _root_.List renaming getElem?_eq_getElem->ajl,map_cons->akv
open _root_.Nat renaming add_mul->akk,beq->aju,le_refl->ajo,min_eq_left->aj3,mul_le_mul_right->ajS
open _root_.Option.some renaming inj->ajk
open _root_.Go.Result renaming andThen_ok->aj8
open _root_.Go.Sem renaming run_bind->ajR
open _root_.Go.Value renaming ownBlock->ajV
open _root_.Go.Value.slice renaming injEq->akK
namespace Go.Proofs.YtmihpkfkbfgigaaGreatDoor
open Go Go.RowKit
section
variable {P:Program} {ρ:Nat->Value} {w w':World} {H H':aq} {F F':Nat->Prop} {U:Nat->Prop} {ob:Nat->Option (Nat×Th)} {n:Nat} {R:Type}
variable {op:Op} {ty:TypeId} {pos:String} {aft:Array Edge} {d:Nat}
theorem AI(T:be P){fs:List (TypeId×Nat)}{pl:List (Nat×Nat)}(hz:uA T fs=true)(qy:∀i,pl[i]? =place T fs i)(lM:∀ft off r,(ft,off)∈fs->find T.row ft=some r->True):
 {parts:List (Nat×al)}->{t t':Tree}->{cs:List Value}->{vs:List (Nat×Value)}->E1 T fs t parts=some t'->Holds H F w t cs->parts.map (·.1)=vs.map (·.1)->fl H F w (parts.map (·.2)) (vs.map (·.2))->
 ∃q8,ak0 (pl[·]?) cs.toArray vs=some q8.toArray/\Holds H F w t' q8
 |[],t,t',cs,vs,h,hh,h1,h2=>by
  obtain rfl:=ajk h
  have:vs=[]:=by simpa using h1.symm
  subst this;exact⟨cs,by simp[ak0],hh⟩
 |(f, .val agg u)::parts,t,t',cs,vs,h,hh,h1,h2=>by
  obtain⟨v,us,e,hv,h3⟩:=h2
  cases vs with
  |nil=>simp at e
  |cons fv vs=>
   obtain⟨f',v'⟩:=fv;simp only[akv,ake]at h1 e;obtain⟨rfl,h1⟩:=h1;obtain⟨rfl,rfl⟩:=e;unfold E1 at h;split at h
   case h_2=>cases h
   rename_i s off hg;split at h
   case h_2=>cases h
   rename_i ft dI hf;obtain⟨hb,h'⟩:=aG h;clear h;obtain⟨hb,Sl⟩:=cV hb;obtain⟨E2,Dl⟩:=cV hb;have E2:=beq_true E2;subst E2;have Dl:=beq_true Dl;split at h'
   case h_2=>cases h'
   rename_i tp hp;obtain⟨c1,As,xC⟩:=aH.cells hv;have hl:=As.length;have hle:=(hh.get hg).2
   cases hr:find T.row ft with
   |none=>simp only[hr]at Sl;cases Sl
   |some r=>
    simp only[hr]at Sl;have Sl:=beq_true Sl
    have Py:pl[f]? =some (off,r.size):=by rw[qy];simp[place,hf,hr]
    rw[sf Py xC (by omega) (by omega)];have uY:=Holds.put As hg hp Dl.symm hh;rw[show u.size=r.size from by omega]at uY;exact AI T hz qy lM h' uY h1 h3
 |(_, .dead)::_,_,_,_,_,h,_,_,_=>by cases h
 |(_, .undef)::_,_,_,_,_,h,_,_,_=>by cases h
 |(_, .ptr ..)::_,_,_,_,_,h,_,_,_=>by cases h
 |(_, .at ..)::_,_,_,_,_,h,_,_,_=>by cases h
 |(_, .elem ..)::_,_,_,_,_,h,_,_,_=>by cases h
 |(_, .tup _)::_,_,_,_,_,h,_,_,_=>by cases h
 |(_, .dlm ..)::_,_,_,_,_,h,_,_,_=>by cases h
def sy(T:be P)(rd:Operand->Option al)(t:TypeId)(parts:Array (Nat×Operand))(k:dY->Option R):Option R:=
 match find T.und t with
 |some (.struct fs)=>match find T.row t with
  |some r=>bif uA T fs then
    (match rk rd (parts.toList.map (·.2))with
    |some ds=>match E1 T fs r.AA ((parts.toList.map (·.1)).zip ds)with
     |some tr=>k {dst:= .val true tr}
     |none=>none
    |none=>none)else none
  |none=>none
 |_=>none
theorem jX:{ds:List al}->{vs:List Value}->fl H F w ds vs->ds.length=vs.length
 |[],_,h=>by rw[show _=[]from h];rfl
 |_::_,_,h=>by obtain⟨v,us,rfl,_,h2⟩:=h;simp[jX h2]
theorem G4(T:be P){rd:Operand->Option al}(fN:∀x d,rd x=some d->aj H F w d (ev ρ x)){t:TypeId}{parts:Array (Nat×Operand)}{k:dY->Option R}{q:R}(h:sy T rd t parts k=some q)(hs:au U H F w ob n):
 ∃e,k e=some q/\cG P U H F w ρ ob n ⟨some d, .build t parts,ty,pos,aft,none⟩ e:=by
 unfold sy at h;split at h
 case h_2=>cases h
 rename_i fs hu;obtain⟨arr,CQ,MD⟩:=T.und_ok _ _ hu;split at h
 case h_2=>cases h
 rename_i r hr;obtain⟨ti,z,h1,h2,h3,h4,h5⟩:=T.row_ok _ _ hr;obtain⟨hz,h⟩:=aG h;split at h
 case h_2=>cases h
 rename_i ds uz;split at h
 case h_2=>cases h
 rename_i tr Sm;have hd:=nw (w:=w) (H:=H) (F:=F) (ρ:=ρ) fN uz;have hlen:=jX hd;obtain⟨pl,Sk,Px⟩:=vf (w:=w) T MD hz
 have hn:∀(a:List Nat)(b:List al),a.length=b.length->(a.zip b).map (·.1)=a/\(a.zip b).map (·.2)=b:=fun a b vg=>⟨List.map_fst_zip (by omega),List.map_snd_zip (by omega)⟩
 have Sp:=hn (parts.toList.map (·.1)) ds (by simp at hlen⊢;omega);obtain⟨q8,hf,hh⟩:=AI (w:=w) (H:=H) (F:=F) T hz Px (fun _ _ _ _ _=>trivial) (vs:=parts.toList.map fun(i,q)=>(i,ev ρ q)) Sm (Row.mO H F w r) (by rw[Sp.1];simp[Function.comp_def]) (by rw[Sp.2];simpa[Function.comp_def]using hd);refine⟨_,h,bT hs (v:= .agg q8.toArray) ?_ ⟨q8,hh,rfl,by simp⟩⟩
 have hzc:z.cells=r.eL.toArray:=by rw[<-h3,aj9]
 have hpm:(arr.mapM fun(f:Field)=>(do pure (f.offset,<-sizeOf f.type):Sem (Nat×Nat))).run P w= .ok pl.toArray w:=by
  rw[<-aj9 (xs:=arr),List.mapM_toArray];simp only[Sem.run_map,Sk];rfl
 have OD:(parts.map fun(i,q)=>(i,ev ρ q)).toList=parts.toList.map fun(i,q)=>(i,ev ρ q):=by simp
 have Wn:(fun(x:Nat)=>pl.toArray[x]?)=fun x=>pl[x]? :=by funext x;simp
 simp only[execOp,Instr.build,ajR,zeroValue,typeInfo,h1,h2,run_program,Sem.run_pure,aj8,run_underlying CQ,hzc,OD,hpm,Wn,hf]
def MH(rd:Operand->Option al):Option Operand->Option (Option Int)
 |none=>some none
 |some x=>match rd x with
  |some d=>match asInt d with
   |some (_,i)=>some (some i)
   |none=>none
  |none=>none
theorem E3{rd:Operand->Option al}(fN:∀x d,rd x=some d->aj H F w d (ev ρ x)){lo:Option Operand}{a:Option Int}(h:MH rd lo=some a):Pu ρ lo a:=by
 unfold MH at h;split at h
 .obtain rfl:=ajk h;exact .none
 .split at h
  .split at h
   .obtain rfl:=ajk h;rename_i hD _ _ _ hi;exact .some (gX hi (fN _ _ hD))
   .cases h
  .cases h
def sz(dr:Bool)(T:be P)(rd:Operand->Option al)(ob:Nat->Option (Nat×Th))(n:Nat)(t:TypeId)(D:al)(lo hi:Option Operand)(k:dY->Option R):Option R:=
 match find T.und t with
 |some (.slice e)=>match find T.row e with
  |some re=>match MH rd lo with
   |some a=>match MH rd hi with
    |some b=>match ud ob D with
     |some (.read r l)=>bif aju r.size re.size then(fa l (a.getD 0) (b.getD (l.length:Int))).bind fun m=>k {dst:= .val false (.leaf (.slice r) m)}else none
     |some .nil=>(fa ([]:List re.den) (a.getD 0) (b.getD 0)).bind fun _=>k {dst:= .val false .nil}
     |some (.own o s T0 r l)=>bif aju r.size re.size&&aju T0 e&&(lo.isNone||dr)then(fa l (a.getD 0) (b.getD (l.length:Int))).bind fun m=>k {dst:= .val false (.own n),eat:=[o],make:=[(n,(n, .own T0 r m))]}
       else bif aju r.size re.size then(fa l (a.getD 0) (b.getD (l.length:Int))).bind fun m=>k {dst:= .val false (.view o s r m)}else none
     |_=>none
    |none=>none
   |none=>none
  |none=>none
 |_=>none
theorem G5{e T0:TypeId}{ti:TypeInfo}{r:Row}{t:TypeId}{x:Operand}{lo hi:Option Operand}{a b:Option Int}{l m:List r.den}{o s:Nat}{v:Value}(ht:P.underlying t=some (.slice e))(h1:P.info? e=some ti)(h4:ti.size=r.size)(hx:ev ρ x=v)
 (hs:au U H F w ob n)(cU:ob o=some (s, .own T0 r l))(Pz:H.val o=some v)(ha:Pu ρ lo a)(hb:Pu ρ hi b)(hm:fa l (a.getD 0) (b.getD l.length)=some m):
 cG P U H F w ρ ob n ⟨some d, .slice t x lo hi none,ty,pos,aft,none⟩ {dst:= .val false (.own n),eat:=[o],make:=[(n,(n, .own T0 r m))]}:=by
 have hv:=hs.own cU Pz;obtain⟨p,q,ep,eq,Sq,hq,rfl⟩:=si hm;obtain⟨A,cap,rfl,hlen,Wc,_⟩:=hv.reads;have bw:=ux (P:=P) (w:=w) (d:=d) (ty:=ty) (pos:=pos) (aft:=aft) ht h1 hx ha hb (by omega) (by omega) (by omega) hlen;rw[ep,eq,ajr,ajr,h4]at bw;obtain⟨CP,xs,⟨Jp,Wo⟩,hr⟩:=hv
 have ue:((l.take q).drop p).length=q-p:=by simp;omega
 have hmul:q*r.size<=l.length*r.size:=ajS _ hq;have ab2:p*r.size<=q*r.size:=ajS _ Sq;have ab3:(q-p)*r.size=q*r.size-p*r.size:=Nat.sub_mul ..
 have bU:Ext (cm H ob [o]) w w:=⟨rfl,rfl,rfl,ajo _,fun _ _ _=>rfl⟩
 rcases Wo with⟨GV,h0⟩|⟨g,o0,Jm,cur,fZ,p5,hh,hn1,hn2,qY,JI⟩
 .simp only[akK]at GV;obtain⟨rfl,_,rfl⟩:=GV
  have MI:q=0:=by omega
  subst MI
  obtain rfl:p=0:=by omega
  refine cd.val bw (sx hs bU ?_ ?_)
  .simpa[sliced]using jf.nil 0 F w T0 r
  .intro k hk;simp[sliced,bq,ajV]at hk
 .simp only[akK,true_and]at fZ;obtain⟨rfl,rfl⟩:=fZ
  obtain⟨o1,lR,ho1,JJ⟩:∃o1,sliced (some ⟨g,o0,none⟩) p q cap r.size= .slice (some ⟨g,o1,none⟩) (q-p) (cap-p)/\o1+(cap-p)*r.size<=cur.size/\(cur.toList.drop o1).take ((q-p)*r.size)=(xs.drop (p*r.size)).take ((q-p)*r.size):=by
   have hcp:p*r.size<=cap*r.size:=ajS _ (by omega);have adO:(cap-p)*r.size=cap*r.size-p*r.size:=Nat.sub_mul ..;unfold sliced;by_cases hc:cap=p
   .refine⟨o0,by rw[if_pos hc],by omega,?_⟩
    have:q=p:=by omega
    subst this;simp
   .refine⟨o0+p*r.size,by rw[if_neg hc,Option.map_some,cL],by omega,?_⟩;rw[<-JI,List.drop_take,List.take_take,List.drop_drop]
    congr 1
    omega
  rw[lR]at bw
  have hmy:∀k,bq (.slice (some ⟨g,o1,none⟩) (q-p) (cap-p)) k->bq (.slice (some ⟨g,o0,none⟩) l.length cap) k:=fun k hk=>by simpa[bq,ajV]using hk
  refine cd.val bw (sx hs bU ⟨fun k hk=>CP k (hmy k hk),(xs.drop (p*r.size)).take ((q-p)*r.size),⟨by rw[ue];simp;omega, .inr ⟨g,o1,cap-p,cur,by rw[ue],p5,hh,by omega,by omega,ho1,?_⟩⟩,fun i hi=>?_⟩ fun k hk=> .inl ⟨o,by simp,_,_,_,cU,Pz,hmy k hk⟩)
  .rw[ue];exact JJ
  .have hi2:i<q-p:=by omega
   have hle:(i+1)*r.size<=(q-p)*r.size:=ajS _ hi2;rw[akk]at hle;have:=hr (p+i) (by omega)
   have hg:((l.take q).drop p)[i]=l[p+i]'(by omega):=by simp
   rw[hg,List.drop_take,List.take_take,aj3 (by omega),List.drop_drop,show p*r.size+i*r.size=(p+i)*r.size from(akk ..).symm];exact this
theorem G6(dr:Bool)(T:be P){rd:Operand->Option al}(fN:∀x d,rd x=some d->aj H F w d (ev ρ x)){t:TypeId}{D:al}{x:Operand}{lo hi:Option Operand}{k:dY->Option R}{q:R}(h:sz dr T rd ob n t D lo hi k=some q)(hs:au U H F w ob n)(hx:aj H F w D (ev ρ x)):
 ∃e,k e=some q/\cG P U H F w ρ ob n ⟨some d, .slice t x lo hi none,ty,pos,aft,none⟩ e:=by
 unfold sz at h;split at h
 case h_2=>cases h
 rename_i e hu;have ht:=T.und_ok _ _ hu;split at h
 case h_2=>cases h
 rename_i re Wq;obtain⟨ti,z,h1,_,_,h4,_⟩:=T.row_ok _ _ Wq;split at h
 case h_2=>cases h
 rename_i a ha;split at h
 case h_2=>cases h
 rename_i b hb;have MJ:=E3 (w:=w) (H:=H) (F:=F) (ρ:=ρ) fN ha;have p5:=E3 (w:=w) (H:=H) (F:=F) (ρ:=ρ) fN hb
 have PA:∀{r:Row}{l m:List r.den},cD F w (.slice r) [ev ρ x] l->r.size=re.size->fa l (a.getD 0) (b.getD (l.length:Int))=some m->cG P U H F w ρ ob n ⟨some d, .slice t x lo hi none,ty,pos,aft,none⟩ {dst:= .val false (.leaf (.slice r) m)}:=by
  intro r l m hv hz hm;obtain⟨p,q',ep,eq,Sq,hq,rfl⟩:=si hm;have dz:=hv;obtain⟨A,cap,he,hc,PB,_⟩:=hv;simp only[ake,and_true]at he;have bw:=ux (P:=P) (w:=w) (d:=d) (ty:=ty) (pos:=pos) (aft:=aft) ht h1 he MJ p5 (by omega) (by omega) (by omega) hc;rw[ep,eq,ajr,ajr,h4,<-hz]at bw;rw[he]at dz;exact bT hs bw (aH.mN (dz.cut Sq hq))
 split at h
 .rename_i r l fZ;obtain⟨hz,h⟩:=aG h;obtain⟨m,hm,hk⟩:=bind_some h;exact⟨_,hk,PA (iG hs fZ hx) (beq_true hz) hm⟩
 .rename_i fZ;obtain⟨m,hm,hk⟩:=bind_some h;have hv:ev ρ x=_:=iG hs fZ hx;unfold fa at hm;split at hm
  case isFalse=>cases hm
  rename_i hc
  have ea:a.getD 0=0:=by have:=hc.2.1;have:=hc.2.2;simp at this;omega
  have eb:b.getD ((0:Nat):Int)=0:=by have:=hc.2.1;have:=hc.2.2;simp at this⊢;omega
  have bw:=ux (P:=P) (w:=w) (d:=d) (ty:=ty) (pos:=pos) (aft:=aft) ht h1 hv MJ p5 (by omega) (by omega) (by omega) (ajo _);rw[ea,eb]at bw;exact⟨_,hk,bT hs bw ⟨_,rfl,rfl,fun _=>rfl⟩⟩
 .rename_i o s T0 r l fZ;obtain⟨hv,cU,eo⟩:=iG hs fZ hx
  cases Wr:(aju r.size re.size&&aju T0 e&&(lo.isNone||dr))with
  |true=>
   rw[Wr,cond_true]at h;obtain⟨w4,Ws⟩:=cV Wr;obtain⟨CR,hT⟩:=cV w4;have Si:=beq_true CR;obtain⟨m,hm,hk⟩:=bind_some h;exact⟨_,hk,G5 ht h1 (h4.trans Si.symm) rfl hs cU hv MJ p5 hm⟩
  |false=>
   rw[Wr,cond_false]at h;obtain⟨CR,h'⟩:=aG h;clear h;have Si:=beq_true CR;obtain⟨m,hm,hk⟩:=bind_some h';obtain⟨p,q',ep,eq,Sq,hq,rfl⟩:=si hm;obtain⟨A,cap,he,hc,PB,_⟩:=eo.reads;have bw:=ux (P:=P) (w:=w) (d:=d) (ty:=ty) (pos:=pos) (aft:=aft) ht h1 he MJ p5 (by omega) (by omega) (by omega) hc;rw[ep,eq,ajr,ajr,h4,<-Si]at bw;obtain⟨v',dz,cn⟩:=hs.obj _ _ _ cU;refine⟨_,hk,bT hs bw ⟨_,⟨_,rfl,A,cap,T0,l,p,q',by rw[hv,he],cn.con,Sq,hq,rfl,rfl⟩,rfl,fun _=>rfl⟩⟩
 .cases h
noncomputable def PC(T:be P)(ob:Nat->Option (Nat×Th))(o:BinOp)(t:TypeId)(X Y:al):Option al:=
 match X,Y with
 | .val false (.leaf .bool a), .val false (.leaf .bool b)=>match find T.und t with
   |some .bool=>match o with
    | .eql=>some (dM (decide (a=b)))
    | .neq=>some (dM (!decide (a=b)))
    |_=>none
   |_=>none
 | .val false (.leaf .str a), .val false (.leaf .str b)=>match o with
   | .eql=>some (dM (decide (a=b)))
   | .neq=>some (dM (!decide (a=b)))
   |_=>none
 | .val true u, .val true v=>match find T.eqs t with
   |some r=>match flat ob r u with
    |some x=>match flat ob r v with
     |some y=>match o with
      | .eql=>some (dM (oD r x y))
      | .neq=>some (dM (!(oD r x y)))
      |_=>none
     |none=>none
    |none=>none
   |none=>none
 |_,_=>none
theorem MK(T:be P){o:BinOp}{t u:TypeId}{X Y D:al}{x y:Operand}(h:PC T ob o t X Y=some D)(hs:au U H F w ob n)(hx:aj H F w X (ev ρ x))(hy:aj H F w Y (ev ρ y)):
 cG P U H F w ρ ob n ⟨some d, .binOp o t x y u,ty,pos,aft,none⟩ {dst:=D}:=by
 unfold PC at h;split at h
 .rename_i a b;split at h
  case h_2=>cases h
  rename_i hu;have hu:=T.und_ok _ _ hu;have ha:ev ρ x= .bool a:=aH.bool hx;have hb:ev ρ y= .bool b:=aH.bool hy
  split at h<;>cases h
  .exact aL hs (Gs hu ha hb) (aH.gk ..)
  .exact aL hs (Gt hu ha hb) (aH.gk ..)
 .rename_i a b;have ha:ev ρ x= .string a:=aH.str hx;have hb:ev ρ y= .string b:=aH.str hy
  split at h<;>cases h
  .exact aL hs (Gu ha hb) (aH.gk ..)
  .exact aL hs (Gv ha hb) (aH.gk ..)
 .rename_i u v;split at h
  case h_2=>cases h
  rename_i r hr;obtain⟨K,dd,hE,hd,hg,hD⟩:=T.eqs_ok _ _ hr;split at h
  case h_2=>cases h
  rename_i a ha;split at h
  case h_2=>cases h
  rename_i b hb;obtain⟨c1,g1,e1,_⟩:=hx;obtain⟨c2,g2,e2,_⟩:=hy;have r1:=iF hs ha g1;have r2:=iF hs hb g2
  split at h<;>cases h
  .exact aL hs (GI hE hd hg hD e1 e2 r1 r2) (aH.gk ..)
  .exact aL hs (GJ hE hd hg hD e1 e2 r1 r2) (aH.gk ..)
 .cases h
def PD(a b:ByteArray):Option ByteArray:=if a.size+b.size<=9223372036854775807 then some (a++b)else none
def Dm(o:BinOp)(X Y:al):Option (ByteArray×ByteArray):=
 match o,X,Y with
 | .add, .val false (.leaf .str a), .val false (.leaf .str b)=>some (a,b)
 |_,_,_=>none
theorem PE{t u:TypeId}{o:BinOp}{X Y:al}{x y:Operand}{a b c:ByteArray}(h:Dm o X Y=some (a,b))(hc:PD a b=some c)(hs:au U H F w ob n)(hx:aj H F w X (ev ρ x))(hy:aj H F w Y (ev ρ y)):
 cG P U H F w ρ ob n ⟨some d, .binOp o t x y u,ty,pos,aft,none⟩ {dst:= .val false (.leaf .str c)}:=by
 unfold Dm at h
 split at h<;>cases h
 unfold PD at hc;split at hc
 case isFalse=>cases hc
 rename_i hle;obtain rfl:=ajk hc;have ha:ev ρ x= .string a:=aH.str hx;have hb:ev ρ y= .string b:=aH.str hy;refine bT hs (v:= .string (a++b)) ?_ (aH.mN rfl)
 have:¬(9223372036854775807:Int)<(a.size:Int)+(b.size:Int):=by omega
 simp[execOp,eqGuard,binOp,Op.stringOp,ha,hb,IntKind.max,IntKind.signed,IntKind.bits,this]
noncomputable def G7(T:be P)(ob:Nat->Option (Nat×Th))(o:BinOp)(t:TypeId)(lit:Bool)(X Y:al)(k:dY->Option R):Option R:=
 match asInt X with
 |some (kx,a)=>match asInt Y with
  |some (ky,b)=>match o with
   | .shl=>bif lit then(bif !decide (b<0)then k {dst:=mq kx (yJ kx a b)}else none)else(GP kx a b).bind fun c=>k {dst:=mq kx c}
   | .shr=>bif lit then(bif !decide (b<0)then k {dst:=mq kx (gm kx a b)}else none)else(GQ kx a b).bind fun c=>k {dst:=mq kx c}
   |o=>bif decide (kx=ky)then
    (match o with
    | .quo=>bif lit then(bif decide (b≠0)then k {dst:=mq kx (kx.wrap (ajE a b))}else none)else(yK a b).bind fun c=>k {dst:=mq kx (kx.wrap c)}
    | .rem=>bif lit then(bif decide (b≠0)then k {dst:=mq kx (ajY a b)}else none)else(GR a b).bind fun c=>k {dst:=mq kx c}
    |_=>match arith o kx a b with
     |some D=>k {dst:=D}
     |none=>none)else none
  |none=>none
 |none=>match Dm o X Y with
  |some (a,b)=>(PD a b).bind fun c=>k {dst:= .val false (.leaf .str c)}
  |none=>match PC T ob o t X Y with
   |some D=>k {dst:=D}
   |none=>none
theorem ML(T:be P){o:BinOp}{t u:TypeId}{lit:Bool}{X Y:al}{x y:Operand}{k:dY->Option R}{q:R}(h:G7 T ob o t lit X Y k=some q)(hs:au U H F w ob n)(hx:aj H F w X (ev ρ x))(hy:aj H F w Y (ev ρ y)):
 ∃e,k e=some q/\cG P U H F w ρ ob n ⟨some d, .binOp o t x y u,ty,pos,aft,none⟩ e:=by
 unfold G7 at h;split at h
 .rename_i kx a hX;split at h
  case h_2=>cases h
  rename_i ky b hY;have ha:=gX hX hx;have hb:=gX hY hy;split at h
  .cases lit with
   |true=>
    rw[cond_true]at h;obtain⟨bP,h⟩:=aG h;exact⟨_,h,aL hs (Ay ha hb (by simpa using bP)) (aH.jF ..)⟩
   |false=>
    rw[cond_false]at h;obtain⟨c,hc,h⟩:=bind_some h;unfold GP at hc;split at hc
    .cases hc
    .rename_i bP;obtain rfl:=ajk hc;exact⟨_,h,aL hs (Ay ha hb bP) (aH.jF ..)⟩
  .cases lit with
   |true=>
    rw[cond_true]at h;obtain⟨bP,h⟩:=aG h;exact⟨_,h,aL hs (Az ha hb (by simpa using bP)) (aH.jF ..)⟩
   |false=>
    rw[cond_false]at h;obtain⟨c,hc,h⟩:=bind_some h;unfold GQ at hc;split at hc
    .cases hc
    .rename_i bP;obtain rfl:=ajk hc;exact⟨_,h,aL hs (Az ha hb bP) (aH.jF ..)⟩
  obtain⟨hk,h'⟩:=aG h;clear h;have hk:=of_decide_eq_true hk;subst hk;revert h';intro h;split at h
  .cases lit with
   |true=>
    rw[cond_true]at h;obtain⟨bP,h⟩:=aG h;exact⟨_,h,JA (of_decide_eq_true bP) hs ha hb⟩
   |false=>
    rw[cond_false]at h;obtain⟨c,hc,h⟩:=bind_some h;unfold yK at hc;split at hc
    .cases hc
    .rename_i bP;obtain rfl:=ajk hc;exact⟨_,h,JA bP hs ha hb⟩
  .cases lit with
   |true=>
    rw[cond_true]at h;obtain⟨bP,h⟩:=aG h;exact⟨_,h,JB (of_decide_eq_true bP) hs ha hb⟩
   |false=>
    rw[cond_false]at h;obtain⟨c,hc,h⟩:=bind_some h;unfold GR at hc;split at hc
    .cases hc
    .rename_i bP;obtain rfl:=ajk hc;exact⟨_,h,JB bP hs ha hb⟩
  .split at h
   case h_2=>cases h
   rename_i D hD;exact⟨_,h,Jz hD hs ha hb⟩
 .split at h
  .rename_i a b vg;obtain⟨c,hc,h⟩:=bind_some h;exact⟨_,h,PE vg hc hs hx hy⟩
  .split at h
   case h_2=>cases h
   rename_i D hD;exact⟨_,h,MK T hD hs hx hy⟩
def Wt(o:UnOp)(X:al):Option al:=
 match o with
 | .not=>match asBool X with
   |some b=>some (dM (!b))
   |none=>none
 | .neg=>match asInt X with
   |some (k,a)=>some (mq k (k.wrap (0-a)))
   |none=>none
 |_=>none
theorem PF{o:UnOp}{t:TypeId}{X D:al}{x:Operand}(h:Wt o X=some D)(hs:au U H F w ob n)(hx:aj H F w X (ev ρ x)):
 cG P U H F w ρ ob n ⟨some d, .unOp o t x,ty,pos,aft,none⟩ {dst:=D}:=by
 unfold Wt at h;split at h
 .split at h<;>cases h
  rename_i b hb;exact aL hs (Jg (nq hb hx)) (aH.gk ..)
 .split at h<;>cases h
  rename_i k a ha;exact aL hs (Jh (gX ha hx)) (aH.jF ..)
 .cases h
def JK(T:be P)(s t:TypeId)(X:al):Option al:=
 match find T.und s with
 |some _=>match find T.und t with
  |some (.int k)=>match asInt X with
   |some (_,a)=>some (mq k (k.wrap a))
   |none=>none
  |some .str=>match Aw X with
   |some a=>some (Wj a)
   |none=>none
  |_=>none
 |none=>none
theorem JL(T:be P){s t:TypeId}{X D:al}{x:Operand}(h:JK T s t X=some D)(hs:au U H F w ob n)(hx:aj H F w X (ev ρ x)):
 cG P U H F w ρ ob n ⟨some d, .convert s t x,ty,pos,aft,none⟩ {dst:=D}:=by
 unfold JK at h;split at h
 case h_2=>cases h
 rename_i ks hsu;obtain⟨dd,wW,_⟩:=(T.und_ok _ _ hsu).agg;split at h
 .rename_i k Wu
  split at h<;>cases h
  rename_i k' a ha;exact aL hs (Gw wW (T.und_ok _ _ Wu) (gX ha hx)) (aH.jF ..)
 .rename_i Wu
  split at h<;>cases h
  rename_i a ha;have hv:=u5 ha hx;have Wv:P.underlying t=some .string:=T.und_ok _ _ Wu;refine bT hs (v:= .string a) ?_ (aH.mkStr ..);simp[execOp,convert,run_underlying wW,run_underlying Wv,hv]
 .cases h
def vh(D:al)(i:Nat):Option al:=
 match D with
 | .tup ds=>match ds[i]? with
   |some (a,t)=>some (.val a t)
   |none=>none
 |_=>none
theorem rb.get:{ds:List (Bool×Tree)}->{vs:List Value}->{i:Nat}->{a:Bool}->{t:Tree}->rb H F w ds vs->ds[i]? =some (a,t)->∃v,vs[i]? =some v/\aH H F w a t v
 |[],_,_,_,_,_,h=>by cases h
 |d::ds,_,0,a,t,hh,h=>by
  obtain⟨v,us,rfl,h1,h2⟩:=hh
  obtain rfl:d=(a,t):=by simpa using h
  exact⟨v,rfl,h1⟩
 |d::ds,_,i+1,a,t,hh,h=>by
  obtain⟨v,us,rfl,h1,h2⟩:=hh;obtain⟨v',e,hv⟩:=rb.get h2 (by simpa using h);exact⟨v',by simpa using e,hv⟩
theorem AJ{D D':al}{i:Nat}{x:Operand}(h:vh D i=some D')(hs:au U H F w ob n)(hx:aj H F w D (ev ρ x)):
 cG P U H F w ρ ob n ⟨some d, .extract x i,ty,pos,aft,none⟩ {dst:=D'}:=by
 unfold vh at h;split at h
 case h_2=>cases h
 split at h<;>cases h
 rename_i ds a t hd;obtain⟨vs,e,ht⟩:=hx;obtain⟨v,hv,nn⟩:=ht.get hd;exact aL hs (yG e (by simpa using hv)) nn
def uB(mx:Bool)(X Y:al):Option al:=
 match asInt X,asInt Y with
 |some (k,a),some (k',b)=>bif decide (k=k')then some (mq k (bif mx then(if a<b then b else a)else(if b<a then b else a)))else none
 |_,_=>none
theorem vi{mx:Bool}{t t':TypeId}{X Y D:al}{x y:Operand}(h:uB mx X Y=some D)(hs:au U H F w ob n)(hx:aj H F w X (ev ρ x))(hy:aj H F w Y (ev ρ y)):
 cG P U H F w ρ ob n ⟨some d, .call {callee:= .builtin (bif mx then .max else .min),args:= #[x,y],argTypes:= #[t,t']},ty,pos,aft,none⟩ {dst:=D}:=by
 unfold uB at h;split at h
 case h_2=>cases h
 rename_i k a k' b ha hb;obtain⟨hk,h'⟩:=aG h;clear h;have hk:=of_decide_eq_true hk;subst hk;obtain rfl:=ajk h';have ha:=gX ha hx;have hb:=gX hb hy
 cases mx with
 |true=>exact aL hs (Gy ha hb) (aH.jF ..)
 |false=>exact aL hs (Gz ha hb) (aH.jF ..)
theorem G8{D:al}{x:Operand}(hs:au U H F w ob n)(hx:aj H F w D (ev ρ x)):cG P U H F w ρ ob n ⟨some d, .move x,ty,pos,aft,none⟩ {dst:=D}:=aL hs (Gr rfl) hx
theorem AK{D:al}{x:Operand}(hs:au U H F w ob n)(hx:aj H F w D (ev ρ x)):cG P U H F w ρ ob n ⟨some d, .assign x,ty,pos,aft,none⟩ {dst:=D}:=aL hs (Aq rfl) hx
def yO(T:be P)(t:TypeId)(f:Nat)(X:al):Option al:=
 match find T.und t with
 |some (.struct fs)=>match fs[f]? with
  |some (ft,off)=>match find T.und ft with
   |some kk=>match X with
    | .val true u=>match u.get (rf fs.length f)with
      |some (s,dI)=>bif aju dI off&&mu T ft kk s.size then some (.val (kP kk) s)else none
      |none=>none
    |_=>none
   |none=>none
  |none=>none
 |_=>none
theorem Dn(T:be P){t:TypeId}{f:Nat}{X D:al}{x:Operand}(h:yO T t f X=some D)(hs:au U H F w ob n)(hx:aj H F w X (ev ρ x)):
 cG P U H F w ρ ob n ⟨some d, .field t x f,ty,pos,aft,none⟩ {dst:=D}:=by
 unfold yO at h;split at h
 case h_2=>cases h
 rename_i fs hu;obtain⟨arr,CQ,MD⟩:=T.und_ok _ _ hu;split at h
 case h_2=>cases h
 rename_i ft off hf;obtain⟨fd,Rz,rfl,rfl⟩:=AB MD hf;split at h
 case h_2=>cases h
 rename_i kk hft;obtain⟨dd,wW,xx⟩:=(T.und_ok _ _ hft).agg;split at h
 case h_2=>cases h
 rename_i u;split at h
 case h_2=>cases h
 rename_i s dI hg;obtain⟨hb,rfl⟩:=mr h;obtain⟨E2,Dl⟩:=cV hb;obtain rfl:=beq_true E2;have hz:=jG T Dl;obtain⟨cs,qY,e,_⟩:=hx;obtain⟨g1,g2⟩:=qY.get hg;have hl:=g1.length;have e':ev ρ x= .agg cs.toArray:=e
 have Sr:∃v,(part fd.type cs.toArray fd.offset).run P w= .ok v w/\aH H F w (kP kk) s v:=by
  cases ha:kP kk with
  |true=>
   rw[if_pos ha]at hz;obtain⟨r,hr,IN⟩:=hz;obtain⟨ti,z,h1,_,_,h4,_⟩:=T.row_ok _ _ hr;refine⟨.agg ((cs.drop fd.offset).take s.size).toArray,?_,_,g1,rfl,by simp⟩;unfold part;rw[ajR,fh wW,xx,ha];simp[sizeOf,typeInfo,h1,h4,IN]
  |false=>
   rw[if_neg (by simp[ha])]at hz
   have ao:fd.offset<cs.length:=by omega
   refine⟨cs[fd.offset],?_,_,g1,?_,fun _=>?_⟩
   .unfold part;rw[ajR,fh wW,xx,ha];simp[ao]
   .rw[hz,List.take_one,List.head?_drop,ajl ao];rfl
   .rw[hz,List.take_one,List.head?_drop,ajl ao];rfl
 obtain⟨v,hv,nn⟩:=Sr;refine bT hs (v:=v) ?_ nn;simp[execOp,Instr.field,run_underlying CQ,Rz,e',asAgg,hv]
end
end Go.Proofs.YtmihpkfkbfgigaaGreatDoor
end
section
open _root_.Array renaming getElem?_eq_some_iff->akh
open _root_.Go.Instr renaming findNow->akB,mapUpdate->ak4
open _root_.List.cons renaming injEq->ake
open _root_.List renaming length_append->ajm,mem_cons->ajJ,take_append_of_le_length->ajK,take_length->ajD
open _root_.Go.MapKept renaming run_checkKey->akG,run_findKey->akM,run_getObj_map->akL
open _root_.Nat renaming add_mul->akk,beq->aju,le_refl->ajo,mul_le_mul_right->ajS,zero_add->ajO
open _root_.Option.some renaming inj->ajk,injEq->ajx
open _root_.Prod.mk renaming injEq->akl
open _root_.Go.Result renaming andThen->aj0
open _root_.Go.Sem renaming run_bind->ajR
open _root_.Go.Value renaming int->aks
namespace Go.Proofs.YtmihpkfkbfgigaaGreatDoor
open Go Go.RowKit Go.MapKept
noncomputable def gY{α:Type}(K:Row):List (K.den×α)->K.den->Option α
 |[],_=>none
 |p::l,k=>if gV K p.1 k=true then some p.2 else gY K l k
noncomputable def mv{α:Type}(K:Row):List (K.den×α)->K.den->α->List (K.den×α)
 |[],k,v=>[(k,v)]
 |p::l,k,v=>if gV K p.1 k=true then(p.1,v)::l else p::mv K l k v
theorem xF{K:Row}{a b:K.den}{u v:Value}(ha:nS K a=some u)(hb:nS K b=some v):gV K a b=true↔u=v:=by
 unfold nS at ha
 split at ha<;>first|cases ha|skip
 all_goals
  simp only[nS,ajx]at hb;subst hb;simp[gV]
def vj{P:Program}(T:be P)(kt:TypeId):Row->Bool
 | .int k=>match find T.und kt with
   |some (.int k')=>decide (k=k')
   |_=>false
 | .bool=>match find T.und kt with
   |some .bool=>true
   |_=>false
 | .str=>match find T.und kt with
   |some .str=>true
   |_=>false
 |_=>false
section
variable {P:Program} {ρ:Nat->Value} {w w':World} {H H':aq} {F F':Nat->Prop} {U:Nat->Prop} {ob:Nat->Option (Nat×Th)} {n:Nat} {R:Type}
variable {op:Op} {ty:TypeId} {pos:String} {aft:Array Edge} {d:Nat}
theorem rl(T:be P){kt:TypeId}{K:Row}(h:vj T kt K=true):∃d,P.underlying kt=some d/\(∀x v,nS K x=some v->IsKey d v)/\(∀x v,cD F w K [v] x->nS K x=some v):=by
 unfold vj at h;split at h
 .split at h
  .rename_i k _ k' hu;obtain rfl:=of_decide_eq_true h;refine⟨_,T.und_ok _ _ hu,fun x v hx=>?_,fun x v hr=>?_⟩
   .obtain rfl:=ajk hx;rfl
   .have py:[v]=[aks k x]:=hr;simp only[ake,and_true]at py;rw[py];rfl
  .cases h
 .split at h
  .rename_i hu;refine⟨_,T.und_ok _ _ hu,fun x v hx=>?_,fun x v hr=>?_⟩
   .obtain rfl:=ajk hx;trivial
   .have py:[v]=[Value.bool x]:=hr;simp only[ake,and_true]at py;rw[py];rfl
  .cases h
 .split at h
  .rename_i hu;refine⟨_,T.und_ok _ _ hu,fun x v hx=>?_,fun x v hr=>?_⟩
   .obtain rfl:=ajk hx;trivial
   .have py:[v]=[Value.string x]:=hr;simp only[ake,and_true]at py;rw[py];rfl
  .cases h
 .cases h
theorem sA{K:Row}{agg:Bool}{V:Row}{dd:TypeDesc}{x:K.den}{kv:Value}(hK:∀x v,nS K x=some v->IsKey dd v)(hx:nS K x=some kv):{es:List MapEntry}->{l:List (K.den×V.den)}->(i:Nat)->lQ H F w K agg V es l->
 (akB dd kv es i=some none/\gY K l x=none/\(∀e∈es,e.key≠kv)/\∀H' F' w' y(e:MapEntry),e.key=kv->H.le H'->Step F w F' w'->aH H' F' w' agg (.leaf V y) e.val->lQ H' F' w' K agg V (es++[e]) (mv K l x y))\/
 ∃j e y,akB dd kv es i=some (some (i+j,e.val))/\es[j]? =some e/\e.key=kv/\gY K l x=some y/\aH H F w agg (.leaf V y) e.val/\
  ∀H' F' w' y(f:MapEntry->MapEntry),(f e).key=kv->H.le H'->Step F w F' w'->aH H' F' w' agg (.leaf V y) (f e).val->lQ H' F' w' K agg V (es.modify j f) (mv K l x y)
 |[],l,i,h=>by
  obtain rfl:l=[]:=h;refine .inl ⟨rfl,rfl,by simp,fun H' F' w' y e he hH hs hv=>⟨x,y,[],rfl,by rw[he];exact hx,hv,rfl⟩⟩
 |e::es,l,i,h=>by
  obtain⟨k,y,l',rfl,h1,h2,h3⟩:=h;obtain⟨r,hr,JM⟩:=sameNow_of_keys (hK x kv hx) (hK k _ h1);have Jw:=xF h1 hx
  cases r with
  |true=>
   have PG:kv=e.key:=JM.1 rfl;have hq:gV K k x=true:=Jw.2 PG.symm;refine .inr ⟨0,e,y,by simp[akB,hr],rfl,PG.symm,by simp[gY,hq],h2,fun H' F' w' y' f hf hH hs hv=>?_⟩;refine⟨k,y',l',by simp[mv,hq],?_,hv,h3.keep hH hs⟩
   show nS K k=some (f e).key
   rw[hf,h1,PG]
  |false=>
   have bP:¬e.key=kv:=fun q=>by have:=JM.2 q.symm;cases this
   have hq:¬gV K k x=true:=fun q=>bP (Jw.1 q)
   rcases sA hK hx (i+1) h3 with⟨a1,a2,a3,a4⟩|⟨j,e',z,a1,a2,a3,a4,a5,a6⟩
   .refine .inl ⟨by simp[akB,hr,a1],by simp[gY,hq,a2],fun e' he'=>?_,fun H' F' w' y' e' he' hH hs hv=>?_⟩
    .rcases ajJ.1 he' with rfl|he'
     .exact bP
     .exact a3 e' he'
    .exact⟨k,y,_,by simp[mv,hq],h1,h2.keep hH hs,a4 H' F' w' y' e' he' hH hs hv⟩
   .refine .inr ⟨j+1,e',z,by simp[akB,hr,a1];omega,by simpa using a2,a3,by simp[gY,hq,a4],a5,fun H' F' w' y' f hf hH hs hv=>?_⟩;refine⟨k,y,_,by simp[mv,hq],?_,?_,a6 H' F' w' y' f hf hH hs hv⟩
    .exact h1
    .exact h2.keep hH hs
noncomputable def asKey(ob:Nat->Option (Nat×Th))(K:Row):al->Option K.den
 | .val false t=>flat ob K t
 |_=>none
theorem rm(hs:au U H F w ob n){K:Row}{D:al}{x:K.den}{v:Value}(h:asKey ob K D=some x)(hd:aj H F w D v):cD F w K [v] x:=by
 unfold asKey at h;split at h
 .obtain⟨cs,h1,_,h3⟩:=hd;rw[h3 rfl]at h1;exact iF hs h h1
 .cases h
def JN(ob:Nat->Option (Nat×Th)):al->Option (Nat×Nat×Th)
 | .val false (.own o)=>match ob o with
   |some (s, .map T K agg V l)=>some (o,s, .map T K agg V l)
   |_=>none
 |_=>none
theorem JO(hs:au U H F w ob n){D:al}{o s:Nat}{t:Th}{v:Value}(h:JN ob D=some (o,s,t))(hd:aj H F w D v):∃T K agg V l b es clock,t= .map T K agg V l/\ob o=some (s,t)/\H.val o=some v/\v= .map (some b)/\
 w.heap[b]? =some (.map es clock)/\Stamped es clock/\lQ H F w K agg V es.toList l:=by
 unfold JN at h;split at h
 .rename_i o';split at h
  .rename_i s' T K agg V l cU;simp only[ajx,akl]at h;obtain⟨rfl,rfl,rfl⟩:=h;obtain⟨cs,⟨u,hu,_,e⟩,_,h3⟩:=hd;rw[h3 rfl]at e
   obtain rfl:v=u:=by simpa using e
   obtain⟨v',dz,cn⟩:=hs.obj _ _ _ cU;rw[hu]at dz;obtain rfl:=ajk dz;obtain⟨b,es,clock,e,h1,h2,h3⟩:=cn.ok;exact⟨T,K,agg,V,l,b,es,clock,rfl,cU,hu,e,h1,h2,h3⟩
  .cases h
 .cases h
def nx(T:be P)(n:Nat)(t:TypeId)(k:dY->Option R):Option R:=
 match find T.und t with
 |some (.map kt vt)=>match find T.row kt with
  |some K=>match find T.row vt with
   |some V=>match find T.und vt with
    |some kk=>k {dst:= .val false (.own n),make:=[(n,(n, .map t K (kP kk) V []))]}
    |none=>none
   |none=>none
  |none=>none
 |_=>none
theorem AL(T:be P){t:TypeId}{k:dY->Option R}{q:R}(h:nx T n t k=some q)(hs:au U H F w ob n):
 ∃e,k e=some q/\cG P U H F w ρ ob n ⟨some d, .makeMap t none,ty,pos,aft,none⟩ e:=by
 unfold nx at h;split at h
 case h_2=>cases h
 split at h
 case h_2=>cases h
 rename_i K _;split at h
 case h_2=>cases h
 rename_i V _;split at h
 case h_2=>cases h
 rename_i kk _
 have bw:(execOp (ev ρ) ⟨some d, .makeMap t none,ty,pos,aft,none⟩).run P w= .ok (.value (.map (some w.heap.size))) (w.alloc (.map #[] 0)):=by
  simp[execOp,Instr.makeMap,aj0]
 refine⟨_,h,cd.val bw ?_⟩
 have hv:((H.bK n (.map t K (kP kk) V [])).cW n (.map (some w.heap.size))).val n=some (.map (some w.heap.size)):=by simp[aq.cW]
 refine mo.new (v0:= .map (some w.heap.size)) hs rfl rfl (pC _) ⟨_, #[],0,rfl,(heap_alloc w _).1,stamped_empty 0,rfl⟩ (fun k hk=>?_) (mP hv rfl);simp only[fp,Value.map.injEq,ajx]at hk;subst hk;exact⟨fun e=>by have:=hs.lt _ e;omega,by simp, .inl (ajo _)⟩
noncomputable def jt(T:be P)(ob:Nat->Option (Nat×Th))(n:Nat)(t:TypeId)(M X Y:al)(k:dY->Option R):Option R:=
 match find T.und t with
 |some (.map kt _)=>match JN ob M with
  |some (o,_, .map T0 K agg V l)=>bif vj T kt K then(match asKey ob K X with
   |some x=>match Y with
    | .val lp tr=>bif (bif agg then lp else !lp)then(match flat ob V tr with
      |some y=>k {dst:= .dead,eat:=[o],make:=[(o,(n, .map T0 K agg V (mv K l x y)))]}
      |none=>none)else none
    |_=>none
   |none=>none)else none
  |_=>none
 |_=>none
theorem ny{Ww kt et:TypeId}{dd:TypeDesc}{b clock:Nat}{es:Array MapEntry}{key val:Value}(hm:P.underlying Ww=some (.map kt et))(hd:P.underlying kt=some dd)(hb:w.heap[b]? =some (.map es clock))(hk:IsKey dd key):
 (akB dd key es.toList 0=some none->(ak4 Ww (.map (some b)) key val).run P w= .ok () {w with heap:=w.heap.setIfInBounds b (.map (es.push {key,val,born:=clock}) (clock+1))})/\
 (∀j e,akB dd key es.toList 0=some (some (j,e))->((es[j]?).map (·.key)).getD key=key->(ak4 Ww (.map (some b)) key val).run P w= .ok () {w with heap:=w.heap.setIfInBounds b (.map (es.modify j fun e=>{e with key,val}) clock)}):=by
 refine⟨fun h1=>?_,fun j e h1 h2=>?_⟩
 .simp[ak4,run_underlying hm,akL hb,akG hd hk,akM hd h1,MapKept.run_setObj_map _ hb,aj0]
 .simp[ak4,run_underlying hm,akL hb,akG hd hk,akM hd h1,h2,run_keyThatStays hk,MapKept.run_setObj_map _ hb,aj0]
theorem p9(T:be P){t:TypeId}{M X Y:al}{m x y:Operand}{k:dY->Option R}{q:R}(h:jt T ob n t M X Y k=some q)(hs:au U H F w ob n)(hm:aj H F w M (ev ρ m))(hx:aj H F w X (ev ρ x))(hy:aj H F w Y (ev ρ y)):
 ∃e,k e=some q/\cG P U H F w ρ ob n ⟨none, .mapUpdate t m x y,ty,pos,aft,none⟩ e:=by
 unfold jt at h;split at h
 case h_2=>cases h
 rename_i kt vt hu;split at h
 case h_2=>cases h
 rename_i o s T0 K agg V l G2;obtain⟨hk,h'⟩:=aG h;clear h;split at h'
 case h_2=>cases h'
 rename_i a ha;split at h'
 case h_2=>cases h'
 rename_i lp tr;obtain⟨w5,h⟩:=aG h';clear h'
 have w5:agg=lp:=by cases agg<;>cases lp<;>simp_all
 subst w5;split at h
 case h_2=>cases h
 rename_i b hb;refine⟨_,h,?_⟩;obtain⟨dd,hd,hK,hR⟩:=rl (F:=F) (w:=w) T hk;obtain⟨T1,K1,adS,V1,l1,r,es,clock,e0,cU,hv,uS,hh,eM,G9⟩:=JO hs G2 hm;cases e0;have sB:=hR _ _ (rm hs ha hx)
 have lR:aH H F w agg (.leaf V b) (ev ρ y):=by
  obtain⟨cs,h1,h2⟩:=hy;exact⟨cs,iF hs hb h1,h2⟩
 have adT:r<w.heap.size:=(akh.1 hh).1
 have fin:∀o',(ak4 t (.map (some r)) (ev ρ x) (ev ρ y)).run P w= .ok () {w with heap:=w.heap.setIfInBounds r o'}->
  (∀w',(∀k,k≠r->w'.heap[k]? =w.heap[k]?)->∃mL na,o'= .map mL na/\Stamped mL na/\lQ (H.bK n (.map T0 K agg V (mv K l a b))) F w' K agg V mL.toList (mv K l a b))->
  cG P U H F w ρ ob n ⟨none, .mapUpdate t m x y,ty,pos,aft,none⟩ {dst:= .dead,eat:=[o],make:=[(o,(n, .map T0 K agg V (mv K l a b)))]}:=by
  intro o' bw PH;refine cd.unit (w':={w with heap:=w.heap.setIfInBounds r o'}) ?_ ?_
  .simp[execOp,uS,bw,aj0]
  .have sC:∀k,k≠r->(w.heap.setIfInBounds r o')[k]? =w.heap[k]? :=(heap_set hh).2;obtain⟨mL,na,rfl,g1,g2⟩:=PH {w with heap:=w.heap.setIfInBounds r o'} sC;refine mo.yM (t':= .map T0 K agg V (mv K l a b)) (w':={w with heap:=w.heap.setIfInBounds r (.map mL na)}) hs cU hv rfl (fun k hk=>hk) ⟨rfl,rfl,rfl,by simp,fun k hk hn=>sC k fun e=>hn (by subst e;exact uS)⟩ ⟨r,mL,na,uS,(heap_set hh).1,g1,g2⟩ trivial
 have MM:H.le (H.bK n (.map T0 K agg V (mv K l a b))):=aq.iH (hs.fresh n (ajo _) (by omega)).2
 have kR:∀w':World,(∀k,k≠r->w'.heap[k]? =w.heap[k]?)->Step F w F w':=by
  intro w' hw b hb;refine⟨hb,hw b fun e=>?_⟩;subst e;obtain⟨v',dz,cn⟩:=hs.obj _ _ _ cU;rw[hv]at dz;obtain rfl:=ajk dz;exact cn.no b uS hb
 obtain⟨r1,r2⟩:=ny (val:=ev ρ y) (T.und_ok _ _ hu) hd hh (hK _ _ sB)
 rcases sA hK sB 0 G9 with⟨a1,a2,a3,a4⟩|⟨j,e,z,a1,a2,a3,a4,a5,a6⟩
 .refine fin _ (r1 a1) fun w' hw=>⟨_,_,rfl,stamped_push eM a3,?_⟩
  rw[Array.toList_push];exact a4 _ F w' b _ rfl MM (kR w' hw) (lR.keep MM (kR w' hw))
 .rw[ajO]at a1
  have hj:es[j]? =some e:=by simpa using a2
  refine fin _ (r2 j _ a1 (by rw[hj];exact a3)) fun w' hw=>⟨_,_,rfl,stamped_modify eM _ _ (fun _ _=>rfl) (fun e' _ he'=>?_),?_⟩
  .rw[hj]at he';cases he';exact a3.symm
  .rw[Array.toList_modify];exact a6 _ F w' b _ rfl MM (kR w' hw) (lR.keep MM (kR w' hw))
theorem JP{t:TypeId}{agg:Bool}{V:Row}(h:Jx P t agg V)(h1:agg=false->V.size=1):∃z,(zeroValue t).run P w= .ok z w/\aH H F w agg (.leaf V V.zero) z:=by
 obtain⟨z,hz,e⟩:=h
 cases hi:P.info? t with
 |none=>rw[hi]at hz;cases hz
 |some ti=>
  rw[hi]at hz;refine⟨z,?_,V.eL,cD.zero F w V,e,fun ha=>?_⟩
  .have hz':ti.zero=some z:=hz;simp[zeroValue,typeInfo,hi,hz',aj0]
  .have hl:V.eL.length=V.size:=(cD.zero F w V).length;rw[h1 ha]at hl;subst ha;rw[cond_false]at e
   match hv:V.eL,hl with
   |[u],_=>rw[hv]at e;rw[e];rfl
theorem E4{K:Row}{agg:Bool}{V:Row}:{es:List MapEntry}->{l:List (K.den×V.den)}->es.length=l.length->(∀i(h:i<l.length),∃(e:MapEntry)(cs:List Value),es[i]? =some e/\nS K l[i].1=some e.key/\cD F w V cs l[i].2/\e.val=(bif agg then .agg cs.toArray else cs.headD undef)/\(agg=false->cs=[e.val]))->lQ H F w K agg V es l
 |[],[],_,_=>rfl
 |[],_::_,h,_=>by cases h
 |_::_,[],h,_=>by cases h
 |e::es,(k,x)::l,hl,h=>by
  obtain⟨e',cs,h1,h2,h3,h4,h5⟩:=h 0 (by simp)
  obtain rfl:e=e':=by simpa using h1
  exact⟨k,x,l,rfl,h2,⟨cs,h3,h4,h5⟩,E4 (by simpa using hl) fun i hi=>by
   obtain⟨e',q8,q1,q2,q3,q4⟩:=h (i+1) (by simpa using hi)
   exact⟨e',q8,by simpa only[List.getElem?_cons_succ]using q1,q2,q3,q4⟩⟩
theorem E5{K:Row}{agg:Bool}{V:Row}:{es:List MapEntry}->{l:List (K.den×V.den)}->lQ H F w K agg V es l->es.length=l.length/\∀i(h:i<l.length),∃(e:MapEntry)(cs:List Value),es[i]? =some e/\nS K l[i].1=some e.key/\cD F w V cs l[i].2/\e.val=(bif agg then .agg cs.toArray else cs.headD undef)/\(agg=false->cs=[e.val])
 |[],l,h=>by obtain rfl:l=[]:=h;exact⟨rfl,fun i h=>by simp at h⟩
 |e::es,l,h=>by
  obtain⟨k,x,l',rfl,h1,⟨cs,h2,h3,h4⟩,h5⟩:=h;obtain⟨g1,g2⟩:=E5 h5;refine⟨by simp[g1],fun i hi=>?_⟩
  cases i with
  |zero=>exact⟨e,cs,rfl,h1,h2,h3,h4⟩
  |succ i=>
   obtain⟨e',q8,q1,q2,q3,q4⟩:=g2 i (by simpa using hi);exact⟨e',q8,by simpa only[List.getElem?_cons_succ]using q1,q2,q3,q4⟩
structure Su where
 K:Row
 agg:Bool
 V:Row
 l:List (K.den×V.den)
def Dq(ob:Nat->Option (Nat×Th)):al->Option Su
 | .val false (.leaf (.map K agg V) l)=>some ⟨K,agg,V,l⟩
 | .val false (.own o)=>match ob o with
   |some (_, .map _ K agg V l)=>some ⟨K,agg,V,l⟩
   |some (_, .fmap _ K agg V l)=>some ⟨K,agg,V,l⟩
   |some (_, .fdmap _ K _ r l)=>some ⟨K,false, .slice r,l⟩
   |_=>none
 |_=>none
theorem yP{K:Row}{agg:Bool}{V:Row}{l:List (K.den×V.den)}{v:Value}(h:cD F w (.map K agg V) [v] l):(v= .map none/\l=[])\/∃b es clock,v= .map (some b)/\w.heap[b]? =some (.map es clock)/\Stamped es clock/\lQ H F w K agg V es.toList l:=by
 obtain⟨u,e,h⟩:=h
 obtain rfl:v=u:=by simpa using e
 refine h.imp id fun⟨b,es,clock,h1,h2,h3,h4,h5,h6⟩=>⟨b,es,clock,h1,h3,h4,E4 (by simpa using h5) fun i hi=>by simpa using h6 i hi⟩
theorem Ha(hs:au U H F w ob n){D:al}{m:Su}{v:Value}(h:Dq ob D=some m)(hd:aj H F w D v):(v= .map none/\m.l=[])\/∃b es clock,v= .map (some b)/\w.heap[b]? =some (.map es clock)/\Stamped es clock/\lQ H F w m.K m.agg m.V es.toList m.l:=by
 unfold Dq at h;split at h
 .cases h;exact yP hd.inv
 .rename_i o;obtain⟨cs,⟨u,hu,_,e⟩,_,h3⟩:=hd;rw[h3 rfl]at e
  obtain rfl:v=u:=by simpa using e
  split at h
  .rename_i s T K agg V l cU;cases h;obtain⟨v',dz,cn⟩:=hs.obj _ _ _ cU;rw[hu]at dz;obtain rfl:=ajk dz;obtain⟨b,es,clock,e,h1,h2,h3⟩:=cn.ok;exact .inr ⟨b,es,clock,e,h1,h2,h3⟩
  .rename_i s T K agg V l cU;cases h;obtain⟨v',dz,cn⟩:=hs.obj _ _ _ cU;rw[hu]at dz;obtain rfl:=ajk dz;exact yP cn.ok
  .rename_i s T K E r l cU;cases h;obtain⟨v',dz,cn⟩:=hs.obj _ _ _ cU;rw[hu]at dz;obtain rfl:=ajk dz;exact yP (K:=K) (agg:=false) (V:= .slice r) cn.ok
  .cases h
 .cases h
noncomputable def nZ(T:be P)(ob:Nat->Option (Nat×Th))(t:TypeId)(ok:Bool)(M X:al)(k:dY->Option R):Option R:=
 match find T.und t with
 |some (.map kt vt)=>match Dq ob M with
  |some ⟨K,agg,V,l⟩=>match find T.zer vt with
   |some (lp,V')=>bif vj T kt K&&(bif agg then lp else !lp)&&V'.beq V&&(agg||aju V.size 1)then(match asKey ob K X with
    |some x=>bif ok then k {dst:= .tup [(agg, .leaf V ((gY K l x).getD V.zero)),(false, .leaf .bool (gY K l x).isSome)]}
     else k {dst:= .val agg (.leaf V ((gY K l x).getD V.zero))}
    |none=>none)else none
   |none=>none
  |none=>none
 |_=>none
theorem vm(T:be P){t:TypeId}{ok:Bool}{M X:al}{m x:Operand}{k:dY->Option R}{q:R}(h:nZ T ob t ok M X k=some q)(hs:au U H F w ob n)(hm:aj H F w M (ev ρ m))(hx:aj H F w X (ev ρ x)):
 ∃e,k e=some q/\cG P U H F w ρ ob n ⟨some d, .lookup t m x ok,ty,pos,aft,none⟩ e:=by
 unfold nZ at h;split at h
 case h_2=>cases h
 rename_i kt vt hu;split at h
 case h_2=>cases h
 rename_i K agg V l G2;split at h
 case h_2=>cases h
 rename_i lp V' hz;obtain⟨hc,h'⟩:=aG h;clear h;obtain⟨hc,RA⟩:=cV hc;obtain⟨hc,JQ⟩:=cV hc;obtain⟨As,uv⟩:=cV hc
 have w5:agg=lp:=by cases agg<;>cases lp<;>simp_all
 subst w5;obtain rfl:=Row.eq_of_beq JQ;split at h'
 case h_2=>cases h'
 rename_i a ha;obtain⟨dd,hd,hK,hR⟩:=rl (F:=F) (w:=w) T As;have sB:=hR _ _ (rm hs ha hx)
 have lM:agg=false->V'.size=1:=fun e=>by subst e;exact beq_true (by simpa using RA)
 obtain⟨z,w4,CR⟩:=JP (w:=w) (H:=H) (F:=F) (T.zer_ok _ _ _ hz) lM
 have main:∃v,(Instr.lookup t (ev ρ m) (ev ρ x) ok).run P w= .ok (if ok then .tuple #[v, .bool (gY K l a).isSome]else v) w/\aH H F w agg (.leaf V' ((gY K l a).getD V'.zero)) v:=by
  have MN:=hK _ _ sB;have AM:=T.und_ok _ _ hu
  rcases Ha hs G2 hm with⟨uS,hl⟩|⟨r,es,clock,uS,hh,eM,G9⟩
  .dsimp only at hl;subst hl;refine⟨z,?_,CR⟩;rw[uS];have hf:=akM (w:=w) hd (show akB dd (ev ρ x) [] 0=some none from rfl)
   cases ok<;>simp[Instr.lookup,run_underlying AM,akG hd MN,hf,w4,gY,aj0]
  .dsimp only at G9
   rcases sA hK sB 0 G9 with⟨a1,a2,_⟩|⟨j,e,y,a1,_,_,a4,a5,_⟩
   .refine⟨z,?_,by rw[a2];exact CR⟩;rw[uS,a2];simp[Instr.lookup,run_underlying AM,akL hh,akG hd MN,akM hd a1,w4,aj0]
   .refine⟨e.val,?_,by rw[a4];exact a5⟩;rw[uS,a4];simp[Instr.lookup,run_underlying AM,akL hh,akG hd MN,akM hd a1,aj0]
 obtain⟨v,bw,nn⟩:=main
 cases ok with
 |true=>
  refine⟨_,h',bT hs (v:= .tuple #[v, .bool (gY K l a).isSome]) (by simp[execOp,bw,aj0]) ⟨[v, .bool (gY K l a).isSome],rfl,_,_,rfl,nn,_,_,rfl,aH.gk ..,rfl⟩⟩
 |false=>exact⟨_,h',bT hs (v:=v) (by simp[execOp,bw,aj0]) nn⟩
def kT(s:ByteArray)(i:Int):Option Int:=(if 0<=i then s[i.toNat]? else none).map fun b=>(b.toNat:Int)
theorem AN{e:Row}:{m:Nat}->{r:Row}->{x:r.den}->{l:List e.den}->{cs:List Value}->lH m r x e=some l->cD F w r cs x->l.length=m/\cs.length=m*e.size/\∀i(h:i<l.length),cD F w e ((cs.drop (i*e.size)).take e.size) l[i]
 |0,r,x,l,cs,h,_=>by unfold lH at h;cases h
 |1,r,x,l,cs,h,ha=>by
  unfold lH at h;split at h
  case isFalse=>cases h
  rename_i hb;obtain rfl:=Row.eq_of_beq hb;obtain rfl:=ajk h;have hl:=ha.length;refine⟨rfl,by simp[hl],fun i hi=>?_⟩
  obtain rfl:i=0:=by simp at hi;omega
  rw[Nat.zero_mul,List.drop_zero,<-hl,ajD];exact ha
 |m+2, .pair a b,x,l,cs,h,ha=>by
  unfold lH at h;split at h
  case isFalse=>cases h
  rename_i hb;obtain rfl:=Row.eq_of_beq hb;split at h
  case h_2=>cases h
  rename_i l' hl;obtain rfl:=ajk h;obtain⟨c1,c2,rfl,h1,h2⟩:=ha;have IM:=h1.length;obtain⟨g1,g2,g3⟩:=AN hl h2;refine⟨by simp[g1],by rw[ajm,IM,g2,show m+2=(m+1)+1 from rfl,akk (m+1) 1,Nat.one_mul];omega,fun i hi=>?_⟩
  cases i with
  |zero=>
   rw[Nat.zero_mul,List.drop_zero,ajK (by omega),<-IM,ajD];exact h1
  |succ i=>
   have:=g3 i (by simpa using hi);rw[show(i+1)*a.size=c1.length+i*a.size from by rw[akk];omega,<-List.drop_drop,List.drop_left];exact this
 |m+2, .int _,_,_,_,h,_=>by unfold lH at h;cases h
 |m+2, .bool,_,_,_,h,_=>by unfold lH at h;cases h
 |m+2, .str,_,_,_,h,_=>by unfold lH at h;cases h
 |m+2, .slice _,_,_,_,h,_=>by unfold lH at h;cases h
 |m+2, .jE,_,_,_,h,_=>by unfold lH at h;cases h
 |m+2, .nul _,_,_,_,h,_=>by unfold lH at h;cases h
 |m+2, .map ..,_,_,_,h,_=>by unfold lH at h;cases h
def pE(T:be P)(ob:Nat->Option (Nat×Th))(t:TypeId)(D:al)(i:Int)(k:dY->Option R):Option R:=
 match find T.und t with
 |some .str=>match Aw D with
  |some s=>(kT s i).bind fun c=>k {dst:=mq .u8 c}
  |none=>none
 |some (.array m e)=>match find T.row t with
  |some r=>match find T.row e with
   |some re=>match find T.und e with
    |some kk=>match D with
     | .val true tr=>match flat ob r tr with
       |some x=>match lH m r x re with
        |some l=>bif kP kk||aju re.size 1 then(idx l i).bind fun y=>k {dst:= .val (kP kk) (.leaf re y)}else none
        |none=>none
       |none=>none
     |_=>none
    |none=>none
   |none=>none
  |none=>none
 |_=>none
theorem Dr(T:be P){t:TypeId}{D:al}{x y:Operand}{kd:IntKind}{i:Int}{k:dY->Option R}{q:R}(h:pE T ob t D i k=some q)(hs:au U H F w ob n)(hx:aj H F w D (ev ρ x))(hy:ev ρ y= .int kd i):
 ∃e,k e=some q/\cG P U H F w ρ ob n ⟨some d, .index t x y,ty,pos,aft,none⟩ e:=by
 unfold pE at h;split at h
 .rename_i hu;have hu:=T.und_ok _ _ hu;split at h
  case h_2=>cases h
  rename_i s hS;obtain⟨c,hc,hk⟩:=bind_some h;have hv:=u5 hS hx;unfold kT at hc;obtain⟨b,hb,rfl⟩:=Option.map_eq_some_iff.1 hc;refine⟨_,hk,bT hs (v:= .int .u8 b.toNat) ?_ (aH.jF ..)⟩;have AM:P.underlying t=some .string:=hu;simp[execOp,Instr.index,asIntOf,run_underlying AM,hv,hy,hb]
 .rename_i m e hu;have hu:P.underlying t=some (.array m e):=T.und_ok _ _ hu;split at h
  case h_2=>cases h
  rename_i r hr;split at h
  case h_2=>cases h
  rename_i re Wq;split at h
  case h_2=>cases h
  rename_i kk Jw;split at h
  case h_2=>cases h
  rename_i tr;split at h
  case h_2=>cases h
  rename_i z hz;split at h
  case h_2=>cases h
  rename_i l hl;obtain⟨hag,h'⟩:=aG h;clear h;obtain⟨a,ha,hk⟩:=bind_some h';obtain⟨cs,hh,hv,_⟩:=hx;rw[cond_true]at hv;obtain⟨g1,g2,g3⟩:=AN hl (iF hs hz hh);obtain⟨j,hj,ao,rfl⟩:=fP ha;obtain⟨ti,z0,h1,_,_,h4,_⟩:=T.row_ok _ _ Wq;obtain⟨dd,wW,xx⟩:=(T.und_ok _ _ Jw).agg;have w6:=g3 j ao
  have lM:(j+1)*re.size<=cs.length:=by rw[g2];exact ajS _ (by omega)
  rw[akk]at lM;refine⟨_,hk,?_⟩
  cases w5:kP kk with
  |true=>
   refine bT hs (v:= .agg ((cs.drop (j*re.size)).take re.size).toArray) ?_ ⟨_,w6,rfl,by simp⟩;subst hj;simp[execOp,Instr.index,asIntOf,run_underlying hu,hv,hy,show j<m by omega,part,ajR,fh wW,xx,w5,sizeOf,typeInfo,h1,h4,List.extract_eq_take_drop]
  |false=>
   rw[w5,Bool.false_or]at hag;have kN:=beq_true hag;have hlen:=w6.length;rw[kN,Nat.mul_one]at w6 lM;rw[kN]at hlen
   obtain⟨v,xC⟩:∃v,(cs.drop j).take 1=[v]:=by
    match hq:(cs.drop j).take 1,xG:((cs.drop j).take 1).length with
    |[v],_=>exact⟨v,rfl⟩
    |[],_=>rw[Nat.mul_one,hq]at hlen;cases hlen
    |_::_::_,_=>rw[Nat.mul_one,hq]at hlen;cases hlen
   rw[xC]at w6
   have GD:cs[j]? =some v:=by
    have:(cs.drop j)[0]? =some v:=by
     have h0:((cs.drop j).take 1)[0]? =some v:=by rw[xC];rfl
     rwa [List.getElem?_take_of_lt (by omega)]at h0
    simpa using this
   refine bT hs (v:=v) ?_ (aH.mN w6);subst hj;simp[execOp,Instr.index,asIntOf,run_underlying hu,hv,hy,show j<m by omega,part,ajR,fh wW,xx,w5,sizeOf,typeInfo,h1,h4,kN,GD]
 .cases h
end
end Go.Proofs.YtmihpkfkbfgigaaGreatDoor
end
section
open _root_.Nat renaming beq->aju,le_refl->ajo,lt_of_lt_of_le->aj7
open _root_.Option renaming isSome_iff_exists->ajZ
open _root_.Option.some renaming inj->ajk,injEq->ajx
open _root_.Prod.mk renaming inj->akO,injEq->akl
namespace Go.Proofs.YtmihpkfkbfgigaaGreatDoor
open Go Go.RowKit
def Hb(T:TypeId):(e:DR)->List e.row.den->Th
 | .leaf r,y=> .own T r y
 | .sl T' e,y=> .deep T (.sl T' e) y none
 | .pair a b,y=> .deep T (.pair a b) y none
section
variable {P:Program} {ρ:Nat->Value} {w w':World} {H H':aq} {F F':Nat->Prop} {U:Nat->Prop} {ob:Nat->Option (Nat×Th)} {n:Nat} {R:Type}
variable {op:Op} {ty:TypeId} {pos:String} {aft:Array Edge} {d:Nat}
theorem vn(T:TypeId)(e:DR)(y:List e.row.den):(Hb T e y).base=Hb T e y:=by cases e<;>rfl
theorem sD{T:TypeId}{e:DR}{u:Value}{y:List e.row.den}{A:Nat->Prop}(h:jU F w (.sl T e) u y A):iE H F w A u (Hb T e y)/\(∀k,fp A u (Hb T e y) k->A k)/\u.oneCell'=true:=by
 obtain⟨lh,Ss,h1,h2,h3,h4⟩:=h;have kN:=h1.one
 cases e with
 |leaf r=>
  have hl:lh=y:=List.ext_getElem h2 fun i a b=>(h3 i a b).1
  subst hl;exact⟨h1,fun k hk=>h4.bq k hk,kN⟩
 |sl T' e=>exact⟨⟨lh,Ss,h1,h2,h3,h4⟩,fun k hk=>hk,kN⟩
 |pair a b=>exact⟨⟨lh,Ss,h1,h2,h3,h4⟩,fun k hk=>hk,kN⟩
theorem vo{T:TypeId}{e:DR}{u:Value}{y:List e.row.den}{A:Nat->Prop}(h:iE H F w A u (Hb T e y)):jU F w (.sl T e) u y (fun k=>fp A u (Hb T e y) k):=by
 cases e with
 |leaf r=>
  have h':jW F w T r u y:=h;refine⟨y,fun _ _=>False,h',rfl,fun i a b=>⟨rfl,fun _ h=>h⟩,⟨fun k=>?_,fun _ _ _ _ _ _ h=>h.elim,fun _ _ _ h=>h.elim⟩⟩
  show bq u k↔_
  simp
 |sl T' e=>exact h
 |pair a b=>exact h
theorem uC{d:DR}{r:Row}(q:fJ d (.leaf r)){x':d.low.den}{x:d.row.den}{S:Nat->Prop}(h:jU F w d x' x S):q.lo.get x'=q.hi.get x:=by
 obtain⟨A,B,h1,_⟩:=h.out q;exact h1.1
theorem vp:{d e:DR}->{T:TypeId}->{r:Row}->(p:fJ d (.sl T e))->(q:fJ d (.leaf r))->{x':d.low.den}->{x:d.row.den}->{S:Nat->Prop}->lE F w p x' x S->q.lo.get x'=q.hi.get x
 |_,_,_,_, .fst p, .fst q,_,_,_,h=>by obtain⟨A,B,h1,_⟩:=h;exact vp p q h1
 |_,_,_,_, .fst p, .snd q,_,_,_,h=>by obtain⟨A,B,_,h2,_⟩:=h;exact uC q h2
 |_,_,_,_, .snd p, .fst q,_,_,_,h=>by obtain⟨A,B,h1,_⟩:=h;exact uC q h1
 |_,_,_,_, .snd p, .snd q,_,_,_,h=>by obtain⟨A,B,_,h2,_⟩:=h;exact vp p q h2
theorem JR{d:DR}{h:Option uV}{i:Nat}{x':d.low.den}{x:d.row.den}{S:Nat->Prop}{r:Row}(q:fJ d (.leaf r))(hr:nX H F w d h i x' x S):q.lo.get x'=q.hi.get x:=by
 cases h with
 |none=>exact uC q hr
 |some h=>
  by_cases hi:h.i=(i:Int)
  .obtain⟨T',e,p,_,h2,_⟩:=hr.2 hi;exact vp p q h2
  .exact uC q (hr.1 hi)
theorem rn{d:DR}{r:Row}(q:fJ d (.leaf r)){x':d.low.den}{x:d.row.den}{S:Nat->Prop}(y:r.den)(h:jU F w d x' x S):jU F w d (q.lo.set x' y) (q.hi.set x y) S:=by
 obtain⟨A,B,h1,h2,h3⟩:=h.out q;exact h2.put q (y':=y) (A:=A) ⟨rfl,h1.2⟩ h3
theorem sE:{d e:DR}->{T:TypeId}->{r:Row}->(p:fJ d (.sl T e))->(q:fJ d (.leaf r))->{x':d.low.den}->{x:d.row.den}->{S:Nat->Prop}->(y:r.den)->lE F w p x' x S->lE F w p (q.lo.set x' y) (q.hi.set x y) S/\p.lo.get (q.lo.set x' y)=p.lo.get x'
 |_,_,_,_, .fst p, .fst q,_,_,_,y,h=>by
  obtain⟨A,B,h1,h2,h3⟩:=h;obtain⟨g1,g2⟩:=sE p q y h1;exact⟨⟨A,B,g1,h2,h3⟩,g2⟩
 |_,_,_,_, .fst p, .snd q,_,_,_,y,h=>by
  obtain⟨A,B,h1,h2,h3⟩:=h;exact⟨⟨A,B,h1,rn q y h2,h3⟩,rfl⟩
 |_,_,_,_, .snd p, .fst q,_,_,_,y,h=>by
  obtain⟨A,B,h1,h2,h3⟩:=h;exact⟨⟨A,B,rn q y h1,h2,h3⟩,rfl⟩
 |_,_,_,_, .snd p, .snd q,_,_,_,y,h=>by
  obtain⟨A,B,h1,h2,h3⟩:=h;obtain⟨g1,g2⟩:=sE p q y h2;exact⟨⟨A,B,h1,g1,h3⟩,g2⟩
theorem Hc{d:DR}{h:Option uV}{i:Nat}{x':d.low.den}{x:d.row.den}{S:Nat->Prop}{r:Row}(q:fJ d (.leaf r))(y:r.den)(hr:nX H F w d h i x' x S):nX H F w d h i (q.lo.set x' y) (q.hi.set x y) S:=by
 cases h with
 |none=>exact rn q y hr
 |some h=>
  refine⟨fun hi=>rn q y (hr.1 hi),fun hi=>?_⟩;obtain⟨T',e,p,h1,h2,h3⟩:=hr.2 hi;obtain⟨g1,g2⟩:=sE p q y h2;exact⟨T',e,p,h1,g1,by rw[g2];exact h3⟩
theorem au.low(hs:au U H F w ob n){o s:Nat}{T:TypeId}{dr:DR}{l:List dr.row.den}{h:Option uV}(ho:ob o=some (s, .deep T dr l h)){v:Value}(hv:H.val o=some v):
 ∃(lh:List dr.low.den)(Ss:Nat->Nat->Prop),jf 0 F w T dr.low v lh/\lh.length=l.length/\(∀i(h1:i<lh.length)(h2:i<l.length),nX H F w dr h i lh[i] l[i] (Ss i))/\np Ss l.length (bq v) (H.sub s):=by
 obtain⟨v',dz,cn⟩:=hs.obj _ _ _ ho;rw[hv]at dz;obtain rfl:=ajk dz;obtain⟨lh,Ss,h1,h2,h3,h4⟩:=cn.ok;exact⟨lh,Ss,⟨fun k hk=>cn.no k (h4.bq k hk),h1⟩,h2,h3,h4⟩
theorem Path.yQ:{r s:Row}->(p:Path r s)->(x:r.den)->(y:s.den)->p.get (p.set x y)=y
 |_,_, .here,_,_=>rfl
 |_,_, .fst p,x,y=>Path.yQ p x.1 y
 |_,_, .snd p,x,y=>Path.yQ p x.2 y
theorem lE.JT:{d e:DR}->(p:fJ d e)->{x':d.low.den}->{x:d.row.den}->{S:Nat->Prop}->(y':e.low.den)->lE F w p x' x S->lE F w p (p.lo.set x' y') x S
 |_,_, .here,_,_,_,_,h=>h
 |_,_, .fst p,_,_,_,y',h=>by
  obtain⟨A,B,h1,h2,h3⟩:=h;exact⟨A,B,h1.JT p y',h2,h3⟩
 |_,_, .snd p,_,_,_,y',h=>by
  obtain⟨A,B,h1,h2,h3⟩:=h;exact⟨A,B,h1,h2.JT p y',h3⟩
def qz(m:Nat->Prop)(Ss:Nat->Nat->Prop)(c:Nat)(k:Nat):Prop:=m k\/∃i,i<c/\Ss i k
theorem np.less{Ss:Nat->Nat->Prop}{c:Nat}{m S:Nat->Prop}(h:np Ss c m S)(j:Nat){B:Nat->Prop}(hB:∀k,B k->Ss j k):np (fun i=>if i=j then B else Ss i) c m (qz m (fun i=>if i=j then B else Ss i) c):=by
 have sub:∀i k,(if i=j then B else Ss i) k->Ss i k:=by
  intro i k hk;by_cases e:i=j
  .subst e;rw[if_pos rfl]at hk;exact hB k hk
  .rwa [if_neg e]at hk
 exact⟨fun k=>Iff.rfl,fun i i' k h1 h2 bP h3 h4=>h.two i i' k h1 h2 bP (sub i k h3) (sub i' k h4),fun i k h1 h2=>h.out i k h1 (sub i k h2)⟩
theorem np.AO{Ss:Nat->Nat->Prop}{c:Nat}{m S:Nat->Prop}(h:np Ss c m S)(j:Nat){B:Nat->Prop}(hB:∀k,B k->Ss j k):∀k,qz m (fun i=>if i=j then B else Ss i) c k->S k:=by
 rintro k (hk|⟨i,hi,hk⟩)
 .exact h.bq k hk
 .by_cases e:i=j
  .subst e;rw[if_pos rfl]at hk;exact h.part hi k (hB k hk)
  .rw[if_neg e]at hk;exact h.part hi k hk
theorem MO{α β:Type}{rel:Nat->α->β->(Nat->Prop)->Prop}{lh:List α}{l:List β}{Ss:Nat->Nat->Prop}{j:Nat}{x':α}{x:β}{B:Nat->Prop}(h:∀i(h1:i<lh.length)(h2:i<l.length),i≠j->rel i lh[i] l[i] (Ss i))(hj:rel j x' x B):
 ∀i(h1:i<(lh.set j x').length)(h2:i<(l.set j x).length),rel i (lh.set j x')[i] (l.set j x)[i] ((fun i=>if i=j then B else Ss i) i):=by
 intro i h1 h2;by_cases e:i=j
 .subst e;simp only[List.getElem_set_self,if_true];exact hj
 .simp only[List.getElem_set_ne (Ne.symm e),if_neg e];exact h i (by simpa using h1) (by simpa using h2) e
theorem aq.uD{H:aq}{n:Nat}{S:Nat->Prop}{t:Th}(h:H.con n=none):H.le ((H.fe n S).bK n t):=(aq.GW h).trans (aq.iH h)
theorem mo.yR(hs:au U H F w ob n){o s:Nat}{t t':Th}{v0:Value}(ho:ob o=some (s,t))(hv:H.val o=some v0)(hb:t'.base=t'){eat:List Nat}(Sv:o∈eat)(S':Nat->Prop)(JE:∀k,fp S' v0 t' k->cm H ob eat k){D:al}{v:Value}
 (bU:Ext (cm H ob eat) w w')(nn:iE ((H.fe n S').bK n t') F w' S' v0 t')(hd:aj ((H.fe n S').bK n t') F w' D v):kS H F w ob n {dst:=D,eat:=eat,make:=[(o,(n,t'))]} v w':=by
 obtain⟨v1,uy,cn⟩:=hs.obj _ _ _ ho;rw[hv]at uy;obtain rfl:=ajk uy;have hf:=hs.fresh n (ajo _) (by omega)
 have fY:((H.fe n S').bK n t').sub n=S':=by simp[aq.bK,aq.fe]
 refine⟨(H.fe n S').bK n t',F,⟨aq.uD hf.2,bU,fun _ h=>h,fun _ h=> .inl h,fun b hb=>aj7 (hs.lt b hb) bU.size⟩,fun m hm=>?_,hd,⟨fun o' s' q hq=>?_,fun o1 o2 s1 s2 q1 q2 u1 u2 bP h1 h2=>?_⟩,fun o' h=>?_⟩
 .refine⟨id,fun h=>?_⟩;simp[aq.bK,aq.fe,show m≠n from by omega,h]
 .obtain⟨rfl,e⟩:=bW hq;obtain⟨rfl,rfl⟩:=akO e;refine⟨v0,hv,cn.one,by simp[aq.bK,hb],by rw[fY];exact nn,fun k hk=>?_⟩;rw[fY]at hk;have:=JE k hk;exact⟨hs.gW k this,aj7 (hs.uW k this) bU.size, .inr this⟩
 .exact absurd ((bW h1).1.trans (bW h2).1.symm) bP
 .left
  obtain⟨y,hy⟩:=ajZ.1 h;rw[(bW hy).1];exact Sv
def qA(T:be P)(ob:Nat->Option (Nat×Th))(n:Nat)(t:TypeId)(D:al)(k:dY->Option R):Option R:=
 match find T.und t with
 |none=>none
 |some kk=>match D with
  | .dlm o d0 i p off=>match ob o with
    |some (_, .deep T0 dr l h)=>bif d0.beq dr then(match dr.path p with
     |some ⟨.leaf r,q⟩=>bif aju q.lo.off off&&mu T t kk r.size then(idx l i).bind fun x=>k {dst:= .val (kP kk) (.leaf r (q.hi.get x))}else none
     |some ⟨.sl T' e',q⟩=>bif aju q.lo.off off&&mu T t kk 1&& !kP kk then(match h with
       |none=>(idx l i).bind fun x=>k {dst:= .val false (.own n),eat:=[o],make:=[(o,(n, .deep T0 dr l (some ⟨i,p,n,n+1⟩))),(n,(n+1,Hb T' e' (q.hi.get x)))]}
       |some hh=>bif nY hh.p p then(if decide (hh.i=i)=true then(idx l i).bind fun _=>k {dst:= .val false (.own hh.o)}else none)else none)else none
     |_=>none)else none
    |_=>none
  |_=>none
theorem AP(hs:au U H F w ob n){o s:Nat}{T0 T':TypeId}{dr e':DR}{l:List dr.row.den}{i:Int}{p:List Bool}{q:fJ dr (.sl T' e')}(hq:dr.path p=some ⟨_,q⟩)(cU:ob o=some (s, .deep T0 dr l none)){v:Value}(hv:H.val o=some v)
 {j:Nat}(MP:i=(j:Nat))(hj:j<l.length){lh:List dr.low.den}{Ss:Nat->Nat->Prop}(hm:jW F w T0 dr.low v lh)(hlen:lh.length=l.length)(vq:∀i(h1:i<lh.length)(h2:i<l.length),nX H F w dr none i lh[i] l[i] (Ss i))(dG:np Ss l.length (bq v) (H.sub s)):
 kS H F w ob n {dst:= .val false (.own n),eat:=[o],make:=[(o,(n, .deep T0 dr l (some ⟨i,p,n,n+1⟩))),(n,(n+1,Hb T' e' (q.hi.get l[j])))]} (q.lo.get (lh[j]'(by omega))) w:=by
 have IR:j<lh.length:=by omega
 obtain⟨v1,uy,cn⟩:=hs.obj _ _ _ cU;rw[hv]at uy;obtain rfl:=ajk uy;obtain⟨A,B,hA,hB,h2⟩:=jU.out q (vq j IR hj);obtain⟨_,m2,m3⟩:=sD (H:=H) hA;have hBs:∀k,B k->Ss j k:=h2.right;obtain⟨f1,f2⟩:=hs.fresh n (ajo _) (by omega);obtain⟨f3,f4⟩:=hs.fresh (n+1) (by omega) (by omega)
 have CP:o≠n:=fun e=>by rw[e,f1]at hv;cases hv
 generalize RB:Th.deep T0 dr l (some ⟨i,p,n,n+1⟩)=t1;generalize Me:Hb T' e' (q.hi.get l[j])=t2;generalize hu:q.lo.get lh[j]=u;generalize Wx:qz (bq v) (fun i=>if i=j then B else Ss i) l.length=So
 have Wy:∀k,So k->H.sub s k:=by rw[<-Wx];exact dG.AO j hBs
 have MQ:∀k,A k->H.sub s k:=fun k hk=>dG.part hj k (h2.left k hk)
 have hAo:∀k,So k->¬A k:=by
  rw[<-Wx]
  rintro k (hk|⟨i',gj,hk⟩) ha
  .exact dG.out j k hj (h2.left k ha) hk
  .by_cases e:i'=j
   .subst e;rw[if_pos rfl]at hk;exact h2.off k ha hk
   .rw[if_neg e]at hk;exact dG.two i' j k gj hj e hk (h2.left k ha)
 let H1:aq:=⟨fun m=>if m=n then some u else H.val m,fun m=>if m=n then some t1 else if m=n+1 then some t2 else H.con m,fun m=>if m=n then So else if m=n+1 then A else H.sub m⟩
 have hle:H.le H1:=by
  refine⟨fun o v ho=>?_,fun s t eM=>?_,fun s t eM=>?_⟩
  .have:o≠n:=fun e=>by rw[e,f1]at ho;cases ho
   simp[H1,this,ho]
  .have a1:s≠n:=fun e=>by rw[e,f2]at eM;cases eM
   have a2:s≠n+1:=fun e=>by rw[e,f4]at eM;cases eM
   simp[H1,a1,a2,eM]
  .have a1:s≠n:=fun e=>by rw[e,f2]at eM;cases eM
   have a2:s≠n+1:=fun e=>by rw[e,f4]at eM;cases eM
   simp[H1,a1,a2]
 have wQ:H1.val n=some u:=by simp[H1]
 have kQ:∀k,H.sub s k->cm H ob [o] k:=fun k hk=>⟨o,by simp,s,_,v,cU,hv,hk⟩
 have kN:u.oneCell'=true:=by rw[<-hu];exact m3
 refine⟨H1,F,⟨hle,⟨rfl,rfl,rfl,ajo _,fun _ _ _=>rfl⟩,fun _ h=>h,fun _ h=> .inl h,hs.lt⟩,fun m hm=>?_,mP wQ kN,⟨fun o' s' t hf=>?_,fun o1 o2 s1 s2 q1 q2 u1 u2 bP g1 g2 e1 e2 k hk dO=>?_⟩,fun o' kO=>?_⟩
 .have a1:m≠n:=by omega
  have a2:m≠n+1:=by omega
  simp[H1,a1,a2]
 .rw[aD]at hf;split at hf
  .rename_i e;subst e;simp only[ajx,akl]at hf;obtain⟨rfl,rfl⟩:=hf
   have PI:H1.sub n=So:=by simp[H1]
   refine⟨v,hle.val _ _ hv,cn.one,?_,?_,fun k hk=>?_⟩
   .rw[<-RB];simp[H1,Th.base,RB]
   .rw[PI,<-RB,<-Wx];refine⟨lh,_,hm,hlen,fun i' a b=>?_,dG.less j hBs⟩;have hr:jU F w dr lh[i'] l[i'] (Ss i'):=vq i' a b;refine⟨fun hi=>?_,fun hi=>?_⟩
    .have:i'≠j:=fun e=>hi (by subst e;exact MP)
     show jU F w dr lh[i'] l[i'] (if i'=j then B else Ss i')
     rw[if_neg this];exact hr
    .have hi:i=(i':Int):=hi
     obtain rfl:i'=j:=by omega
     refine⟨T',e',q,hq,?_,?_⟩
     .show lE F w q lh[i'] l[i'] (if i'=i' then B else Ss i')
      rw[if_pos rfl];exact hB
     .rw[hu];exact wQ
   .rw[PI,<-RB]at hk;have hk:So k:=hk;have:=Wy k hk;exact⟨cn.no k this,cn.lt k this, .inr (kQ k this)⟩
  .obtain⟨e0,e⟩:=bW hf;obtain⟨rfl,rfl⟩:=akO e;rw[e0]
   have PI:H1.sub (n+1)=A:=by simp[H1]
   obtain⟨m1,m2',_⟩:=sD (H:=H1) hA;rw[Me,hu]at m1 m2';refine⟨u,wQ,kN,?_,by rw[PI];exact m1,fun k hk=>?_⟩
   .rw[<-Me,vn,Me];simp[H1]
   .rw[PI]at hk;have:=MQ k (m2' k hk);exact⟨cn.no k this,cn.lt k this, .inr (kQ k this)⟩
 .have key:∀{k},So k->A k->False:=fun a b=>hAo _ a b
  have hfA:∀k,fp A u t2 k->A k:=by rw[<-Me,<-hu];exact m2
  have qa:H1.sub n=So:=by simp[H1]
  have PJ:H1.sub (n+1)=A:=by simp[H1]
  have two:∀{o' s' t'},find [(o,(n,t1)),(n,(n+1,t2))] o'=some (s',t')->(o'=o/\s'=n/\t'=t1)\/(o'=n/\s'=n+1/\t'=t2):=by
   intro o' s' t' hf;rw[aD]at hf;split at hf
   .rename_i e;simp only[ajx,akl]at hf;exact .inl ⟨e.symm,hf.1.symm,hf.2.symm⟩
   .obtain⟨e1,e⟩:=bW hf;obtain⟨e2,e3⟩:=akO e;exact .inr ⟨e1,e2,e3⟩
  rcases two g1 with⟨rfl,rfl,rfl⟩|⟨rfl,rfl,rfl⟩<;>rcases two g2 with⟨rfl,rfl,rfl⟩|⟨rfl,rfl,rfl⟩
  .exact bP rfl
  .rw[qa,<-RB]at hk;rw[PJ]at dO;rw[wQ]at e2;obtain rfl:=ajk e2;exact key (show So k from hk) (hfA k dO)
  .rw[qa,<-RB]at dO;rw[PJ]at hk;rw[wQ]at e1;obtain rfl:=ajk e1;exact key (show So k from dO) (hfA k hk)
  .exact bP rfl
 .obtain⟨y,hy⟩:=ajZ.1 kO;rw[aD]at hy;split at hy
  .rename_i e;exact .inl (by rw[<-e];simp)
  .exact .inr (by rw[(bW hy).1];exact ajo _)
theorem yS{α β:Type}{l:List α}{lh:List β}(h:lh.length=l.length){i:Int}{x:α}(hi:idx l i=some x):∃j,i=(j:Nat)/\∃(h1:j<lh.length)(h2:j<l.length),x=l[j]/\idx lh i=some lh[j]:=by
 obtain⟨j,hj,ao,rfl⟩:=fP hi;refine⟨j,hj,by omega,ao,rfl,?_⟩;subst hj
 have MR:j<lh.length:=by omega
 simp[idx,MR]
theorem Hd(T:be P){t:TypeId}{D:al}{x:Operand}{k:dY->Option R}{q:R}(h:qA T ob n t D k=some q)(hs:au U H F w ob n)(hx:aj H F w D (ev ρ x)):
 ∃e,k e=some q/\cG P U H F w ρ ob n ⟨some d, .load t x,ty,pos,aft,none⟩ e:=by
 unfold qA at h;split at h
 .cases h
 rename_i kk hu;split at h
 case h_2=>cases h
 rename_i o d0 i p off;split at h
 case h_2=>cases h
 rename_i s T0 dr l hh cU;obtain⟨hd,h'⟩:=aG h;clear h;obtain rfl:=DR.eq_of_beq hd;obtain⟨g,o0,qq,m,cap,e1,e2,e5⟩:=hx;obtain⟨lh,Ss,eo,hlen,vq,dG⟩:=hs.low cU e1;split at h'
 .rename_i r xB yN;obtain⟨h1,h2⟩:=aG h';obtain⟨h1,h3⟩:=cV h1;obtain rfl:=beq_true h1;obtain⟨a,ha,hk⟩:=bind_some h2;obtain⟨j,hj,g1,g2,rfl,nW⟩:=yS hlen ha;have oi:=(eo.at rfl e2 nW).path xB.lo _ rfl;rw[JR xB (vq j g1 g2)]at oi;obtain⟨es,hl,MF,hr⟩:=oi;exact⟨_,hk,nu T hu e5 hs (s:= .leaf r _) hr MF (jG T h3)⟩
 .rename_i T' e' xB yN;obtain⟨h1,h2⟩:=aG h';obtain⟨h1,h4⟩:=cV h1;obtain⟨h1,h3⟩:=cV h1;obtain rfl:=beq_true h1
  have w5:kP kk=false:=by simpa using h4
  obtain⟨dd,wW,xx⟩:=(T.und_ok _ _ hu).agg
  have run:∀{j:Nat}(g1:j<lh.length),idx lh i=some lh[j]->(execOp (ev ρ) ⟨some d, .load t x,ty,pos,aft,none⟩).run P w= .ok (.value (xB.lo.get lh[j])) w:=by
   intro j g1 nW;have oi:=(eo.at rfl e2 nW).path xB.lo _ rfl;obtain⟨es,hl,MF,hr,_⟩:=oi;rw[hr]at MF;exact xr wW (xx.trans w5) e5 (MF 0 _ rfl)
  split at h2
  .obtain⟨a,ha,hk⟩:=bind_some h2;obtain⟨j,hj,g1,g2,rfl,nW⟩:=yS hlen ha;exact⟨_,hk,cd.val (run g1 nW) (AP hs yN cU e1 hj g2 eo.2 hlen vq dG)⟩
  .rename_i hh;obtain⟨hp,h3⟩:=aG h2;have hp:=qx hp;split at h3
   case isFalse=>cases h3
   rename_i hi;have hi:hh.i=i:=of_decide_eq_true hi;obtain⟨a,ha,hk⟩:=bind_some h3;obtain⟨j,hj,g1,g2,rfl,nW⟩:=yS hlen ha;obtain⟨T'',e'',q'',k1,_,k3⟩:=(vq j g1 g2).2 (hi.trans hj);rw[hp,yN]at k1;cases k1;refine⟨_,hk,bT hs (run g1 nW) (mP k3 ?_)⟩;have oi:=(eo.at rfl e2 nW).path xB.lo _ rfl;obtain⟨es,_,_,_,A,m',c,AM⟩:=oi;rw[AM];rfl
 .cases h'
def PK(T:TypeId):(e:DR)->Th->Option (List e.row.den)
 | .leaf r, .own T1 r1 y=>bif aju T1 T then(if h:r1.beq r=true then some (iP (r:= .slice r1) (s:= .slice r) (congrArg Row.slice (Row.eq_of_beq h)) y)else none)else none
 | .sl T2 e2, .deep T1 (.sl T3 e3) y none=>bif aju T1 T then(if h:(DR.sl T3 e3).beq (.sl T2 e2)=true then some (DR.eq_of_beq h▸y)else none)else none
 | .pair a b, .deep T1 (.pair a1 b1) y none=>bif aju T1 T then(if h:(DR.pair a1 b1).beq (.pair a b)=true then some (DR.eq_of_beq h▸y)else none)else none
 |_,_=>none
theorem vr{T:TypeId}{e:DR}{t:Th}{y:List e.row.den}(h:PK T e t=some y):t=Hb T e y:=by
 unfold PK at h;split at h
 .obtain⟨h1,h2⟩:=aG h;split at h2
  .rename_i hb;obtain rfl:=Row.eq_of_beq hb;obtain rfl:=ajk h2;rw[beq_true h1];rfl
  .cases h2
 .obtain⟨h1,h2⟩:=aG h;split at h2
  .rename_i hb;cases DR.eq_of_beq hb;obtain rfl:=ajk h2;rw[beq_true h1];rfl
  .cases h2
 .obtain⟨h1,h2⟩:=aG h;split at h2
  .rename_i hb;cases DR.eq_of_beq hb;obtain rfl:=ajk h2;rw[beq_true h1];rfl
  .cases h2
 .cases h
def yT(h:Option uV)(i:Int)(p:List Bool):Bool:=
 match h with
 |none=>true
 |some h=>nY h.p p&&decide (h.i=i)
theorem AQ{h:Option uV}{i:Int}{p:List Bool}(hh:yT h i p=true){dr e:DR}{T:TypeId}{q:fJ dr (.sl T e)}(hq:dr.path p=some ⟨_,q⟩){j:Nat}(hj:i=(j:Nat)){x':dr.low.den}{x:dr.row.den}{S:Nat->Prop}(hr:nX H F w dr h j x' x S):
 ∃B,(∀k,B k->S k)/\lE F w q x' x B:=by
 cases h with
 |none=>
  obtain⟨A,B,_,h2,h3⟩:=jU.out q (show jU F w dr x' x S from hr);exact⟨B,h3.right,h2⟩
 |some h=>
  have h':(nY h.p p&&decide (h.i=i))=true:=hh;obtain⟨h1,h2⟩:=cV h';obtain⟨T',e',q',k1,k2,_⟩:=hr.2 ((of_decide_eq_true h2).trans hj);rw[qx h1,hq]at k1;cases k1;exact⟨S,fun _ h=>h,k2⟩
theorem vu{h:Option uV}{i:Int}{p:List Bool}(hh:yT h i p=true){dr:DR}{j:Nat}(hj:i≠(j:Nat)){x':dr.low.den}{x:dr.row.den}{S:Nat->Prop}(hr:nX H F w dr h j x' x S):jU F w dr x' x S:=by
 cases h with
 |none=>exact hr
 |some h=>
  have h':(nY h.p p&&decide (h.i=i))=true:=hh;obtain⟨h1,h2⟩:=cV h';exact hr.1 (fun e=>hj ((of_decide_eq_true h2).symm.trans e))
end
end Go.Proofs.YtmihpkfkbfgigaaGreatDoor
end
section
open _root_.Int renaming toNat_natCast->ajr
open _root_.Nat renaming beq->aju,le_refl->ajo
open _root_.Option.some renaming inj->ajk
open _root_.Go.Value renaming ownBlock->ajV
namespace Go.Proofs.YtmihpkfkbfgigaaGreatDoor
open Go Go.RowKit
section
variable {P:Program} {ρ:Nat->Value} {w w':World} {H H':aq} {F F':Nat->Prop} {U:Nat->Prop} {ob:Nat->Option (Nat×Th)} {n:Nat} {R:Type}
variable {op:Op} {ty:TypeId} {pos:String} {aft:Array Edge} {d:Nat}
noncomputable def pF(T:be P)(ob:Nat->Option (Nat×Th))(n:Nat)(t:TypeId)(D V:al)(k:dY->Option R):Option R:=
 match find T.row t with
 |none=>none
 |some rt=>match V with
  | .val _ u=>match D with
    | .dlm o d0 i p off=>match ob o with
      |some (_, .deep T0 dr l h)=>bif d0.beq dr then(match dr.path p with
       |some ⟨.leaf r,q⟩=>bif aju q.lo.off off&&aju rt.size r.size then(match flat ob r u with
        |some y=>(idx l i).bind fun x=>k {dst:= .dead,eat:=[o],make:=[(o,(n, .deep T0 dr (aQ l i (q.hi.set x y)) h))]}
        |none=>none)else none
       |some ⟨.sl T' e',q⟩=>bif aju q.lo.off off&&aju rt.size 1 then(match u with
        | .own o1=>match ob o1 with
          |some (_,t1)=>match PK T' e' t1 with
           |some _=>if yT h i p=true then(idx l i).bind fun _=>k {dst:= .dead,eat:=[o],make:=[(o,(n, .deep T0 dr l (some ⟨i,p,o1,n⟩)))]}else none
           |none=>none
          |none=>none
        | .nil=>if yT h i p=true then(idx l i).bind fun x=>k {dst:= .dead,eat:=[o],make:=[(o,(n, .deep T0 dr (aQ l i (q.hi.set x ([]:List e'.row.den))) none))]}else none
        |_=>none)else none
       |_=>none)else none
      |_=>none
    |_=>none
  |_=>none
theorem qB(T:be P){t:TypeId}{rt:Row}(IP:find T.row t=some rt){x y:Operand}{o s:Nat}{T0:TypeId}{dr e:DR}{i:Int}{l l':List dr.row.den}{h h':Option uV}{q:fJ dr e}{g o0 qq m cap j:Nat}{u:e.low.den}{cs:List Value}{x1:dr.row.den}
 (hs:au U H F w ob n)(cU:ob o=some (s, .deep T0 dr l h))(hv:H.val o=some (.slice (some ⟨g,o0,none⟩) m cap))(hj:i=(j:Nat))(Ai:j<l.length)(hx:ev ρ x= .pointer (some ⟨g,o0+qq*dr.low.size+q.lo.off,none⟩))(hqq:i=(qq:Nat))(hz:rt.size=e.low.size)
 (hr:cD F w e.low cs u)(xC:(ev ρ y).cells.toList=cs)(xH:l'=l.set j x1)
 (vq:∀{w':World}{H1:aq},H.le H1->Step F w F w'->∀{x':dr.low.den}{S:Nat->Prop},(∀k,S k->w'.heap[k]? =w.heap[k]?)->nX H F w dr h j x' l[j] S->∃B,(∀k,B k->S k)/\nX H1 F w' dr h' j (q.lo.set x' u) x1 B)
 (MS:∀{H1:aq}{w':World}{i':Nat}{x':dr.low.den}{x:dr.row.den}{S:Nat->Prop},i'≠j->nX H1 F w' dr h i' x' x S->nX H1 F w' dr h' i' x' x S):
 cG P U H F w ρ ob n ⟨none, .store t x y,ty,pos,aft,none⟩ {dst:= .dead,eat:=[o],make:=[(o,(n, .deep T0 dr l' h'))]}:=by
 obtain⟨ti,z0,h1,_,_,h4,_⟩:=T.row_ok _ _ IP;obtain⟨lh,Ss,eo,hlen,JU,dG⟩:=hs.low cU hv;obtain⟨v1,uy,cn⟩:=hs.obj _ _ _ cU;rw[hv]at uy;obtain rfl:=ajk uy
 have Wz:j<lh.length:=by omega
 obtain rfl:qq=j:=by omega
 obtain⟨cur,hh,hle,bU,iY⟩:=eo.put rfl Wz hs.lt q.lo hr;generalize WA:w.setRow g (cur.toList.take (o0+qq*dr.low.size+q.lo.off)++cs++cur.toList.drop (o0+qq*dr.low.size+q.lo.off+cs.length)).toArray=w' at bU iY;refine cd.unit (w':=w') (by rw[<-WA];exact nU h1 (h4.trans (hz.trans hr.length.symm)) hx rfl xC hr.je hh hle) ?_;have eM:Step F w F w':=Step.ext bU hs.lt eo.no
 have JV:∀i',i'<l.length->∀k,Ss i' k->w'.heap[k]? =w.heap[k]? :=fun i' gj k hk=>bU.block k (cn.lt k (dG.part gj k hk)) (dG.out i' k gj hk)
 have hf:=hs.fresh n (ajo _) (by omega)
 have kQ:∀k,H.sub s k->cm H ob [o] k:=fun k hk=>⟨o,by simp,s,_,_,cU,hv,hk⟩
 obtain⟨B0,hB0,_⟩:=vq (w':=w') (H1:=H) (aq.le.refl H) eM (JV qq Ai) (JU qq Wz Ai)
 have main:∀{H1:aq},H.le H1->∃B,(∀k,B k->Ss qq k)/\nX H1 F w' dr h' qq (q.lo.set lh[qq] u) x1 B:=fun He=>vq He eM (JV qq Ai) (JU qq Wz Ai)
 have Sw:∃B,(∀k,B k->Ss qq k)/\∀{H1:aq},H.le H1->nX H1 F w' dr h' qq (q.lo.set lh[qq] u) x1 B:=by
  obtain⟨B,b1,b2⟩:=main (aq.le.refl H);exact⟨B,b1,fun He=>b2.keep He (Step.refl F w') fun _ _=>rfl⟩
 obtain⟨B,b1,b2⟩:=Sw;have hSs:∀k,qz (bq (Value.slice (some ⟨g,o0,none⟩) m cap)) (fun i=>if i=qq then B else Ss i) l.length k->H.sub s k:=dG.AO qq b1;refine mo.yR (t':= .deep T0 dr l' h') hs cU hv rfl (by simp) (qz (bq (Value.slice (some ⟨g,o0,none⟩) m cap)) (fun i=>if i=qq then B else Ss i) l.length) (fun k hk=>kQ k (hSs k hk)) ⟨bU.os,bU.tape,bU.output,bU.size,fun k hk hn=>bU.block k hk fun e=>hn (kQ k (dG.bq k e))⟩ ?_ trivial;have He:=aq.uD (H:=H) (S:=qz (bq (Value.slice (some ⟨g,o0,none⟩) m cap)) (fun i=>if i=qq then B else Ss i) l.length) (t:= .deep T0 dr l' h') hf.2
 have xG:l'.length=l.length:=by rw[xH];simp
 refine⟨lh.set qq (q.lo.set lh[qq] u),(fun i=>if i=qq then B else Ss i),iY.2,by rw[xG];simpa using hlen,?_,?_⟩
 .intro i' a b
  have:=MO (rel:=nX ((H.fe n (qz (bq (Value.slice (some ⟨g,o0,none⟩) m cap)) (fun i=>if i=qq then B else Ss i) l.length)).bK n (.deep T0 dr l' h')) F w' dr h') (lh:=lh) (l:=l) (Ss:=Ss) (j:=qq) (x':=q.lo.set lh[qq] u) (x:=x1) (B:=B)
   (fun i2 c1 c2 bP=>MS bP ((JU i2 c1 c2).keep He eM (JV i2 c2))) (b2 He) i' a (by simpa[xH]using b)
  simpa only[xH]using this
 .rw[xG];exact dG.less qq b1
theorem Ds(T:be P){t:TypeId}{D V:al}{x y:Operand}{k:dY->Option R}{q:R}(h:pF T ob n t D V k=some q)(hs:au U H F w ob n)(hx:aj H F w D (ev ρ x))(hy:aj H F w V (ev ρ y)):
 ∃e,k e=some q/\cG P U H F w ρ ob n ⟨none, .store t x y,ty,pos,aft,none⟩ e:=by
 unfold pF at h;split at h
 .cases h
 rename_i rt IP;split at h
 case h_2=>cases h
 rename_i agg u;split at h
 case h_2=>cases h
 rename_i o d0 i p off;split at h
 case h_2=>cases h
 rename_i s T0 dr l hh cU;obtain⟨hd,h'⟩:=aG h;clear h;obtain rfl:=DR.eq_of_beq hd;obtain⟨g,o0,qq,m,cap,e1,e2,e5⟩:=hx;obtain⟨cs,qY,xC⟩:=aH.cells hy;split at h'
 .rename_i r xB yN;obtain⟨h1,h2⟩:=aG h';obtain⟨h1,h3⟩:=cV h1;obtain rfl:=beq_true h1;split at h2
  case h_2=>cases h2
  rename_i z hz;obtain⟨a,ha,hk⟩:=bind_some h2;obtain⟨j,hj,Ai,rfl⟩:=fP ha;refine⟨_,hk,qB (l':=aQ l i (xB.hi.set l[j] z)) (x1:=xB.hi.set l[j] z) (u:=z) T IP hs cU e1 hj Ai e5 e2 (beq_true h3) (iF hs hz qY) xC ?_ ?_ ?_⟩
  .unfold aQ;rw[hj,ajr]
  .intro w' H1 hle eM x' S hb hr;exact⟨S,fun _ h=>h,Hc xB z (hr.keep hle eM hb)⟩
  .intro H1 w' i' x' x S _ hr;exact hr
 .rename_i T' e' xB yN;obtain⟨h1,h2⟩:=aG h';obtain⟨h1,h3⟩:=cV h1;obtain rfl:=beq_true h1;split at h2
  .rename_i o1;split at h2
   case h_2=>cases h2
   rename_i s1 t1 oJ;split at h2
   case h_2=>cases h2
   rename_i y1 hD;split at h2
   case isFalse=>cases h2
   rename_i tF;obtain⟨a,ha,hk⟩:=bind_some h2;obtain⟨j,hj,Ai,rfl⟩:=fP ha;obtain⟨u1,CQ,mw⟩:=hs.obj _ _ _ oJ;obtain⟨v,hv,kN,rfl⟩:=qY;rw[CQ]at hv;obtain rfl:=ajk hv
   have WB:cD F w .jE [u1] u1:=by
    have:=mw.ok;rw[vr hD]at this;obtain⟨lh1,_,g1,_⟩:=vo this;obtain⟨xs,⟨_,hx⟩,_⟩:=g1
    rcases hx with⟨rfl,_⟩|⟨gg,o0,cp,cur,rfl,_⟩<;>exact⟨rfl,_,_,_,rfl⟩
   refine⟨_,hk,qB (l':=l) (x1:=l[j]) (u:=u1) (e:= .sl T' e') T IP hs cU e1 hj Ai e5 e2 (beq_true h3) WB xC ?_ ?_ ?_⟩
   .exact(List.set_getElem_self Ai).symm
   .intro w' H1 hle eM x' S hb hr;obtain⟨B,b1,b2⟩:=AQ tF yN hj hr;refine⟨B,b1,fun bP=>absurd hj bP,fun _=>⟨T',e',xB,yN,(b2.keep eM fun k hk=>hb k (b1 k hk)).JT xB u1,?_⟩⟩;rw[Path.yQ];exact hle.val _ _ CQ
   .intro H1 w' i' x' x S bP hr
    have MT:i≠(i':Int):=fun e=>bP (by omega)
    exact⟨fun _=>vu tF MT hr,fun e=>absurd e MT⟩
  .split at h2
   case isFalse=>cases h2
   rename_i tF;obtain⟨a,ha,hk⟩:=bind_some h2;obtain⟨j,hj,Ai,rfl⟩:=fP ha;have WC:cs=_:=qY;subst WC;refine⟨_,hk,qB (x1:=xB.hi.set l[j] ([]:List e'.row.den)) (u:=Value.slice none 0 0) (e:= .sl T' e') T IP hs cU e1 hj Ai e5 e2 (beq_true h3) ⟨rfl,_,_,_,rfl⟩ xC ?_ ?_ ?_⟩
   .unfold aQ;rw[hj,ajr]
   .intro w' H1 hle eM x' S hb hr;obtain⟨B,b1,b2⟩:=AQ tF yN hj hr;refine⟨B,b1,?_⟩;refine lE.put (e:= .sl T' e') xB (b2.keep eM fun k hk=>hb k (b1 k hk)) (A:=fun _=>False) ?_ ⟨fun k=>by simp,fun _ h=>h.elim⟩;exact⟨[],fun _ _=>False,jW.nil F w' T' e'.low,rfl,fun i h=>absurd h (by simp),⟨fun k=>by simp[bq,ajV],fun _ _ _ h=>absurd h (by simp),fun _ _ h=>absurd h (by simp)⟩⟩
   .intro H1 w' i' x' x S bP hr
    have MT:i≠(i':Int):=fun e=>bP (by omega)
    exact vu tF MT hr
  .cases h2
 .cases h'
end
end Go.Proofs.YtmihpkfkbfgigaaGreatDoor
namespace Go.Proofs.YtmihpkfkbfgigaaGreatDoor
open Go Go.RowKit
def oK{α:Type}(l:List α)(i:Int)(f:α->α):List α:=if 0<=i then l.modify i.toNat f else l
theorem gZ{α:Type}(l:List α)(i:Int)(f:α->α):(oK l i f).length=l.length:=by unfold oK;split<;>simp
theorem uE{α:Type}{l:List α}{i:Int}{f:α->α}{j:Nat}(h:j<(oK l i f).length)(h':j<l.length):(oK l i f)[j]=if i=(j:Int)then f l[j]else l[j]:=by
 by_cases hi:0<=i
 .have e:oK l i f=l.modify i.toNat f:=by unfold oK;rw[if_pos hi]
  simp only[e,List.getElem_modify]
  by_cases MP:i=(j:Int)
  .rw[if_pos MP,if_pos (by omega)]
  .rw[if_neg MP,if_neg (by omega)]
 .have e:oK l i f=l:=by unfold oK;rw[if_neg hi]
  simp only[e];rw[if_neg (by omega)]
theorem Path.yU:{r s:Row}->(p:Path r s)->(x:r.den)->p.set x (p.get x)=x
 |_,_, .here,_=>rfl
 |_,_, .fst p,x=>by show(p.set x.1 (p.get x.1),x.2)=x;rw[Path.yU p]
 |_,_, .snd p,x=>by show(x.1,p.set x.2 (p.get x.2))=x;rw[Path.yU p]
section
variable {P:Program} {ρ:Nat->Value} {w w':World} {H H':aq} {F F':Nat->Prop} {U:Nat->Prop} {ob:Nat->Option (Nat×Th)} {n:Nat} {R:Type}
variable {op:Op} {ty:TypeId} {pos:String} {aft:Array Edge} {d:Nat}
def JW(ob:Nat->Option (Nat×Th))(n o:Nat):Option dY:=
 match ob o with
 |some (_, .deep T0 dr l (some h))=>match dr.path h.p with
  |some ⟨.sl T' e',q⟩=>match ob h.o with
   |some (_,t1)=>bif aju h.o o then none else(match PK T' e' t1 with
    |some y=>some {dst:= .dead,eat:=[o,h.o],make:=[(o,(n, .deep T0 dr (oK l h.i fun x=>q.hi.set x y) none))]}
    |none=>none)
   |none=>none
  |_=>none
 |_=>none
theorem Hf(hs:au U H F w ob n){o:Nat}{e:dY}(h:JW ob n o=some e):kS H F w ob n e undef w:=by
 unfold JW at h;split at h
 case h_2=>cases h
 rename_i s T0 dr l hh cU;split at h
 case h_2=>cases h
 rename_i T' e' q hq;split at h
 case h_2=>cases h
 rename_i s1 t1 oJ
 cases bP:aju hh.o o with
 |true=>rw[bP]at h;cases h
 |false=>
  rw[bP,cond_false]at h
  have bP:o≠hh.o:=fun e=>by rw[e]at bP;simp at bP
  split at h
  case h_2=>cases h
  rename_i y hD;obtain rfl:=ajk h;have hD:=vr hD;subst hD;obtain⟨v,hv,cn⟩:=hs.obj _ _ _ cU;obtain⟨u,hu,mw⟩:=hs.obj _ _ _ oJ;obtain⟨lh,Ss,eo,hlen,vq,dG⟩:=hs.low cU hv;have hA:=vo mw.ok;generalize hAA:(fun k=>fp (H.sub s1) u (Hb T' e' y) k)=A at hA
  have Vw:∀k,A k->¬H.sub s k:=fun k hk=>by
   rw[<-hAA]at hk
   exact fun h2=>hs.apart _ _ _ _ _ _ _ _ bP cU oJ hv hu k h2 hk
  have hf:=hs.fresh n (ajo _) (by omega)
  let Sz:Nat->Nat->Prop:=fun i k=>Ss i k\/(hh.i=(i:Int)/\A k)
  have kQ:∀k,H.sub s k\/A k->cm H ob [o,hh.o] k:=by
   rintro k (hk|hk)
   .exact⟨o,by simp,s,_,v,cU,hv,hk⟩
   .rw[<-hAA]at hk;exact⟨hh.o,by simp,s1,_,u,oJ,hu,hk⟩
  have hS:∀k,qz (bq v) Sz l.length k->H.sub s k\/A k:=by
   rintro k (hk|⟨i,hi,hk|hk⟩)
   .exact .inl (dG.bq k hk)
   .exact .inl (dG.part hi k hk)
   .exact .inr hk.2
  refine mo.yR (t':= .deep T0 dr (oK l hh.i fun x=>q.hi.set x y) none) hs cU hv rfl (by simp) (qz (bq v) Sz l.length) (fun k hk=>kQ k (hS k hk)) ⟨rfl,rfl,rfl,ajo _,fun _ _ _=>rfl⟩ ?_ trivial;have xG:(oK l hh.i fun x=>q.hi.set x y).length=l.length:=gZ ..;refine⟨lh,Sz,eo.2,by rw[xG];exact hlen,fun i a b=>?_,?_⟩
  .have b':i<l.length:=by omega
   rw[uE b b'];have hr:=vq i a b'
   by_cases hi:hh.i=(i:Int)
   .rw[if_pos hi];obtain⟨T'',e'',q'',k1,k2,k3⟩:=hr.2 hi;rw[hq]at k1;cases k1;rw[hu]at k3;have k3:=ajk k3;have:jU F w dr (q.lo.set lh[i] u) (q.hi.set l[i] y) (Sz i):=k2.put q hA ⟨fun k=>⟨fun hk=>hk.elim .inr fun hk=> .inl hk.2,fun hk=>hk.elim (fun hk=> .inr ⟨hi,hk⟩) .inl⟩,fun k hk h2=>Vw k hk (dG.part b' k h2)⟩;rw[k3,Path.yU]at this;exact this
   .rw[if_neg hi];have hr1:=hr.1 hi
    have:Sz i=Ss i:=by
     funext k;exact propext ⟨fun hk=>hk.elim id fun hk=>absurd hk.1 hi, .inl⟩
    rw[this];exact hr1
  .rw[xG];refine⟨fun k=>Iff.rfl,fun i j k h1 h2 MP h3 h4=>?_,fun i k h1 h3 h4=>?_⟩
   .rcases h3 with h3|h3<;>rcases h4 with h4|h4
    .exact dG.two i j k h1 h2 MP h3 h4
    .exact Vw k h4.2 (dG.part h1 k h3)
    .exact Vw k h3.2 (dG.part h2 k h4)
    .have:=h3.1;have:=h4.1;omega
   .rcases h3 with h3|h3
    .exact dG.out i k h1 h3 h4
    .exact Vw k h3.2 (dG.bq k h4)
end
end Go.Proofs.YtmihpkfkbfgigaaGreatDoor
end
section
open _root_.Array renaming toArray_toList->aj9
open _root_.Int renaming le_refl->akA
open _root_.List renaming replicate->ajq
open _root_.Nat renaming beq->aju,le_refl->ajo,lt_of_lt_of_le->aj7
open _root_.Option renaming isSome_iff_exists->ajZ
open _root_.Option.some renaming inj->ajk
open _root_.Prod.mk renaming inj->akO
open _root_.Go.Value renaming ownBlock->ajV
namespace Go.Proofs.YtmihpkfkbfgigaaGreatDoor
open Go Go.RowKit
theorem DR.eL:(d:DR)->d.low.eL=d.row.eL
 | .leaf _=>rfl
 | .sl _ _=>rfl
 | .pair a b=>by show a.low.eL++b.low.eL=a.row.eL++b.row.eL;rw[a.eL,b.eL]
theorem TI.low{P:Program}{e:TypeId}{d:DR}(h:TI P e d.row):TI P e d.low:=by
 obtain⟨ti,z,h1,h2,h3,h4,h5⟩:=h;exact⟨ti,z,h1,h2,by rw[d.eL];exact h3,by rw[d.size];exact h4,h5⟩
def Dt:List Nat->Bool
 |[]=>true
 |o::l=> !l.any (aju o)&&Dt l
theorem xI:{l:List Nat}->Dt l=true->l.Nodup
 |[],_=>List.nodup_nil
 |o::l,h=>by
  obtain⟨h1,h2⟩:=cV h;refine List.nodup_cons.2 ⟨fun hm=>?_,xI h2⟩;rw[any_beq.2 hm]at h1;cases h1
def DR.mk2:DR->DR->DR
 | .leaf a, .leaf b=> .leaf (.pair a b)
 |a,b=> .pair a b
def PL(ob:Nat->Option (Nat×Th)):Row->Tree->DR
 | .slice e, .own o=>match ob o with
   |some (_, .own T r _)=> .sl T (.leaf r)
   |some (_, .deep T d _ none)=> .sl T d
   |_=> .leaf (.slice e)
 | .pair a b,t=>match t.split with
   |some (x,y)=>DR.mk2 (PL ob a x) (PL ob b y)
   |none=> .leaf (.pair a b)
 |r,_=> .leaf r
def Du(ob:Nat->Option (Nat×Th)):(d:DR)->Tree->Option (d.row.den×List Nat)
 | .leaf r,t=>match flat ob r t with
   |some x=>some (x,[])
   |none=>none
 | .sl T e, .own o=>match ob o with
   |some (_,t1)=>match PK T e t1 with
    |some y=>some (y,[o])
    |none=>none
   |none=>none
 | .sl _ _, .nil=>some ([],[])
 | .sl _ _,_=>none
 | .pair a b,t=>match t.split with
   |some (x,y)=>match Du ob a x with
    |some (u,os)=>match Du ob b y with
     |some (v,MU)=>some ((u,v),os++MU)
     |none=>none
    |none=>none
   |none=>none
def E6(ob:Nat->Option (Nat×Th))(d:DR):List al->Option (List d.row.den×List Nat)
 |[]=>some ([],[])
 | .val _ u::l=>match Du ob d u with
   |some (x,os)=>match E6 ob d l with
    |some (xs,MU)=>some (x::xs,os++MU)
    |none=>none
   |none=>none
 |_::_=>none
section
variable {P:Program} {ρ:Nat->Value} {w w':World} {H H':aq} {F F':Nat->Prop} {U:Nat->Prop} {ob:Nat->Option (Nat×Th)} {n:Nat} {R:Type}
variable {op:Op} {ty:TypeId} {pos:String} {aft:Array Edge} {d:Nat}
theorem tG(hs:au U H F w ob n){os MU:List Nat}(hd:∀o,o∈os->o∉MU):∀k,cm H ob os k->¬cm H ob MU k:=by
 rintro k ⟨o,ho,s,t,v,h1,h2,h3⟩ ⟨o',kO,s',t',v',g1,g2,g3⟩
 exact hs.apart o o' s s' t t' v v' (fun e=>hd o ho (e▸kO)) h1 g1 h2 g2 k h3 g3
theorem pG{os MU:List Nat}(h:∀o,o∈os->o∈MU):∀k,cm H ob os k->cm H ob MU k:=fun _ ⟨o,ho,rest⟩=>⟨o,h o ho,rest⟩
theorem yV(hs:au U H F w ob n):{d:DR}->{t:Tree}->{x:d.row.den}->{os:List Nat}->{cs:List Value}->Du ob d t=some (x,os)->Holds H F w t cs->os.Nodup->∃x' S,cD F w d.low cs x'/\jU F w d x' x S/\∀k,S k->cm H ob os k
 | .leaf r,t,x,os,cs,h,hh,MV=>by
   unfold Du at h
   split at h<;>cases h
   rename_i hf;exact⟨x,fun _=>False,iF hs hf hh,⟨rfl,fun _ h=>h⟩,fun _ h=>h.elim⟩
 | .sl T e, .own o,x,os,cs,h,hh,MV=>by
   unfold Du at h;split at h
   case h_2=>cases h
   rename_i s1 t1 ho
   split at h<;>cases h
   rename_i hD;obtain⟨v,hv,_,rfl⟩:=hh;obtain⟨v',dz,cn⟩:=hs.obj _ _ _ ho;rw[hv]at dz;obtain rfl:=ajk dz;have hD:=vr hD;subst hD;have hb:=vo cn.ok;refine⟨v,_,?_,hb,fun k hk=>⟨o,by simp,s1,_,v,ho,hv,hk⟩⟩;obtain⟨lh1,_,⟨xs,⟨_,hx⟩,_⟩,_⟩:=hb
   rcases hx with⟨rfl,_⟩|⟨gg,o0,cp,cur,rfl,_⟩<;>exact⟨rfl,_,_,_,rfl⟩
 | .sl T e, .nil,x,os,cs,h,hh,_=>by
   cases h;have Vx:cs=_:=hh;subst Vx;exact⟨.slice none 0 0,fun _=>False,⟨rfl,_,_,_,rfl⟩,⟨[],fun _ _=>False,jW.nil F w T e.low,rfl,fun i h=>absurd h (by simp),⟨fun k=>by simp[bq,ajV],fun _ _ _ h=>absurd h (by simp),fun _ _ h=>absurd h (by simp)⟩⟩,fun _ h=>h.elim⟩
 | .pair a b,t,x,os,cs,h,hh,hn=>by
   unfold Du at h;split at h
   case h_2=>cases h
   rename_i t1 t2 r8;split at h
   case h_2=>cases h
   rename_i u os1 h1;split at h
   case h_2=>cases h
   rename_i v os2 h2;cases h;obtain⟨c1,c2,rfl,g1,g2,_⟩:=hh.split r8;obtain⟨n1,n2,n3⟩:=List.nodup_append.1 hn;obtain⟨x1,S1,r1,e1,s1⟩:=yV hs h1 g1 n1;obtain⟨x2,S2,r2,e2,s2⟩:=yV hs h2 g2 n2;refine⟨(x1,x2),fun k=>S1 k\/S2 k,⟨c1,c2,rfl,r1,r2⟩,⟨S1,S2,e1,e2,fun _=>Iff.rfl,fun k hk dO=>tG hs (fun o ho kO=>n3 o ho o kO rfl) k (s1 k hk) (s2 k dO)⟩,fun k hk=>hk.elim (fun hk=>pG (fun o ho=>by simp[ho]) k (s1 k hk)) fun hk=>pG (fun o ho=>by simp[ho]) k (s2 k hk)⟩
 | .sl _ _, .leaf _ _,_,_,_,h,_,_=>by cases h
 | .sl _ _, .pair _ _,_,_,_,h,_,_=>by cases h
 | .sl _ _, .view ..,_,_,_,h,_,_=>by cases h
theorem AR(hs:au U H F w ob n){d:DR}:{ds:List al}->{l:List d.row.den}->{os:List Nat}->{vs:List Value}->E6 ob d ds=some (l,os)->fl H F w ds vs->os.Nodup->
 ∃(lh:List d.low.den)(Ss:Nat->Nat->Prop),uT F w d.low vs lh/\lh.length=l.length/\(∀i(h1:i<lh.length)(h2:i<l.length),jU F w d lh[i] l[i] (Ss i))/\(∀i k,i<l.length->Ss i k->cm H ob os k)/\∀i j k,i<l.length->j<l.length->i≠j->Ss i k->¬Ss j k
 |[],l,os,vs,h,hd,_=>by
  cases h;rw[show vs=[]from hd];exact⟨[],fun _ _=>False, .nil,rfl,fun i h=>absurd h (by simp),fun _ _ h=>absurd h (by simp),fun _ _ _ h=>absurd h (by simp)⟩
 | .val _ u::ds,l,os,vs,h,hd,hn=>by
   obtain⟨v,us,rfl,h1,h2⟩:=hd;unfold E6 at h;split at h
   case h_2=>cases h
   rename_i x os1 hf;split at h
   case h_2=>cases h
   rename_i xs os2 hg;cases h;obtain⟨cs,qY,xC⟩:=aH.cells h1;obtain⟨n1,n2,n3⟩:=List.nodup_append.1 hn;obtain⟨x',S,r1,e1,s1⟩:=yV hs hf qY n1;obtain⟨lh,Ss,k1,k2,k3,k4,k5⟩:=AR hs hg h2 n2
   have ap:∀i k,i<xs.length->S k->¬Ss i k:=fun i k hi hk dO=>tG hs (fun o ho kO=>n3 o ho o kO rfl) k (s1 k hk) (k4 i k hi dO)
   refine⟨x'::lh,fun i=>match i with|0=>S|i+1=>Ss i, .cons xC r1 k1,by simp[k2],fun i a b=>?_,fun i k hi hk=>?_,fun i j k hi hj bP hk dO=>?_⟩
   .cases i with
    |zero=>exact e1
    |succ i=>exact k3 i (by simpa using a) (by simpa using b)
   .cases i with
    |zero=>exact pG (fun o ho=>by simp[ho]) k (s1 k hk)
    |succ i=>exact pG (fun o ho=>by simp[ho]) k (k4 i k (by simpa using hi) hk)
   .cases i with
    |zero=>
     cases j with
     |zero=>exact bP rfl
     |succ j=>exact ap j k (by simpa using hj) hk dO
    |succ i=>
     cases j with
     |zero=>exact ap i k (by simpa using hi) dO hk
     |succ j=>exact k5 i j k (by simpa using hi) (by simpa using hj) (fun e=>bP (by rw[e])) hk dO
 | .dead::_,_,_,_,h,_,_=>by cases h
 | .undef::_,_,_,_,h,_,_=>by cases h
 | .ptr .. ::_,_,_,_,h,_,_=>by cases h
 | .at .. ::_,_,_,_,h,_,_=>by cases h
 | .elem .. ::_,_,_,_,h,_,_=>by cases h
 | .tup _::_,_,_,_,h,_,_=>by cases h
 | .dlm .. ::_,_,_,_,h,_,_=>by cases h
 | .fn .. ::_,_,_,_,h,_,_=>by cases h
 | .ifc .. ::_,_,_,_,h,_,_=>by cases h
theorem mo.PM(hs:au U H F w ob n){eat:List Nat}{t:Th}{v0:Value}{S:Nat->Prop}(hb:t.base=t)(h1:v0.oneCell'=true){D:al}{v:Value}
 (bU:Ext (cm H ob eat) w w')(nn:iE (((H.fe n S).bK n t).cW n v0) F w' S v0 t)(JE:∀k,fp S v0 t k->¬F k/\k<w'.heap.size/\(w.heap.size<=k\/cm H ob eat k))
 (hd:aj (((H.fe n S).bK n t).cW n v0) F w' D v):kS H F w ob n {dst:=D,eat:=eat,make:=[(n,(n,t))]} v w':=by
 have hf:=hs.fresh n (ajo _) (by omega)
 have fY:(((H.fe n S).bK n t).cW n v0).sub n=S:=by simp[aq.cW,aq.bK,aq.fe]
 refine⟨((H.fe n S).bK n t).cW n v0,F,⟨(aq.uD hf.2).trans (aq.pA (by simp[aq.bK,aq.fe,hf.1])),bU,fun _ h=>h,fun _ h=> .inl h,fun b hb=>aj7 (hs.lt b hb) bU.size⟩,fun m hm=>?_,hd,⟨fun o' s' q hq=>?_,fun o1 o2 s1 s2 q1 q2 u1 u2 bP h1 h2=>?_⟩,fun o' h=>?_⟩
 .simp[aq.bK,aq.cW,aq.fe,show m≠n from by omega]
 .obtain⟨rfl,e⟩:=bW hq;obtain⟨rfl,rfl⟩:=akO e;exact⟨v0,by simp[aq.cW],h1,by simp[aq.bK,aq.cW,hb],by rw[fY];exact nn,by rw[fY];exact JE⟩
 .exact absurd ((bW h1).1.trans (bW h2).1.symm) bP
 .right
  obtain⟨y,hy⟩:=ajZ.1 h;rw[(bW hy).1];exact ajo _
def yW(ob:Nat->Option (Nat×Th))(r:Row):List al->DR
 | .val _ u::_=>PL ob r u
 |_=> .leaf r
def oL(e:TypeId)(dr:DR)(ob:Nat->Option (Nat×Th))(n:Nat)(ds:List al)(k:dY->Option R):Option R:=
 match E6 ob dr ds with
 |some (l,os)=>bif Dt os then k {dst:= .val false (.own n),eat:=os,make:=[(n,(n,Hb e dr l))]}else none
 |none=>none
def pH(T:be P)(rd:Operand->Option al)(ob:Nat->Option (Nat×Th))(n:Nat)(t:TypeId)(m:Nat)(parts:Array (Nat×Operand))(k:dY->Option R):Option R:=
 match find T.und t with
 |some (.slice e)=>match find T.row e with
  |some r=>bif E0 0 parts.toList&&aju m parts.toList.length&&Nat.ble (m*r.size) 16777216 then
    (match rk rd (parts.toList.map (·.2))with
    |some ds=>bif (yW ob r ds).row.beq r then oL e (yW ob r ds) ob n ds k else none
    |none=>none)else none
  |none=>none
 |_=>none
theorem Dv(T:be P){rd:Operand->Option al}(fN:∀x d,rd x=some d->aj H F w d (ev ρ x)){t:TypeId}{m:Nat}{parts:Array (Nat×Operand)}{k:dY->Option R}{q:R}(h:pH T rd ob n t m parts k=some q)(hs:au U H F w ob n):
 ∃e,k e=some q/\cG P U H F w ρ ob n ⟨some d, .buildSlice t m parts,ty,pos,aft,none⟩ e:=by
 unfold pH at h;split at h
 case h_2=>cases h
 rename_i e hu;split at h
 case h_2=>cases h
 rename_i r hr;obtain⟨c0,h8⟩:=aG h;clear h;obtain⟨c1,c3⟩:=cV c0;obtain⟨h1,c2⟩:=cV c1;have h2:=beq_true c2
 have h3:m*r.size<=16777216:=by simpa using c3
 clear c0 c1 c2 c3;split at h8
 case h_2=>cases h8
 rename_i ds uz;obtain⟨SA,h⟩:=aG h8;clear h8;have jE:=Row.eq_of_beq SA;clear SA
 obtain⟨dr,MW⟩:∃dr,dr=yW ob r ds:=⟨_,rfl⟩
 rw[<-MW]at h jE;clear MW;subst jE;unfold oL at h;split at h
 case h_2=>cases h
 rename_i l os hl;obtain⟨hn,hk⟩:=aG h;clear h;obtain⟨lh,Ss,k1,k2,k3,k4,k5⟩:=AR hs hl (nw fN uz) (xI hn)
 have hp:parts=(((parts.toList.map (·.2)).zipIdx).map fun p=>(p.2,p.1)).toArray:=by
  rw[<-vc h1,aj9]
 have hm:m=(parts.toList.map (·.2)).length:=by simpa using h2
 obtain⟨v,w',bw,bU,eo,G0⟩:=vb (d:=d) (ty:=ty) (pos:=pos) (aft:=aft) (T.und_ok _ _ hu) (TI.low (T.row_ok _ _ hr)) hp (by rw[<-hm,DR.size];exact h3) k1 hs;rw[<-hm]at bw;refine⟨_,hk,cd.val bw ?_⟩
 have ao:∀i k,i<l.length->Ss i k->k<w.heap.size:=fun i k hi hk=>hs.uW k (k4 i k hi hk)
 have eM:Step F w F w':=fun b hb=>⟨hb,(bU fun _=>False).block b (hs.lt b hb) fun h=>h⟩
 have dG:np Ss l.length (bq v) (qz (bq v) Ss l.length):=⟨fun _=>Iff.rfl,k5,fun i k hi hk hm=>by have:=ao i k hi hk;have:=G0 k hm;omega⟩
 have qX:jU F w' (.sl e dr) v l (qz (bq v) Ss l.length):=⟨lh,Ss,eo.2,k2,fun i a b=>(k3 i a b).keep eM fun k hk=>(bU fun _=>False).block k (ao i k b hk) fun h=>h,dG⟩
 have JE:∀k,qz (bq v) Ss l.length k->¬F k/\k<w'.heap.size/\(w.heap.size<=k\/cm H ob os k):=by
  rintro k (hk|⟨i,hi,hk⟩)
  .exact⟨eo.1 k hk,eo.lt k hk, .inl (G0 k hk)⟩
  .have:=k4 i k hi hk;exact⟨hs.gW k this,aj7 (hs.uW k this) (bU fun _=>False).size, .inr this⟩
 refine mo.PM (S:=qz (bq v) Ss l.length) (v0:=v) hs (vn ..) (pB eo) (bU _) (sD qX).1 (fun k hk=>JE k ((sD (H:=H) qX).2.1 k hk)) (mP (by simp[aq.cW]) (pB eo))
def yX(T:be P)(n:Nat)(t:TypeId)(same:Bool)(a b:Int)(k:dY->Option R):Option R:=
 match find T.und t with
 |some (.slice e)=>match find T.row e with
  |some (.slice r)=>match find T.und e with
   |some (.slice e')=>(bif same then mI a ([]:List r.den)else Vu a b ([]:List r.den)).bind fun l=>k {dst:= .val false (.own n),make:=[(n,(n, .deep e (.sl e' (.leaf r)) l none))]}
   |_=>none
  |_=>va T n t same a b k
 |_=>none
theorem xJ{e e' t:TypeId}{r:Row}{a b:Int}(ht:P.underlying t=some (.slice e))(u6:TI P e (.slice r))(hs:au U H F w ob n){ka kb:IntKind}{x y:Operand}(hx:ev ρ x= .int ka a)(hy:ev ρ y= .int kb b)(h0:0<=a)(h1:a<=b)(h2:b<=4294967296):
 cG P U H F w ρ ob n ⟨some d, .makeSlice t x y,ty,pos,aft,none⟩ {dst:= .val false (.own n),make:=[(n,(n, .deep e (.sl e' (.leaf r)) (ajq a.toNat ([]:List r.den)) none))]}:=by
 obtain⟨v,w',bw,bU,eo,G0⟩:=xD (d:=d) (ty:=ty) (pos:=pos) (aft:=aft) (r:= .jE) ht (TI.low (d:= .sl e' (.leaf r)) u6) hs hx hy h0 h1 h2
 have qX:jU F w' (.sl e (.sl e' (.leaf r))) v (ajq a.toNat ([]:List r.den)) (bq v):=by
  refine⟨ajq a.toNat (Value.slice none 0 0),fun _ _=>False,eo.2,by simp,fun i h1 h2=>?_,⟨fun k=>by simp,fun _ _ _ _ _ _ h=>h.elim,fun _ _ _ h=>h.elim⟩⟩;simp only[List.getElem_replicate];exact⟨[],fun _ _=>False,jW.nil F w' e' r,rfl,fun i h=>absurd h (by simp),⟨fun k=>by simp[bq,ajV],fun _ _ _ h=>absurd h (by simp),fun _ _ h=>absurd h (by simp)⟩⟩
 refine cd.val bw (mo.PM (S:=bq v) (v0:=v) (eat:=[]) (t:=Hb e (.sl e' (.leaf r)) (ajq a.toNat ([]:List r.den))) hs (vn ..) (pB eo) (bU _) (sD qX).1 (fun k hk=>?_) (mP (by simp[aq.cW]) (pB eo)));have hk:=(sD (H:=H) qX).2.1 k hk;exact⟨eo.1 k hk,eo.lt k hk, .inl (G0 k hk)⟩
theorem Hg(T:be P){t:TypeId}{a b:Int}{ka kb:IntKind}{x y:Operand}{k:dY->Option R}{q:R}(h:yX T n t (oI x y) a b k=some q)(hs:au U H F w ob n)(hx:ev ρ x= .int ka a)(hy:ev ρ y= .int kb b):
 ∃e,k e=some q/\cG P U H F w ρ ob n ⟨some d, .makeSlice t x y,ty,pos,aft,none⟩ e:=by
 unfold yX at h;split at h
 case h_2=>cases h
 rename_i e hu;split at h
 case h_2=>exact AF T h hs hx hy
 rename_i r hr;split at h
 case h_2=>cases h
 rename_i e' AM;obtain⟨l,hl,hk⟩:=bind_some h;have u6:=T.row_ok _ _ hr;have ht:=T.und_ok _ _ hu
 cases nv:oI x y with
 |true=>
  rw[nv,cond_true]at hl;unfold mI at hl;split at hl
  case isFalse=>cases hl
  rename_i hc;obtain rfl:=ajk hl;obtain rfl:=xE nv hx hy;exact⟨_,hk,xJ ht u6 hs hx hy hc.1 (akA _) hc.2⟩
 |false=>
  rw[nv,cond_false]at hl;unfold Vu at hl;split at hl
  case isFalse=>cases hl
  rename_i hc;obtain rfl:=ajk hl;exact⟨_,hk,xJ ht u6 hs hx hy hc.1 hc.2.1 hc.2.2⟩
def vv(deep:Bool)(T:be P)(n:Nat)(t:TypeId)(same:Bool)(a b:Int)(k:dY->Option R):Option R:=
 match deep with
 |true=>yX T n t same a b k
 |false=>va T n t same a b k
theorem Hh(deep:Bool)(T:be P){t:TypeId}{a b:Int}{ka kb:IntKind}{x y:Operand}{k:dY->Option R}{q:R}(h:vv deep T n t (oI x y) a b k=some q)(hs:au U H F w ob n)(hx:ev ρ x= .int ka a)(hy:ev ρ y= .int kb b):
 ∃e,k e=some q/\cG P U H F w ρ ob n ⟨some d, .makeSlice t x y,ty,pos,aft,none⟩ e:=by
 cases deep with
 |true=>exact Hg T h hs hx hy
 |false=>exact AF T h hs hx hy
def oM(T:be P)(ob:Nat->Option (Nat×Th))(n:Nat)(t:TypeId)(D:al)(k:dY->Option R):Option R:=
 match D with
 | .dlm .. =>qA T ob n t D k
 |_=>xA T ob t D k
theorem Hi(T:be P){t:TypeId}{D:al}{x:Operand}{k:dY->Option R}{q:R}(h:oM T ob n t D k=some q)(hs:au U H F w ob n)(hx:aj H F w D (ev ρ x)):
 ∃e,k e=some q/\cG P U H F w ρ ob n ⟨some d, .load t x,ty,pos,aft,none⟩ e:=by
 unfold oM at h;split at h
 .exact Hd T h hs hx
 .exact JD T h hs hx
noncomputable def pI(T:be P)(ob:Nat->Option (Nat×Th))(n:Nat)(t:TypeId)(D V:al)(k:dY->Option R):Option R:=
 match D with
 | .dlm .. =>pF T ob n t D V k
 |_=>su T ob n t D V k
theorem Dw(T:be P){t:TypeId}{D V:al}{x y:Operand}{k:dY->Option R}{q:R}(h:pI T ob n t D V k=some q)(hs:au U H F w ob n)(hx:aj H F w D (ev ρ x))(hy:aj H F w V (ev ρ y)):
 ∃e,k e=some q/\cG P U H F w ρ ob n ⟨none, .store t x y,ty,pos,aft,none⟩ e:=by
 unfold pI at h;split at h
 .exact Ds T h hs hx hy
 .exact GX T h hs hx hy
def uF(deep:Bool)(T:be P)(rd:Operand->Option al)(ob:Nat->Option (Nat×Th))(n:Nat)(t:TypeId)(m:Nat)(parts:Array (Nat×Operand))(k:dY->Option R):Option R:=
 match deep with
 |true=>pH T rd ob n t m parts k
 |false=>jH T rd ob n t m parts k
theorem Dx(deep:Bool)(T:be P){rd:Operand->Option al}(fN:∀x d,rd x=some d->aj H F w d (ev ρ x)){t:TypeId}{m:Nat}{parts:Array (Nat×Operand)}{k:dY->Option R}{q:R}(h:uF deep T rd ob n t m parts k=some q)(hs:au U H F w ob n):
 ∃e,k e=some q/\cG P U H F w ρ ob n ⟨some d, .buildSlice t m parts,ty,pos,aft,none⟩ e:=by
 cases deep with
 |true=>exact Dv T fN h hs
 |false=>exact vd T fN h hs
end
end Go.Proofs.YtmihpkfkbfgigaaGreatDoor
end
