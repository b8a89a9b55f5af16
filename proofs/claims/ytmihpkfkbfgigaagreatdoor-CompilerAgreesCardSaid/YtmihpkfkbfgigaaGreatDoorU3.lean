/- Joined texts: Effs4 Effs5 Effs6 Effs8 Effs9. -/
import Derived.Test.YtmihpkfkbfgigaaGreatDoorU2
import Derived.Carry
section
open _root_.Array renaming toArray_toList->amL
open _root_.Go.Instr renaming fill->anG
open _root_.Int renaming tdiv->amh,tmod->amy,toNat_natCast->al1
open _root_.List.cons renaming injEq->amR
open _root_.List renaming getElem?_eq_getElem->alV,map_cons->am9
open _root_.Nat renaming add_mul->amW,beq->al4,le_refl->alZ,min_eq_left->amF,mul_le_mul_right->ams
open _root_.Option.some renaming inj->alU
open _root_.Go.Result renaming andThen_ok->amJ
open _root_.Go.Sem renaming run_bind->amr
open _root_.Go.Value renaming ownBlock->amw
open _root_.Go.Value.slice renaming injEq->ano
namespace Go.Proofs.YtmihpkfkbfgigaaGreatDoor
open Go Go.RowKit
section
variable {P:Program} {ρ:Nat->Value} {w w':World} {H H':ay} {F F':Nat->Prop} {U:Nat->Prop} {ob:Nat->Option (Nat×Th)} {n:Nat} {R:Type}
variable {op:Op} {ty:TypeId} {pos:String} {aft:Array Edge} {d:Nat}
theorem BH(T:bg P){fs:List (TypeId×Nat)}{pl:List (Nat×Nat)}(hz:vq T fs=true)(q9:∀i,pl[i]? =place T fs i)(mE:∀ft off r,(ft,off)∈fs->find T.row ft=some r->True):
 {parts:List (Nat×aq)}->{t t':Tree}->{cs:List Value}->{vs:List (Nat×Value)}->F6 T fs t parts=some t'->Holds H F w t cs->parts.map (·.1)=vs.map (·.1)->fQ H F w (parts.map (·.2)) (vs.map (·.2))->
 ∃rS,anG (pl[·]?) cs.toArray vs=some rS.toArray/\Holds H F w t' rS
 |[],t,t',cs,vs,h,hh,h1,h2=>by
  obtain rfl:=alU h
  have:vs=[]:=by simpa using h1.symm
  subst this;exact⟨cs,by simp[anG],hh⟩
 |(f, .val agg u)::parts,t,t',cs,vs,h,hh,h1,h2=>by
  obtain⟨v,us,e,hv,h3⟩:=h2
  cases vs with
  |nil=>simp at e
  |cons fv vs=>
   obtain⟨f',v'⟩:=fv;simp only[am9,amR]at h1 e;obtain⟨rfl,h1⟩:=h1;obtain⟨rfl,rfl⟩:=e;unfold F6 at h;split at h
   case h_2=>cases h
   rename_i s off hg;split at h
   case h_2=>cases h
   rename_i ft dV hf;obtain⟨hb,h'⟩:=aK h;clear h;obtain⟨hb,Uh⟩:=di hb;obtain⟨F8,Ej⟩:=di hb;have F8:=beq_true F8;subst F8;have Ej:=beq_true Ej;split at h'
   case h_2=>cases h'
   rename_i tp hp;obtain⟨c1,Bt,yD⟩:=aM.cells hv;have hl:=Bt.length;have hle:=(hh.get hg).2
   cases hr:find T.row ft with
   |none=>simp only[hr]at Uh;cases Uh
   |some r=>
    simp only[hr]at Uh;have Uh:=beq_true Uh
    have QX:pl[f]? =some (off,r.size):=by rw[q9];simp[place,hf,hr]
    rw[ta QX yD (by omega) (by omega)];have vS:=Holds.put Bt hg hp Ej.symm hh;rw[show u.size=r.size from by omega]at vS;exact BH T hz q9 mE h' vS h1 h3
 |(_, .dead)::_,_,_,_,_,h,_,_,_=>by cases h
 |(_, .undef)::_,_,_,_,_,h,_,_,_=>by cases h
 |(_, .ptr ..)::_,_,_,_,_,h,_,_,_=>by cases h
 |(_, .at ..)::_,_,_,_,_,h,_,_,_=>by cases h
 |(_, .elem ..)::_,_,_,_,_,h,_,_,_=>by cases h
 |(_, .tup _)::_,_,_,_,_,h,_,_,_=>by cases h
 |(_, .dlm ..)::_,_,_,_,_,h,_,_,_=>by cases h
def tt(T:bg P)(rd:Operand->Option aq)(t:TypeId)(parts:Array (Nat×Operand))(k:eD->Option R):Option R:=
 match find T.und t with
 |some (.struct fs)=>match find T.row t with
  |some r=>bif vq T fs then
    (match rZ rd (parts.toList.map (·.2))with
    |some ds=>match F6 T fs r.BA ((parts.toList.map (·.1)).zip ds)with
     |some tr=>k {dst:= .val true tr}
     |none=>none
    |none=>none)else none
  |none=>none
 |_=>none
theorem kT:{ds:List aq}->{vs:List Value}->fQ H F w ds vs->ds.length=vs.length
 |[],_,h=>by rw[show _=[]from h];rfl
 |_::_,_,h=>by obtain⟨v,us,rfl,_,h2⟩:=h;simp[kT h2]
theorem Ia(T:bg P){rd:Operand->Option aq}(gu:∀x d,rd x=some d->al H F w d (ev ρ x)){t:TypeId}{parts:Array (Nat×Operand)}{k:eD->Option R}{q:R}(h:tt T rd t parts k=some q)(hs:az U H F w ob n):
 ∃e,k e=some q/\cS P U H F w ρ ob n ⟨some d, .build t parts,ty,pos,aft,none⟩ e:=by
 unfold tt at h;split at h
 case h_2=>cases h
 rename_i fs hu;obtain⟨arr,DO,NW⟩:=T.und_ok _ _ hu;split at h
 case h_2=>cases h
 rename_i r hr;obtain⟨ti,z,h1,h2,h3,h4,h5⟩:=T.row_ok _ _ hr;obtain⟨hz,h⟩:=aK h;split at h
 case h_2=>cases h
 rename_i ds vp;split at h
 case h_2=>cases h
 rename_i tr Ui;have hd:=n5 (w:=w) (H:=H) (F:=F) (ρ:=ρ) gu vp;have hlen:=kT hd;obtain⟨pl,F7,Ns⟩:=wc (w:=w) T NW hz
 have hn:∀(a:List Nat)(b:List aq),a.length=b.length->(a.zip b).map (·.1)=a/\(a.zip b).map (·.2)=b:=fun a b we=>⟨List.map_fst_zip (by omega),List.map_snd_zip (by omega)⟩
 have Uj:=hn (parts.toList.map (·.1)) ds (by simp at hlen⊢;omega);obtain⟨rS,hf,hh⟩:=BH (w:=w) (H:=H) (F:=F) T hz Ns (fun _ _ _ _ _=>trivial) (vs:=parts.toList.map fun(i,q)=>(i,ev ρ q)) Ui (Row.ny H F w r) (by rw[Uj.1];simp[Function.comp_def]) (by rw[Uj.2];simpa[Function.comp_def]using hd);refine⟨_,h,bX hs (v:= .agg rS.toArray) ?_ ⟨rS,hh,rfl,by simp⟩⟩
 have hzc:z.cells=r.fl.toArray:=by rw[<-h3,amL]
 have hpm:(arr.mapM fun(f:Field)=>(do pure (f.offset,<-sizeOf f.type):Sem (Nat×Nat))).run P w= .ok pl.toArray w:=by
  rw[<-amL (xs:=arr),List.mapM_toArray];simp only[Sem.run_map,F7];rfl
 have P7:(parts.map fun(i,q)=>(i,ev ρ q)).toList=parts.toList.map fun(i,q)=>(i,ev ρ q):=by simp
 have Yj:(fun(x:Nat)=>pl.toArray[x]?)=fun x=>pl[x]? :=by funext x;simp
 simp only[execOp,Instr.build,amr,zeroValue,typeInfo,h1,h2,run_program,Sem.run_pure,amJ,run_underlying DO,hzc,P7,hpm,Yj,hf]
def N0(rd:Operand->Option aq):Option Operand->Option (Option Int)
 |none=>some none
 |some x=>match rd x with
  |some d=>match asInt d with
   |some (_,i)=>some (some i)
   |none=>none
  |none=>none
theorem F9{rd:Operand->Option aq}(gu:∀x d,rd x=some d->al H F w d (ev ρ x)){lo:Option Operand}{a:Option Int}(h:N0 rd lo=some a):QU ρ lo a:=by
 unfold N0 at h;split at h
 .obtain rfl:=alU h;exact .none
 .split at h
  .split at h
   .obtain rfl:=alU h;rename_i hD _ _ _ hi;exact .some (iS hi (gu _ _ hD))
   .cases h
  .cases h
def tw(dr:Bool)(T:bg P)(rd:Operand->Option aq)(ob:Nat->Option (Nat×Th))(n:Nat)(t:TypeId)(D:aq)(lo hi:Option Operand)(k:eD->Option R):Option R:=
 match find T.und t with
 |some (.slice e)=>match find T.row e with
  |some re=>match N0 rd lo with
   |some a=>match N0 rd hi with
    |some b=>match uX ob D with
     |some (.read r l)=>bif al4 r.size re.size then(fH l (a.getD 0) (b.getD (l.length:Int))).bind fun m=>k {dst:= .val false (.leaf (.slice r) m)}else none
     |some .nil=>(fH ([]:List re.den) (a.getD 0) (b.getD 0)).bind fun _=>k {dst:= .val false .nil}
     |some (.own o s T0 r l)=>bif al4 r.size re.size&&al4 T0 e&&(lo.isNone||dr)then(fH l (a.getD 0) (b.getD (l.length:Int))).bind fun m=>k {dst:= .val false (.own n),eat:=[o],make:=[(n,(n, .own T0 r m))]}
       else bif al4 r.size re.size then(fH l (a.getD 0) (b.getD (l.length:Int))).bind fun m=>k {dst:= .val false (.view o s r m)}else none
     |_=>none
    |none=>none
   |none=>none
  |none=>none
 |_=>none
theorem Ib{e T0:TypeId}{ti:TypeInfo}{r:Row}{t:TypeId}{x:Operand}{lo hi:Option Operand}{a b:Option Int}{l m:List r.den}{o s:Nat}{v:Value}(ht:P.underlying t=some (.slice e))(h1:P.info? e=some ti)(h4:ti.size=r.size)(hx:ev ρ x=v)
 (hs:az U H F w ob n)(dh:ob o=some (s, .own T0 r l))(N1:H.val o=some v)(ha:QU ρ lo a)(hb:QU ρ hi b)(hm:fH l (a.getD 0) (b.getD l.length)=some m):
 cS P U H F w ρ ob n ⟨some d, .slice t x lo hi none,ty,pos,aft,none⟩ {dst:= .val false (.own n),eat:=[o],make:=[(n,(n, .own T0 r m))]}:=by
 have hv:=hs.own dh N1;obtain⟨p,q,ep,eq,Uk,hq,rfl⟩:=tc hm;obtain⟨A,cap,rfl,hlen,X9,_⟩:=hv.reads;have bA:=vn (P:=P) (w:=w) (d:=d) (ty:=ty) (pos:=pos) (aft:=aft) ht h1 hx ha hb (by omega) (by omega) (by omega) hlen;rw[ep,eq,al1,al1,h4]at bA;obtain⟨DN,xs,⟨Kv,Yk⟩,hr⟩:=hv
 have uY:((l.take q).drop p).length=q-p:=by simp;omega
 have hmul:q*r.size<=l.length*r.size:=ams _ hq;have aec:p*r.size<=q*r.size:=ams _ Uk;have aed:(q-p)*r.size=q*r.size-p*r.size:=Nat.sub_mul ..
 have b7:Ext (cE H ob [o]) w w:=⟨rfl,rfl,rfl,alZ _,fun _ _ _=>rfl⟩
 rcases Yk with⟨HS,h0⟩|⟨g,o0,Ks,cur,gJ,qH,hh,hn1,hn2,rO,KP⟩
 .simp only[ano]at HS;obtain⟨rfl,_,rfl⟩:=HS
  have N2:q=0:=by omega
  subst N2
  obtain rfl:p=0:=by omega
  refine cC.val bA (tq hs b7 ?_ ?_)
  .simpa[sliced]using jV.nil 0 F w T0 r
  .intro k hk;simp[sliced,bw,amw]at hk
 .simp only[ano,true_and]at gJ;obtain⟨rfl,rfl⟩:=gJ
  obtain⟨o1,mI,ho1,KQ⟩:∃o1,sliced (some ⟨g,o0,none⟩) p q cap r.size= .slice (some ⟨g,o1,none⟩) (q-p) (cap-p)/\o1+(cap-p)*r.size<=cur.size/\(cur.toList.drop o1).take ((q-p)*r.size)=(xs.drop (p*r.size)).take ((q-p)*r.size):=by
   have hcp:p*r.size<=cap*r.size:=ams _ (by omega);have afY:(cap-p)*r.size=cap*r.size-p*r.size:=Nat.sub_mul ..;unfold sliced;by_cases hc:cap=p
   .refine⟨o0,by rw[if_pos hc],by omega,?_⟩
    have:q=p:=by omega
    subst this;simp
   .refine⟨o0+p*r.size,by rw[if_neg hc,Option.map_some,cX],by omega,?_⟩;rw[<-KP,List.drop_take,List.take_take,List.drop_drop]
    congr 1
    omega
  rw[mI]at bA
  have hmy:∀k,bw (.slice (some ⟨g,o1,none⟩) (q-p) (cap-p)) k->bw (.slice (some ⟨g,o0,none⟩) l.length cap) k:=fun k hk=>by simpa[bw,amw]using hk
  refine cC.val bA (tq hs b7 ⟨fun k hk=>DN k (hmy k hk),(xs.drop (p*r.size)).take ((q-p)*r.size),⟨by rw[uY];simp;omega, .inr ⟨g,o1,cap-p,cur,by rw[uY],qH,hh,by omega,by omega,ho1,?_⟩⟩,fun i hi=>?_⟩ fun k hk=> .inl ⟨o,by simp,_,_,_,dh,N1,hmy k hk⟩)
  .rw[uY];exact KQ
  .have hi2:i<q-p:=by omega
   have hle:(i+1)*r.size<=(q-p)*r.size:=ams _ hi2;rw[amW]at hle;have:=hr (p+i) (by omega)
   have hg:((l.take q).drop p)[i]=l[p+i]'(by omega):=by simp
   rw[hg,List.drop_take,List.take_take,amF (by omega),List.drop_drop,show p*r.size+i*r.size=(p+i)*r.size from(amW ..).symm];exact this
theorem Ic(dr:Bool)(T:bg P){rd:Operand->Option aq}(gu:∀x d,rd x=some d->al H F w d (ev ρ x)){t:TypeId}{D:aq}{x:Operand}{lo hi:Option Operand}{k:eD->Option R}{q:R}(h:tw dr T rd ob n t D lo hi k=some q)(hs:az U H F w ob n)(hx:al H F w D (ev ρ x)):
 ∃e,k e=some q/\cS P U H F w ρ ob n ⟨some d, .slice t x lo hi none,ty,pos,aft,none⟩ e:=by
 unfold tw at h;split at h
 case h_2=>cases h
 rename_i e hu;have ht:=T.und_ok _ _ hu;split at h
 case h_2=>cases h
 rename_i re Yl;obtain⟨ti,z,h1,_,_,h4,_⟩:=T.row_ok _ _ Yl;split at h
 case h_2=>cases h
 rename_i a ha;split at h
 case h_2=>cases h
 rename_i b hb;have N3:=F9 (w:=w) (H:=H) (F:=F) (ρ:=ρ) gu ha;have qH:=F9 (w:=w) (H:=H) (F:=F) (ρ:=ρ) gu hb
 have QY:∀{r:Row}{l m:List r.den},cR F w (.slice r) [ev ρ x] l->r.size=re.size->fH l (a.getD 0) (b.getD (l.length:Int))=some m->cS P U H F w ρ ob n ⟨some d, .slice t x lo hi none,ty,pos,aft,none⟩ {dst:= .val false (.leaf (.slice r) m)}:=by
  intro r l m hv hz hm;obtain⟨p,q',ep,eq,Uk,hq,rfl⟩:=tc hm;have dM:=hv;obtain⟨A,cap,he,hc,QZ,_⟩:=hv;simp only[amR,and_true]at he;have bA:=vn (P:=P) (w:=w) (d:=d) (ty:=ty) (pos:=pos) (aft:=aft) ht h1 he N3 qH (by omega) (by omega) (by omega) hc;rw[ep,eq,al1,al1,h4,<-hz]at bA;rw[he]at dM;exact bX hs bA (aM.nx (dM.cut Uk hq))
 split at h
 .rename_i r l gJ;obtain⟨hz,h⟩:=aK h;obtain⟨m,hm,hk⟩:=bind_some h;exact⟨_,hk,QY (jq hs gJ hx) (beq_true hz) hm⟩
 .rename_i gJ;obtain⟨m,hm,hk⟩:=bind_some h;have hv:ev ρ x=_:=jq hs gJ hx;unfold fH at hm;split at hm
  case isFalse=>cases hm
  rename_i hc
  have ea:a.getD 0=0:=by have:=hc.2.1;have:=hc.2.2;simp at this;omega
  have eb:b.getD ((0:Nat):Int)=0:=by have:=hc.2.1;have:=hc.2.2;simp at this⊢;omega
  have bA:=vn (P:=P) (w:=w) (d:=d) (ty:=ty) (pos:=pos) (aft:=aft) ht h1 hv N3 qH (by omega) (by omega) (by omega) (alZ _);rw[ea,eb]at bA;exact⟨_,hk,bX hs bA ⟨_,rfl,rfl,fun _=>rfl⟩⟩
 .rename_i o s T0 r l gJ;obtain⟨hv,dh,eW⟩:=jq hs gJ hx
  cases Ym:(al4 r.size re.size&&al4 T0 e&&(lo.isNone||dr))with
  |true=>
   rw[Ym,cond_true]at h;obtain⟨xW,Yn⟩:=di Ym;obtain⟨DP,hT⟩:=di xW;have Uf:=beq_true DP;obtain⟨m,hm,hk⟩:=bind_some h;exact⟨_,hk,Ib ht h1 (h4.trans Uf.symm) rfl hs dh hv N3 qH hm⟩
  |false=>
   rw[Ym,cond_false]at h;obtain⟨DP,h'⟩:=aK h;clear h;have Uf:=beq_true DP;obtain⟨m,hm,hk⟩:=bind_some h';obtain⟨p,q',ep,eq,Uk,hq,rfl⟩:=tc hm;obtain⟨A,cap,he,hc,QZ,_⟩:=eW.reads;have bA:=vn (P:=P) (w:=w) (d:=d) (ty:=ty) (pos:=pos) (aft:=aft) ht h1 he N3 qH (by omega) (by omega) (by omega) hc;rw[ep,eq,al1,al1,h4,<-Uf]at bA;obtain⟨v',dM,cx⟩:=hs.obj _ _ _ dh;refine⟨_,hk,bX hs bA ⟨_,⟨_,rfl,A,cap,T0,l,p,q',by rw[hv,he],cx.con,Uk,hq,rfl,rfl⟩,rfl,fun _=>rfl⟩⟩
 .cases h
noncomputable def Q0(T:bg P)(ob:Nat->Option (Nat×Th))(o:BinOp)(t:TypeId)(X Y:aq):Option aq:=
 match X,Y with
 | .val false (.leaf .bool a), .val false (.leaf .bool b)=>match find T.und t with
   |some .bool=>match o with
    | .eql=>some (ec (decide (a=b)))
    | .neq=>some (ec (!decide (a=b)))
    |_=>none
   |_=>none
 | .val false (.leaf .str a), .val false (.leaf .str b)=>match o with
   | .eql=>some (ec (decide (a=b)))
   | .neq=>some (ec (!decide (a=b)))
   |_=>none
 | .val true u, .val true v=>match find T.eqs t with
   |some r=>match flat ob r u with
    |some x=>match flat ob r v with
     |some y=>match o with
      | .eql=>some (ec (nW r x y))
      | .neq=>some (ec (!(nW r x y)))
      |_=>none
     |none=>none
    |none=>none
   |none=>none
 |_,_=>none
theorem N4(T:bg P){o:BinOp}{t u:TypeId}{X Y D:aq}{x y:Operand}(h:Q0 T ob o t X Y=some D)(hs:az U H F w ob n)(hx:al H F w X (ev ρ x))(hy:al H F w Y (ev ρ y)):
 cS P U H F w ρ ob n ⟨some d, .binOp o t x y u,ty,pos,aft,none⟩ {dst:=D}:=by
 unfold Q0 at h;split at h
 .rename_i a b;split at h
  case h_2=>cases h
  rename_i hu;have hu:=T.und_ok _ _ hu;have ha:ev ρ x= .bool a:=aM.bool hx;have hb:ev ρ y= .bool b:=aM.bool hy
  split at h<;>cases h
  .exact aQ hs (Hr hu ha hb) (aM.gN ..)
  .exact aQ hs (Hs hu ha hb) (aM.gN ..)
 .rename_i a b;have ha:ev ρ x= .string a:=aM.str hx;have hb:ev ρ y= .string b:=aM.str hy
  split at h<;>cases h
  .exact aQ hs (Ht ha hb) (aM.gN ..)
  .exact aQ hs (Hu ha hb) (aM.gN ..)
 .rename_i u v;split at h
  case h_2=>cases h
  rename_i r hr;obtain⟨K,dd,hE,hd,hg,hD⟩:=T.eqs_ok _ _ hr;split at h
  case h_2=>cases h
  rename_i a ha;split at h
  case h_2=>cases h
  rename_i b hb;obtain⟨c1,g1,e1,_⟩:=hx;obtain⟨c2,g2,e2,_⟩:=hy;have r1:=jo hs ha g1;have r2:=jo hs hb g2
  split at h<;>cases h
  .exact aQ hs (HG hE hd hg hD e1 e2 r1 r2) (aM.gN ..)
  .exact aQ hs (HH hE hd hg hD e1 e2 r1 r2) (aM.gN ..)
 .cases h
def Q1(a b:ByteArray):Option ByteArray:=if a.size+b.size<=9223372036854775807 then some (a++b)else none
def Ek(o:BinOp)(X Y:aq):Option (ByteArray×ByteArray):=
 match o,X,Y with
 | .add, .val false (.leaf .str a), .val false (.leaf .str b)=>some (a,b)
 |_,_,_=>none
theorem Q2{t u:TypeId}{o:BinOp}{X Y:aq}{x y:Operand}{a b c:ByteArray}(h:Ek o X Y=some (a,b))(hc:Q1 a b=some c)(hs:az U H F w ob n)(hx:al H F w X (ev ρ x))(hy:al H F w Y (ev ρ y)):
 cS P U H F w ρ ob n ⟨some d, .binOp o t x y u,ty,pos,aft,none⟩ {dst:= .val false (.leaf .str c)}:=by
 unfold Ek at h
 split at h<;>cases h
 unfold Q1 at hc;split at hc
 case isFalse=>cases hc
 rename_i hle;obtain rfl:=alU hc;have ha:ev ρ x= .string a:=aM.str hx;have hb:ev ρ y= .string b:=aM.str hy;refine bX hs (v:= .string (a++b)) ?_ (aM.nx rfl)
 have:¬(9223372036854775807:Int)<(a.size:Int)+(b.size:Int):=by omega
 simp[execOp,eqGuard,binOp,Op.stringOp,ha,hb,IntKind.max,IntKind.signed,IntKind.bits,this]
noncomputable def Ie(T:bg P)(ob:Nat->Option (Nat×Th))(o:BinOp)(t:TypeId)(lit:Bool)(X Y:aq)(k:eD->Option R):Option R:=
 match asInt X with
 |some (kx,a)=>match asInt Y with
  |some (ky,b)=>match o with
   | .shl=>bif lit then(bif !decide (b<0)then k {dst:=m7 kx (zO kx a b)}else none)else(HN kx a b).bind fun c=>k {dst:=m7 kx c}
   | .shr=>bif lit then(bif !decide (b<0)then k {dst:=m7 kx (gp kx a b)}else none)else(HO kx a b).bind fun c=>k {dst:=m7 kx c}
   |o=>bif decide (kx=ky)then
    (match o with
    | .quo=>bif lit then(bif decide (b≠0)then k {dst:=m7 kx (kx.wrap (amh a b))}else none)else(zP a b).bind fun c=>k {dst:=m7 kx (kx.wrap c)}
    | .rem=>bif lit then(bif decide (b≠0)then k {dst:=m7 kx (amy a b)}else none)else(HP a b).bind fun c=>k {dst:=m7 kx c}
    |_=>match arith o kx a b with
     |some D=>k {dst:=D}
     |none=>none)else none
  |none=>none
 |none=>match Ek o X Y with
  |some (a,b)=>(Q1 a b).bind fun c=>k {dst:= .val false (.leaf .str c)}
  |none=>match Q0 T ob o t X Y with
   |some D=>k {dst:=D}
   |none=>none
theorem N5(T:bg P){o:BinOp}{t u:TypeId}{lit:Bool}{X Y:aq}{x y:Operand}{k:eD->Option R}{q:R}(h:Ie T ob o t lit X Y k=some q)(hs:az U H F w ob n)(hx:al H F w X (ev ρ x))(hy:al H F w Y (ev ρ y)):
 ∃e,k e=some q/\cS P U H F w ρ ob n ⟨some d, .binOp o t x y u,ty,pos,aft,none⟩ e:=by
 unfold Ie at h;split at h
 .rename_i kx a hX;split at h
  case h_2=>cases h
  rename_i ky b hY;have ha:=iS hX hx;have hb:=iS hY hy;split at h
  .cases lit with
   |true=>
    rw[cond_true]at h;obtain⟨bR,h⟩:=aK h;exact⟨_,h,aQ hs (By ha hb (by simpa using bR)) (aM.kE ..)⟩
   |false=>
    rw[cond_false]at h;obtain⟨c,hc,h⟩:=bind_some h;unfold HN at hc;split at hc
    .cases hc
    .rename_i bR;obtain rfl:=alU hc;exact⟨_,h,aQ hs (By ha hb bR) (aM.kE ..)⟩
  .cases lit with
   |true=>
    rw[cond_true]at h;obtain⟨bR,h⟩:=aK h;exact⟨_,h,aQ hs (Bz ha hb (by simpa using bR)) (aM.kE ..)⟩
   |false=>
    rw[cond_false]at h;obtain⟨c,hc,h⟩:=bind_some h;unfold HO at hc;split at hc
    .cases hc
    .rename_i bR;obtain rfl:=alU hc;exact⟨_,h,aQ hs (Bz ha hb bR) (aM.kE ..)⟩
  obtain⟨hk,h'⟩:=aK h;clear h;have hk:=of_decide_eq_true hk;subst hk;revert h';intro h;split at h
  .cases lit with
   |true=>
    rw[cond_true]at h;obtain⟨bR,h⟩:=aK h;exact⟨_,h,KG (of_decide_eq_true bR) hs ha hb⟩
   |false=>
    rw[cond_false]at h;obtain⟨c,hc,h⟩:=bind_some h;unfold zP at hc;split at hc
    .cases hc
    .rename_i bR;obtain rfl:=alU hc;exact⟨_,h,KG bR hs ha hb⟩
  .cases lit with
   |true=>
    rw[cond_true]at h;obtain⟨bR,h⟩:=aK h;exact⟨_,h,KH (of_decide_eq_true bR) hs ha hb⟩
   |false=>
    rw[cond_false]at h;obtain⟨c,hc,h⟩:=bind_some h;unfold HP at hc;split at hc
    .cases hc
    .rename_i bR;obtain rfl:=alU hc;exact⟨_,h,KH bR hs ha hb⟩
  .split at h
   case h_2=>cases h
   rename_i D hD;exact⟨_,h,KF hD hs ha hb⟩
 .split at h
  .rename_i a b we;obtain⟨c,hc,h⟩:=bind_some h;exact⟨_,h,Q2 we hc hs hx hy⟩
  .split at h
   case h_2=>cases h
   rename_i D hD;exact⟨_,h,N4 T hD hs hx hy⟩
def Yo(o:UnOp)(X:aq):Option aq:=
 match o with
 | .not=>match asBool X with
   |some b=>some (ec (!b))
   |none=>none
 | .neg=>match asInt X with
   |some (k,a)=>some (m7 k (k.wrap (0-a)))
   |none=>none
 |_=>none
theorem Q3{o:UnOp}{t:TypeId}{X D:aq}{x:Operand}(h:Yo o X=some D)(hs:az U H F w ob n)(hx:al H F w X (ev ρ x)):
 cS P U H F w ρ ob n ⟨some d, .unOp o t x,ty,pos,aft,none⟩ {dst:=D}:=by
 unfold Yo at h;split at h
 .split at h<;>cases h
  rename_i b hb;exact aQ hs (Kl (nZ hb hx)) (aM.gN ..)
 .split at h<;>cases h
  rename_i k a ha;exact aQ hs (Km (iS ha hx)) (aM.kE ..)
 .cases h
def KR(T:bg P)(s t:TypeId)(X:aq):Option aq:=
 match find T.und s with
 |some _=>match find T.und t with
  |some (.int k)=>match asInt X with
   |some (_,a)=>some (m7 k (k.wrap a))
   |none=>none
  |some .str=>match Bw X with
   |some a=>some (Yf a)
   |none=>none
  |_=>none
 |none=>none
theorem KS(T:bg P){s t:TypeId}{X D:aq}{x:Operand}(h:KR T s t X=some D)(hs:az U H F w ob n)(hx:al H F w X (ev ρ x)):
 cS P U H F w ρ ob n ⟨some d, .convert s t x,ty,pos,aft,none⟩ {dst:=D}:=by
 unfold KR at h;split at h
 case h_2=>cases h
 rename_i ks hsu;obtain⟨dd,xT,_⟩:=(T.und_ok _ _ hsu).agg;split at h
 .rename_i k Yp
  split at h<;>cases h
  rename_i k' a ha;exact aQ hs (Hv xT (T.und_ok _ _ Yp) (iS ha hx)) (aM.kE ..)
 .rename_i Yp
  split at h<;>cases h
  rename_i a ha;have hv:=vU ha hx;have Yq:P.underlying t=some .string:=T.und_ok _ _ Yp;refine bX hs (v:= .string a) ?_ (aM.mkStr ..);simp[execOp,convert,run_underlying xT,run_underlying Yq,hv]
 .cases h
def wh(D:aq)(i:Nat):Option aq:=
 match D with
 | .tup ds=>match ds[i]? with
   |some (a,t)=>some (.val a t)
   |none=>none
 |_=>none
theorem rV.get:{ds:List (Bool×Tree)}->{vs:List Value}->{i:Nat}->{a:Bool}->{t:Tree}->rV H F w ds vs->ds[i]? =some (a,t)->∃v,vs[i]? =some v/\aM H F w a t v
 |[],_,_,_,_,_,h=>by cases h
 |d::ds,_,0,a,t,hh,h=>by
  obtain⟨v,us,rfl,h1,h2⟩:=hh
  obtain rfl:d=(a,t):=by simpa using h
  exact⟨v,rfl,h1⟩
 |d::ds,_,i+1,a,t,hh,h=>by
  obtain⟨v,us,rfl,h1,h2⟩:=hh;obtain⟨v',e,hv⟩:=rV.get h2 (by simpa using h);exact⟨v',by simpa using e,hv⟩
theorem BI{D D':aq}{i:Nat}{x:Operand}(h:wh D i=some D')(hs:az U H F w ob n)(hx:al H F w D (ev ρ x)):
 cS P U H F w ρ ob n ⟨some d, .extract x i,ty,pos,aft,none⟩ {dst:=D'}:=by
 unfold wh at h;split at h
 case h_2=>cases h
 split at h<;>cases h
 rename_i ds a t hd;obtain⟨vs,e,ht⟩:=hx;obtain⟨v,hv,nX⟩:=ht.get hd;exact aQ hs (zM e (by simpa using hv)) nX
def vr(mx:Bool)(X Y:aq):Option aq:=
 match asInt X,asInt Y with
 |some (k,a),some (k',b)=>bif decide (k=k')then some (m7 k (bif mx then(if a<b then b else a)else(if b<a then b else a)))else none
 |_,_=>none
theorem wi{mx:Bool}{t t':TypeId}{X Y D:aq}{x y:Operand}(h:vr mx X Y=some D)(hs:az U H F w ob n)(hx:al H F w X (ev ρ x))(hy:al H F w Y (ev ρ y)):
 cS P U H F w ρ ob n ⟨some d, .call {callee:= .builtin (bif mx then .max else .min),args:= #[x,y],argTypes:= #[t,t']},ty,pos,aft,none⟩ {dst:=D}:=by
 unfold vr at h;split at h
 case h_2=>cases h
 rename_i k a k' b ha hb;obtain⟨hk,h'⟩:=aK h;clear h;have hk:=of_decide_eq_true hk;subst hk;obtain rfl:=alU h';have ha:=iS ha hx;have hb:=iS hb hy
 cases mx with
 |true=>exact aQ hs (Hx ha hb) (aM.kE ..)
 |false=>exact aQ hs (Hy ha hb) (aM.kE ..)
theorem If{D:aq}{x:Operand}(hs:az U H F w ob n)(hx:al H F w D (ev ρ x)):cS P U H F w ρ ob n ⟨some d, .move x,ty,pos,aft,none⟩ {dst:=D}:=aQ hs (Hq rfl) hx
theorem BJ{D:aq}{x:Operand}(hs:az U H F w ob n)(hx:al H F w D (ev ρ x)):cS P U H F w ρ ob n ⟨some d, .assign x,ty,pos,aft,none⟩ {dst:=D}:=aQ hs (Bq rfl) hx
def zT(T:bg P)(t:TypeId)(f:Nat)(X:aq):Option aq:=
 match find T.und t with
 |some (.struct fs)=>match fs[f]? with
  |some (ft,off)=>match find T.und ft with
   |some kk=>match X with
    | .val true u=>match u.get (rX fs.length f)with
      |some (s,dV)=>bif al4 dV off&&m9 T ft kk s.size then some (.val (lE kk) s)else none
      |none=>none
    |_=>none
   |none=>none
  |none=>none
 |_=>none
theorem El(T:bg P){t:TypeId}{f:Nat}{X D:aq}{x:Operand}(h:zT T t f X=some D)(hs:az U H F w ob n)(hx:al H F w X (ev ρ x)):
 cS P U H F w ρ ob n ⟨some d, .field t x f,ty,pos,aft,none⟩ {dst:=D}:=by
 unfold zT at h;split at h
 case h_2=>cases h
 rename_i fs hu;obtain⟨arr,DO,NW⟩:=T.und_ok _ _ hu;split at h
 case h_2=>cases h
 rename_i ft off hf;obtain⟨fd,Tu,rfl,rfl⟩:=BB NW hf;split at h
 case h_2=>cases h
 rename_i kk hft;obtain⟨dd,xT,yy⟩:=(T.und_ok _ _ hft).agg;split at h
 case h_2=>cases h
 rename_i u;split at h
 case h_2=>cases h
 rename_i s dV hg;obtain⟨hb,rfl⟩:=m8 h;obtain⟨F8,Ej⟩:=di hb;obtain rfl:=beq_true F8;have hz:=kF T Ej;obtain⟨cs,rO,e,_⟩:=hx;obtain⟨g1,g2⟩:=rO.get hg;have hl:=g1.length;have e':ev ρ x= .agg cs.toArray:=e
 have Ul:∃v,(part fd.type cs.toArray fd.offset).run P w= .ok v w/\aM H F w (lE kk) s v:=by
  cases ha:lE kk with
  |true=>
   rw[if_pos ha]at hz;obtain⟨r,hr,JV⟩:=hz;obtain⟨ti,z,h1,_,_,h4,_⟩:=T.row_ok _ _ hr;refine⟨.agg ((cs.drop fd.offset).take s.size).toArray,?_,_,g1,rfl,by simp⟩;unfold part;rw[amr,fM xT,yy,ha];simp[sizeOf,typeInfo,h1,h4,JV]
  |false=>
   rw[if_neg (by simp[ha])]at hz
   have aj:fd.offset<cs.length:=by omega
   refine⟨cs[fd.offset],?_,_,g1,?_,fun _=>?_⟩
   .unfold part;rw[amr,fM xT,yy,ha];simp[aj]
   .rw[hz,List.take_one,List.head?_drop,alV aj];rfl
   .rw[hz,List.take_one,List.head?_drop,alV aj];rfl
 obtain⟨v,hv,nX⟩:=Ul;refine bX hs (v:=v) ?_ nX;simp[execOp,Instr.field,run_underlying DO,Tu,e',asAgg,hv]
end
end Go.Proofs.YtmihpkfkbfgigaaGreatDoor
end
section
open _root_.Array renaming getElem?_eq_some_iff->amU
open _root_.Go.Instr renaming findNow->ang,mapUpdate->anK
open _root_.List.cons renaming injEq->amR
open _root_.List renaming length_append->alY,mem_cons->amg,take_append_of_le_length->aml,take_length->amc
open _root_.Go.MapKept renaming run_checkKey->ank,run_findKey->anr,run_getObj_map->anp
open _root_.Nat renaming add_mul->amW,beq->al4,le_refl->alZ,mul_le_mul_right->ams,zero_add->amo
open _root_.Option renaming map_eq_some_iff->amY
open _root_.Option.some renaming inj->alU,injEq->al7
open _root_.Prod.mk renaming injEq->amZ
open _root_.Go.Result renaming andThen->amB
open _root_.Go.Sem renaming run_bind->amr
open _root_.Go.Value renaming int->am5
namespace Go.Proofs.YtmihpkfkbfgigaaGreatDoor
open Go Go.RowKit Go.MapKept
noncomputable def iT{α:Type}(K:Row):List (K.den×α)->K.den->Option α
 |[],_=>none
 |p::l,k=>if iQ K p.1 k=true then some p.2 else iT K l k
noncomputable def na{α:Type}(K:Row):List (K.den×α)->K.den->α->List (K.den×α)
 |[],k,v=>[(k,v)]
 |p::l,k,v=>if iQ K p.1 k=true then(p.1,v)::l else p::na K l k v
theorem yG{K:Row}{a b:K.den}{u v:Value}(ha:ox K a=some u)(hb:ox K b=some v):iQ K a b=true↔u=v:=by
 unfold ox at ha
 split at ha<;>first|cases ha|skip
 all_goals
  simp only[ox,al7]at hb;subst hb;simp[iQ]
def wj{P:Program}(T:bg P)(kt:TypeId):Row->Bool
 | .int k=>match find T.und kt with
   |some (.int k')=>decide (k=k')
   |_=>false
 | .bool=>match find T.und kt with
   |some .bool=>true
   |_=>false
 | .str=>match find T.und kt with
   |some .str=>true
   |_=>false
 |_=>false
section
variable {P:Program} {ρ:Nat->Value} {w w':World} {H H':ay} {F F':Nat->Prop} {U:Nat->Prop} {ob:Nat->Option (Nat×Th)} {n:Nat} {R:Type}
variable {op:Op} {ty:TypeId} {pos:String} {aft:Array Edge} {d:Nat}
theorem r6(T:bg P){kt:TypeId}{K:Row}(h:wj T kt K=true):∃d,P.underlying kt=some d/\(∀x v,ox K x=some v->IsKey d v)/\(∀x v,cR F w K [v] x->ox K x=some v):=by
 unfold wj at h;split at h
 .split at h
  .rename_i k _ k' hu;obtain rfl:=of_decide_eq_true h;refine⟨_,T.und_ok _ _ hu,fun x v hx=>?_,fun x v hr=>?_⟩
   .obtain rfl:=alU hx;rfl
   .have p6:[v]=[am5 k x]:=hr;simp only[amR,and_true]at p6;rw[p6];rfl
  .cases h
 .split at h
  .rename_i hu;refine⟨_,T.und_ok _ _ hu,fun x v hx=>?_,fun x v hr=>?_⟩
   .obtain rfl:=alU hx;trivial
   .have p6:[v]=[Value.bool x]:=hr;simp only[amR,and_true]at p6;rw[p6];rfl
  .cases h
 .split at h
  .rename_i hu;refine⟨_,T.und_ok _ _ hu,fun x v hx=>?_,fun x v hr=>?_⟩
   .obtain rfl:=alU hx;trivial
   .have p6:[v]=[Value.string x]:=hr;simp only[amR,and_true]at p6;rw[p6];rfl
  .cases h
 .cases h
theorem tx{K:Row}{agg:Bool}{V:Row}{dd:TypeDesc}{x:K.den}{kv:Value}(hK:∀x v,ox K x=some v->IsKey dd v)(hx:ox K x=some kv):{es:List MapEntry}->{l:List (K.den×V.den)}->(i:Nat)->mH H F w K agg V es l->
 (ang dd kv es i=some none/\iT K l x=none/\(∀e∈es,e.key≠kv)/\∀H' F' w' y(e:MapEntry),e.key=kv->H.le H'->Step F w F' w'->aM H' F' w' agg (.leaf V y) e.val->mH H' F' w' K agg V (es++[e]) (na K l x y))\/
 ∃j e y,ang dd kv es i=some (some (i+j,e.val))/\es[j]? =some e/\e.key=kv/\iT K l x=some y/\aM H F w agg (.leaf V y) e.val/\
  ∀H' F' w' y(f:MapEntry->MapEntry),(f e).key=kv->H.le H'->Step F w F' w'->aM H' F' w' agg (.leaf V y) (f e).val->mH H' F' w' K agg V (es.modify j f) (na K l x y)
 |[],l,i,h=>by
  obtain rfl:l=[]:=h;refine .inl ⟨rfl,rfl,by simp,fun H' F' w' y e he hH hs hv=>⟨x,y,[],rfl,by rw[he];exact hx,hv,rfl⟩⟩
 |e::es,l,i,h=>by
  obtain⟨k,y,l',rfl,h1,h2,h3⟩:=h;obtain⟨r,hr,KT⟩:=sameNow_of_keys (hK x kv hx) (hK k _ h1);have KC:=yG h1 hx
  cases r with
  |true=>
   have Q4:kv=e.key:=KT.1 rfl;have hq:iQ K k x=true:=KC.2 Q4.symm;refine .inr ⟨0,e,y,by simp[ang,hr],rfl,Q4.symm,by simp[iT,hq],h2,fun H' F' w' y' f hf hH hs hv=>?_⟩;refine⟨k,y',l',by simp[na,hq],?_,hv,h3.keep hH hs⟩
   show ox K k=some (f e).key
   rw[hf,h1,Q4]
  |false=>
   have bR:¬e.key=kv:=fun q=>by have:=KT.2 q.symm;cases this
   have hq:¬iQ K k x=true:=fun q=>bR (KC.1 q)
   rcases tx hK hx (i+1) h3 with⟨a1,a2,a3,a4⟩|⟨j,e',z,a1,a2,a3,a4,a5,a6⟩
   .refine .inl ⟨by simp[ang,hr,a1],by simp[iT,hq,a2],fun e' he'=>?_,fun H' F' w' y' e' he' hH hs hv=>?_⟩
    .rcases amg.1 he' with rfl|he'
     .exact bR
     .exact a3 e' he'
    .exact⟨k,y,_,by simp[na,hq],h1,h2.keep hH hs,a4 H' F' w' y' e' he' hH hs hv⟩
   .refine .inr ⟨j+1,e',z,by simp[ang,hr,a1];omega,by simpa using a2,a3,by simp[iT,hq,a4],a5,fun H' F' w' y' f hf hH hs hv=>?_⟩;refine⟨k,y,_,by simp[na,hq],?_,?_,a6 H' F' w' y' f hf hH hs hv⟩
    .exact h1
    .exact h2.keep hH hs
noncomputable def asKey(ob:Nat->Option (Nat×Th))(K:Row):aq->Option K.den
 | .val false t=>flat ob K t
 |_=>none
theorem r7(hs:az U H F w ob n){K:Row}{D:aq}{x:K.den}{v:Value}(h:asKey ob K D=some x)(hd:al H F w D v):cR F w K [v] x:=by
 unfold asKey at h;split at h
 .obtain⟨cs,h1,_,h3⟩:=hd;rw[h3 rfl]at h1;exact jo hs h h1
 .cases h
def KU(ob:Nat->Option (Nat×Th)):aq->Option (Nat×Nat×Th)
 | .val false (.own o)=>match ob o with
   |some (s, .map T K agg V l)=>some (o,s, .map T K agg V l)
   |_=>none
 |_=>none
theorem KV(hs:az U H F w ob n){D:aq}{o s:Nat}{t:Th}{v:Value}(h:KU ob D=some (o,s,t))(hd:al H F w D v):∃T K agg V l b es clock,t= .map T K agg V l/\ob o=some (s,t)/\H.val o=some v/\v= .map (some b)/\
 w.heap[b]? =some (.map es clock)/\Stamped es clock/\mH H F w K agg V es.toList l:=by
 unfold KU at h;split at h
 .rename_i o';split at h
  .rename_i s' T K agg V l dh;simp only[al7,amZ]at h;obtain⟨rfl,rfl,rfl⟩:=h;obtain⟨cs,⟨u,hu,_,e⟩,_,h3⟩:=hd;rw[h3 rfl]at e
   obtain rfl:v=u:=by simpa using e
   obtain⟨v',dM,cx⟩:=hs.obj _ _ _ dh;rw[hu]at dM;obtain rfl:=alU dM;obtain⟨b,es,clock,e,h1,h2,h3⟩:=cx.ok;exact⟨T,K,agg,V,l,b,es,clock,rfl,dh,hu,e,h1,h2,h3⟩
  .cases h
 .cases h
def n6(T:bg P)(n:Nat)(t:TypeId)(k:eD->Option R):Option R:=
 match find T.und t with
 |some (.map kt vt)=>match find T.row kt with
  |some K=>match find T.row vt with
   |some V=>match find T.und vt with
    |some kk=>k {dst:= .val false (.own n),make:=[(n,(n, .map t K (lE kk) V []))]}
    |none=>none
   |none=>none
  |none=>none
 |_=>none
theorem BK(T:bg P){t:TypeId}{k:eD->Option R}{q:R}(h:n6 T n t k=some q)(hs:az U H F w ob n):
 ∃e,k e=some q/\cS P U H F w ρ ob n ⟨some d, .makeMap t none,ty,pos,aft,none⟩ e:=by
 unfold n6 at h;split at h
 case h_2=>cases h
 split at h
 case h_2=>cases h
 rename_i K _;split at h
 case h_2=>cases h
 rename_i V _;split at h
 case h_2=>cases h
 rename_i kk _
 have bA:(execOp (ev ρ) ⟨some d, .makeMap t none,ty,pos,aft,none⟩).run P w= .ok (.value (.map (some w.heap.size))) (w.alloc (.map #[] 0)):=by
  simp[execOp,Instr.makeMap,amB]
 refine⟨_,h,cC.val bA ?_⟩
 have hv:((H.bN n (.map t K (lE kk) V [])).dj n (.map (some w.heap.size))).val n=some (.map (some w.heap.size)):=by simp[ay.dj]
 refine m6.new (v0:= .map (some w.heap.size)) hs rfl rfl (qa _) ⟨_, #[],0,rfl,(heap_alloc w _).1,stamped_empty 0,rfl⟩ (fun k hk=>?_) (nz hv rfl);simp only[fp,Value.map.injEq,al7]at hk;subst hk;exact⟨fun e=>by have:=hs.lt _ e;omega,by simp, .inl (alZ _)⟩
noncomputable def kj(T:bg P)(ob:Nat->Option (Nat×Th))(n:Nat)(t:TypeId)(M X Y:aq)(k:eD->Option R):Option R:=
 match find T.und t with
 |some (.map kt _)=>match KU ob M with
  |some (o,_, .map T0 K agg V l)=>bif wj T kt K then(match asKey ob K X with
   |some x=>match Y with
    | .val me tr=>bif (bif agg then me else !me)then(match flat ob V tr with
      |some y=>k {dst:= .dead,eat:=[o],make:=[(o,(n, .map T0 K agg V (na K l x y)))]}
      |none=>none)else none
    |_=>none
   |none=>none)else none
  |_=>none
 |_=>none
theorem n7{Yr kt et:TypeId}{dd:TypeDesc}{b clock:Nat}{es:Array MapEntry}{key val:Value}(hm:P.underlying Yr=some (.map kt et))(hd:P.underlying kt=some dd)(hb:w.heap[b]? =some (.map es clock))(hk:IsKey dd key):
 (ang dd key es.toList 0=some none->(anK Yr (.map (some b)) key val).run P w= .ok () {w with heap:=w.heap.setIfInBounds b (.map (es.push {key,val,born:=clock}) (clock+1))})/\
 (∀j e,ang dd key es.toList 0=some (some (j,e))->((es[j]?).map (·.key)).getD key=key->(anK Yr (.map (some b)) key val).run P w= .ok () {w with heap:=w.heap.setIfInBounds b (.map (es.modify j fun e=>{e with key,val}) clock)}):=by
 refine⟨fun h1=>?_,fun j e h1 h2=>?_⟩
 .simp[anK,run_underlying hm,anp hb,ank hd hk,anr hd h1,MapKept.run_setObj_map _ hb,amB]
 .simp[anK,run_underlying hm,anp hb,ank hd hk,anr hd h1,h2,run_keyThatStays hk,MapKept.run_setObj_map _ hb,amB]
theorem qL(T:bg P){t:TypeId}{M X Y:aq}{m x y:Operand}{k:eD->Option R}{q:R}(h:kj T ob n t M X Y k=some q)(hs:az U H F w ob n)(hm:al H F w M (ev ρ m))(hx:al H F w X (ev ρ x))(hy:al H F w Y (ev ρ y)):
 ∃e,k e=some q/\cS P U H F w ρ ob n ⟨none, .mapUpdate t m x y,ty,pos,aft,none⟩ e:=by
 unfold kj at h;split at h
 case h_2=>cases h
 rename_i kt vt hu;split at h
 case h_2=>cases h
 rename_i o s T0 K agg V l HZ;obtain⟨hk,h'⟩:=aK h;clear h;split at h'
 case h_2=>cases h'
 rename_i a ha;split at h'
 case h_2=>cases h'
 rename_i me tr;obtain⟨xX,h⟩:=aK h';clear h'
 have xX:agg=me:=by cases agg<;>cases me<;>simp_all
 subst xX;split at h
 case h_2=>cases h
 rename_i b hb;refine⟨_,h,?_⟩;obtain⟨dd,hd,hK,hR⟩:=r6 (F:=F) (w:=w) T hk;obtain⟨T1,K1,af1,V1,l1,r,es,clock,e0,dh,hv,vL,hh,fi,Ig⟩:=KV hs HZ hm;cases e0;have tz:=hR _ _ (r7 hs ha hx)
 have mI:aM H F w agg (.leaf V b) (ev ρ y):=by
  obtain⟨cs,h1,h2⟩:=hy;exact⟨cs,jo hs hb h1,h2⟩
 have af2:r<w.heap.size:=(amU.1 hh).1
 have fin:∀o',(anK t (.map (some r)) (ev ρ x) (ev ρ y)).run P w= .ok () {w with heap:=w.heap.setIfInBounds r o'}->
  (∀w',(∀k,k≠r->w'.heap[k]? =w.heap[k]?)->∃nw nP,o'= .map nw nP/\Stamped nw nP/\mH (H.bN n (.map T0 K agg V (na K l a b))) F w' K agg V nw.toList (na K l a b))->
  cS P U H F w ρ ob n ⟨none, .mapUpdate t m x y,ty,pos,aft,none⟩ {dst:= .dead,eat:=[o],make:=[(o,(n, .map T0 K agg V (na K l a b)))]}:=by
  intro o' bA Q5;refine cC.unit (w':={w with heap:=w.heap.setIfInBounds r o'}) ?_ ?_
  .simp[execOp,vL,bA,amB]
  .have tA:∀k,k≠r->(w.heap.setIfInBounds r o')[k]? =w.heap[k]? :=(heap_set hh).2;obtain⟨nw,nP,rfl,g1,g2⟩:=Q5 {w with heap:=w.heap.setIfInBounds r o'} tA;refine m6.zR (t':= .map T0 K agg V (na K l a b)) (w':={w with heap:=w.heap.setIfInBounds r (.map nw nP)}) hs dh hv rfl (fun k hk=>hk) ⟨rfl,rfl,rfl,by simp,fun k hk hn=>tA k fun e=>hn (by subst e;exact vL)⟩ ⟨r,nw,nP,vL,(heap_set hh).1,g1,g2⟩ trivial
 have N6:H.le (H.bN n (.map T0 K agg V (na K l a b))):=ay.jr (hs.fresh n (alZ _) (by omega)).2
 have lG:∀w':World,(∀k,k≠r->w'.heap[k]? =w.heap[k]?)->Step F w F w':=by
  intro w' hw b hb;refine⟨hb,hw b fun e=>?_⟩;subst e;obtain⟨v',dM,cx⟩:=hs.obj _ _ _ dh;rw[hv]at dM;obtain rfl:=alU dM;exact cx.no b vL hb
 obtain⟨r1,r2⟩:=n7 (val:=ev ρ y) (T.und_ok _ _ hu) hd hh (hK _ _ tz)
 rcases tx hK tz 0 Ig with⟨a1,a2,a3,a4⟩|⟨j,e,z,a1,a2,a3,a4,a5,a6⟩
 .refine fin _ (r1 a1) fun w' hw=>⟨_,_,rfl,stamped_push fi a3,?_⟩
  rw[Array.toList_push];exact a4 _ F w' b _ rfl N6 (lG w' hw) (mI.keep N6 (lG w' hw))
 .rw[amo]at a1
  have hj:es[j]? =some e:=by simpa using a2
  refine fin _ (r2 j _ a1 (by rw[hj];exact a3)) fun w' hw=>⟨_,_,rfl,stamped_modify fi _ _ (fun _ _=>rfl) (fun e' _ he'=>?_),?_⟩
  .rw[hj]at he';cases he';exact a3.symm
  .rw[Array.toList_modify];exact a6 _ F w' b _ rfl N6 (lG w' hw) (mI.keep N6 (lG w' hw))
theorem KW{t:TypeId}{agg:Bool}{V:Row}(h:KD P t agg V)(h1:agg=false->V.size=1):∃z,(zeroValue t).run P w= .ok z w/\aM H F w agg (.leaf V V.zero) z:=by
 obtain⟨z,hz,e⟩:=h
 cases hi:P.info? t with
 |none=>rw[hi]at hz;cases hz
 |some ti=>
  rw[hi]at hz;refine⟨z,?_,V.fl,cR.zero F w V,e,fun ha=>?_⟩
  .have hz':ti.zero=some z:=hz;simp[zeroValue,typeInfo,hi,hz',amB]
  .have hl:V.fl.length=V.size:=(cR.zero F w V).length;rw[h1 ha]at hl;subst ha;rw[cond_false]at e
   match hv:V.fl,hl with
   |[u],_=>rw[hv]at e;rw[e];rfl
theorem Ga{K:Row}{agg:Bool}{V:Row}:{es:List MapEntry}->{l:List (K.den×V.den)}->es.length=l.length->(∀i(h:i<l.length),∃(e:MapEntry)(cs:List Value),es[i]? =some e/\ox K l[i].1=some e.key/\cR F w V cs l[i].2/\e.val=(bif agg then .agg cs.toArray else cs.headD undef)/\(agg=false->cs=[e.val]))->mH H F w K agg V es l
 |[],[],_,_=>rfl
 |[],_::_,h,_=>by cases h
 |_::_,[],h,_=>by cases h
 |e::es,(k,x)::l,hl,h=>by
  obtain⟨e',cs,h1,h2,h3,h4,h5⟩:=h 0 (by simp)
  obtain rfl:e=e':=by simpa using h1
  exact⟨k,x,l,rfl,h2,⟨cs,h3,h4,h5⟩,Ga (by simpa using hl) fun i hi=>by
   obtain⟨e',rS,q1,q2,q3,q4⟩:=h (i+1) (by simpa using hi)
   exact⟨e',rS,by simpa only[List.getElem?_cons_succ]using q1,q2,q3,q4⟩⟩
theorem Gb{K:Row}{agg:Bool}{V:Row}:{es:List MapEntry}->{l:List (K.den×V.den)}->mH H F w K agg V es l->es.length=l.length/\∀i(h:i<l.length),∃(e:MapEntry)(cs:List Value),es[i]? =some e/\ox K l[i].1=some e.key/\cR F w V cs l[i].2/\e.val=(bif agg then .agg cs.toArray else cs.headD undef)/\(agg=false->cs=[e.val])
 |[],l,h=>by obtain rfl:l=[]:=h;exact⟨rfl,fun i h=>by simp at h⟩
 |e::es,l,h=>by
  obtain⟨k,x,l',rfl,h1,⟨cs,h2,h3,h4⟩,h5⟩:=h;obtain⟨g1,g2⟩:=Gb h5;refine⟨by simp[g1],fun i hi=>?_⟩
  cases i with
  |zero=>exact⟨e,cs,rfl,h1,h2,h3,h4⟩
  |succ i=>
   obtain⟨e',rS,q1,q2,q3,q4⟩:=g2 i (by simpa using hi);exact⟨e',rS,by simpa only[List.getElem?_cons_succ]using q1,q2,q3,q4⟩
structure Um where
 K:Row
 agg:Bool
 V:Row
 l:List (K.den×V.den)
def Em(ob:Nat->Option (Nat×Th)):aq->Option Um
 | .val false (.leaf (.map K agg V) l)=>some ⟨K,agg,V,l⟩
 | .val false (.own o)=>match ob o with
   |some (_, .map _ K agg V l)=>some ⟨K,agg,V,l⟩
   |some (_, .fmap _ K agg V l)=>some ⟨K,agg,V,l⟩
   |some (_, .fdmap _ K _ r l)=>some ⟨K,false, .slice r,l⟩
   |_=>none
 |_=>none
theorem zU{K:Row}{agg:Bool}{V:Row}{l:List (K.den×V.den)}{v:Value}(h:cR F w (.map K agg V) [v] l):(v= .map none/\l=[])\/∃b es clock,v= .map (some b)/\w.heap[b]? =some (.map es clock)/\Stamped es clock/\mH H F w K agg V es.toList l:=by
 obtain⟨u,e,h⟩:=h
 obtain rfl:v=u:=by simpa using e
 refine h.imp id fun⟨b,es,clock,h1,h2,h3,h4,h5,h6⟩=>⟨b,es,clock,h1,h3,h4,Ga (by simpa using h5) fun i hi=>by simpa using h6 i hi⟩
theorem Ih(hs:az U H F w ob n){D:aq}{m:Um}{v:Value}(h:Em ob D=some m)(hd:al H F w D v):(v= .map none/\m.l=[])\/∃b es clock,v= .map (some b)/\w.heap[b]? =some (.map es clock)/\Stamped es clock/\mH H F w m.K m.agg m.V es.toList m.l:=by
 unfold Em at h;split at h
 .cases h;exact zU hd.inv
 .rename_i o;obtain⟨cs,⟨u,hu,_,e⟩,_,h3⟩:=hd;rw[h3 rfl]at e
  obtain rfl:v=u:=by simpa using e
  split at h
  .rename_i s T K agg V l dh;cases h;obtain⟨v',dM,cx⟩:=hs.obj _ _ _ dh;rw[hu]at dM;obtain rfl:=alU dM;obtain⟨b,es,clock,e,h1,h2,h3⟩:=cx.ok;exact .inr ⟨b,es,clock,e,h1,h2,h3⟩
  .rename_i s T K agg V l dh;cases h;obtain⟨v',dM,cx⟩:=hs.obj _ _ _ dh;rw[hu]at dM;obtain rfl:=alU dM;exact zU cx.ok
  .rename_i s T K E r l dh;cases h;obtain⟨v',dM,cx⟩:=hs.obj _ _ _ dh;rw[hu]at dM;obtain rfl:=alU dM;exact zU (K:=K) (agg:=false) (V:= .slice r) cx.ok
  .cases h
 .cases h
noncomputable def oE(T:bg P)(ob:Nat->Option (Nat×Th))(t:TypeId)(ok:Bool)(M X:aq)(k:eD->Option R):Option R:=
 match find T.und t with
 |some (.map kt vt)=>match Em ob M with
  |some ⟨K,agg,V,l⟩=>match find T.zer vt with
   |some (me,V')=>bif wj T kt K&&(bif agg then me else !me)&&V'.beq V&&(agg||al4 V.size 1)then(match asKey ob K X with
    |some x=>bif ok then k {dst:= .tup [(agg, .leaf V ((iT K l x).getD V.zero)),(false, .leaf .bool (iT K l x).isSome)]}
     else k {dst:= .val agg (.leaf V ((iT K l x).getD V.zero))}
    |none=>none)else none
   |none=>none
  |none=>none
 |_=>none
theorem wk(T:bg P){t:TypeId}{ok:Bool}{M X:aq}{m x:Operand}{k:eD->Option R}{q:R}(h:oE T ob t ok M X k=some q)(hs:az U H F w ob n)(hm:al H F w M (ev ρ m))(hx:al H F w X (ev ρ x)):
 ∃e,k e=some q/\cS P U H F w ρ ob n ⟨some d, .lookup t m x ok,ty,pos,aft,none⟩ e:=by
 unfold oE at h;split at h
 case h_2=>cases h
 rename_i kt vt hu;split at h
 case h_2=>cases h
 rename_i K agg V l HZ;split at h
 case h_2=>cases h
 rename_i me V' hz;obtain⟨hc,h'⟩:=aK h;clear h;obtain⟨hc,Tv⟩:=di hc;obtain⟨hc,KX⟩:=di hc;obtain⟨Bt,vj⟩:=di hc
 have xX:agg=me:=by cases agg<;>cases me<;>simp_all
 subst xX;obtain rfl:=Row.eq_of_beq KX;split at h'
 case h_2=>cases h'
 rename_i a ha;obtain⟨dd,hd,hK,hR⟩:=r6 (F:=F) (w:=w) T Bt;have tz:=hR _ _ (r7 hs ha hx)
 have mE:agg=false->V'.size=1:=fun e=>by subst e;exact beq_true (by simpa using Tv)
 obtain⟨z,xW,DP⟩:=KW (w:=w) (H:=H) (F:=F) (T.zer_ok _ _ _ hz) mE
 have main:∃v,(Instr.lookup t (ev ρ m) (ev ρ x) ok).run P w= .ok (if ok then .tuple #[v, .bool (iT K l a).isSome]else v) w/\aM H F w agg (.leaf V' ((iT K l a).getD V'.zero)) v:=by
  have Nt:=hK _ _ tz;have BL:=T.und_ok _ _ hu
  rcases Ih hs HZ hm with⟨vL,hl⟩|⟨r,es,clock,vL,hh,fi,Ig⟩
  .dsimp only at hl;subst hl;refine⟨z,?_,DP⟩;rw[vL];have hf:=anr (w:=w) hd (show ang dd (ev ρ x) [] 0=some none from rfl)
   cases ok<;>simp[Instr.lookup,run_underlying BL,ank hd Nt,hf,xW,iT,amB]
  .dsimp only at Ig
   rcases tx hK tz 0 Ig with⟨a1,a2,_⟩|⟨j,e,y,a1,_,_,a4,a5,_⟩
   .refine⟨z,?_,by rw[a2];exact DP⟩;rw[vL,a2];simp[Instr.lookup,run_underlying BL,anp hh,ank hd Nt,anr hd a1,xW,amB]
   .refine⟨e.val,?_,by rw[a4];exact a5⟩;rw[vL,a4];simp[Instr.lookup,run_underlying BL,anp hh,ank hd Nt,anr hd a1,amB]
 obtain⟨v,bA,nX⟩:=main
 cases ok with
 |true=>
  refine⟨_,h',bX hs (v:= .tuple #[v, .bool (iT K l a).isSome]) (by simp[execOp,bA,amB]) ⟨[v, .bool (iT K l a).isSome],rfl,_,_,rfl,nX,_,_,rfl,aM.gN ..,rfl⟩⟩
 |false=>exact⟨_,h',bX hs (v:=v) (by simp[execOp,bA,amB]) nX⟩
def lI(s:ByteArray)(i:Int):Option Int:=(if 0<=i then s[i.toNat]? else none).map fun b=>(b.toNat:Int)
theorem BM{e:Row}:{m:Nat}->{r:Row}->{x:r.den}->{l:List e.den}->{cs:List Value}->mB m r x e=some l->cR F w r cs x->l.length=m/\cs.length=m*e.size/\∀i(h:i<l.length),cR F w e ((cs.drop (i*e.size)).take e.size) l[i]
 |0,r,x,l,cs,h,_=>by unfold mB at h;cases h
 |1,r,x,l,cs,h,ha=>by
  unfold mB at h;split at h
  case isFalse=>cases h
  rename_i hb;obtain rfl:=Row.eq_of_beq hb;obtain rfl:=alU h;have hl:=ha.length;refine⟨rfl,by simp[hl],fun i hi=>?_⟩
  obtain rfl:i=0:=by simp at hi;omega
  rw[Nat.zero_mul,List.drop_zero,<-hl,amc];exact ha
 |m+2, .pair a b,x,l,cs,h,ha=>by
  unfold mB at h;split at h
  case isFalse=>cases h
  rename_i hb;obtain rfl:=Row.eq_of_beq hb;split at h
  case h_2=>cases h
  rename_i l' hl;obtain rfl:=alU h;obtain⟨c1,c2,rfl,h1,h2⟩:=ha;have JU:=h1.length;obtain⟨g1,g2,g3⟩:=BM hl h2;refine⟨by simp[g1],by rw[alY,JU,g2,show m+2=(m+1)+1 from rfl,amW (m+1) 1,Nat.one_mul];omega,fun i hi=>?_⟩
  cases i with
  |zero=>
   rw[Nat.zero_mul,List.drop_zero,aml (by omega),<-JU,amc];exact h1
  |succ i=>
   have:=g3 i (by simpa using hi);rw[show(i+1)*a.size=c1.length+i*a.size from by rw[amW];omega,<-List.drop_drop,List.drop_left];exact this
 |m+2, .int _,_,_,_,h,_=>by unfold mB at h;cases h
 |m+2, .bool,_,_,_,h,_=>by unfold mB at h;cases h
 |m+2, .str,_,_,_,h,_=>by unfold mB at h;cases h
 |m+2, .slice _,_,_,_,h,_=>by unfold mB at h;cases h
 |m+2, .kD,_,_,_,h,_=>by unfold mB at h;cases h
 |m+2, .nul _,_,_,_,h,_=>by unfold mB at h;cases h
 |m+2, .map ..,_,_,_,h,_=>by unfold mB at h;cases h
def qc(T:bg P)(ob:Nat->Option (Nat×Th))(t:TypeId)(D:aq)(i:Int)(k:eD->Option R):Option R:=
 match find T.und t with
 |some .str=>match Bw D with
  |some s=>(lI s i).bind fun c=>k {dst:=m7 .u8 c}
  |none=>none
 |some (.array m e)=>match find T.row t with
  |some r=>match find T.row e with
   |some re=>match find T.und e with
    |some kk=>match D with
     | .val true tr=>match flat ob r tr with
       |some x=>match mB m r x re with
        |some l=>bif lE kk||al4 re.size 1 then(idx l i).bind fun y=>k {dst:= .val (lE kk) (.leaf re y)}else none
        |none=>none
       |none=>none
     |_=>none
    |none=>none
   |none=>none
  |none=>none
 |_=>none
theorem Eo(T:bg P){t:TypeId}{D:aq}{x y:Operand}{kd:IntKind}{i:Int}{k:eD->Option R}{q:R}(h:qc T ob t D i k=some q)(hs:az U H F w ob n)(hx:al H F w D (ev ρ x))(hy:ev ρ y= .int kd i):
 ∃e,k e=some q/\cS P U H F w ρ ob n ⟨some d, .index t x y,ty,pos,aft,none⟩ e:=by
 unfold qc at h;split at h
 .rename_i hu;have hu:=T.und_ok _ _ hu;split at h
  case h_2=>cases h
  rename_i s hS;obtain⟨c,hc,hk⟩:=bind_some h;have hv:=vU hS hx;unfold lI at hc;obtain⟨b,hb,rfl⟩:=amY.1 hc;refine⟨_,hk,bX hs (v:= .int .u8 b.toNat) ?_ (aM.kE ..)⟩;have BL:P.underlying t=some .string:=hu;simp[execOp,Instr.index,asIntOf,run_underlying BL,hv,hy,hb]
 .rename_i m e hu;have hu:P.underlying t=some (.array m e):=T.und_ok _ _ hu;split at h
  case h_2=>cases h
  rename_i r hr;split at h
  case h_2=>cases h
  rename_i re Yl;split at h
  case h_2=>cases h
  rename_i kk KC;split at h
  case h_2=>cases h
  rename_i tr;split at h
  case h_2=>cases h
  rename_i z hz;split at h
  case h_2=>cases h
  rename_i l hl;obtain⟨hag,h'⟩:=aK h;clear h;obtain⟨a,ha,hk⟩:=bind_some h';obtain⟨cs,hh,hv,_⟩:=hx;rw[cond_true]at hv;obtain⟨g1,g2,g3⟩:=BM hl (jo hs hz hh);obtain⟨j,hj,aj,rfl⟩:=gx ha;obtain⟨ti,z0,h1,_,_,h4,_⟩:=T.row_ok _ _ Yl;obtain⟨dd,xT,yy⟩:=(T.und_ok _ _ KC).agg;have xY:=g3 j aj
  have mE:(j+1)*re.size<=cs.length:=by rw[g2];exact ams _ (by omega)
  rw[amW]at mE;refine⟨_,hk,?_⟩
  cases xX:lE kk with
  |true=>
   refine bX hs (v:= .agg ((cs.drop (j*re.size)).take re.size).toArray) ?_ ⟨_,xY,rfl,by simp⟩;subst hj;simp[execOp,Instr.index,asIntOf,run_underlying hu,hv,hy,show j<m by omega,part,amr,fM xT,yy,xX,sizeOf,typeInfo,h1,h4,List.extract_eq_take_drop]
  |false=>
   rw[xX,Bool.false_or]at hag;have lC:=beq_true hag;have hlen:=xY.length;rw[lC,Nat.mul_one]at xY mE;rw[lC]at hlen
   obtain⟨v,yD⟩:∃v,(cs.drop j).take 1=[v]:=by
    match hq:(cs.drop j).take 1,yH:((cs.drop j).take 1).length with
    |[v],_=>exact⟨v,rfl⟩
    |[],_=>rw[Nat.mul_one,hq]at hlen;cases hlen
    |_::_::_,_=>rw[Nat.mul_one,hq]at hlen;cases hlen
   rw[yD]at xY
   have HC:cs[j]? =some v:=by
    have:(cs.drop j)[0]? =some v:=by
     have h0:((cs.drop j).take 1)[0]? =some v:=by rw[yD];rfl
     rwa [List.getElem?_take_of_lt (by omega)]at h0
    simpa using this
   refine bX hs (v:=v) ?_ (aM.nx xY);subst hj;simp[execOp,Instr.index,asIntOf,run_underlying hu,hv,hy,show j<m by omega,part,amr,fM xT,yy,xX,sizeOf,typeInfo,h1,h4,lC,HC]
 .cases h
end
end Go.Proofs.YtmihpkfkbfgigaaGreatDoor
end
section
open _root_.Nat renaming beq->al4,le_refl->alZ,lt_of_lt_of_le->amI
open _root_.Option renaming isSome_iff_exists->amA
open _root_.Option.some renaming inj->alU,injEq->al7
open _root_.Prod.mk renaming inj->ant,injEq->amZ
namespace Go.Proofs.YtmihpkfkbfgigaaGreatDoor
open Go Go.RowKit
def Ii(T:TypeId):(e:DR)->List e.row.den->Th
 | .leaf r,y=> .own T r y
 | .sl T' e,y=> .deep T (.sl T' e) y none
 | .pair a b,y=> .deep T (.pair a b) y none
section
variable {P:Program} {ρ:Nat->Value} {w w':World} {H H':ay} {F F':Nat->Prop} {U:Nat->Prop} {ob:Nat->Option (Nat×Th)} {n:Nat} {R:Type}
variable {op:Op} {ty:TypeId} {pos:String} {aft:Array Edge} {d:Nat}
theorem wm(T:TypeId)(e:DR)(y:List e.row.den):(Ii T e y).base=Ii T e y:=by cases e<;>rfl
theorem tB{T:TypeId}{e:DR}{u:Value}{y:List e.row.den}{A:Nat->Prop}(h:kQ F w (.sl T e) u y A):jn H F w A u (Ii T e y)/\(∀k,fp A u (Ii T e y) k->A k)/\u.oneCell'=true:=by
 obtain⟨lh,Ss,h1,h2,h3,h4⟩:=h;have lC:=h1.one
 cases e with
 |leaf r=>
  have hl:lh=y:=List.ext_getElem h2 fun i a b=>(h3 i a b).1
  subst hl;exact⟨h1,fun k hk=>h4.bw k hk,lC⟩
 |sl T' e=>exact⟨⟨lh,Ss,h1,h2,h3,h4⟩,fun k hk=>hk,lC⟩
 |pair a b=>exact⟨⟨lh,Ss,h1,h2,h3,h4⟩,fun k hk=>hk,lC⟩
theorem wo{T:TypeId}{e:DR}{u:Value}{y:List e.row.den}{A:Nat->Prop}(h:jn H F w A u (Ii T e y)):kQ F w (.sl T e) u y (fun k=>fp A u (Ii T e y) k):=by
 cases e with
 |leaf r=>
  have h':kS F w T r u y:=h;refine⟨y,fun _ _=>False,h',rfl,fun i a b=>⟨rfl,fun _ h=>h⟩,⟨fun k=>?_,fun _ _ _ _ _ _ h=>h.elim,fun _ _ _ h=>h.elim⟩⟩
  show bw u k↔_
  simp
 |sl T' e=>exact h
 |pair a b=>exact h
theorem vu{d:DR}{r:Row}(q:gj d (.leaf r)){x':d.low.den}{x:d.row.den}{S:Nat->Prop}(h:kQ F w d x' x S):q.lo.get x'=q.hi.get x:=by
 obtain⟨A,B,h1,_⟩:=h.out q;exact h1.1
theorem wq:{d e:DR}->{T:TypeId}->{r:Row}->(p:gj d (.sl T e))->(q:gj d (.leaf r))->{x':d.low.den}->{x:d.row.den}->{S:Nat->Prop}->my F w p x' x S->q.lo.get x'=q.hi.get x
 |_,_,_,_, .fst p, .fst q,_,_,_,h=>by obtain⟨A,B,h1,_⟩:=h;exact wq p q h1
 |_,_,_,_, .fst p, .snd q,_,_,_,h=>by obtain⟨A,B,_,h2,_⟩:=h;exact vu q h2
 |_,_,_,_, .snd p, .fst q,_,_,_,h=>by obtain⟨A,B,h1,_⟩:=h;exact vu q h1
 |_,_,_,_, .snd p, .snd q,_,_,_,h=>by obtain⟨A,B,_,h2,_⟩:=h;exact wq p q h2
theorem KY{d:DR}{h:Option vP}{i:Nat}{x':d.low.den}{x:d.row.den}{S:Nat->Prop}{r:Row}(q:gj d (.leaf r))(hr:oC H F w d h i x' x S):q.lo.get x'=q.hi.get x:=by
 cases h with
 |none=>exact vu q hr
 |some h=>
  by_cases hi:h.i=(i:Int)
  .obtain⟨T',e,p,_,h2,_⟩:=hr.2 hi;exact wq p q h2
  .exact vu q (hr.1 hi)
theorem r8{d:DR}{r:Row}(q:gj d (.leaf r)){x':d.low.den}{x:d.row.den}{S:Nat->Prop}(y:r.den)(h:kQ F w d x' x S):kQ F w d (q.lo.set x' y) (q.hi.set x y) S:=by
 obtain⟨A,B,h1,h2,h3⟩:=h.out q;exact h2.put q (y':=y) (A:=A) ⟨rfl,h1.2⟩ h3
theorem tC:{d e:DR}->{T:TypeId}->{r:Row}->(p:gj d (.sl T e))->(q:gj d (.leaf r))->{x':d.low.den}->{x:d.row.den}->{S:Nat->Prop}->(y:r.den)->my F w p x' x S->my F w p (q.lo.set x' y) (q.hi.set x y) S/\p.lo.get (q.lo.set x' y)=p.lo.get x'
 |_,_,_,_, .fst p, .fst q,_,_,_,y,h=>by
  obtain⟨A,B,h1,h2,h3⟩:=h;obtain⟨g1,g2⟩:=tC p q y h1;exact⟨⟨A,B,g1,h2,h3⟩,g2⟩
 |_,_,_,_, .fst p, .snd q,_,_,_,y,h=>by
  obtain⟨A,B,h1,h2,h3⟩:=h;exact⟨⟨A,B,h1,r8 q y h2,h3⟩,rfl⟩
 |_,_,_,_, .snd p, .fst q,_,_,_,y,h=>by
  obtain⟨A,B,h1,h2,h3⟩:=h;exact⟨⟨A,B,r8 q y h1,h2,h3⟩,rfl⟩
 |_,_,_,_, .snd p, .snd q,_,_,_,y,h=>by
  obtain⟨A,B,h1,h2,h3⟩:=h;obtain⟨g1,g2⟩:=tC p q y h2;exact⟨⟨A,B,h1,g1,h3⟩,g2⟩
theorem Ij{d:DR}{h:Option vP}{i:Nat}{x':d.low.den}{x:d.row.den}{S:Nat->Prop}{r:Row}(q:gj d (.leaf r))(y:r.den)(hr:oC H F w d h i x' x S):oC H F w d h i (q.lo.set x' y) (q.hi.set x y) S:=by
 cases h with
 |none=>exact r8 q y hr
 |some h=>
  refine⟨fun hi=>r8 q y (hr.1 hi),fun hi=>?_⟩;obtain⟨T',e,p,h1,h2,h3⟩:=hr.2 hi;obtain⟨g1,g2⟩:=tC p q y h2;exact⟨T',e,p,h1,g1,by rw[g2];exact h3⟩
theorem az.low(hs:az U H F w ob n){o s:Nat}{T:TypeId}{dr:DR}{l:List dr.row.den}{h:Option vP}(ho:ob o=some (s, .deep T dr l h)){v:Value}(hv:H.val o=some v):
 ∃(lh:List dr.low.den)(Ss:Nat->Nat->Prop),jV 0 F w T dr.low v lh/\lh.length=l.length/\(∀i(h1:i<lh.length)(h2:i<l.length),oC H F w dr h i lh[i] l[i] (Ss i))/\nY Ss l.length (bw v) (H.sub s):=by
 obtain⟨v',dM,cx⟩:=hs.obj _ _ _ ho;rw[hv]at dM;obtain rfl:=alU dM;obtain⟨lh,Ss,h1,h2,h3,h4⟩:=cx.ok;exact⟨lh,Ss,⟨fun k hk=>cx.no k (h4.bw k hk),h1⟩,h2,h3,h4⟩
theorem Path.zV:{r s:Row}->(p:Path r s)->(x:r.den)->(y:s.den)->p.get (p.set x y)=y
 |_,_, .here,_,_=>rfl
 |_,_, .fst p,x,y=>Path.zV p x.1 y
 |_,_, .snd p,x,y=>Path.zV p x.2 y
theorem my.KZ:{d e:DR}->(p:gj d e)->{x':d.low.den}->{x:d.row.den}->{S:Nat->Prop}->(y':e.low.den)->my F w p x' x S->my F w p (p.lo.set x' y') x S
 |_,_, .here,_,_,_,_,h=>h
 |_,_, .fst p,_,_,_,y',h=>by
  obtain⟨A,B,h1,h2,h3⟩:=h;exact⟨A,B,h1.KZ p y',h2,h3⟩
 |_,_, .snd p,_,_,_,y',h=>by
  obtain⟨A,B,h1,h2,h3⟩:=h;exact⟨A,B,h1,h2.KZ p y',h3⟩
def ra(m:Nat->Prop)(Ss:Nat->Nat->Prop)(c:Nat)(k:Nat):Prop:=m k\/∃i,i<c/\Ss i k
theorem nY.less{Ss:Nat->Nat->Prop}{c:Nat}{m S:Nat->Prop}(h:nY Ss c m S)(j:Nat){B:Nat->Prop}(hB:∀k,B k->Ss j k):nY (fun i=>if i=j then B else Ss i) c m (ra m (fun i=>if i=j then B else Ss i) c):=by
 have sub:∀i k,(if i=j then B else Ss i) k->Ss i k:=by
  intro i k hk;by_cases e:i=j
  .subst e;rw[if_pos rfl]at hk;exact hB k hk
  .rwa [if_neg e]at hk
 exact⟨fun k=>Iff.rfl,fun i i' k h1 h2 bR h3 h4=>h.two i i' k h1 h2 bR (sub i k h3) (sub i' k h4),fun i k h1 h2=>h.out i k h1 (sub i k h2)⟩
theorem nY.BN{Ss:Nat->Nat->Prop}{c:Nat}{m S:Nat->Prop}(h:nY Ss c m S)(j:Nat){B:Nat->Prop}(hB:∀k,B k->Ss j k):∀k,ra m (fun i=>if i=j then B else Ss i) c k->S k:=by
 rintro k (hk|⟨i,hi,hk⟩)
 .exact h.bw k hk
 .by_cases e:i=j
  .subst e;rw[if_pos rfl]at hk;exact h.part hi k (hB k hk)
  .rw[if_neg e]at hk;exact h.part hi k hk
theorem N7{α β:Type}{rel:Nat->α->β->(Nat->Prop)->Prop}{lh:List α}{l:List β}{Ss:Nat->Nat->Prop}{j:Nat}{x':α}{x:β}{B:Nat->Prop}(h:∀i(h1:i<lh.length)(h2:i<l.length),i≠j->rel i lh[i] l[i] (Ss i))(hj:rel j x' x B):
 ∀i(h1:i<(lh.set j x').length)(h2:i<(l.set j x).length),rel i (lh.set j x')[i] (l.set j x)[i] ((fun i=>if i=j then B else Ss i) i):=by
 intro i h1 h2;by_cases e:i=j
 .subst e;simp only[List.getElem_set_self,if_true];exact hj
 .simp only[List.getElem_set_ne (Ne.symm e),if_neg e];exact h i (by simpa using h1) (by simpa using h2) e
theorem ay.vv{H:ay}{n:Nat}{S:Nat->Prop}{t:Th}(h:H.con n=none):H.le ((H.fK n S).bN n t):=(ay.HT h).trans (ay.jr h)
theorem m6.zW(hs:az U H F w ob n){o s:Nat}{t t':Th}{v0:Value}(ho:ob o=some (s,t))(hv:H.val o=some v0)(hb:t'.base=t'){eat:List Nat}(Un:o∈eat)(S':Nat->Prop)(KK:∀k,fp S' v0 t' k->cE H ob eat k){D:aq}{v:Value}
 (b7:Ext (cE H ob eat) w w')(nX:jn ((H.fK n S').bN n t') F w' S' v0 t')(hd:al ((H.fK n S').bN n t') F w' D v):lH H F w ob n {dst:=D,eat:=eat,make:=[(o,(n,t'))]} v w':=by
 obtain⟨v1,vo,cx⟩:=hs.obj _ _ _ ho;rw[hv]at vo;obtain rfl:=alU vo;have hf:=hs.fresh n (alZ _) (by omega)
 have gI:((H.fK n S').bN n t').sub n=S':=by simp[ay.bN,ay.fK]
 refine⟨(H.fK n S').bN n t',F,⟨ay.vv hf.2,b7,fun _ h=>h,fun _ h=> .inl h,fun b hb=>amI (hs.lt b hb) b7.size⟩,fun m hm=>?_,hd,⟨fun o' s' q hq=>?_,fun o1 o2 s1 s2 q1 q2 u1 u2 bR h1 h2=>?_⟩,fun o' h=>?_⟩
 .refine⟨id,fun h=>?_⟩;simp[ay.bN,ay.fK,show m≠n from by omega,h]
 .obtain⟨rfl,e⟩:=b9 hq;obtain⟨rfl,rfl⟩:=ant e;refine⟨v0,hv,cx.one,by simp[ay.bN,hb],by rw[gI];exact nX,fun k hk=>?_⟩;rw[gI]at hk;have:=KK k hk;exact⟨hs.iR k this,amI (hs.vQ k this) b7.size, .inr this⟩
 .exact absurd ((b9 h1).1.trans (b9 h2).1.symm) bR
 .left
  obtain⟨y,hy⟩:=amA.1 h;rw[(b9 hy).1];exact Un
def rb(T:bg P)(ob:Nat->Option (Nat×Th))(n:Nat)(t:TypeId)(D:aq)(k:eD->Option R):Option R:=
 match find T.und t with
 |none=>none
 |some kk=>match D with
  | .dlm o d0 i p off=>match ob o with
    |some (_, .deep T0 dr l h)=>bif d0.beq dr then(match dr.path p with
     |some ⟨.leaf r,q⟩=>bif al4 q.lo.off off&&m9 T t kk r.size then(idx l i).bind fun x=>k {dst:= .val (lE kk) (.leaf r (q.hi.get x))}else none
     |some ⟨.sl T' e',q⟩=>bif al4 q.lo.off off&&m9 T t kk 1&& !lE kk then(match h with
       |none=>(idx l i).bind fun x=>k {dst:= .val false (.own n),eat:=[o],make:=[(o,(n, .deep T0 dr l (some ⟨i,p,n,n+1⟩))),(n,(n+1,Ii T' e' (q.hi.get x)))]}
       |some hh=>bif oD hh.p p then(if decide (hh.i=i)=true then(idx l i).bind fun _=>k {dst:= .val false (.own hh.o)}else none)else none)else none
     |_=>none)else none
    |_=>none
  |_=>none
theorem BO(hs:az U H F w ob n){o s:Nat}{T0 T':TypeId}{dr e':DR}{l:List dr.row.den}{i:Int}{p:List Bool}{q:gj dr (.sl T' e')}(hq:dr.path p=some ⟨_,q⟩)(dh:ob o=some (s, .deep T0 dr l none)){v:Value}(hv:H.val o=some v)
 {j:Nat}(N8:i=(j:Nat))(hj:j<l.length){lh:List dr.low.den}{Ss:Nat->Nat->Prop}(hm:kS F w T0 dr.low v lh)(hlen:lh.length=l.length)(wu:∀i(h1:i<lh.length)(h2:i<l.length),oC H F w dr none i lh[i] l[i] (Ss i))(dT:nY Ss l.length (bw v) (H.sub s)):
 lH H F w ob n {dst:= .val false (.own n),eat:=[o],make:=[(o,(n, .deep T0 dr l (some ⟨i,p,n,n+1⟩))),(n,(n+1,Ii T' e' (q.hi.get l[j])))]} (q.lo.get (lh[j]'(by omega))) w:=by
 have Ep:j<lh.length:=by omega
 obtain⟨v1,vo,cx⟩:=hs.obj _ _ _ dh;rw[hv]at vo;obtain rfl:=alU vo;obtain⟨A,B,hA,hB,h2⟩:=kQ.out q (wu j Ep hj);obtain⟨_,m2,m3⟩:=tB (H:=H) hA;have hBs:∀k,B k->Ss j k:=h2.right;obtain⟨f1,f2⟩:=hs.fresh n (alZ _) (by omega);obtain⟨f3,f4⟩:=hs.fresh (n+1) (by omega) (by omega)
 have DN:o≠n:=fun e=>by rw[e,f1]at hv;cases hv
 generalize Tw:Th.deep T0 dr l (some ⟨i,p,n,n+1⟩)=t1;generalize Nu:Ii T' e' (q.hi.get l[j])=t2;generalize hu:q.lo.get lh[j]=u;generalize Ys:ra (bw v) (fun i=>if i=j then B else Ss i) l.length=So
 have Yt:∀k,So k->H.sub s k:=by rw[<-Ys];exact dT.BN j hBs
 have N9:∀k,A k->H.sub s k:=fun k hk=>dT.part hj k (h2.left k hk)
 have hAo:∀k,So k->¬A k:=by
  rw[<-Ys]
  rintro k (hk|⟨i',gr,hk⟩) ha
  .exact dT.out j k hj (h2.left k ha) hk
  .by_cases e:i'=j
   .subst e;rw[if_pos rfl]at hk;exact h2.off k ha hk
   .rw[if_neg e]at hk;exact dT.two i' j k gr hj e hk (h2.left k ha)
 let H1:ay:=⟨fun m=>if m=n then some u else H.val m,fun m=>if m=n then some t1 else if m=n+1 then some t2 else H.con m,fun m=>if m=n then So else if m=n+1 then A else H.sub m⟩
 have hle:H.le H1:=by
  refine⟨fun o v ho=>?_,fun s t fi=>?_,fun s t fi=>?_⟩
  .have:o≠n:=fun e=>by rw[e,f1]at ho;cases ho
   simp[H1,this,ho]
  .have a1:s≠n:=fun e=>by rw[e,f2]at fi;cases fi
   have a2:s≠n+1:=fun e=>by rw[e,f4]at fi;cases fi
   simp[H1,a1,a2,fi]
  .have a1:s≠n:=fun e=>by rw[e,f2]at fi;cases fi
   have a2:s≠n+1:=fun e=>by rw[e,f4]at fi;cases fi
   simp[H1,a1,a2]
 have xM:H1.val n=some u:=by simp[H1]
 have lF:∀k,H.sub s k->cE H ob [o] k:=fun k hk=>⟨o,by simp,s,_,v,dh,hv,hk⟩
 have lC:u.oneCell'=true:=by rw[<-hu];exact m3
 refine⟨H1,F,⟨hle,⟨rfl,rfl,rfl,alZ _,fun _ _ _=>rfl⟩,fun _ h=>h,fun _ h=> .inl h,hs.lt⟩,fun m hm=>?_,nz xM lC,⟨fun o' s' t hf=>?_,fun o1 o2 s1 s2 q1 q2 u1 u2 bR g1 g2 e1 e2 k hk dZ=>?_⟩,fun o' lD=>?_⟩
 .have a1:m≠n:=by omega
  have a2:m≠n+1:=by omega
  simp[H1,a1,a2]
 .rw[aG]at hf;split at hf
  .rename_i e;subst e;simp only[al7,amZ]at hf;obtain⟨rfl,rfl⟩:=hf
   have Q6:H1.sub n=So:=by simp[H1]
   refine⟨v,hle.val _ _ hv,cx.one,?_,?_,fun k hk=>?_⟩
   .rw[<-Tw];simp[H1,Th.base,Tw]
   .rw[Q6,<-Tw,<-Ys];refine⟨lh,_,hm,hlen,fun i' a b=>?_,dT.less j hBs⟩;have hr:kQ F w dr lh[i'] l[i'] (Ss i'):=wu i' a b;refine⟨fun hi=>?_,fun hi=>?_⟩
    .have:i'≠j:=fun e=>hi (by subst e;exact N8)
     show kQ F w dr lh[i'] l[i'] (if i'=j then B else Ss i')
     rw[if_neg this];exact hr
    .have hi:i=(i':Int):=hi
     obtain rfl:i'=j:=by omega
     refine⟨T',e',q,hq,?_,?_⟩
     .show my F w q lh[i'] l[i'] (if i'=i' then B else Ss i')
      rw[if_pos rfl];exact hB
     .rw[hu];exact xM
   .rw[Q6,<-Tw]at hk;have hk:So k:=hk;have:=Yt k hk;exact⟨cx.no k this,cx.lt k this, .inr (lF k this)⟩
  .obtain⟨e0,e⟩:=b9 hf;obtain⟨rfl,rfl⟩:=ant e;rw[e0]
   have Q6:H1.sub (n+1)=A:=by simp[H1]
   obtain⟨m1,m2',_⟩:=tB (H:=H1) hA;rw[Nu,hu]at m1 m2';refine⟨u,xM,lC,?_,by rw[Q6];exact m1,fun k hk=>?_⟩
   .rw[<-Nu,wm,Nu];simp[H1]
   .rw[Q6]at hk;have:=N9 k (m2' k hk);exact⟨cx.no k this,cx.lt k this, .inr (lF k this)⟩
 .have key:∀{k},So k->A k->False:=fun a b=>hAo _ a b
  have hfA:∀k,fp A u t2 k->A k:=by rw[<-Nu,<-hu];exact m2
  have qM:H1.sub n=So:=by simp[H1]
  have Q7:H1.sub (n+1)=A:=by simp[H1]
  have two:∀{o' s' t'},find [(o,(n,t1)),(n,(n+1,t2))] o'=some (s',t')->(o'=o/\s'=n/\t'=t1)\/(o'=n/\s'=n+1/\t'=t2):=by
   intro o' s' t' hf;rw[aG]at hf;split at hf
   .rename_i e;simp only[al7,amZ]at hf;exact .inl ⟨e.symm,hf.1.symm,hf.2.symm⟩
   .obtain⟨e1,e⟩:=b9 hf;obtain⟨e2,e3⟩:=ant e;exact .inr ⟨e1,e2,e3⟩
  rcases two g1 with⟨rfl,rfl,rfl⟩|⟨rfl,rfl,rfl⟩<;>rcases two g2 with⟨rfl,rfl,rfl⟩|⟨rfl,rfl,rfl⟩
  .exact bR rfl
  .rw[qM,<-Tw]at hk;rw[Q7]at dZ;rw[xM]at e2;obtain rfl:=alU e2;exact key (show So k from hk) (hfA k dZ)
  .rw[qM,<-Tw]at dZ;rw[Q7]at hk;rw[xM]at e1;obtain rfl:=alU e1;exact key (show So k from dZ) (hfA k hk)
  .exact bR rfl
 .obtain⟨y,hy⟩:=amA.1 lD;rw[aG]at hy;split at hy
  .rename_i e;exact .inl (by rw[<-e];simp)
  .exact .inr (by rw[(b9 hy).1];exact alZ _)
theorem zX{α β:Type}{l:List α}{lh:List β}(h:lh.length=l.length){i:Int}{x:α}(hi:idx l i=some x):∃j,i=(j:Nat)/\∃(h1:j<lh.length)(h2:j<l.length),x=l[j]/\idx lh i=some lh[j]:=by
 obtain⟨j,hj,aj,rfl⟩:=gx hi;refine⟨j,hj,by omega,aj,rfl,?_⟩;subst hj
 have Oa:j<lh.length:=by omega
 simp[idx,Oa]
theorem Ik(T:bg P){t:TypeId}{D:aq}{x:Operand}{k:eD->Option R}{q:R}(h:rb T ob n t D k=some q)(hs:az U H F w ob n)(hx:al H F w D (ev ρ x)):
 ∃e,k e=some q/\cS P U H F w ρ ob n ⟨some d, .load t x,ty,pos,aft,none⟩ e:=by
 unfold rb at h;split at h
 .cases h
 rename_i kk hu;split at h
 case h_2=>cases h
 rename_i o d0 i p off;split at h
 case h_2=>cases h
 rename_i s T0 dr l hh dh;obtain⟨hd,h'⟩:=aK h;clear h;obtain rfl:=DR.eq_of_beq hd;obtain⟨g,o0,qq,m,cap,e1,e2,e5⟩:=hx;obtain⟨lh,Ss,eW,hlen,wu,dT⟩:=hs.low dh e1;split at h'
 .rename_i r yC zS;obtain⟨h1,h2⟩:=aK h';obtain⟨h1,h3⟩:=di h1;obtain rfl:=beq_true h1;obtain⟨a,ha,hk⟩:=bind_some h2;obtain⟨j,hj,g1,g2,rfl,oB⟩:=zX hlen ha;have oS:=(eW.at rfl e2 oB).path yC.lo _ rfl;rw[KY yC (wu j g1 g2)]at oS;obtain⟨es,hl,NY,hr⟩:=oS;exact⟨_,hk,n4 T hu e5 hs (s:= .leaf r _) hr NY (kF T h3)⟩
 .rename_i T' e' yC zS;obtain⟨h1,h2⟩:=aK h';obtain⟨h1,h4⟩:=di h1;obtain⟨h1,h3⟩:=di h1;obtain rfl:=beq_true h1
  have xX:lE kk=false:=by simpa using h4
  obtain⟨dd,xT,yy⟩:=(T.und_ok _ _ hu).agg
  have run:∀{j:Nat}(g1:j<lh.length),idx lh i=some lh[j]->(execOp (ev ρ) ⟨some d, .load t x,ty,pos,aft,none⟩).run P w= .ok (.value (yC.lo.get lh[j])) w:=by
   intro j g1 oB;have oS:=(eW.at rfl e2 oB).path yC.lo _ rfl;obtain⟨es,hl,NY,hr,_⟩:=oS;rw[hr]at NY;exact yu xT (yy.trans xX) e5 (NY 0 _ rfl)
  split at h2
  .obtain⟨a,ha,hk⟩:=bind_some h2;obtain⟨j,hj,g1,g2,rfl,oB⟩:=zX hlen ha;exact⟨_,hk,cC.val (run g1 oB) (BO hs zS dh e1 hj g2 eW.2 hlen wu dT)⟩
  .rename_i hh;obtain⟨hp,h3⟩:=aK h2;have hp:=q8 hp;split at h3
   case isFalse=>cases h3
   rename_i hi;have hi:hh.i=i:=of_decide_eq_true hi;obtain⟨a,ha,hk⟩:=bind_some h3;obtain⟨j,hj,g1,g2,rfl,oB⟩:=zX hlen ha;obtain⟨T'',e'',q'',k1,_,k3⟩:=(wu j g1 g2).2 (hi.trans hj);rw[hp,zS]at k1;cases k1;refine⟨_,hk,bX hs (run g1 oB) (nz k3 ?_)⟩;have oS:=(eW.at rfl e2 oB).path yC.lo _ rfl;obtain⟨es,_,_,_,A,m',c,BL⟩:=oS;rw[BL];rfl
 .cases h'
def Q8(T:TypeId):(e:DR)->Th->Option (List e.row.den)
 | .leaf r, .own T1 r1 y=>bif al4 T1 T then(if h:r1.beq r=true then some (jB (r:= .slice r1) (s:= .slice r) (congrArg Row.slice (Row.eq_of_beq h)) y)else none)else none
 | .sl T2 e2, .deep T1 (.sl T3 e3) y none=>bif al4 T1 T then(if h:(DR.sl T3 e3).beq (.sl T2 e2)=true then some (DR.eq_of_beq h▸y)else none)else none
 | .pair a b, .deep T1 (.pair a1 b1) y none=>bif al4 T1 T then(if h:(DR.pair a1 b1).beq (.pair a b)=true then some (DR.eq_of_beq h▸y)else none)else none
 |_,_=>none
theorem wy{T:TypeId}{e:DR}{t:Th}{y:List e.row.den}(h:Q8 T e t=some y):t=Ii T e y:=by
 unfold Q8 at h;split at h
 .obtain⟨h1,h2⟩:=aK h;split at h2
  .rename_i hb;obtain rfl:=Row.eq_of_beq hb;obtain rfl:=alU h2;rw[beq_true h1];rfl
  .cases h2
 .obtain⟨h1,h2⟩:=aK h;split at h2
  .rename_i hb;cases DR.eq_of_beq hb;obtain rfl:=alU h2;rw[beq_true h1];rfl
  .cases h2
 .obtain⟨h1,h2⟩:=aK h;split at h2
  .rename_i hb;cases DR.eq_of_beq hb;obtain rfl:=alU h2;rw[beq_true h1];rfl
  .cases h2
 .cases h
def zY(h:Option vP)(i:Int)(p:List Bool):Bool:=
 match h with
 |none=>true
 |some h=>oD h.p p&&decide (h.i=i)
theorem BP{h:Option vP}{i:Int}{p:List Bool}(hh:zY h i p=true){dr e:DR}{T:TypeId}{q:gj dr (.sl T e)}(hq:dr.path p=some ⟨_,q⟩){j:Nat}(hj:i=(j:Nat)){x':dr.low.den}{x:dr.row.den}{S:Nat->Prop}(hr:oC H F w dr h j x' x S):
 ∃B,(∀k,B k->S k)/\my F w q x' x B:=by
 cases h with
 |none=>
  obtain⟨A,B,_,h2,h3⟩:=kQ.out q (show kQ F w dr x' x S from hr);exact⟨B,h3.right,h2⟩
 |some h=>
  have h':(oD h.p p&&decide (h.i=i))=true:=hh;obtain⟨h1,h2⟩:=di h';obtain⟨T',e',q',k1,k2,_⟩:=hr.2 ((of_decide_eq_true h2).trans hj);rw[q8 h1,hq]at k1;cases k1;exact⟨S,fun _ h=>h,k2⟩
theorem wz{h:Option vP}{i:Int}{p:List Bool}(hh:zY h i p=true){dr:DR}{j:Nat}(hj:i≠(j:Nat)){x':dr.low.den}{x:dr.row.den}{S:Nat->Prop}(hr:oC H F w dr h j x' x S):kQ F w dr x' x S:=by
 cases h with
 |none=>exact hr
 |some h=>
  have h':(oD h.p p&&decide (h.i=i))=true:=hh;obtain⟨h1,h2⟩:=di h';exact hr.1 (fun e=>hj ((of_decide_eq_true h2).symm.trans e))
end
end Go.Proofs.YtmihpkfkbfgigaaGreatDoor
end
section
open _root_.Int renaming toNat_natCast->al1
open _root_.Nat renaming beq->al4,le_refl->alZ
open _root_.Option.some renaming inj->alU
open _root_.Go.Value renaming ownBlock->amw
namespace Go.Proofs.YtmihpkfkbfgigaaGreatDoor
open Go Go.RowKit
section
variable {P:Program} {ρ:Nat->Value} {w w':World} {H H':ay} {F F':Nat->Prop} {U:Nat->Prop} {ob:Nat->Option (Nat×Th)} {n:Nat} {R:Type}
variable {op:Op} {ty:TypeId} {pos:String} {aft:Array Edge} {d:Nat}
noncomputable def qd(T:bg P)(ob:Nat->Option (Nat×Th))(n:Nat)(t:TypeId)(D V:aq)(k:eD->Option R):Option R:=
 match find T.row t with
 |none=>none
 |some rt=>match V with
  | .val _ u=>match D with
    | .dlm o d0 i p off=>match ob o with
      |some (_, .deep T0 dr l h)=>bif d0.beq dr then(match dr.path p with
       |some ⟨.leaf r,q⟩=>bif al4 q.lo.off off&&al4 rt.size r.size then(match flat ob r u with
        |some y=>(idx l i).bind fun x=>k {dst:= .dead,eat:=[o],make:=[(o,(n, .deep T0 dr (aH l i (q.hi.set x y)) h))]}
        |none=>none)else none
       |some ⟨.sl T' e',q⟩=>bif al4 q.lo.off off&&al4 rt.size 1 then(match u with
        | .own o1=>match ob o1 with
          |some (_,t1)=>match Q8 T' e' t1 with
           |some _=>if zY h i p=true then(idx l i).bind fun _=>k {dst:= .dead,eat:=[o],make:=[(o,(n, .deep T0 dr l (some ⟨i,p,o1,n⟩)))]}else none
           |none=>none
          |none=>none
        | .nil=>if zY h i p=true then(idx l i).bind fun x=>k {dst:= .dead,eat:=[o],make:=[(o,(n, .deep T0 dr (aH l i (q.hi.set x ([]:List e'.row.den))) none))]}else none
        |_=>none)else none
       |_=>none)else none
      |_=>none
    |_=>none
  |_=>none
theorem rc(T:bg P){t:TypeId}{rt:Row}(FX:find T.row t=some rt){x y:Operand}{o s:Nat}{T0:TypeId}{dr e:DR}{i:Int}{l l':List dr.row.den}{h h':Option vP}{q:gj dr e}{g o0 qq m cap j:Nat}{u:e.low.den}{cs:List Value}{x1:dr.row.den}
 (hs:az U H F w ob n)(dh:ob o=some (s, .deep T0 dr l h))(hv:H.val o=some (.slice (some ⟨g,o0,none⟩) m cap))(hj:i=(j:Nat))(Bi:j<l.length)(hx:ev ρ x= .pointer (some ⟨g,o0+qq*dr.low.size+q.lo.off,none⟩))(hqq:i=(qq:Nat))(hz:rt.size=e.low.size)
 (hr:cR F w e.low cs u)(yD:(ev ρ y).cells.toList=cs)(r9:l'=l.set j x1)
 (wu:∀{w':World}{H1:ay},H.le H1->Step F w F w'->∀{x':dr.low.den}{S:Nat->Prop},(∀k,S k->w'.heap[k]? =w.heap[k]?)->oC H F w dr h j x' l[j] S->∃B,(∀k,B k->S k)/\oC H1 F w' dr h' j (q.lo.set x' u) x1 B)
 (Ob:∀{H1:ay}{w':World}{i':Nat}{x':dr.low.den}{x:dr.row.den}{S:Nat->Prop},i'≠j->oC H1 F w' dr h i' x' x S->oC H1 F w' dr h' i' x' x S):
 cS P U H F w ρ ob n ⟨none, .store t x y,ty,pos,aft,none⟩ {dst:= .dead,eat:=[o],make:=[(o,(n, .deep T0 dr l' h'))]}:=by
 obtain⟨ti,z0,h1,_,_,h4,_⟩:=T.row_ok _ _ FX;obtain⟨lh,Ss,eW,hlen,K0,dT⟩:=hs.low dh hv;obtain⟨v1,vo,cx⟩:=hs.obj _ _ _ dh;rw[hv]at vo;obtain rfl:=alU vo
 have Yu:j<lh.length:=by omega
 obtain rfl:qq=j:=by omega
 obtain⟨cur,hh,hle,b7,jN⟩:=eW.put rfl Yu hs.lt q.lo hr;generalize Yv:w.setRow g (cur.toList.take (o0+qq*dr.low.size+q.lo.off)++cs++cur.toList.drop (o0+qq*dr.low.size+q.lo.off+cs.length)).toArray=w' at b7 jN;refine cC.unit (w':=w') (by rw[<-Yv];exact oz h1 (h4.trans (hz.trans hr.length.symm)) hx rfl yD hr.jU hh hle) ?_;have fi:Step F w F w':=Step.ext b7 hs.lt eW.no
 have K2:∀i',i'<l.length->∀k,Ss i' k->w'.heap[k]? =w.heap[k]? :=fun i' gr k hk=>b7.block k (cx.lt k (dT.part gr k hk)) (dT.out i' k gr hk)
 have hf:=hs.fresh n (alZ _) (by omega)
 have lF:∀k,H.sub s k->cE H ob [o] k:=fun k hk=>⟨o,by simp,s,_,_,dh,hv,hk⟩
 obtain⟨B0,hB0,_⟩:=wu (w':=w') (H1:=H) (ay.le.refl H) fi (K2 qq Bi) (K0 qq Yu Bi)
 have main:∀{H1:ay},H.le H1->∃B,(∀k,B k->Ss qq k)/\oC H1 F w' dr h' qq (q.lo.set lh[qq] u) x1 B:=fun Il=>wu Il fi (K2 qq Bi) (K0 qq Yu Bi)
 have Uo:∃B,(∀k,B k->Ss qq k)/\∀{H1:ay},H.le H1->oC H1 F w' dr h' qq (q.lo.set lh[qq] u) x1 B:=by
  obtain⟨B,b1,b2⟩:=main (ay.le.refl H);exact⟨B,b1,fun Il=>b2.keep Il (Step.refl F w') fun _ _=>rfl⟩
 obtain⟨B,b1,b2⟩:=Uo;have hSs:∀k,ra (bw (Value.slice (some ⟨g,o0,none⟩) m cap)) (fun i=>if i=qq then B else Ss i) l.length k->H.sub s k:=dT.BN qq b1;refine m6.zW (t':= .deep T0 dr l' h') hs dh hv rfl (by simp) (ra (bw (Value.slice (some ⟨g,o0,none⟩) m cap)) (fun i=>if i=qq then B else Ss i) l.length) (fun k hk=>lF k (hSs k hk)) ⟨b7.os,b7.tape,b7.output,b7.size,fun k hk hn=>b7.block k hk fun e=>hn (lF k (dT.bw k e))⟩ ?_ trivial;have Il:=ay.vv (H:=H) (S:=ra (bw (Value.slice (some ⟨g,o0,none⟩) m cap)) (fun i=>if i=qq then B else Ss i) l.length) (t:= .deep T0 dr l' h') hf.2
 have yH:l'.length=l.length:=by rw[r9];simp
 refine⟨lh.set qq (q.lo.set lh[qq] u),(fun i=>if i=qq then B else Ss i),jN.2,by rw[yH];simpa using hlen,?_,?_⟩
 .intro i' a b
  have:=N7 (rel:=oC ((H.fK n (ra (bw (Value.slice (some ⟨g,o0,none⟩) m cap)) (fun i=>if i=qq then B else Ss i) l.length)).bN n (.deep T0 dr l' h')) F w' dr h') (lh:=lh) (l:=l) (Ss:=Ss) (j:=qq) (x':=q.lo.set lh[qq] u) (x:=x1) (B:=B)
   (fun i2 c1 c2 bR=>Ob bR ((K0 i2 c1 c2).keep Il fi (K2 i2 c2))) (b2 Il) i' a (by simpa[r9]using b)
  simpa only[r9]using this
 .rw[yH];exact dT.less qq b1
theorem Er(T:bg P){t:TypeId}{D V:aq}{x y:Operand}{k:eD->Option R}{q:R}(h:qd T ob n t D V k=some q)(hs:az U H F w ob n)(hx:al H F w D (ev ρ x))(hy:al H F w V (ev ρ y)):
 ∃e,k e=some q/\cS P U H F w ρ ob n ⟨none, .store t x y,ty,pos,aft,none⟩ e:=by
 unfold qd at h;split at h
 .cases h
 rename_i rt FX;split at h
 case h_2=>cases h
 rename_i agg u;split at h
 case h_2=>cases h
 rename_i o d0 i p off;split at h
 case h_2=>cases h
 rename_i s T0 dr l hh dh;obtain⟨hd,h'⟩:=aK h;clear h;obtain rfl:=DR.eq_of_beq hd;obtain⟨g,o0,qq,m,cap,e1,e2,e5⟩:=hx;obtain⟨cs,rO,yD⟩:=aM.cells hy;split at h'
 .rename_i r yC zS;obtain⟨h1,h2⟩:=aK h';obtain⟨h1,h3⟩:=di h1;obtain rfl:=beq_true h1;split at h2
  case h_2=>cases h2
  rename_i z hz;obtain⟨a,ha,hk⟩:=bind_some h2;obtain⟨j,hj,Bi,rfl⟩:=gx ha;refine⟨_,hk,rc (l':=aH l i (yC.hi.set l[j] z)) (x1:=yC.hi.set l[j] z) (u:=z) T FX hs dh e1 hj Bi e5 e2 (beq_true h3) (jo hs hz rO) yD ?_ ?_ ?_⟩
  .unfold aH;rw[hj,al1]
  .intro w' H1 hle fi x' S hb hr;exact⟨S,fun _ h=>h,Ij yC z (hr.keep hle fi hb)⟩
  .intro H1 w' i' x' x S _ hr;exact hr
 .rename_i T' e' yC zS;obtain⟨h1,h2⟩:=aK h';obtain⟨h1,h3⟩:=di h1;obtain rfl:=beq_true h1;split at h2
  .rename_i o1;split at h2
   case h_2=>cases h2
   rename_i s1 t1 pk;split at h2
   case h_2=>cases h2
   rename_i y1 hD;split at h2
   case isFalse=>cases h2
   rename_i uv;obtain⟨a,ha,hk⟩:=bind_some h2;obtain⟨j,hj,Bi,rfl⟩:=gx ha;obtain⟨u1,DO,nc⟩:=hs.obj _ _ _ pk;obtain⟨v,hv,lC,rfl⟩:=rO;rw[DO]at hv;obtain rfl:=alU hv
   have Yw:cR F w .kD [u1] u1:=by
    have:=nc.ok;rw[wy hD]at this;obtain⟨lh1,_,g1,_⟩:=wo this;obtain⟨xs,⟨_,hx⟩,_⟩:=g1
    rcases hx with⟨rfl,_⟩|⟨gg,o0,cp,cur,rfl,_⟩<;>exact⟨rfl,_,_,_,rfl⟩
   refine⟨_,hk,rc (l':=l) (x1:=l[j]) (u:=u1) (e:= .sl T' e') T FX hs dh e1 hj Bi e5 e2 (beq_true h3) Yw yD ?_ ?_ ?_⟩
   .exact(List.set_getElem_self Bi).symm
   .intro w' H1 hle fi x' S hb hr;obtain⟨B,b1,b2⟩:=BP uv zS hj hr;refine⟨B,b1,fun bR=>absurd hj bR,fun _=>⟨T',e',yC,zS,(b2.keep fi fun k hk=>hb k (b1 k hk)).KZ yC u1,?_⟩⟩;rw[Path.zV];exact hle.val _ _ DO
   .intro H1 w' i' x' x S bR hr
    have Oc:i≠(i':Int):=fun e=>bR (by omega)
    exact⟨fun _=>wz uv Oc hr,fun e=>absurd e Oc⟩
  .split at h2
   case isFalse=>cases h2
   rename_i uv;obtain⟨a,ha,hk⟩:=bind_some h2;obtain⟨j,hj,Bi,rfl⟩:=gx ha;have Yx:cs=_:=rO;subst Yx;refine⟨_,hk,rc (x1:=yC.hi.set l[j] ([]:List e'.row.den)) (u:=Value.slice none 0 0) (e:= .sl T' e') T FX hs dh e1 hj Bi e5 e2 (beq_true h3) ⟨rfl,_,_,_,rfl⟩ yD ?_ ?_ ?_⟩
   .unfold aH;rw[hj,al1]
   .intro w' H1 hle fi x' S hb hr;obtain⟨B,b1,b2⟩:=BP uv zS hj hr;refine⟨B,b1,?_⟩;refine my.put (e:= .sl T' e') yC (b2.keep fi fun k hk=>hb k (b1 k hk)) (A:=fun _=>False) ?_ ⟨fun k=>by simp,fun _ h=>h.elim⟩;exact⟨[],fun _ _=>False,kS.nil F w' T' e'.low,rfl,fun i h=>absurd h (by simp),⟨fun k=>by simp[bw,amw],fun _ _ _ h=>absurd h (by simp),fun _ _ h=>absurd h (by simp)⟩⟩
   .intro H1 w' i' x' x S bR hr
    have Oc:i≠(i':Int):=fun e=>bR (by omega)
    exact wz uv Oc hr
  .cases h2
 .cases h'
end
end Go.Proofs.YtmihpkfkbfgigaaGreatDoor
namespace Go.Proofs.YtmihpkfkbfgigaaGreatDoor
open Go Go.RowKit
def pn{α:Type}(l:List α)(i:Int)(f:α->α):List α:=if 0<=i then l.modify i.toNat f else l
theorem iU{α:Type}(l:List α)(i:Int)(f:α->α):(pn l i f).length=l.length:=by unfold pn;split<;>simp
theorem vw{α:Type}{l:List α}{i:Int}{f:α->α}{j:Nat}(h:j<(pn l i f).length)(h':j<l.length):(pn l i f)[j]=if i=(j:Int)then f l[j]else l[j]:=by
 by_cases hi:0<=i
 .have e:pn l i f=l.modify i.toNat f:=by unfold pn;rw[if_pos hi]
  simp only[e,List.getElem_modify]
  by_cases N8:i=(j:Int)
  .rw[if_pos N8,if_pos (by omega)]
  .rw[if_neg N8,if_neg (by omega)]
 .have e:pn l i f=l:=by unfold pn;rw[if_neg hi]
  simp only[e];rw[if_neg (by omega)]
theorem Path.zZ:{r s:Row}->(p:Path r s)->(x:r.den)->p.set x (p.get x)=x
 |_,_, .here,_=>rfl
 |_,_, .fst p,x=>by show(p.set x.1 (p.get x.1),x.2)=x;rw[Path.zZ p]
 |_,_, .snd p,x=>by show(x.1,p.set x.2 (p.get x.2))=x;rw[Path.zZ p]
section
variable {P:Program} {ρ:Nat->Value} {w w':World} {H H':ay} {F F':Nat->Prop} {U:Nat->Prop} {ob:Nat->Option (Nat×Th)} {n:Nat} {R:Type}
variable {op:Op} {ty:TypeId} {pos:String} {aft:Array Edge} {d:Nat}
def K3(ob:Nat->Option (Nat×Th))(n o:Nat):Option eD:=
 match ob o with
 |some (_, .deep T0 dr l (some h))=>match dr.path h.p with
  |some ⟨.sl T' e',q⟩=>match ob h.o with
   |some (_,t1)=>bif al4 h.o o then none else(match Q8 T' e' t1 with
    |some y=>some {dst:= .dead,eat:=[o,h.o],make:=[(o,(n, .deep T0 dr (pn l h.i fun x=>q.hi.set x y) none))]}
    |none=>none)
   |none=>none
  |_=>none
 |_=>none
theorem Im(hs:az U H F w ob n){o:Nat}{e:eD}(h:K3 ob n o=some e):lH H F w ob n e undef w:=by
 unfold K3 at h;split at h
 case h_2=>cases h
 rename_i s T0 dr l hh dh;split at h
 case h_2=>cases h
 rename_i T' e' q hq;split at h
 case h_2=>cases h
 rename_i s1 t1 pk
 cases bR:al4 hh.o o with
 |true=>rw[bR]at h;cases h
 |false=>
  rw[bR,cond_false]at h
  have bR:o≠hh.o:=fun e=>by rw[e]at bR;simp at bR
  split at h
  case h_2=>cases h
  rename_i y hD;obtain rfl:=alU h;have hD:=wy hD;subst hD;obtain⟨v,hv,cx⟩:=hs.obj _ _ _ dh;obtain⟨u,hu,nc⟩:=hs.obj _ _ _ pk;obtain⟨lh,Ss,eW,hlen,wu,dT⟩:=hs.low dh hv;have hA:=wo nc.ok;generalize hAA:(fun k=>fp (H.sub s1) u (Ii T' e' y) k)=A at hA
  have Xt:∀k,A k->¬H.sub s k:=fun k hk=>by
   rw[<-hAA]at hk
   exact fun h2=>hs.apart _ _ _ _ _ _ _ _ bR dh pk hv hu k h2 hk
  have hf:=hs.fresh n (alZ _) (by omega)
  let Uq:Nat->Nat->Prop:=fun i k=>Ss i k\/(hh.i=(i:Int)/\A k)
  have lF:∀k,H.sub s k\/A k->cE H ob [o,hh.o] k:=by
   rintro k (hk|hk)
   .exact⟨o,by simp,s,_,v,dh,hv,hk⟩
   .rw[<-hAA]at hk;exact⟨hh.o,by simp,s1,_,u,pk,hu,hk⟩
  have hS:∀k,ra (bw v) Uq l.length k->H.sub s k\/A k:=by
   rintro k (hk|⟨i,hi,hk|hk⟩)
   .exact .inl (dT.bw k hk)
   .exact .inl (dT.part hi k hk)
   .exact .inr hk.2
  refine m6.zW (t':= .deep T0 dr (pn l hh.i fun x=>q.hi.set x y) none) hs dh hv rfl (by simp) (ra (bw v) Uq l.length) (fun k hk=>lF k (hS k hk)) ⟨rfl,rfl,rfl,alZ _,fun _ _ _=>rfl⟩ ?_ trivial;have yH:(pn l hh.i fun x=>q.hi.set x y).length=l.length:=iU ..;refine⟨lh,Uq,eW.2,by rw[yH];exact hlen,fun i a b=>?_,?_⟩
  .have b':i<l.length:=by omega
   rw[vw b b'];have hr:=wu i a b'
   by_cases hi:hh.i=(i:Int)
   .rw[if_pos hi];obtain⟨T'',e'',q'',k1,k2,k3⟩:=hr.2 hi;rw[hq]at k1;cases k1;rw[hu]at k3;have k3:=alU k3;have:kQ F w dr (q.lo.set lh[i] u) (q.hi.set l[i] y) (Uq i):=k2.put q hA ⟨fun k=>⟨fun hk=>hk.elim .inr fun hk=> .inl hk.2,fun hk=>hk.elim (fun hk=> .inr ⟨hi,hk⟩) .inl⟩,fun k hk h2=>Xt k hk (dT.part b' k h2)⟩;rw[k3,Path.zZ]at this;exact this
   .rw[if_neg hi];have hr1:=hr.1 hi
    have:Uq i=Ss i:=by
     funext k;exact propext ⟨fun hk=>hk.elim id fun hk=>absurd hk.1 hi, .inl⟩
    rw[this];exact hr1
  .rw[yH];refine⟨fun k=>Iff.rfl,fun i j k h1 h2 N8 h3 h4=>?_,fun i k h1 h3 h4=>?_⟩
   .rcases h3 with h3|h3<;>rcases h4 with h4|h4
    .exact dT.two i j k h1 h2 N8 h3 h4
    .exact Xt k h4.2 (dT.part h1 k h3)
    .exact Xt k h3.2 (dT.part h2 k h4)
    .have:=h3.1;have:=h4.1;omega
   .rcases h3 with h3|h3
    .exact dT.out i k h1 h3 h4
    .exact Xt k h3.2 (dT.bw k h4)
end
end Go.Proofs.YtmihpkfkbfgigaaGreatDoor
end
section
open _root_.Array renaming toArray_toList->amL
open _root_.Int renaming le_refl->am7
open _root_.List renaming replicate->alX
open _root_.Nat renaming beq->al4,le_refl->alZ,lt_of_lt_of_le->amI
open _root_.Option renaming isSome_iff_exists->amA
open _root_.Option.some renaming inj->alU
open _root_.Prod.mk renaming inj->ant
open _root_.Go.Value renaming ownBlock->amw
namespace Go.Proofs.YtmihpkfkbfgigaaGreatDoor
open Go Go.RowKit
theorem DR.fl:(d:DR)->d.low.fl=d.row.fl
 | .leaf _=>rfl
 | .sl _ _=>rfl
 | .pair a b=>by show a.low.fl++b.low.fl=a.row.fl++b.row.fl;rw[a.fl,b.fl]
theorem TI.low{P:Program}{e:TypeId}{d:DR}(h:TI P e d.row):TI P e d.low:=by
 obtain⟨ti,z,h1,h2,h3,h4,h5⟩:=h;exact⟨ti,z,h1,h2,by rw[d.fl];exact h3,by rw[d.size];exact h4,h5⟩
def Es:List Nat->Bool
 |[]=>true
 |o::l=> !l.any (al4 o)&&Es l
theorem yI:{l:List Nat}->Es l=true->l.Nodup
 |[],_=>List.nodup_nil
 |o::l,h=>by
  obtain⟨h1,h2⟩:=di h;refine List.nodup_cons.2 ⟨fun hm=>?_,yI h2⟩;rw[any_beq.2 hm]at h1;cases h1
def DR.mk2:DR->DR->DR
 | .leaf a, .leaf b=> .leaf (.pair a b)
 |a,b=> .pair a b
def Q9(ob:Nat->Option (Nat×Th)):Row->Tree->DR
 | .slice e, .own o=>match ob o with
   |some (_, .own T r _)=> .sl T (.leaf r)
   |some (_, .deep T d _ none)=> .sl T d
   |_=> .leaf (.slice e)
 | .pair a b,t=>match t.split with
   |some (x,y)=>DR.mk2 (Q9 ob a x) (Q9 ob b y)
   |none=> .leaf (.pair a b)
 |r,_=> .leaf r
def Et(ob:Nat->Option (Nat×Th)):(d:DR)->Tree->Option (d.row.den×List Nat)
 | .leaf r,t=>match flat ob r t with
   |some x=>some (x,[])
   |none=>none
 | .sl T e, .own o=>match ob o with
   |some (_,t1)=>match Q8 T e t1 with
    |some y=>some (y,[o])
    |none=>none
   |none=>none
 | .sl _ _, .nil=>some ([],[])
 | .sl _ _,_=>none
 | .pair a b,t=>match t.split with
   |some (x,y)=>match Et ob a x with
    |some (u,os)=>match Et ob b y with
     |some (v,Od)=>some ((u,v),os++Od)
     |none=>none
    |none=>none
   |none=>none
def Gc(ob:Nat->Option (Nat×Th))(d:DR):List aq->Option (List d.row.den×List Nat)
 |[]=>some ([],[])
 | .val _ u::l=>match Et ob d u with
   |some (x,os)=>match Gc ob d l with
    |some (xs,Od)=>some (x::xs,os++Od)
    |none=>none
   |none=>none
 |_::_=>none
section
variable {P:Program} {ρ:Nat->Value} {w w':World} {H H':ay} {F F':Nat->Prop} {U:Nat->Prop} {ob:Nat->Option (Nat×Th)} {n:Nat} {R:Type}
variable {op:Op} {ty:TypeId} {pos:String} {aft:Array Edge} {d:Nat}
theorem uw(hs:az U H F w ob n){os Od:List Nat}(hd:∀o,o∈os->o∉Od):∀k,cE H ob os k->¬cE H ob Od k:=by
 rintro k ⟨o,ho,s,t,v,h1,h2,h3⟩ ⟨o',lD,s',t',v',g1,g2,g3⟩
 exact hs.apart o o' s s' t t' v v' (fun e=>hd o ho (e▸lD)) h1 g1 h2 g2 k h3 g3
theorem qe{os Od:List Nat}(h:∀o,o∈os->o∈Od):∀k,cE H ob os k->cE H ob Od k:=fun _ ⟨o,ho,rest⟩=>⟨o,h o ho,rest⟩
theorem z6(hs:az U H F w ob n):{d:DR}->{t:Tree}->{x:d.row.den}->{os:List Nat}->{cs:List Value}->Et ob d t=some (x,os)->Holds H F w t cs->os.Nodup->∃x' S,cR F w d.low cs x'/\kQ F w d x' x S/\∀k,S k->cE H ob os k
 | .leaf r,t,x,os,cs,h,hh,Oe=>by
   unfold Et at h
   split at h<;>cases h
   rename_i hf;exact⟨x,fun _=>False,jo hs hf hh,⟨rfl,fun _ h=>h⟩,fun _ h=>h.elim⟩
 | .sl T e, .own o,x,os,cs,h,hh,Oe=>by
   unfold Et at h;split at h
   case h_2=>cases h
   rename_i s1 t1 ho
   split at h<;>cases h
   rename_i hD;obtain⟨v,hv,_,rfl⟩:=hh;obtain⟨v',dM,cx⟩:=hs.obj _ _ _ ho;rw[hv]at dM;obtain rfl:=alU dM;have hD:=wy hD;subst hD;have hb:=wo cx.ok;refine⟨v,_,?_,hb,fun k hk=>⟨o,by simp,s1,_,v,ho,hv,hk⟩⟩;obtain⟨lh1,_,⟨xs,⟨_,hx⟩,_⟩,_⟩:=hb
   rcases hx with⟨rfl,_⟩|⟨gg,o0,cp,cur,rfl,_⟩<;>exact⟨rfl,_,_,_,rfl⟩
 | .sl T e, .nil,x,os,cs,h,hh,_=>by
   cases h;have Xu:cs=_:=hh;subst Xu;exact⟨.slice none 0 0,fun _=>False,⟨rfl,_,_,_,rfl⟩,⟨[],fun _ _=>False,kS.nil F w T e.low,rfl,fun i h=>absurd h (by simp),⟨fun k=>by simp[bw,amw],fun _ _ _ h=>absurd h (by simp),fun _ _ h=>absurd h (by simp)⟩⟩,fun _ h=>h.elim⟩
 | .pair a b,t,x,os,cs,h,hh,hn=>by
   unfold Et at h;split at h
   case h_2=>cases h
   rename_i t1 t2 sV;split at h
   case h_2=>cases h
   rename_i u os1 h1;split at h
   case h_2=>cases h
   rename_i v os2 h2;cases h;obtain⟨c1,c2,rfl,g1,g2,_⟩:=hh.split sV;obtain⟨n1,n2,n3⟩:=List.nodup_append.1 hn;obtain⟨x1,S1,r1,e1,s1⟩:=z6 hs h1 g1 n1;obtain⟨x2,S2,r2,e2,s2⟩:=z6 hs h2 g2 n2;refine⟨(x1,x2),fun k=>S1 k\/S2 k,⟨c1,c2,rfl,r1,r2⟩,⟨S1,S2,e1,e2,fun _=>Iff.rfl,fun k hk dZ=>uw hs (fun o ho lD=>n3 o ho o lD rfl) k (s1 k hk) (s2 k dZ)⟩,fun k hk=>hk.elim (fun hk=>qe (fun o ho=>by simp[ho]) k (s1 k hk)) fun hk=>qe (fun o ho=>by simp[ho]) k (s2 k hk)⟩
 | .sl _ _, .leaf _ _,_,_,_,h,_,_=>by cases h
 | .sl _ _, .pair _ _,_,_,_,h,_,_=>by cases h
 | .sl _ _, .view ..,_,_,_,h,_,_=>by cases h
theorem BQ(hs:az U H F w ob n){d:DR}:{ds:List aq}->{l:List d.row.den}->{os:List Nat}->{vs:List Value}->Gc ob d ds=some (l,os)->fQ H F w ds vs->os.Nodup->
 ∃(lh:List d.low.den)(Ss:Nat->Nat->Prop),vM F w d.low vs lh/\lh.length=l.length/\(∀i(h1:i<lh.length)(h2:i<l.length),kQ F w d lh[i] l[i] (Ss i))/\(∀i k,i<l.length->Ss i k->cE H ob os k)/\∀i j k,i<l.length->j<l.length->i≠j->Ss i k->¬Ss j k
 |[],l,os,vs,h,hd,_=>by
  cases h;rw[show vs=[]from hd];exact⟨[],fun _ _=>False, .nil,rfl,fun i h=>absurd h (by simp),fun _ _ h=>absurd h (by simp),fun _ _ _ h=>absurd h (by simp)⟩
 | .val _ u::ds,l,os,vs,h,hd,hn=>by
   obtain⟨v,us,rfl,h1,h2⟩:=hd;unfold Gc at h;split at h
   case h_2=>cases h
   rename_i x os1 hf;split at h
   case h_2=>cases h
   rename_i xs os2 hg;cases h;obtain⟨cs,rO,yD⟩:=aM.cells h1;obtain⟨n1,n2,n3⟩:=List.nodup_append.1 hn;obtain⟨x',S,r1,e1,s1⟩:=z6 hs hf rO n1;obtain⟨lh,Ss,k1,k2,k3,k4,k5⟩:=BQ hs hg h2 n2
   have ap:∀i k,i<xs.length->S k->¬Ss i k:=fun i k hi hk dZ=>uw hs (fun o ho lD=>n3 o ho o lD rfl) k (s1 k hk) (k4 i k hi dZ)
   refine⟨x'::lh,fun i=>match i with|0=>S|i+1=>Ss i, .cons yD r1 k1,by simp[k2],fun i a b=>?_,fun i k hi hk=>?_,fun i j k hi hj bR hk dZ=>?_⟩
   .cases i with
    |zero=>exact e1
    |succ i=>exact k3 i (by simpa using a) (by simpa using b)
   .cases i with
    |zero=>exact qe (fun o ho=>by simp[ho]) k (s1 k hk)
    |succ i=>exact qe (fun o ho=>by simp[ho]) k (k4 i k (by simpa using hi) hk)
   .cases i with
    |zero=>
     cases j with
     |zero=>exact bR rfl
     |succ j=>exact ap j k (by simpa using hj) hk dZ
    |succ i=>
     cases j with
     |zero=>exact ap i k (by simpa using hi) dZ hk
     |succ j=>exact k5 i j k (by simpa using hi) (by simpa using hj) (fun e=>bR (by rw[e])) hk dZ
 | .dead::_,_,_,_,h,_,_=>by cases h
 | .undef::_,_,_,_,h,_,_=>by cases h
 | .ptr .. ::_,_,_,_,h,_,_=>by cases h
 | .at .. ::_,_,_,_,h,_,_=>by cases h
 | .elem .. ::_,_,_,_,h,_,_=>by cases h
 | .tup _::_,_,_,_,h,_,_=>by cases h
 | .dlm .. ::_,_,_,_,h,_,_=>by cases h
 | .fn .. ::_,_,_,_,h,_,_=>by cases h
 | .ifc .. ::_,_,_,_,h,_,_=>by cases h
theorem m6.Ra(hs:az U H F w ob n){eat:List Nat}{t:Th}{v0:Value}{S:Nat->Prop}(hb:t.base=t)(h1:v0.oneCell'=true){D:aq}{v:Value}
 (b7:Ext (cE H ob eat) w w')(nX:jn (((H.fK n S).bN n t).dj n v0) F w' S v0 t)(KK:∀k,fp S v0 t k->¬F k/\k<w'.heap.size/\(w.heap.size<=k\/cE H ob eat k))
 (hd:al (((H.fK n S).bN n t).dj n v0) F w' D v):lH H F w ob n {dst:=D,eat:=eat,make:=[(n,(n,t))]} v w':=by
 have hf:=hs.fresh n (alZ _) (by omega)
 have gI:(((H.fK n S).bN n t).dj n v0).sub n=S:=by simp[ay.dj,ay.bN,ay.fK]
 refine⟨((H.fK n S).bN n t).dj n v0,F,⟨(ay.vv hf.2).trans (ay.p8 (by simp[ay.bN,ay.fK,hf.1])),b7,fun _ h=>h,fun _ h=> .inl h,fun b hb=>amI (hs.lt b hb) b7.size⟩,fun m hm=>?_,hd,⟨fun o' s' q hq=>?_,fun o1 o2 s1 s2 q1 q2 u1 u2 bR h1 h2=>?_⟩,fun o' h=>?_⟩
 .simp[ay.bN,ay.dj,ay.fK,show m≠n from by omega]
 .obtain⟨rfl,e⟩:=b9 hq;obtain⟨rfl,rfl⟩:=ant e;exact⟨v0,by simp[ay.dj],h1,by simp[ay.bN,ay.dj,hb],by rw[gI];exact nX,by rw[gI];exact KK⟩
 .exact absurd ((b9 h1).1.trans (b9 h2).1.symm) bR
 .right
  obtain⟨y,hy⟩:=amA.1 h;rw[(b9 hy).1];exact alZ _
def z7(ob:Nat->Option (Nat×Th))(r:Row):List aq->DR
 | .val _ u::_=>Q9 ob r u
 |_=> .leaf r
def po(e:TypeId)(dr:DR)(ob:Nat->Option (Nat×Th))(n:Nat)(ds:List aq)(k:eD->Option R):Option R:=
 match Gc ob dr ds with
 |some (l,os)=>bif Es os then k {dst:= .val false (.own n),eat:=os,make:=[(n,(n,Ii e dr l))]}else none
 |none=>none
def qf(T:bg P)(rd:Operand->Option aq)(ob:Nat->Option (Nat×Th))(n:Nat)(t:TypeId)(m:Nat)(parts:Array (Nat×Operand))(k:eD->Option R):Option R:=
 match find T.und t with
 |some (.slice e)=>match find T.row e with
  |some r=>bif F5 0 parts.toList&&al4 m parts.toList.length&&Nat.ble (m*r.size) 16777216 then
    (match rZ rd (parts.toList.map (·.2))with
    |some ds=>bif (z7 ob r ds).row.beq r then po e (z7 ob r ds) ob n ds k else none
    |none=>none)else none
  |none=>none
 |_=>none
theorem Eu(T:bg P){rd:Operand->Option aq}(gu:∀x d,rd x=some d->al H F w d (ev ρ x)){t:TypeId}{m:Nat}{parts:Array (Nat×Operand)}{k:eD->Option R}{q:R}(h:qf T rd ob n t m parts k=some q)(hs:az U H F w ob n):
 ∃e,k e=some q/\cS P U H F w ρ ob n ⟨some d, .buildSlice t m parts,ty,pos,aft,none⟩ e:=by
 unfold qf at h;split at h
 case h_2=>cases h
 rename_i e hu;split at h
 case h_2=>cases h
 rename_i r hr;obtain⟨c0,h8⟩:=aK h;clear h;obtain⟨c1,c3⟩:=di c0;obtain⟨h1,c2⟩:=di c1;have h2:=beq_true c2
 have h3:m*r.size<=16777216:=by simpa using c3
 clear c0 c1 c2 c3;split at h8
 case h_2=>cases h8
 rename_i ds vp;obtain⟨Ur,h⟩:=aK h8;clear h8;have kD:=Row.eq_of_beq Ur;clear Ur
 obtain⟨dr,Of⟩:∃dr,dr=z7 ob r ds:=⟨_,rfl⟩
 rw[<-Of]at h kD;clear Of;subst kD;unfold po at h;split at h
 case h_2=>cases h
 rename_i l os hl;obtain⟨hn,hk⟩:=aK h;clear h;obtain⟨lh,Ss,k1,k2,k3,k4,k5⟩:=BQ hs hl (n5 gu vp) (yI hn)
 have hp:parts=(((parts.toList.map (·.2)).zipIdx).map fun p=>(p.2,p.1)).toArray:=by
  rw[<-wa h1,amL]
 have hm:m=(parts.toList.map (·.2)).length:=by simpa using h2
 obtain⟨v,w',bA,b7,eW,HX⟩:=vZ (d:=d) (ty:=ty) (pos:=pos) (aft:=aft) (T.und_ok _ _ hu) (TI.low (T.row_ok _ _ hr)) hp (by rw[<-hm,DR.size];exact h3) k1 hs;rw[<-hm]at bA;refine⟨_,hk,cC.val bA ?_⟩
 have aj:∀i k,i<l.length->Ss i k->k<w.heap.size:=fun i k hi hk=>hs.vQ k (k4 i k hi hk)
 have fi:Step F w F w':=fun b hb=>⟨hb,(b7 fun _=>False).block b (hs.lt b hb) fun h=>h⟩
 have dT:nY Ss l.length (bw v) (ra (bw v) Ss l.length):=⟨fun _=>Iff.rfl,k5,fun i k hi hk hm=>by have:=aj i k hi hk;have:=HX k hm;omega⟩
 have rN:kQ F w' (.sl e dr) v l (ra (bw v) Ss l.length):=⟨lh,Ss,eW.2,k2,fun i a b=>(k3 i a b).keep fi fun k hk=>(b7 fun _=>False).block k (aj i k b hk) fun h=>h,dT⟩
 have KK:∀k,ra (bw v) Ss l.length k->¬F k/\k<w'.heap.size/\(w.heap.size<=k\/cE H ob os k):=by
  rintro k (hk|⟨i,hi,hk⟩)
  .exact⟨eW.1 k hk,eW.lt k hk, .inl (HX k hk)⟩
  .have:=k4 i k hi hk;exact⟨hs.iR k this,amI (hs.vQ k this) (b7 fun _=>False).size, .inr this⟩
 refine m6.Ra (S:=ra (bw v) Ss l.length) (v0:=v) hs (wm ..) (p9 eW) (b7 _) (tB rN).1 (fun k hk=>KK k ((tB (H:=H) rN).2.1 k hk)) (nz (by simp[ay.dj]) (p9 eW))
def z8(T:bg P)(n:Nat)(t:TypeId)(same:Bool)(a b:Int)(k:eD->Option R):Option R:=
 match find T.und t with
 |some (.slice e)=>match find T.row e with
  |some (.slice r)=>match find T.und e with
   |some (.slice e')=>(bif same then lB a ([]:List r.den)else Xr a b ([]:List r.den)).bind fun l=>k {dst:= .val false (.own n),make:=[(n,(n, .deep e (.sl e' (.leaf r)) l none))]}
   |_=>none
  |_=>vY T n t same a b k
 |_=>none
theorem yJ{e e' t:TypeId}{r:Row}{a b:Int}(ht:P.underlying t=some (.slice e))(vV:TI P e (.slice r))(hs:az U H F w ob n){ka kb:IntKind}{x y:Operand}(hx:ev ρ x= .int ka a)(hy:ev ρ y= .int kb b)(h0:0<=a)(h1:a<=b)(h2:b<=4294967296):
 cS P U H F w ρ ob n ⟨some d, .makeSlice t x y,ty,pos,aft,none⟩ {dst:= .val false (.own n),make:=[(n,(n, .deep e (.sl e' (.leaf r)) (alX a.toNat ([]:List r.den)) none))]}:=by
 obtain⟨v,w',bA,b7,eW,HX⟩:=yE (d:=d) (ty:=ty) (pos:=pos) (aft:=aft) (r:= .kD) ht (TI.low (d:= .sl e' (.leaf r)) vV) hs hx hy h0 h1 h2
 have rN:kQ F w' (.sl e (.sl e' (.leaf r))) v (alX a.toNat ([]:List r.den)) (bw v):=by
  refine⟨alX a.toNat (Value.slice none 0 0),fun _ _=>False,eW.2,by simp,fun i h1 h2=>?_,⟨fun k=>by simp,fun _ _ _ _ _ _ h=>h.elim,fun _ _ _ h=>h.elim⟩⟩;simp only[List.getElem_replicate];exact⟨[],fun _ _=>False,kS.nil F w' e' r,rfl,fun i h=>absurd h (by simp),⟨fun k=>by simp[bw,amw],fun _ _ _ h=>absurd h (by simp),fun _ _ h=>absurd h (by simp)⟩⟩
 refine cC.val bA (m6.Ra (S:=bw v) (v0:=v) (eat:=[]) (t:=Ii e (.sl e' (.leaf r)) (alX a.toNat ([]:List r.den))) hs (wm ..) (p9 eW) (b7 _) (tB rN).1 (fun k hk=>?_) (nz (by simp[ay.dj]) (p9 eW)));have hk:=(tB (H:=H) rN).2.1 k hk;exact⟨eW.1 k hk,eW.lt k hk, .inl (HX k hk)⟩
theorem Io(T:bg P){t:TypeId}{a b:Int}{ka kb:IntKind}{x y:Operand}{k:eD->Option R}{q:R}(h:z8 T n t (pj x y) a b k=some q)(hs:az U H F w ob n)(hx:ev ρ x= .int ka a)(hy:ev ρ y= .int kb b):
 ∃e,k e=some q/\cS P U H F w ρ ob n ⟨some d, .makeSlice t x y,ty,pos,aft,none⟩ e:=by
 unfold z8 at h;split at h
 case h_2=>cases h
 rename_i e hu;split at h
 case h_2=>exact BE T h hs hx hy
 rename_i r hr;split at h
 case h_2=>cases h
 rename_i e' BL;obtain⟨l,hl,hk⟩:=bind_some h;have vV:=T.row_ok _ _ hr;have ht:=T.und_ok _ _ hu
 cases kh:pj x y with
 |true=>
  rw[kh,cond_true]at hl;unfold lB at hl;split at hl
  case isFalse=>cases hl
  rename_i hc;obtain rfl:=alU hl;obtain rfl:=yF kh hx hy;exact⟨_,hk,yJ ht vV hs hx hy hc.1 (am7 _) hc.2⟩
 |false=>
  rw[kh,cond_false]at hl;unfold Xr at hl;split at hl
  case isFalse=>cases hl
  rename_i hc;obtain rfl:=alU hl;exact⟨_,hk,yJ ht vV hs hx hy hc.1 hc.2.1 hc.2.2⟩
def wA(deep:Bool)(T:bg P)(n:Nat)(t:TypeId)(same:Bool)(a b:Int)(k:eD->Option R):Option R:=
 match deep with
 |true=>z8 T n t same a b k
 |false=>vY T n t same a b k
theorem Ip(deep:Bool)(T:bg P){t:TypeId}{a b:Int}{ka kb:IntKind}{x y:Operand}{k:eD->Option R}{q:R}(h:wA deep T n t (pj x y) a b k=some q)(hs:az U H F w ob n)(hx:ev ρ x= .int ka a)(hy:ev ρ y= .int kb b):
 ∃e,k e=some q/\cS P U H F w ρ ob n ⟨some d, .makeSlice t x y,ty,pos,aft,none⟩ e:=by
 cases deep with
 |true=>exact Io T h hs hx hy
 |false=>exact BE T h hs hx hy
def pq(T:bg P)(ob:Nat->Option (Nat×Th))(n:Nat)(t:TypeId)(D:aq)(k:eD->Option R):Option R:=
 match D with
 | .dlm .. =>rb T ob n t D k
 |_=>yB T ob t D k
theorem Iq(T:bg P){t:TypeId}{D:aq}{x:Operand}{k:eD->Option R}{q:R}(h:pq T ob n t D k=some q)(hs:az U H F w ob n)(hx:al H F w D (ev ρ x)):
 ∃e,k e=some q/\cS P U H F w ρ ob n ⟨some d, .load t x,ty,pos,aft,none⟩ e:=by
 unfold pq at h;split at h
 .exact Ik T h hs hx
 .exact KJ T h hs hx
noncomputable def qg(T:bg P)(ob:Nat->Option (Nat×Th))(n:Nat)(t:TypeId)(D V:aq)(k:eD->Option R):Option R:=
 match D with
 | .dlm .. =>qd T ob n t D V k
 |_=>tl T ob n t D V k
theorem Ev(T:bg P){t:TypeId}{D V:aq}{x y:Operand}{k:eD->Option R}{q:R}(h:qg T ob n t D V k=some q)(hs:az U H F w ob n)(hx:al H F w D (ev ρ x))(hy:al H F w V (ev ρ y)):
 ∃e,k e=some q/\cS P U H F w ρ ob n ⟨none, .store t x y,ty,pos,aft,none⟩ e:=by
 unfold qg at h;split at h
 .exact Er T h hs hx hy
 .exact HU T h hs hx hy
def vx(deep:Bool)(T:bg P)(rd:Operand->Option aq)(ob:Nat->Option (Nat×Th))(n:Nat)(t:TypeId)(m:Nat)(parts:Array (Nat×Operand))(k:eD->Option R):Option R:=
 match deep with
 |true=>qf T rd ob n t m parts k
 |false=>kG T rd ob n t m parts k
theorem Ew(deep:Bool)(T:bg P){rd:Operand->Option aq}(gu:∀x d,rd x=some d->al H F w d (ev ρ x)){t:TypeId}{m:Nat}{parts:Array (Nat×Operand)}{k:eD->Option R}{q:R}(h:vx deep T rd ob n t m parts k=some q)(hs:az U H F w ob n):
 ∃e,k e=some q/\cS P U H F w ρ ob n ⟨some d, .buildSlice t m parts,ty,pos,aft,none⟩ e:=by
 cases deep with
 |true=>exact Eu T gu h hs
 |false=>exact wb T gu h hs
end
end Go.Proofs.YtmihpkfkbfgigaaGreatDoor
end
