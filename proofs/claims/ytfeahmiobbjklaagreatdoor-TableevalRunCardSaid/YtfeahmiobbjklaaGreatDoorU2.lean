/- Joined texts: Effs2 Effs3 Effs4 Effs5 Effs6 Effs8 Effs9. -/
import Derived.Test.YtfeahmiobbjklaaGreatDoorU1
import Derived.Carry
set_option linter.defProp false
open _root_.Bool renaming false->ag,true->af
open _root_.Option renaming none->ae,some->aa,isSome_iff_exists->arw
open _root_.Array renaming toArray_toList->arL,getElem?_eq_some_iff->ary
open _root_.Int renaming eq_ofNat_of_zero_le->aqY,le_refl->arT,natCast_mul->arC,toNat_natCast->aqX,tdiv->aq1,tmod->aq3
open _root_.List renaming replicate->aqW
open _root_.Nat renaming beq->aqV,le_refl->aqU,le_trans->ark,mul_le_mul_right->aq4,add_mul->arn,min_eq_left->ar1,zero_add->arv,lt_of_lt_of_le->arh
open _root_.Option.some renaming inj->aqP,injEq->aq2
open _root_.Go.Result renaming andThen_ok->arR,andThen->aq5
open _root_.Go.Sem renaming run_bind->arj
open _root_.Go.Value renaming ownBlock->are,int->arI
open _root_.Go.IntKind renaming bits->asm
open _root_.List.cons renaming injEq->arV
open _root_.Go.Value.slice renaming injEq->asf
open _root_.Go.Instr renaming findNow->arN,lookup->asx,mapUpdate->ar2
open _root_.Go.MapKept renaming run_checkKey->ar4,run_findKey->asa,run_getObj_map->arD,run_setObj_map->ar9
section
open _root_.Bool renaming false->ag,true->af
open _root_.Option renaming none->ae,some->aa,isSome_iff_exists->arw
open _root_.Array renaming toArray_toList->arL
open _root_.Int renaming toNat_natCast->aqX
open _root_.Nat renaming beq->aqV,blt->aru,le_refl->aqU,lt_of_lt_of_le->arh
open _root_.Option.some renaming inj->aqP,injEq->aq2
open _root_.Go.Value renaming oneCell'->ar8
namespace Go.Proofs.YtfeahmiobbjklaaGreatDoor
open Go Go.RowKit
section
variable {P:Program} {ρ:Nat->Value} {w w':World} {H H':aN} {F F':Nat->Prop} {U:Nat->Prop} {ob:Nat->Option (Nat×Th)} {n:Nat} {R:Type}
variable {op:Op} {ty:TypeId} {pos:String} {aft:Array Edge} {d:Nat}
def aP.box(hs:aP U H F w ob n){o s:Nat}{T:TypeId}{t:Tree}(ho:ob o=aa (s, .box T t)){b:Nat}(hb:H.val o=aa (.pointer (aa ⟨b,0,ae⟩))):
 ∃es,w.heap[b]? =aa (.cells es.toArray T (0,0))/\Holds H F w t es:=by
 obtain⟨v,hv,hi⟩:=hs.obj _ _ _ ho;rw[hb]at hv;obtain rfl:=aqP hv;obtain⟨b',es,e,h1,h2⟩:=hi.ok
 grind
def aP.own(hs:aP U H F w ob n){o s:Nat}{T:TypeId}{r:Row}{l:List r.den}(ho:ob o=aa (s, .own T r l)){v:Value}(hv:H.val o=aa v):pz 0 F w T r v l:=by
 obtain⟨v',ga,hi⟩:=hs.obj _ _ _ ho;rw[hv]at ga;obtain rfl:=aqP ga;exact⟨hi.no,hi.ok⟩
def Fs{fs:List (TypeId×Nat)}{arr:Array Field}(ha:arr.toList.map (λf=>(f.type,f.offset))=fs){f:Nat}{ft:TypeId}{off:Nat}(hf:fs[f]? =aa (ft,off)):∃fd,arr[f]? =aa fd/\fd.type=ft/\fd.offset=off:=by
 grind
def sub(r:Row)(x:r.den)(p:List Bool):Option ((s:Row)×s.den×Nat):=
 match Tree.get (.leaf r x) p with
 |some (.leaf s y,off)=>aa ⟨s,y,off⟩
 |_=>ae
def IJ{r s:Row}{x:r.den}{y:s.den}{p:List Bool}{off b k:Nat}(h:sub r x p=aa ⟨s,y,off⟩)(ha:At F w r b k x):At F w s b (k+off) y:=by
 unfold sub at h;split at h
 .rename_i s' y' fJ hg;simp only[aq2,Sigma.mk.injEq]at h;obtain⟨rfl,h⟩:=h;obtain⟨rfl,rfl⟩:=Prod.mk.inj (eq_of_heq h);obtain⟨es,hl,hc,hr⟩:=ha;obtain⟨g1,g2⟩:=Holds.get (H:=⟨λ_=>ae,λ_=>ae,λ_ _=>False⟩) (F:=F) (w:=w) (cs:=es) hg hr;have ZF:dy F w s' ((es.drop fJ).take s'.size) y':=g1;refine⟨_,ZF.length,λj u hu=>?_,ZF⟩
  grind
 .cases h
def IK(T:bz P)(t:TypeId)(f:Nat)(D:aI):Option aI:=
 match find T.und t with
 |some (.struct fs)=>match fs[f]? with
  |some (ft,off)=>match find T.row ft with
   |some _=>match D with
    | .ptr o p k=>aa (.ptr o (p++vU fs.length f) (k+off))
    | .at r x=>match sub r x (vU fs.length f)with
      |some ⟨s,y,fJ⟩=>bif aqV fJ off then aa (.at s y)else ae
      |none=>ae
    | .elem o s r i x p k=>aa (.elem o s r i x (p++vU fs.length f) (k+off))
    | .dlm o d i p k=>aa (.dlm o d i (p++vU fs.length f) (k+off))
    |_=>ae
   |none=>ae
  |none=>ae
 |_=>ae
theorem beq_true{m k:Nat}(h:aqV m k=af):m=k:=Nat.eq_of_beq_eq_true h
def vV{α:Type}{b:Bool}{x:α}{y:α}(h:(bif b then aa x else ae)=aa y):b=af/\x=y:=by
 grind
def MJ(T:bz P){t:TypeId}{f:Nat}{D D':aI}{x:Operand}(h:IK T t f D=aa D')(hs:aP U H F w ob n)(hx:aH H F w D (ev ρ x)):
 cX P U H F w ρ ob n ⟨aa d, .fieldAddr t x f,ty,pos,aft,ae⟩ {dst:=D'}:=by
 unfold IK at h;split at h
 case h_2=>cases h
 rename_i fs hu;obtain⟨arr,IL,TC⟩:=T.und_ok _ _ hu;split at h
 case h_2=>cases h
 rename_i ft off hf;obtain⟨fd,Y2,rfl,rfl⟩:=Fs TC hf;split at h
 case h_2=>cases h
 rename_i r' OV;have vW:=T.row_ok _ _ OV;split at h
 .obtain rfl:=aqP h;obtain⟨b,h1,h2⟩:=hx;exact bo hs (qi (r:=r') fd.offset IL Y2 vW rfl h2) ⟨b,h1,rfl⟩
 .split at h
  .rename_i s y fJ kC;obtain⟨h1,rfl⟩:=vV h;obtain rfl:=beq_true h1;obtain⟨b,k,h2,h3,h4⟩:=hx;exact bo hs (qi (r:=r') fd.offset IL Y2 vW rfl h2) ⟨b,_,rfl,h3,IJ kC h4⟩
  .cases h
 .obtain rfl:=aqP h;obtain⟨g,o0,q,T',m,cap,l,h1,h2,h3,h4,h5⟩:=hx;exact bo hs (qi (r:=r') fd.offset IL Y2 vW rfl h5) ⟨g,o0,q,T',m,cap,l,h1,h2,h3,h4,by grind⟩
 .obtain rfl:=aqP h;obtain⟨g,o0,q,m,cap,h1,h2,h5⟩:=hx;exact bo hs (qi (r:=r') fd.offset IL Y2 vW rfl h5) ⟨g,o0,q,m,cap,h1,h2,by grind⟩
 .cases h
def dy.elemAt{r:Row}{v:Value}{l:List r.den}(h:dy F w (.slice r) [v] l){i:Int}{y:r.den}(hi:idx l i=aa y):
 ∃b off cap k,v= .slice (aa ⟨b,off,ae⟩) l.length cap/\i=(k:Nat)/\k<l.length/\F b/\At F w r b (off+k*r.size) y:=by
 obtain⟨A,cap,hv,_,_,h4⟩:=h;obtain⟨k,hk,aF,rfl⟩:=jI hi;obtain⟨b,off,es,rfl,hF,yx,hc,hr⟩:=h4 k aF;exact⟨b,off,cap,k,by simpa using hv,hk,aF,hF,es,yx,hc,hr⟩
inductive PR where
 |read (r:Row) (l:List r.den)
 |own (o s:Nat) (T:TypeId) (r:Row) (l:List r.den)
 |nil
 |view (o s:Nat) (r:Row) (l:List r.den)
 |deep (o s:Nat) (T:TypeId) (d:DR) (l:List d.row.den) (h:Option zD)
def yH(ob:Nat->Option (Nat×Th)):aI->Option PR
 | .val ag (.leaf (.slice r) l)=>aa (.read r l)
 | .val ag .nil=>aa .nil
 | .val ag (.own o)=>match ob o with
   |some (s, .own T r l)=>aa (.own o s T r l)
   |some (_, .yD _ r l)=>aa (.read r l)
   |some (_, .fdeep _ d l)=>aa (.read d.row l)
   |some (s, .deep T d l h)=>aa (.deep o s T d l h)
   |_=>ae
 | .val ag (.view o s r m)=>match ob o with
   |some (s', .yD ..)=>bif aqV s' s then aa (.read r m)else aa (.view o s r m)
   |_=>aa (.view o s r m)
 |_=>ae
def TD(U:Nat->Prop)(H:aN)(F:Nat->Prop)(w:World)(ob:Nat->Option (Nat×Th))(v:Value):PR->Prop
 | .read r l=>dy F w (.slice r) [v] l
 | .own o s T r l=>H.val o=aa v/\ob o=aa (s, .own T r l)/\pz 0 F w T r v l
 | .nil=>v= .slice ae 0 0
 | .view o s r m=>pt H o s r m v
 | .deep o s T d l h=>H.val o=aa v/\ob o=aa (s, .deep T d l h)/\IF U H F w v s (.deep T d l h)
def k6(hs:aP U H F w ob n){D:aI}{k:PR}{v:Value}(h:yH ob D=aa k)(hd:aH H F w D v):TD U H F w ob v k:=by
 unfold yH at h;split at h
 .cases h;exact bg.inv hd
 .cases h;obtain⟨cs,h1,_,h3⟩:=hd;have Is:cs=_:=h1
  grind [TD]
 .rename_i o;obtain⟨cs,⟨u,hu,IL,e⟩,_,h3⟩:=hd;rw[h3 rfl]at e
  obtain rfl:v=u:=by simpa using e
  split at h
  .rename_i s T r l zH;cases h;exact⟨hu,zH,hs.own zH hu⟩
  .rename_i s T r l zH;cases h;obtain⟨v',ga,hi⟩:=hs.obj _ _ _ zH;rw[hu]at ga;obtain rfl:=aqP ga;exact hi.ok
  .rename_i s T d l zH;cases h;obtain⟨v',ga,hi⟩:=hs.obj _ _ _ zH;rw[hu]at ga;obtain rfl:=aqP ga;exact hi.ok
  .rename_i s T d l h' zH;cases h;obtain⟨v',ga,hi⟩:=hs.obj _ _ _ zH;rw[hu]at ga;obtain rfl:=aqP ga;exact⟨hu,zH,hi⟩
  .cases h
 .rename_i o s r m;obtain⟨cs,⟨u,e,hu⟩,_,h3⟩:=hd;rw[h3 rfl]at e
  obtain rfl:v=u:=by simpa using e
  split at h
  .rename_i s' T r' l' zH
   cases hb:aqV s' s with
   |false=>rw[hb]at h;cases h;exact hu
   |true=>
    rw[hb]at h;obtain rfl:=Nat.eq_of_beq_eq_true hb;cases h;exact Ca hs zH hu
  .cases h;exact hu
 .cases h
def pu:Nat->(r:Row)->r.den->(e:Row)->Option (List e.den)
 |1,r,x,e=>if h:r.beq e=af then aa [lS (Row.eq_of_beq h) x]else ae
 |m+2, .pair a b,x,e=>if h:a.beq e=af then(match pu (m+1) b x.2 e with
  |some l=>aa (lS (Row.eq_of_beq h) x.1::l)
  |none=>ae)else ae
 |_,_,_,_=>ae
def KH{e:Row}{b:Nat}:{m:Nat}->{r:Row}->{x:r.den}->{l:List e.den}->{off:Nat}->pu m r x e=aa l->At F w r b off x->l.length=m/\∀i(h:i<l.length),At F w e b (off+i*e.size) l[i]
 |0,r,x,l,off,h,_=>by unfold pu at h;cases h
 |1,r,x,l,off,h,ha=>by
  unfold pu at h;split at h
  case isFalse=>cases h
  rename_i hb;obtain rfl:=Row.eq_of_beq hb;obtain rfl:=aqP h;refine⟨rfl,λi hi=>?_⟩
  obtain rfl:i=0:=by grind
  rw[Nat.zero_mul,Nat.add_zero];exact ha
 |m+2, .pair a b',x,l,off,h,ha=>by
  unfold pu at h;split at h
  case isFalse=>cases h
  rename_i hb;obtain rfl:=Row.eq_of_beq hb;split at h
  case h_2=>cases h
  rename_i l' hl;obtain rfl:=aqP h;obtain⟨g1,g2⟩:=KH hl (ha.snd _ rfl);refine⟨by simp[g1],λi hi=>?_⟩
  cases i with
  |zero=>
   rw[Nat.zero_mul,Nat.add_zero];exact ha.fst
  |succ i=>
   grind
 |m+2, .int _,_,_,_,h,_=>by unfold pu at h;cases h
 |m+2, .bool,_,_,_,h,_=>by unfold pu at h;cases h
 |m+2, .str,_,_,_,h,_=>by unfold pu at h;cases h
 |m+2, .slice _,_,_,_,h,_=>by unfold pu at h;cases h
 |m+2, .od,_,_,_,h,_=>by unfold pu at h;cases h
 |m+2, .nul _,_,_,_,h,_=>by unfold pu at h;cases h
 |m+2, .map ..,_,_,_,h,_=>by unfold pu at h;cases h
def uO{t e:TypeId}{x y:Operand}{kd:IntKind}{a:Int}{ti:TypeInfo}{m q7 off i:Nat}(size:Nat)(ht:P.underlying t=aa (.array m e))(hi:P.info? e=aa ti)(po:ti.size=size)
 (hx:ev ρ x= .pointer (aa ⟨q7,off,ae⟩))(hy:ev ρ y= .int kd a)(ha:a=(i:Int))(aF:i<m):
 Pure P ρ ⟨aa d, .indexAddr t x y,ty,pos,aft,ae⟩ (.pointer (aa ⟨q7,off+i*size,ae⟩)):=λw=>by
 subst po;subst ha;simp[execOp,Instr.indexAt,Instr.sureAddr,asIntOf,run_underlying ht,sizeOf,typeInfo,hi,hx,hy,aF,dV]
def KI{α:Type}{b:Bool}{x:Option α}{y:α}(h:(bif b then x else ae)=aa y):b=af/\x=aa y:=by
 grind
def tQ(T:bz P)(m:Nat)(e:TypeId)(D:aI)(i:Int)(k:fF->Option R):Option R:=
 match find T.row e with
 |some re=>match D with
  | .at r x=>match pu m r x re with
    |some l=>(idx l i).bind λy=>k {dst:= .at re y}
    |none=>ae
  | .ptr o p off=>match i with
    | .ofNat j=>bif aru j m then k {dst:= .ptr o (p++vU m j) (off+j*re.size)}else ae
    | .negSucc _=>ae
  |_=>ae
 |none=>ae
def IM(T:bz P){t:TypeId}{m:Nat}{e:TypeId}(hu:P.underlying t=aa (.array m e)){D:aI}{x y:Operand}{kd:IntKind}{i:Int}{k:fF->Option R}{q:R}(h:tQ T m e D i k=aa q)(hs:aP U H F w ob n)(hx:aH H F w D (ev ρ x))(hy:ev ρ y= .int kd i):
 ∃e,k e=aa q/\cX P U H F w ρ ob n ⟨aa d, .indexAddr t x y,ty,pos,aft,ae⟩ e:=by
 unfold tQ at h;split at h
 case h_2=>cases h
 rename_i re hr;obtain⟨ti,z,h1,_,_,h4,_⟩:=T.row_ok _ _ hr;split at h
 case h_3=>cases h
 case h_2=>
  split at h
  case h_2=>cases h
  rename_i o p off _ j;obtain⟨aF,hk⟩:=KI h
  have aF:j<m:=by simpa using aF
  obtain⟨b,hb,hv⟩:=hx;exact⟨_,hk,bo hs (uO re.size hu h1 h4 hv hy rfl aF) ⟨b,hb,rfl⟩⟩
 rename_i r v;split at h
 case h_2=>cases h
 rename_i l hl;obtain⟨a,ha,hk⟩:=bind_some h;obtain⟨b,off,hv,hF,Bq⟩:=hx;obtain⟨g1,g2⟩:=KH hl Bq;obtain⟨j,hj,aF,rfl⟩:=jI ha;exact⟨_,hk,bo hs (uO re.size hu h1 h4 hv hy hj (by omega)) ⟨b,_,rfl,hF,g2 j aF⟩⟩
def w8(T:bz P)(ob:Nat->Option (Nat×Th))(t:TypeId)(D:aI)(i:Int)(k:fF->Option R):Option R:=
 match find T.und t with
 |some (.slice e)=>match find T.row e with
  |some re=>match yH ob D with
   |some (.read r l)=>bif aqV r.size re.size then(idx l i).bind λx=>k {dst:= .at r x}else ae
   |some (.own o s _ r l)=>bif aqV r.size re.size then(idx l i).bind λx=>k {dst:= .elem o s r i x [] 0}else ae
   |some (.deep o _ _ d l _)=>bif aqV d.low.size re.size then(idx l i).bind λ_=>k {dst:= .dlm o d i [] 0}else ae
   |_=>ae
  |none=>ae
 |some (.array m e)=>tQ T m e D i k
 |_=>ae
def MK(T:bz P){t:TypeId}{D:aI}{x y:Operand}{kd:IntKind}{i:Int}{k:fF->Option R}{q:R}(h:w8 T ob t D i k=aa q)(hs:aP U H F w ob n)(hx:aH H F w D (ev ρ x))(hy:ev ρ y= .int kd i):
 ∃e,k e=aa q/\cX P U H F w ρ ob n ⟨aa d, .indexAddr t x y,ty,pos,aft,ae⟩ e:=by
 unfold w8 at h;split at h
 case h_3=>cases h
 case h_2=>rename_i m e hu;exact IM T (T.und_ok _ _ hu) h hs hx hy
 rename_i e hu;have hu:=T.und_ok _ _ hu;split at h
 case h_2=>cases h
 rename_i re hr;obtain⟨ti,z,h1,_,_,h4,_⟩:=T.row_ok _ _ hr;split at h
 .rename_i r l jL
  cases hz:aqV r.size re.size with
  |false=>grind
  |true=>
   rw[hz,cond_true]at h;have hz:=beq_true hz;obtain⟨a,ha,hk⟩:=bind_some h;have jL:=k6 hs jL hx;obtain⟨b,off,cap,j,hv,hj,aF,hF,Bq⟩:=dy.elemAt jL ha;refine⟨_,hk,bo hs (pV r.size hu h1 (h4.trans hz.symm) hv hy hj aF) ⟨b,_,rfl,hF,Bq⟩⟩
 .rename_i o s T' r l jL
  cases hz:aqV r.size re.size with
  |false=>grind
  |true=>
   rw[hz,cond_true]at h;have hz:=beq_true hz;obtain⟨a,ha,hk⟩:=bind_some h;obtain⟨hv,de,fU⟩:=k6 hs jL hx;obtain⟨v',ga,dC⟩:=hs.obj _ _ _ de;obtain⟨j,hj,aF,hja⟩:=jI ha;obtain⟨_,xs,KG,_⟩:=fU
   rcases KG.2 with⟨PT,h0⟩|⟨g,o0,cap,cur,ML,_,_,_⟩
   .omega
   .have hp:=pV (P:=P) (d:=aa d) (ty:=ty) (pos:=pos) (aft:=aft) r.size hu h1 (h4.trans hz.symm) ML hy hj aF;refine⟨_,hk,bo hs hp ⟨g,o0,j,T',l.length,cap,l,?_,hj,dC.con,ha,rfl⟩⟩
    grind
 .rename_i o s T' d' l hh jL;obtain⟨hz,h⟩:=KI h;have hz:=beq_true hz;obtain⟨a,ha,hk⟩:=bind_some h;obtain⟨hv,de,dC⟩:=k6 hs jL hx;obtain⟨j,hj,aF,hja⟩:=jI ha;obtain⟨lh,_,⟨xs,KG,_⟩,WL,_⟩:=dC.ok
  rcases KG.2 with⟨PT,h0⟩|⟨g,o0,cap,cur,ML,_,_,_⟩
  .omega
  .have hp:=pV (P:=P) (d:=aa d) (ty:=ty) (pos:=pos) (aft:=aft) d'.low.size hu h1 (h4.trans hz.symm) ML hy hj (by omega);refine⟨_,hk,bo hs hp ⟨g,o0,j,lh.length,cap,?_,hj,rfl⟩⟩
   grind
 .cases h
theorem zI{b:Nat}{T:TypeId}{es:List Value}(hh:w.heap[b]? =aa (.cells es.toArray T (0,0)))(j:Nat):w.cell? ⟨b,j,ae⟩=es[j]? :=by
 rw[cell_of_row w b j _ T (0,0) hh];simp
theorem rc(T:bz P){t:TypeId}{kk:OU}(hu:find T.und t=aa kk){x:Operand}{b off:Nat}{s:Tree}{cs:List Value}(hx:ev ρ x= .pointer (aa ⟨b,off,ae⟩))(hs:aP U H F w ob n)
 (hh:Holds H F w s cs)(hc:∀j u,cs[j]? =aa u->w.cell? ⟨b,off+j,ae⟩=aa u)
 (hz:if mT kk=af then∃r,find T.row t=aa r/\r.size=s.size else s.size=1):
 cX P U H F w ρ ob n ⟨aa d, .load t x,ty,pos,aft,ae⟩ {dst:= .val (mT kk) s}:=by
 obtain⟨dd,yB,yC⟩:=(T.und_ok _ _ hu).agg;have hl:=hh.length
 cases ha:mT kk with
 |true=>
  rw[aj ha]at hz;obtain⟨r,hr,Ta⟩:=hz;obtain⟨ti,z,h1,_,_,h4,_⟩:=T.row_ok _ _ hr;exact cm hs (Mr yB (yC.trans ha) h1 (by omega) hx hc) ⟨cs,hh,rfl,by simp⟩
 |false=>
  rw[ai (by simp[ha])]at hz
  obtain⟨v,rfl⟩:∃v,cs=[v]:=by
   match cs,hl.trans hz with
   |[v],_=>grind
  exact cm hs (B4 yB (yC.trans ha) hx (hc 0 v rfl)) ⟨[v],hh,rfl,λ_=>rfl⟩
def pX(T:bz P)(t:TypeId)(kk:OU)(m:Nat):Bool:=
 bif mT kk then(match find T.row t with|some r=>aqV r.size m|none=>ag)else aqV m 1
theorem mF(T:bz P){t:TypeId}{kk:OU}{m:Nat}(h:pX T t kk m=af):if mT kk=af then∃r,find T.row t=aa r/\r.size=m else m=1:=by
 grind [pX,beq_true]
def Cb(T:bz P)(ob:Nat->Option (Nat×Th))(t:TypeId)(D:aI)(k:fF->Option R):Option R:=
 match find T.und t with
 |none=>ae
 |some kk=>match D with
  | .at r x=>bif pX T t kk r.size then k {dst:= .val (mT kk) (.leaf r x)}else ae
  | .ptr o p off=>match ob o with
    |some (_, .box _ tr)=>match tr.get p with
     |some (s,fJ)=>bif aqV fJ off&&pX T t kk s.size then k {dst:= .val (mT kk) s}else ae
     |none=>ae
    |_=>ae
  | .elem o s r i x p off=>match ob o with
    |some (s', .own _ r' l)=>bif aqV s' s then
      (match sub r x p with
      |some ⟨q,y,fJ⟩=>bif aqV fJ off&&pX T t kk q.size then k {dst:= .val (mT kk) (.leaf q y)}else ae
      |none=>ae)
     else(idx l i).bind λx'=>match sub r' x' p with
      |some ⟨q,y,fJ⟩=>bif aqV fJ off&&pX T t kk q.size&&aqV r'.size r.size then k {dst:= .val (mT kk) (.leaf q y)}else ae
      |none=>ae
    |_=>ae
  |_=>ae
def bi{α:Type}{b:Bool}{x:Option α}{y:α}(h:(bif b then x else ae)=aa y):b=af/\x=aa y:=by
 grind
def c7{a b:Bool}(h:(a&&b)=af):a=af/\b=af:=by simpa using h
def KJ(hs:aP U H F w ob n){o s':Nat}{T':TypeId}{r':Row}{i:Int}{x':r'.den}{l:List r'.den}{g o0 q m cap:Nat}(de:ob o=aa (s', .own T' r' l))(hv:H.val o=aa (.slice (aa ⟨g,o0,ae⟩) m cap))(hq:i=(q:Nat))(hi:idx l i=aa x'):
 At F w r' g (o0+q*r'.size) x':=(hs.own de hv).at rfl hq hi
def PU(T:bz P){t:TypeId}{D:aI}{x:Operand}{k:fF->Option R}{q:R}(h:Cb T ob t D k=aa q)(hs:aP U H F w ob n)(hx:aH H F w D (ev ρ x)):
 ∃e,k e=aa q/\cX P U H F w ρ ob n ⟨aa d, .load t x,ty,pos,aft,ae⟩ e:=by
 unfold Cb at h;split at h
 .cases h
 rename_i kk hu;split at h
 .rename_i r y;obtain⟨h1,h2⟩:=bi h;obtain⟨b,off,e,hF,es,hl,hc,hr⟩:=hx;exact⟨_,h2,rc T hu e hs (s:= .leaf r y) hr hc (mF T h1)⟩
 .rename_i o p off;split at h
  .rename_i st0 T0 tr de;split at h
   .rename_i s fJ hg;obtain⟨h1,h2⟩:=bi h;obtain⟨h1,h3⟩:=c7 h1;obtain rfl:=beq_true h1;obtain⟨b,hb,e⟩:=hx;obtain⟨es,hh,VO⟩:=hs.box de hb;obtain⟨g1,g2⟩:=VO.get hg
    grind [rc,mF,zI]
   .cases h
  .cases h
 .rename_i o s r i y p off;split at h
  .rename_i s' T0 r' l de;obtain⟨g,o0,qq,T',m,cap,l0,e1,e2,e3,e4,e5⟩:=hx
   cases sB:aqV s' s with
   |true=>
    rw[sB,cond_true]at h;obtain rfl:=beq_true sB;obtain⟨v,hv,dC⟩:=hs.obj _ _ _ de;have hc:=dC.con;rw[e3]at hc
    obtain⟨rfl,Fg⟩:T'=T0/\(⟨r,l0⟩:(r:Row)×List r.den)=⟨r',l⟩:=by
     grind [Th.base]
    cases Fg;split at h
    .rename_i q' y' fJ kC;obtain⟨h1,h2⟩:=bi h;obtain⟨h1,h3⟩:=c7 h1;obtain rfl:=beq_true h1;obtain⟨es,hl,TE,hr⟩:=IJ kC (KJ hs de e1 e2 e4);exact⟨_,h2,rc T hu e5 hs (s:= .leaf q' y') hr TE (mF T h3)⟩
    .cases h
   |false=>
    rw[sB,cond_false]at h;obtain⟨x',TB,h⟩:=bind_some h;split at h
    .rename_i q' y' fJ kC;obtain⟨h1,h2⟩:=bi h;obtain⟨h1,h4⟩:=c7 h1;obtain⟨h1,h3⟩:=c7 h1;obtain rfl:=beq_true h1;have h4:=beq_true h4;obtain⟨es,hl,TE,hr⟩:=IJ kC (KJ hs de e1 e2 TB);rw[h4]at TE;exact⟨_,h2,rc T hu e5 hs (s:= .leaf q' y') hr TE (mF T h3)⟩
    .cases h
  .cases h
 .cases h
end
end Go.Proofs.YtfeahmiobbjklaaGreatDoor
namespace Go.Proofs.YtfeahmiobbjklaaGreatDoor
open Go Go.RowKit
def IN:(r:Row)->List Bool->Option ((s:Row)×Path r s)
 |r,[]=>aa ⟨r, .here⟩
 | .pair a b,d::p=>match d with
   |false=>match IN a p with
    |some ⟨s,q⟩=>aa ⟨s, .fst q⟩
    |none=>ae
   |true=>match IN b p with
    |some ⟨s,q⟩=>aa ⟨s, .snd q⟩
    |none=>ae
 |_,_::_=>ae
section
variable {P:Program} {ρ:Nat->Value} {w w':World} {H H':aN} {F F':Nat->Prop} {U:Nat->Prop} {ob:Nat->Option (Nat×Th)} {n:Nat} {R:Type}
variable {op:Op} {ty:TypeId} {pos:String} {aft:Array Edge} {d:Nat}
def aN.bR(H:aN)(s:Nat)(t:Th):aN:=⟨H.val,λm=>if m=s then aa t else H.con m,H.sub⟩
def aN.dh(H:aN)(o:Nat)(v:Value):aN:=⟨λm=>if m=o then aa v else H.val m,H.con,H.sub⟩
def aN.fV(H:aN)(s:Nat)(S:Nat->Prop):aN:=⟨H.val,H.con,λm=>if m=s then S else H.sub m⟩
def aN.iU{H:aN}{s:Nat}{t:Th}(h:H.con s=ae):H.le (H.bR s t):=⟨λ_ _ h=>h,λm q hq=>by
 grind [aN.bR],λ_ _ _=>rfl⟩
def aN.MM{H:aN}{s:Nat}{S:Nat->Prop}(h:H.con s=ae):H.le (H.fV s S):=⟨λ_ _ h=>h,λ_ _ h=>h,λm t hm=>by
 grind [aN.fV]⟩
def aN.tR{H:aN}{s:Nat}{t:Value}(h:H.val s=ae):H.le (H.dh s t):=⟨λm q hq=>by
 grind [aN.dh],λ_ _ h=>h,λ_ _ _=>rfl⟩
theorem gH{α:Type}{o o':Nat}{x y:α}(h:find [(o,x)] o'=aa y):o'=o/\y=x:=by
 rw[bp]at h;split at h
 .grind
 .cases h
def oh.yX(hs:aP U H F w ob n){o s:Nat}{t t':Th}{v0:Value}(ho:ob o=aa (s,t))(hv:H.val o=aa v0)(hb:t'.base=t')(Tb:∀k,fp (H.sub n) v0 t' k->fp (H.sub s) v0 t k){D:aI}{v:Value}
 (ct:Ext (fp (H.sub s) v0 t) w w')(qk:kA (H.bR n t') F w' (H.sub n) v0 t')(hd:aH (H.bR n t') F w' D v):pB H F w ob n {dst:=D,eat:=[o],make:=[(o,(n,t'))]} v w':=by
 obtain⟨v1,vK,dC⟩:=hs.obj _ _ _ ho;rw[hv]at vK;obtain rfl:=aqP vK
 have mv:∀k,fp (H.sub s) v0 t k->cT H ob [o] k:=λk hk=>⟨o,by simp,s,t,v0,ho,hv,hk⟩
 refine⟨H.bR n t',F,⟨aN.iU (hs.fresh n (aqU _) (by omega)).2,⟨ct.os,ct.tape,ct.output,ct.size,λk hk hn=>ct.block k hk λe=>hn (mv k e)⟩,λ_ h=>h,λ_ h=> .inl h,λb hb=>arh (hs.lt b hb) ct.size⟩,λm hm=>?_,hd,⟨λo' s' q hq=>?_,λo1 o2 s1 s2 q1 q2 u1 u2 eG h1 h2=>?_⟩,λo' h=>?_⟩
 .grind [aN.bR]
 .obtain⟨rfl,e⟩:=gH hq;obtain⟨rfl,rfl⟩:=Prod.mk.inj e;refine⟨v0,hv,dC.one,by simp[aN.bR,hb],qk,λk hk=>⟨dC.no k (Tb k hk),arh (dC.lt k (Tb k hk)) ct.size, .inr (mv k (Tb k hk))⟩⟩
 all_goals grind [gH,arw]
def oh.new(hs:aP U H F w ob n){eat:List Nat}{t:Th}{v0:Value}(hb:t.base=t)(h1:v0.oneCell'=af){D:aI}{v:Value}
 (ct:Ext (cT H ob eat) w w')(qk:kA ((H.bR n t).dh n v0) F w' (H.sub n) v0 t)(Tb:∀k,fp (H.sub n) v0 t k->¬F k/\k<w'.heap.size/\(w.heap.size<=k\/cT H ob eat k))
 (hd:aH ((H.bR n t).dh n v0) F w' D v):pB H F w ob n {dst:=D,eat:=eat,make:=[(n,(n,t))]} v w':=by
 have hf:=hs.fresh n (aqU _) (by omega);refine⟨(H.bR n t).dh n v0,F,⟨(aN.iU hf.2).trans (aN.tR (by simp[aN.bR,hf.1])),ct,λ_ h=>h,λ_ h=> .inl h,λb hb=>arh (hs.lt b hb) ct.size⟩,λm hm=>?_,hd,⟨λo' s' q hq=>?_,λo1 o2 s1 s2 q1 q2 u1 u2 eG h1 h2=>?_⟩,λo' h=>?_⟩
 .simp[aN.bR,aN.dh,show m≠n from by omega]
 .obtain⟨rfl,e⟩:=gH hq;obtain⟨rfl,rfl⟩:=Prod.mk.inj e;exact⟨v0,by simp[aN.dh],h1,by simp[aN.bR,aN.dh,hb],qk,Tb⟩
 .grind [gH]
 .right
  obtain⟨y,hy⟩:=arw.1 h
  grind [gH]
def w9(T:bz P)(ob:Nat->Option (Nat×Th))(n:Nat)(t:TypeId)(D V:aI)(k:fF->Option R):Option R:=
 match find T.row t with
 |none=>ae
 |some rt=>match V with
  | .val _ u=>match D with
    | .ptr o p off=>match ob o with
      |some (_, .box T0 tr)=>match tr.get p with
       |some (s,fJ)=>bif aqV fJ off&&aqV rt.size s.size&&aqV u.size s.size then
         (match tr.put p u with
         |some tr'=>k {dst:= .dead,eat:=[o],make:=[(o,(n, .box T0 tr'))]}
         |none=>ae)else ae
       |none=>ae
      |_=>ae
    | .elem o s r i x p off=>match ob o with
      |some (s', .own T0 r' l)=>match IN r' p with
       |some ⟨q,Cc⟩=>bif aqV Cc.off off&&aqV rt.size q.size&&aqV r'.size r.size then
         (match flat ob q u with
         |some y=>bif aqV s' s then
           (if h:r.beq r'=af then k {dst:= .dead,eat:=[o],make:=[(o,(n, .own T0 r' (bH l i (Cc.set (lS (Row.eq_of_beq h) x) y))))]}else ae)
          else(idx l i).bind λx'=>k {dst:= .dead,eat:=[o],make:=[(o,(n, .own T0 r' (bH l i (Cc.set x' y))))]}
         |none=>ae)else ae
       |none=>ae
      |_=>ae
    |_=>ae
  |_=>ae
def bg.cells{agg:Bool}{t:Tree}{v:Value}(h:bg H F w agg t v):∃cs,Holds H F w t cs/\v.cells.toList=cs:=by
 obtain⟨cs,h1,h2,h3⟩:=h;refine⟨cs,h1,?_⟩
 cases agg with
 |true=>rw[h2];rfl
 |false=>
  have e:=h3 rfl;have h1c:=h1.mb v (by rw[e];simp);rw[e]
  cases v<;>first|rfl|simp[ar8]at h1c
def zJ(T:bz P){t:TypeId}{rt:Row}(PV:find T.row t=aa rt){x y:Operand}{o s':Nat}{T0:TypeId}{r q:Row}{i:Int}{x':r.den}{z:q.den}{l:List r.den}{p:Path r q}{off g o0 j m cap:Nat}{agg:Bool}{u:Tree}
 (hs:aP U H F w ob n)(de:ob o=aa (s', .own T0 r l))(hv:H.val o=aa (.slice (aa ⟨g,o0,ae⟩) m cap))(hj:i=(j:Nat))(hi:idx l i=aa x')(hx:ev ρ x= .pointer (aa ⟨g,o0+j*r.size+off,ae⟩))(TF:p.off=off)(hz:rt.size=q.size)
 (hf:flat ob q u=aa z)(hV:bg H F w agg u (ev ρ y)):
 cX P U H F w ρ ob n ⟨ae, .store t x y,ty,pos,aft,ae⟩ {dst:= .dead,eat:=[o],make:=[(o,(n, .own T0 r (bH l i (p.set x' z))))]}:=by
 obtain⟨ti,z0,h1,_,_,h4,_⟩:=T.row_ok _ _ PV;obtain⟨cs,tP,Bt⟩:=hV.cells;have hr:=jz hs hf tP;have fU:=hs.own de hv;obtain⟨k',hk,aF,rfl⟩:=jI hi
 obtain rfl:k'=j:=by omega
 obtain⟨cur,hh,hle,ct,jK⟩:=fU.put rfl aF hs.lt p hr;subst TF;refine cP.unit (rQ h1 (h4.trans (hz.trans hr.length.symm)) hx rfl Bt hr.mb hh hle) ?_;refine oh.yX (t':= .own T0 r (bH l i (p.set l[k'] z))) (D:= .dead) hs de hv rfl (λ_ h=>h) ct ?_ trivial;have:kA (H.bR n (.own T0 r (bH l i (p.set l[k'] z)))) F (w.setRow g (cur.toList.take (o0+k'*r.size+p.off)++cs++cur.toList.drop (o0+k'*r.size+p.off+cs.length)).toArray) (H.sub n) (.slice (aa ⟨g,o0,ae⟩) m cap) (.own T0 r (l.set k' (p.set l[k'] z))):=jK.2
 grind [bH,aqX]
def MN(T:bz P){t:TypeId}{D V:aI}{x y:Operand}{k:fF->Option R}{q:R}(h:w9 T ob n t D V k=aa q)(hs:aP U H F w ob n)(hx:aH H F w D (ev ρ x))(hy:aH H F w V (ev ρ y)):
 ∃e,k e=aa q/\cX P U H F w ρ ob n ⟨ae, .store t x y,ty,pos,aft,ae⟩ e:=by
 unfold w9 at h;split at h
 .cases h
 rename_i rt PV;split at h
 case h_2=>cases h
 rename_i agg u;split at h
 .rename_i o p off;split at h
  case h_2=>cases h
  rename_i s0 T0 tr de;split at h
  case h_2=>cases h
  rename_i s fJ hg;obtain⟨h1,h2⟩:=bi h;obtain⟨h1,KL⟩:=c7 h1;obtain⟨h1,IP⟩:=c7 h1;obtain rfl:=beq_true h1;have IP:=beq_true IP;have KL:=beq_true KL;split at h2
  case h_2=>cases h2
  rename_i tr' hp;obtain⟨b,hb,e⟩:=hx;obtain⟨es,hh,VO⟩:=hs.box de hb;obtain⟨cs,tP,Bt⟩:=bg.cells hy;have hl:=tP.length;have hle:=(VO.get hg).2;have w5:=Holds.put tP hg hp KL.symm VO;obtain⟨ti,z0,g1,_,_,g4,_⟩:=T.row_ok _ _ PV;refine⟨_,h2,cP.unit (rQ g1 (by omega) e rfl Bt tP.mb hh (by simp;omega)) ?_⟩
  have Y3:¬F b:=by
   obtain⟨v1,vK,dC⟩:=hs.obj _ _ _ de;rw[hb]at vK;obtain rfl:=aqP vK;exact dC.no b rfl
  have ct:Ext (fp (H.sub s0) (.pointer (aa ⟨b,0,ae⟩)) (.box T0 tr)) w (w.setRow b (es.toArray.toList.take fJ++cs++es.toArray.toList.drop (fJ+cs.length)).toArray):=
   ⟨rfl,⟨rfl,aqU _⟩,rfl,by simp,λk _ hk=>setRow_other w b k _ λe=>hk (by simp[fp,e])⟩
  refine oh.yX (t':= .box T0 tr') (D:= .dead) hs de hb rfl (λk hk=>hk) ct ⟨b,_,rfl,setRow_heap w b _ _ T0 (0,0) hh,?_⟩ trivial
  have hk:=w5.keep (H':=H.bR n (.box T0 tr')) (aN.iU (hs.fresh n (aqU _) (by omega)).2) (Step.ext ct hs.lt λk hk=>by
   grind [fp])
  grind
 .rename_i o s r i x0 p off;split at h
  case h_2=>cases h
  rename_i s' T0 r' l de;split at h
  case h_2=>cases h
  rename_i q' Cc DC;obtain⟨h1,h2⟩:=bi h;obtain⟨h1,KL⟩:=c7 h1;obtain⟨h1,IP⟩:=c7 h1;have h1:=beq_true h1;have IP:=beq_true IP;have KL:=beq_true KL;split at h2
  case h_2=>cases h2
  rename_i z hf;obtain⟨g,o0,qq,T',m,cap,l0,e1,e2,e3,e4,e5⟩:=hx;rw[<-KL]at e5
  cases sB:aqV s' s with
  |true=>
   rw[sB,cond_true]at h2;obtain rfl:=beq_true sB;split at h2
   case isFalse=>cases h2
   rename_i Ft;obtain⟨v,hv,dC⟩:=hs.obj _ _ _ de;have hc:=dC.con;rw[e3]at hc
   obtain⟨rfl,Fg⟩:T'=T0/\(⟨r,l0⟩:(r:Row)×List r.den)=⟨r',l⟩:=by
    grind [Th.base]
   cases Fg;exact⟨_,h2,zJ T PV hs de e1 e2 e4 e5 h1 IP hf hy⟩
  |false=>
   rw[sB,cond_false]at h2;obtain⟨x',TB,h2⟩:=bind_some h2;exact⟨_,h2,zJ T PV hs de e1 e2 TB e5 h1 IP hf hy⟩
 .cases h
def PW(hs:aP U H F w ob n){t:TypeId}{tr:Tree}{cs:List Value}(hh:Holds H F w tr cs):
 pB H F w ob n {dst:= .ptr n [] 0,make:=[(n,(n, .box t tr))]} (.pointer (aa ⟨w.heap.size,0,ae⟩)) (w.alloc (.cells cs.toArray t)):=by
 have ct:Ext (cT H ob []) w (w.alloc (.cells cs.toArray t)):=⟨rfl,⟨rfl,aqU _⟩,rfl,by simp,λk hk _=>Below.heap_alloc w _ k hk⟩
 have hf:=hs.fresh n (aqU _) (by omega);refine oh.new (v0:= .pointer (aa ⟨w.heap.size,0,ae⟩)) hs rfl rfl ct ⟨_,cs,rfl,heap_alloc_new w _,?_⟩ (λk hk=>?_) ⟨w.heap.size,by simp[aN.dh],rfl⟩
 .exact hh.keep ((aN.iU hf.2).trans (aN.tR (by simp[aN.bR,hf.1]))) (Step.alloc hs.lt _)
 .simp only[fp,Value.pointer.injEq,aq2,Addr.mk.injEq,and_true]at hk;subst hk;exact⟨λe=>by have:=hs.lt _ e;omega,by simp, .inl (aqU _)⟩
def xc(T:bz P)(n:Nat)(t:TypeId)(k:fF->Option R):Option R:=
 match find T.row t with
 |some r=>k {dst:= .ptr n [] 0,make:=[(n,(n, .box t r.Fq))]}
 |none=>ae
def MO(T:bz P){t:TypeId}{k:fF->Option R}{q:R}(h:xc T n t k=aa q)(hs:aP U H F w ob n):
 ∃e,k e=aa q/\cX P U H F w ρ ob n ⟨aa d, .alloc t,ty,pos,aft,ae⟩ e:=by
 unfold xc at h;split at h
 case h_2=>cases h
 rename_i r hr;obtain⟨ti,z,h1,h2,h3,_,_⟩:=T.row_ok _ _ hr;refine⟨_,h,cP.val (Mx h1 h2) ?_⟩;have:=PW (t:=t) hs (Row.qn H F w r);rw[<-h3,arL]at this;exact this
def MP(n:Nat)(t:TypeId)(V:aI)(k:fF->Option R):Option R:=
 match V with
 | .val _ u=>k {dst:= .ptr n [] 0,make:=[(n,(n, .box t u))]}
 |_=>ae
def TG{t:TypeId}{V:aI}{x:Operand}{k:fF->Option R}{q:R}(h:MP n t V k=aa q)(hs:aP U H F w ob n)(hx:aH H F w V (ev ρ x)):
 ∃e,k e=aa q/\cX P U H F w ρ ob n ⟨aa d, .box t x,ty,pos,aft,ae⟩ e:=by
 unfold MP at h;split at h
 case h_2=>cases h
 rename_i agg u;obtain⟨cs,tP,Bt⟩:=bg.cells hx;refine⟨_,h,cP.val (Tu rfl) ?_⟩;have:=PW (t:=t) hs tP;rw[<-Bt,arL]at this;exact this
end
end Go.Proofs.YtfeahmiobbjklaaGreatDoor
end
namespace Go.Proofs.YtfeahmiobbjklaaGreatDoor
open Go Go.RowKit
set_option maxRecDepth 100000
set_option linter.unusedSimpArgs false
set_option linter.unusedVariables false
set_option linter.defProp false
section
section
variable {P:Program} {ρ:Nat->Value} {w w':World} {H H':aN} {F F':Nat->Prop} {U:Nat->Prop} {ob:Nat->Option (Nat×Th)} {n:Nat} {R:Type}
variable {op:Op} {ty:TypeId} {pos:String} {aft:Array Edge} {d:Nat}
def tS{base:Nat}{T:TypeId}{r:Row}{v:Value}{l:List r.den}(h:pz base F w T r v l):v.oneCell'=af:=by
 obtain⟨A,cap,rfl,_⟩:=h.reads;rfl
def qp{H:aN}{o:Nat}{v:Value}(h:H.val o=aa v)(h1:v.oneCell'=af):aH H F w (.val ag (.own o)) v:=⟨[v],⟨v,h,h1,rfl⟩,rfl,λ_=>rfl⟩
def xd(hs:aP U H F w ob n){e:TypeId}{r:Row}{v:Value}{l:List r.den}{eat:List Nat}(ct:Ext (cT H ob eat) w w')(ho:pz 0 F w' e r v l)(hn:∀k,cx v k->cT H ob eat k\/w.heap.size<=k):
 pB H F w ob n {dst:= .val ag (.own n),eat:=eat,make:=[(n,(n, .own e r l))]} v w':=
 oh.new (v0:=v) hs rfl (tS ho) ct ho.2 (λk hk=>⟨ho.1 k hk,ho.lt k hk,(hn k hk).symm⟩) (qp (by simp[aN.dh]) (tS ho))
def rf{g:Nat->Prop}(o:Obj):Ext g w (w.alloc o):=⟨rfl,⟨rfl,aqU _⟩,rfl,by simp,λk hk _=>Below.heap_alloc w _ k hk⟩
def mkC{α:Type}(a b:Int)(z:α):Option (List α):=if 0<=a/\a<=b/\b<=4294967296 then aa (aqW a.toNat z)else ae
def sW:Operand->Operand->Bool
 | .tmp a, .tmp b=>aqV a b
 | .const (.int _ a), .const (.int _ b)=>decide (a=b)
 |_,_=>ag
def Cf{e t:TypeId}{r:Row}{a b:Int}(ht:P.underlying t=aa (.slice e))(vW:TI P e r)(hs:aP U H F w ob n){ka kb:IntKind}{x y:Operand}(hx:ev ρ x= .int ka a)(hy:ev ρ y= .int kb b)(h0:0<=a)(h1:a<=b)(h2:b<=4294967296):
 ∃v w',(execOp (ev ρ) ⟨aa d, .makeSlice t x y,ty,pos,aft,ae⟩).run P w= .ok (.value v) w'/\(∀g,Ext g w w')/\pz 0 F w' e r v (aqW a.toNat r.zero)/\∀k,cx v k->w.heap.size<=k:=by
 obtain⟨ti,z,hi,hz,Zx,po,OR⟩:=vW;obtain⟨ca,rfl⟩:=aqY h0;obtain⟨cb,rfl⟩:=aqY (Int.le_trans h0 h1)
 have hc:cb<=4294967296:=by omega
 have B3:ti.bytes*cb<=281474976710656:=ark (Nat.mul_le_mul OR hc) (by omega)
 have u0:(ti.bytes:Int)*(cb:Int)<=281474976710656:=by
  have h:((ti.bytes*cb:Nat):Int)<=281474976710656:=by omega
  rwa [arC]at h
 have bP:=run_make (P:=P) w t e ti z ht hi hz ka kb ca cb (by omega) (by omega) u0 (by omega)
 have hzl:z.cells=r.gF.toArray:=by rw[<-Zx,arL]
 have hzn:r.gF.length=r.size:=(dy.zero F w r).length;have qe:=r.size_pos;simp only[aqX]at bP;refine⟨.slice (aa ⟨w.heap.size,0,ae⟩) ca cb,w.alloc (.cells (madeCells z.cells (cb*ti.size)) e),by simp[execOp,hx,hy,bP],λ_=>rf _,⟨λq hq=>?_,(madeCells z.cells (cb*ti.size)).toList.take (ca*r.size),?_,?_⟩,λq hq=>?_⟩
 .simp only[cx,are,aq2]at hq;intro e;have:=hs.lt _ e;omega
 .have hle:ca*r.size<=cb*r.size:=aq4 _ (by omega);have adK:=size_madeCells z.cells (cb*ti.size);refine qg.of ⟨by grind, .inr ⟨w.heap.size,cb,madeCells z.cells (cb*ti.size),by simp,Nat.zero_le _,heap_alloc_new w _,by simp;omega,by simp[maxLen];omega,by rw[adK,po],by simp⟩⟩
 .intro i aF;simp only[aqX,List.length_replicate]at aF;have hle:(i+1)*r.size<=ca*r.size:=aq4 _ aF
  grind [PB,dy.zero,List.drop_take]
 .simp only[cx,are,aq2]at hq;omega
def Fu{e t:TypeId}{r:Row}{a b:Int}(ht:P.underlying t=aa (.slice e))(vW:TI P e r)(hs:aP U H F w ob n){ka kb:IntKind}{x y:Operand}(hx:ev ρ x= .int ka a)(hy:ev ρ y= .int kb b)(h0:0<=a)(h1:a<=b)(h2:b<=4294967296):
 cX P U H F w ρ ob n ⟨aa d, .makeSlice t x y,ty,pos,aft,ae⟩ {dst:= .val ag (.own n),make:=[(n,(n, .own e r (aqW a.toNat r.zero)))]}:=by
 obtain⟨v,w',bP,ct,fU,Bu⟩:=Cf (d:=d) (ty:=ty) (pos:=pos) (aft:=aft) ht vW hs hx hy h0 h1 h2;exact cP.val bP (xd hs (ct _) fU λq hq=> .inr (Bu q hq))
def zK(T:bz P)(n:Nat)(t:TypeId)(same:Bool)(a b:Int)(k:fF->Option R):Option R:=
 match find T.und t with
 |some (.slice e)=>match find T.row e with
  |some r=>(bif same then qh a r.zero else mkC a b r.zero).bind λl=>k {dst:= .val ag (.own n),make:=[(n,(n, .own e r l))]}
  |none=>ae
 |_=>ae
def Cg{x y:Operand}(h:sW x y=af){a b:Int}{ka kb:IntKind}(hx:ev ρ x= .int ka a)(hy:ev ρ y= .int kb b):a=b:=by
 unfold sW at h
 grind [beq_true,ev]
def Fv(T:bz P){t:TypeId}{a b:Int}{ka kb:IntKind}{x y:Operand}{k:fF->Option R}{q:R}(h:zK T n t (sW x y) a b k=aa q)(hs:aP U H F w ob n)(hx:ev ρ x= .int ka a)(hy:ev ρ y= .int kb b):
 ∃e,k e=aa q/\cX P U H F w ρ ob n ⟨aa d, .makeSlice t x y,ty,pos,aft,ae⟩ e:=by
 unfold zK at h;split at h
 case h_2=>cases h
 rename_i e hu;split at h
 case h_2=>cases h
 rename_i r hr;obtain⟨l,hl,hk⟩:=bind_some h;have vW:=T.row_ok _ _ hr;have ht:=T.und_ok _ _ hu
 cases gk:sW x y with
 |true=>
  rw[gk,cond_true]at hl;unfold qh at hl;split at hl
  case isFalse=>cases hl
  rename_i hc;obtain rfl:=aqP hl;obtain rfl:=Cg gk hx hy;exact⟨_,hk,Fu ht vW hs hx hy hc.1 (arT _) hc.2⟩
 |false=>
  rw[gk,cond_false]at hl;unfold mkC at hl;split at hl
  case isFalse=>cases hl
  rename_i hc;obtain rfl:=aqP hl;exact⟨_,hk,Fu ht vW hs hx hy hc.1 hc.2.1 hc.2.2⟩
def asL(ob:Nat->Option (Nat×Th))(r:Row)(D:aI):Option (List r.den):=
 match yH ob D with
 |some (.read s l)=>if h:s.beq r=af then aa (lS (r:= .slice s) (s:= .slice r) (av Row.slice (Row.eq_of_beq h)) l)else ae
 |some (.own _ _ _ s l)=>if h:s.beq r=af then aa (lS (r:= .slice s) (s:= .slice r) (av Row.slice (Row.eq_of_beq h)) l)else ae
 |some .nil=>aa []
 |some (.view ..)=>ae
 |some (.deep ..)=>ae
 |none=>ae
def WN(hs:aP U H F w ob n){r:Row}{D:aI}{l:List r.den}{v:Value}(h:asL ob r D=aa l)(hd:aH H F w D v):Reads F w r v l:=by
 unfold asL at h;split at h
 .rename_i s m jL;split at h
  case isFalse=>cases h
  rename_i hb;obtain rfl:=Row.eq_of_beq hb;obtain rfl:=aqP h;exact dy.reads (k6 hs jL hd)
 .rename_i o s0 T s m jL;split at h
  case isFalse=>cases h
  rename_i hb;obtain rfl:=Row.eq_of_beq hb;obtain rfl:=aqP h;exact(k6 hs jL hd).2.2.reads
 .rename_i jL;obtain rfl:=aqP h;have:v=_:=k6 hs jL hd;subst this;exact(dy.nil F w r).reads
 all_goals grind
def xW:PR->Int
 | .read _ l=>(l.length:Int)
 | .own _ _ _ _ l=>(l.length:Int)
 | .nil=>0
 | .view _ _ _ l=>(l.length:Int)
 | .deep _ _ _ _ l _=>(l.length:Int)
def PX{v:Value}{k:PR}(h:TD U H F w ob v k):∃A m cap,v= .slice A m cap/\xW k=(m:Int):=by
 cases k with
 |read r l=>
  obtain⟨A,cap,e,_⟩:=dy.IA h;exact⟨A,_,cap,e,rfl⟩
 |own o s T r l=>
  obtain⟨A,cap,e,_⟩:=h.2.2.reads;exact⟨A,_,cap,e,rfl⟩
 |nil=>exact⟨ae,0,0,h,rfl⟩
 |view o s r m=>
  obtain⟨A,cap,T,l,a,b,_,_,h3,h4,rfl,rfl⟩:=h;refine⟨_,_,_,rfl,?_⟩
  grind [xW]
 |deep o s T d l hh=>
  obtain⟨lh,_,⟨xs,KG,_⟩,WL,_⟩:=h.2.2.ok
  rcases KG.2 with⟨PT,h0⟩|⟨g,o0,cap,cur,ML,_,_,_⟩
  all_goals grind [xW]
def MQ(T:bz P)(ob:Nat->Option (Nat×Th))(t:TypeId)(D:aI):Option aI:=
 match find T.und t with
 |some (.slice _)=>match yH ob D with
  |some k=>aa (pW .i64 (xW k))
  |none=>ae
 |some .str=>match Fj D with
  |some s=>aa (pW .i64 (s.size:Int))
  |none=>ae
 |_=>ae
def KM(T:bz P){t:TypeId}{D D':aI}{x:Operand}(h:MQ T ob t D=aa D')(hs:aP U H F w ob n)(hx:aH H F w D (ev ρ x)):
 cX P U H F w ρ ob n ⟨aa d, .call {callee:= .builtin .len,args:= #[x],argTypes:= #[t]},ty,pos,aft,ae⟩ {dst:=D'}:=by
 unfold MQ at h;split at h
 .rename_i e hu;split at h
  case h_2=>cases h
  rename_i k hk;obtain rfl:=aqP h;obtain⟨A,m,cap,e1,e2⟩:=PX (k6 hs hk hx);rw[e2];exact bo hs (Py rfl (T.und_ok _ _ hu) e1) (bg.mE ..)
 .rename_i hu;split at h
  case h_2=>cases h
  rename_i s hk;obtain rfl:=aqP h;exact bo hs (Mo (T.und_ok _ _ hu) (zG hk hx)) (bg.mE ..)
 .cases h
def tT(T:bz P)(ob:Nat->Option (Nat×Th))(n:Nat)(t:TypeId)(X Y:aI)(k:fF->Option R):Option R:=
 match find T.und t with
 |some (.slice e)=>match find T.row e with
  |some r=>match asL ob r Y with
   |some m=>match yH ob X with
    |some .nil=>(cD ([]:List r.den) m).bind λl=>k {dst:= .val ag (.own n),make:=[(n,(n, .own e r l))]}
    |some (.own o _ T0 s l0)=>bif aqV T0 e then
      (if h:s.beq r=af then(cD (lS (r:= .slice s) (s:= .slice r) (av Row.slice (Row.eq_of_beq h)) l0) m).bind λl=>k {dst:= .val ag (.own n),eat:=[o],make:=[(n,(n, .own e r l))]}else ae)else ae
    |_=>ae
   |none=>ae
  |none=>ae
 |_=>ae
def IQ(T:bz P){t:TypeId}{X Y:aI}{x y:Operand}{k:fF->Option R}{q:R}(h:tT T ob n t X Y k=aa q)(hs:aP U H F w ob n)(hx:aH H F w X (ev ρ x))(hy:aH H F w Y (ev ρ y)):
 ∃e,k e=aa q/\cX P U H F w ρ ob n ⟨aa d, .call {callee:= .builtin .append,args:= #[x,y],argTypes:= #[t,t]},ty,pos,aft,ae⟩ e:=by
 unfold tT at h;split at h
 case h_2=>cases h
 rename_i e hu;split at h
 case h_2=>cases h
 rename_i r hr;obtain⟨ti,z,h1,h2,h3,h4,h5⟩:=T.row_ok _ _ hr;have ht:=T.und_ok _ _ hu;split at h
 case h_2=>cases h
 rename_i m hm;have jo:=WN hs hm hy
 have key:∀{l out:List r.den},pz 0 F w e r (ev ρ x) l->cD l m=aa out->∃v' w',(execOp (ev ρ) ⟨aa d, .call {callee:= .builtin .append,args:= #[x,y],argTypes:= #[t,t]},ty,pos,aft,ae⟩).run P w= .ok (.value v') w'/\Ext (cx (ev ρ x)) w w'/\pz 0 F w' e r v' out/\(∀k,cx v' k->cx (ev ρ x) k\/w.heap.size<=k):=by
  intro l out ho ha;obtain⟨v',w',bP,he,pq,ZB⟩:=zA ty ht h1 h2 h3 h4 h5 ho jo ha hs.lt (Nat.zero_le _);refine⟨v',w',by simp[execOp,resolve,invoke,builtin,bP],he,pq,λk hk=>?_⟩
  rcases ZB with g|g
  .exact .inl (g▸hk)
  .simp_all
 split at h
 .rename_i jL;obtain⟨l,hl,hk⟩:=bind_some h;have hv:ev ρ x=_:=k6 hs jL hx;obtain⟨v',w',bP,he,pq,hn⟩:=key (by rw[hv];exact pz.nil 0 F w e r) hl
  have no:∀k,¬cx (ev ρ x) k:=λk hk=>by rw[hv]at hk;simp[cx,are]at hk
  exact⟨_,hk,cP.val bP (xd hs ⟨he.os,he.tape,he.output,he.size,λk hk _=>he.block k hk (no k)⟩ pq (by grind))⟩
 .rename_i o s0 T0 s l0 jL;obtain⟨hb,h⟩:=bi h;obtain rfl:=beq_true hb;split at h
  case isFalse=>cases h
  rename_i Ft;obtain rfl:=Row.eq_of_beq Ft;obtain⟨l,hl,hk⟩:=bind_some h;obtain⟨hv,de,fU⟩:=k6 hs jL hx;obtain⟨v',w',bP,he,pq,hn⟩:=key fU hl
  have mv:∀k,cx (ev ρ x) k->cT H ob [o] k:=λk hk=>⟨o,by simp,_,_,_,de,hv,hk⟩
  exact⟨_,hk,cP.val bP (xd hs ⟨he.os,he.tape,he.output,he.size,λk hk Dz=>he.block k hk λhm=>Dz (mv k hm)⟩ pq λk hk=>(hn k hk).imp (mv k) id)⟩
 .cases h
def Fw(ob:Nat->Option (Nat×Th))(r:Row):List aI->Option (List r.den)
 |[]=>aa []
 | .val _ u::l=>match flat ob r u with
   |some x=>match Fw ob r l with
    |some xs=>aa (x::xs)
    |none=>ae
   |none=>ae
 |_::_=>ae
def vX(rd:Operand->Option aI):List Operand->Option (List aI)
 |[]=>aa []
 |x::xs=>match rd x with
  |some d=>match vX rd xs with
   |some ds=>aa (d::ds)
   |none=>ae
  |none=>ae
def il(H:aN)(F:Nat->Prop)(w:World):List aI->List Value->Prop
 |[],vs=>vs=[]
 |d::ds,vs=>∃v us,vs=v::us/\aH H F w d v/\il H F w ds us
def ri{rd:Operand->Option aI}(h:∀x d,rd x=aa d->aH H F w d (ev ρ x)):{xs:List Operand}->{ds:List aI}->vX rd xs=aa ds->il H F w ds (xs.map (ev ρ))
 |[],ds,e=>by obtain rfl:=aqP e;rfl
 |x::xs,ds,e=>by
  unfold vX at e
  cases h1:rd x with
  |none=>grind
  |some d=>
   cases h2:vX rd xs with
   |none=>grind
   |some ds'=>
    simp only[h1,h2,aq2]at e;subst e;exact⟨_,_,rfl,h _ _ h1,ri h h2⟩
def Fx(hs:aP U H F w ob n){r:Row}:{ds:List aI}->{l:List r.den}->{vs:List Value}->Fw ob r ds=aa l->il H F w ds vs->zB F w r vs l
 |[],l,vs,e,h=>by
  obtain rfl:=aqP e;rw[show vs=[]from h];exact .nil
 | .val _ u::ds,l,vs,e,h=>by
   obtain⟨v,us,rfl,h1,h2⟩:=h;unfold Fw at e
   cases hf:flat ob r u with
   |none=>grind
   |some x=>
    cases hg:Fw ob r ds with
    |none=>grind
    |some xs=>
     simp only[hf,hg,aq2]at e;subst e;obtain⟨cs,tP,Bt⟩:=bg.cells h1;exact .cons Bt (jz hs hf tP) (Fx hs hg h2)
 | .dead::_,_,_,e,_=>by cases e
 | .undef::_,_,_,e,_=>by cases e
 | .ptr .. ::_,_,_,e,_=>by cases e
 | .at .. ::_,_,_,e,_=>by cases e
 | .elem .. ::_,_,_,e,_=>by cases e
 | .tup _::_,_,_,e,_=>by cases e
 | .dlm .. ::_,_,_,e,_=>by cases e
def zL{e t:TypeId}{r:Row}{xs:List Operand}{l:List r.den}{parts:Array (Nat×Operand)}(ht:P.underlying t=aa (.slice e))(vW:TI P e r)(fm:parts=((xs.zipIdx).map λp=>(p.2,p.1)).toArray)(gk:xs.length*r.size<=16777216)
 (hl:zB F w r (xs.map (ev ρ)) l)(hs:aP U H F w ob n):
 ∃v w',(execOp (ev ρ) ⟨aa d, .buildSlice t xs.length parts,ty,pos,aft,ae⟩).run P w= .ok (.value v) w'/\(∀g,Ext g w w')/\pz 0 F w' e r v l/\∀k,cx v k->w.heap.size<=k:=by
 obtain⟨ti,z,h1,h2,h3,h4,h5⟩:=vW
 have Y4:(xs.map (ev ρ)).length=xs.length:=by simp
 have WL:=hl.length;have qe:=r.size_pos
 have Zw:z.cells.size=r.size:=by rw[<-(dy.zero F w r).length,<-h3];simp
 have vY:(parts.map λ(i,q)=>(i,ev ρ q)).toList=((xs.map (ev ρ)).zipIdx).map λp=>(p.2,p.1):=by
  subst fm;simp[List.zipIdx_map,Function.comp_def]
 generalize hm:xs.length=m at*;generalize xs.map (ev ρ)=vs at*
 have key:∀zz:Array Value,zz.size=m*r.size->∃It:List Value,Instr.fill (λi=>aa (i*r.size,r.size)) zz ((vs.zipIdx).map λp=>(p.2,p.1))=aa It.toArray/\It.length=l.length*r.size/\∀i(hi:i<l.length),dy F w r ((It.drop (i*r.size)).take r.size) l[i]:=by
  intro zz ZG;obtain⟨It,a1,a2,a3⟩:=hl.fill 0 [] zz.toList (by simp) (by rw[Array.length_toList,ZG,Y4]);exact⟨It,by simpa using a1,a2,a3⟩
 have bP:∃It:List Value,(execOp (ev ρ) ⟨aa d, .buildSlice t m parts,ty,pos,aft,ae⟩).run P w= .ok (.value (.slice (aa ⟨w.heap.size,0,ae⟩) m m)) (w.alloc (.cells It.toArray e))/\It.length=l.length*r.size/\∀i(hi:i<l.length),dy F w r ((It.drop (i*r.size)).take r.size) l[i]:=by
  by_cases h0:m*r.size=0
  .obtain⟨It,a1,a2,a3⟩:=key #[] (by simp[h0]);refine⟨It,?_,a2,a3⟩;simp only[execOp,Instr.buildSlice,arj,run_underlying ht,arR];rw[vY]
   have Y5:Array.range 0=(#[]:Array Nat):=by rfl
   simp[sizeOf,typeInfo,h1,h4,h0,newRow,Y5,a1]
  .obtain⟨It,a1,a2,a3⟩:=key ((Array.range (m*r.size)).map (z.cells[· %z.cells.size]!)) (by simp);refine⟨It,?_,a2,a3⟩;simp only[execOp,Instr.buildSlice,arj,run_underlying ht,arR];rw[vY];simp[sizeOf,typeInfo,h1,h4,h0,zeroValue,h2,newRow,a1,show¬(16777216<m*r.size)from by omega]
 obtain⟨It,bP,a2,a3⟩:=bP
 have Tc:m=l.length:=by omega
 have akK:m<=16777216:=ark (Nat.le_mul_of_pos_right m qe) gk;refine⟨_,_,bP,λg=>rf _,⟨λk hk=>?_,It,?_,λi hi=>(a3 i hi).step (Step.alloc hs.lt _)⟩,λk hk=>?_⟩
 .simp only[cx,are,aq2]at hk;intro e;have:=hs.lt _ e;omega
 .have:=World.ownsRow_lit (base:=0) (e:=e) (size:=r.size) w It.toArray m (Nat.zero_le _) (by simp[maxLen];omega) (by simp[a2,Tc]);rw[Tc]at this⊢;simpa using qg.of this
 .simp only[cx,are,aq2]at hk;omega
def run_build{e t:TypeId}{r:Row}{xs:List Operand}{l:List r.den}{parts:Array (Nat×Operand)}(ht:P.underlying t=aa (.slice e))(vW:TI P e r)(fm:parts=((xs.zipIdx).map λp=>(p.2,p.1)).toArray)(gk:xs.length*r.size<=16777216)
 (hl:zB F w r (xs.map (ev ρ)) l)(hs:aP U H F w ob n):
 cX P U H F w ρ ob n ⟨aa d, .buildSlice t xs.length parts,ty,pos,aft,ae⟩ {dst:= .val ag (.own n),make:=[(n,(n, .own e r l))]}:=by
 obtain⟨v,w',h1,h2,h3,h4⟩:=zL (d:=d) (ty:=ty) (pos:=pos) (aft:=aft) ht vW fm gk hl hs;exact cP.val h1 (xd hs (h2 _) h3 λk hk=> .inr (h4 k hk))
def KN:Nat->List (Nat×Operand)->Bool
 |_,[]=>af
 |k,p::l=>aqV p.1 k&&KN (k+1) l
def zM:{k:Nat}->{l:List (Nat×Operand)}->KN k l=af->l=((l.map (·.2)).zipIdx k).map λp=>(p.2,p.1)
 |_,[],_=>rfl
 |k,p::l,h=>by
  obtain⟨h1,h2⟩:=c7 h;have h1:=beq_true h1;have ih:=zM h2
  grind [List.zipIdx_cons]
def mG(T:bz P)(rd:Operand->Option aI)(ob:Nat->Option (Nat×Th))(n:Nat)(t:TypeId)(m:Nat)(parts:Array (Nat×Operand))(k:fF->Option R):Option R:=
 match find T.und t with
 |some (.slice e)=>match find T.row e with
  |some r=>bif KN 0 parts.toList&&aqV m parts.toList.length&&Nat.ble (m*r.size) 16777216 then
    (match vX rd (parts.toList.map (·.2))with
    |some ds=>match Fw ob r ds with
     |some l=>k {dst:= .val ag (.own n),make:=[(n,(n, .own e r l))]}
     |none=>ae
    |none=>ae)else ae
  |none=>ae
 |_=>ae
def zN(T:bz P){rd:Operand->Option aI}(jo:∀x d,rd x=aa d->aH H F w d (ev ρ x)){t:TypeId}{m:Nat}{parts:Array (Nat×Operand)}{k:fF->Option R}{q:R}(h:mG T rd ob n t m parts k=aa q)(hs:aP U H F w ob n):
 ∃e,k e=aa q/\cX P U H F w ρ ob n ⟨aa d, .buildSlice t m parts,ty,pos,aft,ae⟩ e:=by
 unfold mG at h;split at h
 case h_2=>cases h
 rename_i e hu;split at h
 case h_2=>cases h
 rename_i r hr;obtain⟨h1,h⟩:=bi h;obtain⟨h1,h3⟩:=c7 h1;obtain⟨h1,h2⟩:=c7 h1;have h2:=beq_true h2
 have h3:m*r.size<=16777216:=by simpa using h3
 split at h
 case h_2=>cases h
 rename_i ds Bv;split at h
 case h_2=>cases h
 rename_i l hl;have ZH:=Fx hs hl (ri jo Bv)
 have hp:parts=(((parts.toList.map (·.2)).zipIdx).map λp=>(p.2,p.1)).toArray:=by
  rw[<-zM h1,arL]
 have hm:m=(parts.toList.map (·.2)).length:=by simpa using h2
 refine⟨_,h,?_⟩;have:=run_build (d:=d) (ty:=ty) (pos:=pos) (aft:=aft) (T.und_ok _ _ hu) (T.row_ok _ _ hr) hp (by grind) ZH hs
 grind
def KO{P:Program}(T:bz P)(fs:List (TypeId×Nat)):Tree->List (Nat×aI)->Option Tree
 |t,[]=>aa t
 |t,(f, .val _ u)::l=>match t.get (vU fs.length f)with
  |some (s,off)=>match fs[f]? with
   |some (ft,fJ)=>bif aqV off fJ&&aqV u.size s.size&&(match find T.row ft with|some r=>aqV r.size u.size|none=>ag)then
     (match t.put (vU fs.length f) u with
     |some t'=>KO T fs t' l
     |none=>ae)else ae
   |none=>ae
  |none=>ae
 |_,_::_=>ae
def yY(T:bz P):List (TypeId×Nat)->Bool
 |[]=>af
 |p::fs=>(match find T.row p.1 with|some _=>af|none=>ag)&&yY T fs
def place(T:bz P)(fs:List (TypeId×Nat))(i:Nat):Option (Nat×Nat):=
 match fs[i]? with
 |some (ft,off)=>match find T.row ft with
  |some r=>aa (off,r.size)
  |none=>ae
 |none=>ae
def zO(T:bz P):{l:List Field}->{fs:List (TypeId×Nat)}->l.map (λf=>(f.type,f.offset))=fs->yY T fs=af->
 ∃pl:List (Nat×Nat),(l.mapM λ(f:Field)=>(do pure (f.offset,<-sizeOf f.type):Sem (Nat×Nat))).run P w= .ok pl w/\∀i,pl[i]? =place T fs i
 |[],fs,h,_=>by
  subst h;exact⟨[],by simp,λi=>by simp[place]⟩
 |f::l,fs,h,hz=>by
  subst h;obtain⟨h1,h2⟩:=c7 hz;obtain⟨pl,ZI,PY⟩:=zO T (l:=l) rfl h2
  cases hr:find T.row f.type with
  |none=>grind
  |some r=>
   obtain⟨ti,z,g1,_,_,g4,_⟩:=T.row_ok _ _ hr;refine⟨(f.offset,r.size)::pl,?_,λi=>?_⟩
   .have IP:(sizeOf f.type).run P w= .ok r.size w:=by simp[sizeOf,typeInfo,g1,g4]
    simp_all
   grind [place]
end
end
section
section
variable {P:Program} {ρ:Nat->Value} {w w':World} {H H':aN} {F F':Nat->Prop} {U:Nat->Prop} {ob:Nat->Option (Nat×Th)} {n:Nat} {R:Type}
variable {op:Op} {ty:TypeId} {pos:String} {aft:Array Edge} {d:Nat}
def Fy(T:bz P){fs:List (TypeId×Nat)}{pl:List (Nat×Nat)}(hz:yY T fs=af)(uP:∀i,pl[i]? =place T fs i)(po:∀ft off r,(ft,off)∈fs->find T.row ft=aa r->True):
 {parts:List (Nat×aI)}->{t t':Tree}->{cs:List Value}->{vs:List (Nat×Value)}->KO T fs t parts=aa t'->Holds H F w t cs->parts.map (·.1)=vs.map (·.1)->il H F w (parts.map (·.2)) (vs.map (·.2))->
 ∃yA,Instr.fill (pl[·]?) cs.toArray vs=aa yA.toArray/\Holds H F w t' yA
 |[],t,t',cs,vs,h,hh,h1,h2=>by
  obtain rfl:=aqP h
  have:vs=[]:=by simpa using h1.symm
  subst this;exact⟨cs,by simp[Instr.fill],hh⟩
 |(f, .val agg u)::parts,t,t',cs,vs,h,hh,h1,h2=>by
  obtain⟨v,us,e,hv,h3⟩:=h2
  cases vs with
  |nil=>simp at e
  |cons fv vs=>
   obtain⟨f',v'⟩:=fv;simp only[List.map_cons,arV]at h1 e;obtain⟨rfl,h1⟩:=h1;obtain⟨rfl,rfl⟩:=e;unfold KO at h;split at h
   case h_2=>cases h
   rename_i s off hg;split at h
   case h_2=>cases h
   rename_i ft fJ hf;obtain⟨hb,h'⟩:=bi h;clear h;obtain⟨hb,hb3⟩:=c7 hb;obtain⟨OW,WO⟩:=c7 hb;have OW:=beq_true OW;subst OW;have WO:=beq_true WO;split at h'
   case h_2=>cases h'
   rename_i tp hp;obtain⟨c1,B7,Bt⟩:=bg.cells hv;have hl:=B7.length;have hle:=(hh.get hg).2
   cases hr:find T.row ft with
   |none=>grind
   |some r=>
    simp only[hr]at hb3;have hb3:=beq_true hb3
    have WQ:pl[f]? =aa (off,r.size):=by rw[uP];simp[place,hf,hr]
    rw[B5 WQ Bt (by omega) (by omega)];have w5:=Holds.put B7 hg hp WO.symm hh;rw[show u.size=r.size from by omega]at w5;exact Fy T hz uP po h' w5 h1 h3
 |(_, .dead)::_,_,_,_,_,h,_,_,_=>by cases h
 |(_, .undef)::_,_,_,_,_,h,_,_,_=>by cases h
 |(_, .ptr ..)::_,_,_,_,_,h,_,_,_=>by cases h
 |(_, .at ..)::_,_,_,_,_,h,_,_,_=>by cases h
 |(_, .elem ..)::_,_,_,_,_,h,_,_,_=>by cases h
 |(_, .tup _)::_,_,_,_,_,h,_,_,_=>by cases h
 |(_, .dlm ..)::_,_,_,_,_,h,_,_,_=>by cases h
def xe(T:bz P)(rd:Operand->Option aI)(t:TypeId)(parts:Array (Nat×Operand))(k:fF->Option R):Option R:=
 match find T.und t with
 |some (.struct fs)=>match find T.row t with
  |some r=>bif yY T fs then
    (match vX rd (parts.toList.map (·.2))with
    |some ds=>match KO T fs r.Fq ((parts.toList.map (·.1)).zip ds)with
     |some tr=>k {dst:= .val af tr}
     |none=>ae
    |none=>ae)else ae
  |none=>ae
 |_=>ae
def mU:{ds:List aI}->{vs:List Value}->il H F w ds vs->ds.length=vs.length
 |[],_,h=>by rw[show _=[]from h];rfl
 |_::_,_,h=>by obtain⟨v,us,rfl,_,h2⟩:=h;simp[mU h2]
def MS(T:bz P){rd:Operand->Option aI}(jo:∀x d,rd x=aa d->aH H F w d (ev ρ x)){t:TypeId}{parts:Array (Nat×Operand)}{k:fF->Option R}{q:R}(h:xe T rd t parts k=aa q)(hs:aP U H F w ob n):
 ∃e,k e=aa q/\cX P U H F w ρ ob n ⟨aa d, .build t parts,ty,pos,aft,ae⟩ e:=by
 unfold xe at h;split at h
 case h_2=>cases h
 rename_i fs hu;obtain⟨arr,IL,TC⟩:=T.und_ok _ _ hu;split at h
 case h_2=>cases h
 rename_i r hr;obtain⟨ti,z,h1,h2,h3,h4,h5⟩:=T.row_ok _ _ hr;obtain⟨hz,h⟩:=bi h;split at h
 case h_2=>cases h
 rename_i ds Bv;split at h
 case h_2=>cases h
 rename_i tr ZJ;have hd:=ri (w:=w) (H:=H) (F:=F) (ρ:=ρ) jo Bv;have hlen:=mU hd;obtain⟨pl,ZI,PY⟩:=zO (w:=w) T TC hz
 have hn:∀(a:List Nat)(b:List aI),a.length=b.length->(a.zip b).map (·.1)=a/\(a.zip b).map (·.2)=b:=λa b PZ=>⟨List.map_fst_zip (by omega),List.map_snd_zip (by omega)⟩
 have adO:=hn (parts.toList.map (·.1)) ds (by simp at hlen⊢;omega);obtain⟨yA,hf,hh⟩:=Fy (w:=w) (H:=H) (F:=F) T hz PY (λ_ _ _ _ _=>trivial) (vs:=parts.toList.map λ(i,q)=>(i,ev ρ q)) ZJ (Row.qn H F w r) (by rw[adO.1];simp[Function.comp_def]) (by grind [Function.comp_def]);refine⟨_,h,cm hs (v:= .agg yA.toArray) ?_ ⟨yA,hh,rfl,by simp⟩⟩
 have hzc:z.cells=r.gF.toArray:=by rw[<-h3,arL]
 have MT:(arr.mapM λ(f:Field)=>(do pure (f.offset,<-sizeOf f.type):Sem (Nat×Nat))).run P w= .ok pl.toArray w:=by
  rw[<-arL (xs:=arr),List.mapM_toArray];simp only[Sem.run_map,ZI];rfl
 have hpp:(parts.map λ(i,q)=>(i,ev ρ q)).toList=parts.toList.map λ(i,q)=>(i,ev ρ q):=by simp
 have adP:(λ(x:Nat)=>pl.toArray[x]?)=λx=>pl[x]? :=by funext x;simp
 simp only[execOp,Instr.build,arj,zeroValue,typeInfo,h1,h2,run_program,Sem.run_pure,arR,run_underlying IL,hzc,hpp,MT,adP,hf]
def TH(rd:Operand->Option aI):Option Operand->Option (Option Int)
 |none=>aa ae
 |some x=>match rd x with
  |some d=>match asInt d with
   |some (_,i)=>aa (aa i)
   |none=>ae
  |none=>ae
def KP{rd:Operand->Option aI}(jo:∀x d,rd x=aa d->aH H F w d (ev ρ x)){lo:Option Operand}{a:Option Int}(h:TH rd lo=aa a):WM ρ lo a:=by
 unfold TH at h;split at h
 .obtain rfl:=aqP h;exact .none
 .split at h
  .split at h
   .obtain rfl:=aqP h;rename_i hD _ _ _ hi;exact .some (kD hi (jo _ _ hD))
   .cases h
  .cases h
def xf(dr:Bool)(T:bz P)(rd:Operand->Option aI)(ob:Nat->Option (Nat×Th))(n:Nat)(t:TypeId)(D:aI)(lo hi:Option Operand)(k:fF->Option R):Option R:=
 match find T.und t with
 |some (.slice e)=>match find T.row e with
  |some re=>match TH rd lo with
   |some a=>match TH rd hi with
    |some b=>match yH ob D with
     |some (.read r l)=>bif aqV r.size re.size then(iE l (a.getD 0) (b.getD (l.length:Int))).bind λm=>k {dst:= .val ag (.leaf (.slice r) m)}else ae
     |some .nil=>(iE ([]:List re.den) (a.getD 0) (b.getD 0)).bind λ_=>k {dst:= .val ag .nil}
     |some (.own o s T0 r l)=>bif aqV r.size re.size&&aqV T0 e&&(lo.isNone||dr)then(iE l (a.getD 0) (b.getD (l.length:Int))).bind λm=>k {dst:= .val ag (.own n),eat:=[o],make:=[(n,(n, .own T0 r m))]}
       else bif aqV r.size re.size then(iE l (a.getD 0) (b.getD (l.length:Int))).bind λm=>k {dst:= .val ag (.view o s r m)}else ae
     |_=>ae
    |none=>ae
   |none=>ae
  |none=>ae
 |_=>ae
def MU{e T0:TypeId}{ti:TypeInfo}{r:Row}{t:TypeId}{x:Operand}{lo hi:Option Operand}{a b:Option Int}{l m:List r.den}{o s:Nat}{v:Value}(ht:P.underlying t=aa (.slice e))(h1:P.info? e=aa ti)(h4:ti.size=r.size)(hx:ev ρ x=v)
 (hs:aP U H F w ob n)(de:ob o=aa (s, .own T0 r l))(MV:H.val o=aa v)(ha:WM ρ lo a)(hb:WM ρ hi b)(hm:iE l (a.getD 0) (b.getD l.length)=aa m):
 cX P U H F w ρ ob n ⟨aa d, .slice t x lo hi ae,ty,pos,aft,ae⟩ {dst:= .val ag (.own n),eat:=[o],make:=[(n,(n, .own T0 r m))]}:=by
 have hv:=hs.own de MV;obtain⟨p,q,ep,eq,Y6,hq,rfl⟩:=w4 hm;obtain⟨A,cap,rfl,hlen,WH,_⟩:=hv.reads;have bP:=yW (P:=P) (w:=w) (d:=d) (ty:=ty) (pos:=pos) (aft:=aft) ht h1 hx ha hb (by omega) (by omega) (by omega) hlen;rw[ep,eq,aqX,aqX,h4]at bP;obtain⟨Dz,xs,⟨Mz,Td⟩,hr⟩:=hv
 have htl:((l.take q).drop p).length=q-p:=by simp;omega
 have hmul:q*r.size<=l.length*r.size:=aq4 _ hq;have aje:p*r.size<=q*r.size:=aq4 _ Y6;have ajf:(q-p)*r.size=q*r.size-p*r.size:=Nat.sub_mul ..
 have ct:Ext (cT H ob [o]) w w:=⟨rfl,⟨rfl,aqU _⟩,rfl,aqU _,λ_ _ _=>rfl⟩
 rcases Td with⟨PT,h0⟩|⟨g,o0,PC,cur,jL,u0,hh,hn1,hn2,tP,P0⟩
 .simp only[asf]at PT;obtain⟨rfl,_,rfl⟩:=PT
  have ZK:q=0:=by omega
  subst ZK
  obtain rfl:p=0:=by omega
  refine cP.val bP (xd hs ct ?_ ?_)
  .simpa[sliced]using pz.nil 0 F w T0 r
  .intro k hk;simp[sliced,cx,are]at hk
 .simp only[asf,true_and]at jL;obtain⟨rfl,rfl⟩:=jL
  obtain⟨o1,sH,ho1,ZL⟩:∃o1,sliced (aa ⟨g,o0,ae⟩) p q cap r.size= .slice (aa ⟨g,o1,ae⟩) (q-p) (cap-p)/\o1+(cap-p)*r.size<=cur.size/\(cur.toList.drop o1).take ((q-p)*r.size)=(xs.drop (p*r.size)).take ((q-p)*r.size):=by
   have hcp:p*r.size<=cap*r.size:=aq4 _ (by omega);have akN:(cap-p)*r.size=cap*r.size-p*r.size:=Nat.sub_mul ..;unfold sliced;by_cases hc:cap=p
   .refine⟨o0,by rw[aj hc],by omega,?_⟩
    have:q=p:=by omega
    subst this;simp
   .refine⟨o0+p*r.size,by rw[ai hc,Option.map_some,dV],by omega,?_⟩;rw[<-P0,List.drop_take,List.take_take,List.drop_drop]
    congr 1
    omega
  rw[sH]at bP
  have hmy:∀k,cx (.slice (aa ⟨g,o1,ae⟩) (q-p) (cap-p)) k->cx (.slice (aa ⟨g,o0,ae⟩) l.length cap) k:=λk hk=>by simpa[cx,are]using hk
  refine cP.val bP (xd hs ct ⟨λk hk=>Dz k (hmy k hk),(xs.drop (p*r.size)).take ((q-p)*r.size),⟨by rw[htl];simp;omega, .inr ⟨g,o1,cap-p,cur,by rw[htl],u0,hh,by omega,by omega,ho1,?_⟩⟩,λi hi=>?_⟩ λk hk=> .inl ⟨o,by simp,_,_,_,de,MV,hmy k hk⟩)
  .rw[htl];exact ZL
  .have hi2:i<q-p:=by omega
   have hle:(i+1)*r.size<=(q-p)*r.size:=aq4 _ hi2;rw[arn]at hle;have:=hr (p+i) (by omega)
   have hg:((l.take q).drop p)[i]=l[p+i]'(by omega):=by simp
   rw[hg,List.drop_take,List.take_take,ar1 (by omega),List.drop_drop,show p*r.size+i*r.size=(p+i)*r.size from(arn ..).symm];exact this
def MW(dr:Bool)(T:bz P){rd:Operand->Option aI}(jo:∀x d,rd x=aa d->aH H F w d (ev ρ x)){t:TypeId}{D:aI}{x:Operand}{lo hi:Option Operand}{k:fF->Option R}{q:R}(h:xf dr T rd ob n t D lo hi k=aa q)(hs:aP U H F w ob n)(hx:aH H F w D (ev ρ x)):
 ∃e,k e=aa q/\cX P U H F w ρ ob n ⟨aa d, .slice t x lo hi ae,ty,pos,aft,ae⟩ e:=by
 unfold xf at h;split at h
 case h_2=>cases h
 rename_i e hu;have ht:=T.und_ok _ _ hu;split at h
 case h_2=>cases h
 rename_i re hre;obtain⟨ti,z,h1,_,_,h4,_⟩:=T.row_ok _ _ hre;split at h
 case h_2=>cases h
 rename_i a ha;split at h
 case h_2=>cases h
 rename_i b hb;have ha':=KP (w:=w) (H:=H) (F:=F) (ρ:=ρ) jo ha;have u0:=KP (w:=w) (H:=H) (F:=F) (ρ:=ρ) jo hb
 have WR:∀{r:Row}{l m:List r.den},dy F w (.slice r) [ev ρ x] l->r.size=re.size->iE l (a.getD 0) (b.getD (l.length:Int))=aa m->cX P U H F w ρ ob n ⟨aa d, .slice t x lo hi ae,ty,pos,aft,ae⟩ {dst:= .val ag (.leaf (.slice r) m)}:=by
  intro r l m hv hz hm;obtain⟨p,q',ep,eq,Y6,hq,rfl⟩:=w4 hm;have ga:=hv;obtain⟨A,cap,he,hc,TJ,_⟩:=hv;simp only[arV,and_true]at he;have bP:=yW (P:=P) (w:=w) (d:=d) (ty:=ty) (pos:=pos) (aft:=aft) ht h1 he ha' u0 (by omega) (by omega) (by omega) hc;rw[ep,eq,aqX,aqX,h4,<-hz]at bP;rw[he]at ga;exact cm hs bP (bg.qm (ga.cut Y6 hq))
 split at h
 .rename_i r l jL;obtain⟨hz,h⟩:=bi h;obtain⟨m,hm,hk⟩:=bind_some h;exact⟨_,hk,WR (k6 hs jL hx) (beq_true hz) hm⟩
 .rename_i jL;obtain⟨m,hm,hk⟩:=bind_some h;have hv:ev ρ x=_:=k6 hs jL hx;unfold iE at hm;split at hm
  case isFalse=>cases hm
  rename_i hc
  have ea:a.getD 0=0:=by have:=hc.2.1;have:=hc.2.2;simp at this;omega
  have eb:b.getD ((0:Nat):Int)=0:=by have:=hc.2.1;have:=hc.2.2;simp at this⊢;omega
  have bP:=yW (P:=P) (w:=w) (d:=d) (ty:=ty) (pos:=pos) (aft:=aft) ht h1 hv ha' u0 (by omega) (by omega) (by omega) (aqU _);rw[ea,eb]at bP;exact⟨_,hk,cm hs bP ⟨_,rfl,rfl,λ_=>rfl⟩⟩
 .rename_i o s T0 r l jL;obtain⟨hv,de,fU⟩:=k6 hs jL hx
  cases hz0:(aqV r.size re.size&&aqV T0 e&&(lo.isNone||dr))with
  |true=>
   rw[hz0,cond_true]at h;obtain⟨IP,hlo⟩:=c7 hz0;obtain⟨KL,hT⟩:=c7 IP;have ZG:=beq_true KL;obtain⟨m,hm,hk⟩:=bind_some h;exact⟨_,hk,MU ht h1 (h4.trans ZG.symm) rfl hs de hv ha' u0 hm⟩
  |false=>
   rw[hz0,cond_false]at h;obtain⟨KL,h'⟩:=bi h;clear h;have ZG:=beq_true KL;obtain⟨m,hm,hk⟩:=bind_some h';obtain⟨p,q',ep,eq,Y6,hq,rfl⟩:=w4 hm;obtain⟨A,cap,he,hc,TJ,_⟩:=fU.reads;have bP:=yW (P:=P) (w:=w) (d:=d) (ty:=ty) (pos:=pos) (aft:=aft) ht h1 he ha' u0 (by omega) (by omega) (by omega) hc;rw[ep,eq,aqX,aqX,h4,<-ZG]at bP;obtain⟨v',ga,dC⟩:=hs.obj _ _ _ de;refine⟨_,hk,cm hs bP ⟨_,⟨_,rfl,A,cap,T0,l,p,q',by rw[hv,he],dC.con,Y6,hq,rfl,rfl⟩,rfl,λ_=>rfl⟩⟩
 .cases h
noncomputable def WS(T:bz P)(ob:Nat->Option (Nat×Th))(o:BinOp)(t:TypeId)(X Y:aI):Option aI:=
 match X,Y with
 | .val ag (.leaf .bool a), .val ag (.leaf .bool b)=>match find T.und t with
   |some .bool=>match o with
    | .eql=>aa (fD (decide (a=b)))
    | .neq=>aa (fD (!decide (a=b)))
    |_=>ae
   |_=>ae
 | .val ag (.leaf .str a), .val ag (.leaf .str b)=>match o with
   | .eql=>aa (fD (decide (a=b)))
   | .neq=>aa (fD (!decide (a=b)))
   |_=>ae
 | .val af u, .val af v=>match find T.eqs t with
   |some r=>match flat ob r u with
    |some x=>match flat ob r v with
     |some y=>match o with
      | .eql=>aa (fD (mD r x y))
      | .neq=>aa (fD (!(mD r x y)))
      |_=>ae
     |none=>ae
    |none=>ae
   |none=>ae
 |_,_=>ae
theorem TK(T:bz P){o:BinOp}{t u:TypeId}{X Y D:aI}{x y:Operand}(h:WS T ob o t X Y=aa D)(hs:aP U H F w ob n)(hx:aH H F w X (ev ρ x))(hy:aH H F w Y (ev ρ y)):
 cX P U H F w ρ ob n ⟨aa d, .binOp o t x y u,ty,pos,aft,ae⟩ {dst:=D}:=by
 unfold WS at h;split at h
 .rename_i a b;split at h
  case h_2=>cases h
  rename_i hu;have hu:=T.und_ok _ _ hu;have ha:ev ρ x= .bool a:=bg.bool hx;have hb:ev ρ y= .bool b:=bg.bool hy
  split at h<;>cases h
  .exact bo hs (Mj hu ha hb) (bg.iF ..)
  .exact bo hs (Mk hu ha hb) (bg.iF ..)
 .rename_i a b;have ha:ev ρ x= .string a:=bg.str hx;have hb:ev ρ y= .string b:=bg.str hy
  split at h<;>cases h
  .exact bo hs (Ml ha hb) (bg.iF ..)
  .exact bo hs (Mm ha hb) (bg.iF ..)
 .rename_i u v;split at h
  case h_2=>cases h
  rename_i r hr;obtain⟨K,dd,hE,hd,hg,hD⟩:=T.eqs_ok _ _ hr;split at h
  case h_2=>cases h
  rename_i a ha;split at h
  case h_2=>cases h
  rename_i b hb;obtain⟨c1,g1,e1,_⟩:=hx;obtain⟨c2,g2,e2,_⟩:=hy;have r1:=jz hs ha g1;have r2:=jz hs hb g2
  split at h<;>cases h
  .exact bo hs (MC hE hd hg hD e1 e2 r1 r2) (bg.iF ..)
  .exact bo hs (MD hE hd hg hD e1 e2 r1 r2) (bg.iF ..)
 .cases h
def WT(a b:ByteArray):Option ByteArray:=if a.size+b.size<=9223372036854775807 then aa (a++b)else ae
def IR(o:BinOp)(X Y:aI):Option (ByteArray×ByteArray):=
 match o,X,Y with
 | .add, .val ag (.leaf .str a), .val ag (.leaf .str b)=>aa (a,b)
 |_,_,_=>ae
def WU{t u:TypeId}{o:BinOp}{X Y:aI}{x y:Operand}{a b c:ByteArray}(h:IR o X Y=aa (a,b))(hc:WT a b=aa c)(hs:aP U H F w ob n)(hx:aH H F w X (ev ρ x))(hy:aH H F w Y (ev ρ y)):
 cX P U H F w ρ ob n ⟨aa d, .binOp o t x y u,ty,pos,aft,ae⟩ {dst:= .val ag (.leaf .str c)}:=by
 unfold IR at h
 split at h<;>cases h
 unfold WT at hc;split at hc
 case isFalse=>cases hc
 rename_i hle;obtain rfl:=aqP hc;have ha:ev ρ x= .string a:=bg.str hx;have hb:ev ρ y= .string b:=bg.str hy;refine cm hs (v:= .string (a++b)) ?_ (bg.qm rfl)
 have:¬(9223372036854775807:Int)<(a.size:Int)+(b.size:Int):=by omega
 simp[execOp,eqGuard,binOp,Op.stringOp,ha,hb,IntKind.max,IntKind.signed,asm,this]
noncomputable def MX(T:bz P)(ob:Nat->Option (Nat×Th))(o:BinOp)(t:TypeId)(lit:Bool)(X Y:aI)(k:fF->Option R):Option R:=
 match asInt X with
 |some (kx,a)=>match asInt Y with
  |some (ky,b)=>match o with
   | .shl=>bif lit then(bif !decide (b<0)then k {dst:=pW kx (w7 kx a b)}else ae)else(uF kx a b).bind λc=>k {dst:=pW kx c}
   | .shr=>bif lit then(bif !decide (b<0)then k {dst:=pW kx (cg kx a b)}else ae)else(yG kx a b).bind λc=>k {dst:=pW kx c}
   |o=>bif decide (kx=ky)then
    (match o with
    | .quo=>bif lit then(bif decide (b≠0)then k {dst:=pW kx (kx.wrap (aq1 a b))}else ae)else(n9 a b).bind λc=>k {dst:=pW kx (kx.wrap c)}
    | .rem=>bif lit then(bif decide (b≠0)then k {dst:=pW kx (aq3 a b)}else ae)else(sV a b).bind λc=>k {dst:=pW kx c}
    |_=>match arith o kx a b with
     |some D=>k {dst:=D}
     |none=>ae)else ae
  |none=>ae
 |none=>match IR o X Y with
  |some (a,b)=>(WT a b).bind λc=>k {dst:= .val ag (.leaf .str c)}
  |none=>match WS T ob o t X Y with
   |some D=>k {dst:=D}
   |none=>ae
def TL(T:bz P){o:BinOp}{t u:TypeId}{lit:Bool}{X Y:aI}{x y:Operand}{k:fF->Option R}{q:R}(h:MX T ob o t lit X Y k=aa q)(hs:aP U H F w ob n)(hx:aH H F w X (ev ρ x))(hy:aH H F w Y (ev ρ y)):
 ∃e,k e=aa q/\cX P U H F w ρ ob n ⟨aa d, .binOp o t x y u,ty,pos,aft,ae⟩ e:=by
 unfold MX at h;split at h
 .rename_i kx a hX;split at h
  case h_2=>cases h
  rename_i ky b hY;have ha:=kD hX hx;have hb:=kD hY hy;split at h
  .cases lit with
   |true=>
    rw[cond_true]at h;obtain⟨eG,h⟩:=bi h;exact⟨_,h,bo hs (Fl ha hb (by simpa using eG)) (bg.mE ..)⟩
   |false=>
    rw[cond_false]at h;obtain⟨c,hc,h⟩:=bind_some h;unfold uF at hc;split at hc
    .cases hc
    .rename_i eG;obtain rfl:=aqP hc;exact⟨_,h,bo hs (Fl ha hb eG) (bg.mE ..)⟩
  .cases lit with
   |true=>
    rw[cond_true]at h;obtain⟨eG,h⟩:=bi h;exact⟨_,h,bo hs (Fp ha hb (by simpa using eG)) (bg.mE ..)⟩
   |false=>
    rw[cond_false]at h;obtain⟨c,hc,h⟩:=bind_some h;unfold yG at hc;split at hc
    .cases hc
    .rename_i eG;obtain rfl:=aqP hc;exact⟨_,h,bo hs (Fp ha hb eG) (bg.mE ..)⟩
  obtain⟨hk,h'⟩:=bi h;clear h;have hk:=al hk;subst hk;revert h';intro h;split at h
  .cases lit with
   |true=>
    rw[cond_true]at h;obtain⟨eG,h⟩:=bi h
    grind [PP]
   |false=>
    grind [n9,PP]
  .cases lit with
   |true=>
    rw[cond_true]at h;obtain⟨eG,h⟩:=bi h
    grind [PQ]
   |false=>
    grind [sV,PQ]
  grind [PO]
 .split at h
  .rename_i a b PZ;obtain⟨c,hc,h⟩:=bind_some h;exact⟨_,h,WU PZ hc hs hx hy⟩
  grind [TK]
def eUn(o:UnOp)(X:aI):Option aI:=
 match o with
 | .not=>match asBool X with
   |some b=>aa (fD (!b))
   |none=>ae
 | .neg=>match asInt X with
   |some (k,a)=>aa (pW k (k.wrap (0-a)))
   |none=>ae
 |_=>ae
theorem WV{o:UnOp}{t:TypeId}{X D:aI}{x:Operand}(h:eUn o X=aa D)(hs:aP U H F w ob n)(hx:aH H F w X (ev ρ x)):
 cX P U H F w ρ ob n ⟨aa d, .unOp o t x,ty,pos,aft,ae⟩ {dst:=D}:=by
 unfold eUn at h;split at h
 .split at h<;>cases h
  rename_i b hb;exact bo hs (Pw (rb hb hx)) (bg.iF ..)
 .split at h<;>cases h
  rename_i k a ha;exact bo hs (Px (kD ha hx)) (bg.mE ..)
 .cases h
def P1(T:bz P)(s t:TypeId)(X:aI):Option aI:=
 match find T.und s with
 |some _=>match find T.und t with
  |some (.int k)=>match asInt X with
   |some (_,a)=>aa (pW k (k.wrap a))
   |none=>ae
  |some .str=>match Fj X with
   |some a=>aa (adJ a)
   |none=>ae
  |_=>ae
 |none=>ae
def P2(T:bz P){s t:TypeId}{X D:aI}{x:Operand}(h:P1 T s t X=aa D)(hs:aP U H F w ob n)(hx:aH H F w X (ev ρ x)):
 cX P U H F w ρ ob n ⟨aa d, .convert s t x,ty,pos,aft,ae⟩ {dst:=D}:=by
 unfold P1 at h;split at h
 case h_2=>cases h
 rename_i ks hsu;obtain⟨dd,yB,_⟩:=(T.und_ok _ _ hsu).agg;split at h
 .rename_i k htu
  split at h<;>cases h
  rename_i k' a ha;exact bo hs (Mn yB (T.und_ok _ _ htu) (kD ha hx)) (bg.mE ..)
 .rename_i htu
  split at h<;>cases h
  rename_i a ha;have hv:=zG ha hx;have adV:P.underlying t=aa .string:=T.und_ok _ _ htu;refine cm hs (v:= .string a) ?_ (bg.mkStr ..);simp[execOp,convert,run_underlying yB,run_underlying adV,hv]
 .cases h
def zP(D:aI)(i:Nat):Option aI:=
 match D with
 | .tup ds=>match ds[i]? with
   |some (a,t)=>aa (.val a t)
   |none=>ae
 |_=>ae
def vT.get:{ds:List (Bool×Tree)}->{vs:List Value}->{i:Nat}->{a:Bool}->{t:Tree}->vT H F w ds vs->ds[i]? =aa (a,t)->∃v,vs[i]? =aa v/\bg H F w a t v
 |[],_,_,_,_,_,h=>by cases h
 |d::ds,_,0,a,t,hh,h=>by
  obtain⟨v,us,rfl,h1,h2⟩:=hh
  grind
 |d::ds,_,i+1,a,t,hh,h=>by
  obtain⟨v,us,rfl,h1,h2⟩:=hh;obtain⟨v',e,hv⟩:=vT.get h2 (by simpa using h)
  grind
theorem Fz{D D':aI}{i:Nat}{x:Operand}(h:zP D i=aa D')(hs:aP U H F w ob n)(hx:aH H F w D (ev ρ x)):
 cX P U H F w ρ ob n ⟨aa d, .extract x i,ty,pos,aft,ae⟩ {dst:=D'}:=by
 unfold zP at h;split at h
 case h_2=>cases h
 split at h<;>cases h
 rename_i ds a t hd;obtain⟨vs,e,ht⟩:=hx;obtain⟨v,hv,qk⟩:=ht.get hd;exact bo hs (Dx e (by simpa using hv)) qk
def yZ(mx:Bool)(X Y:aI):Option aI:=
 match asInt X,asInt Y with
 |some (k,a),aa (k',b)=>bif decide (k=k')then aa (pW k (bif mx then(if a<b then b else a)else(if b<a then b else a)))else ae
 |_,_=>ae
theorem zQ{mx:Bool}{t t':TypeId}{X Y D:aI}{x y:Operand}(h:yZ mx X Y=aa D)(hs:aP U H F w ob n)(hx:aH H F w X (ev ρ x))(hy:aH H F w Y (ev ρ y)):
 cX P U H F w ρ ob n ⟨aa d, .call {callee:= .builtin (bif mx then .max else .min),args:= #[x,y],argTypes:= #[t,t']},ty,pos,aft,ae⟩ {dst:=D}:=by
 unfold yZ at h;split at h
 case h_2=>cases h
 rename_i k a k' b ha hb;obtain⟨hk,h'⟩:=bi h;clear h;have hk:=al hk;subst hk;obtain rfl:=aqP h';have ha:=kD ha hx;have hb:=kD hb hy
 cases mx with
 |true=>exact bo hs (Mp ha hb) (bg.mE ..)
 |false=>exact bo hs (Mq ha hb) (bg.mE ..)
theorem MY{D:aI}{x:Operand}(hs:aP U H F w ob n)(hx:aH H F w D (ev ρ x)):cX P U H F w ρ ob n ⟨aa d, .move x,ty,pos,aft,ae⟩ {dst:=D}:=bo hs (Mi rfl) hx
theorem FA{D:aI}{x:Operand}(hs:aP U H F w ob n)(hx:aH H F w D (ev ρ x)):cX P U H F w ρ ob n ⟨aa d, .assign x,ty,pos,aft,ae⟩ {dst:=D}:=bo hs (Fe rfl) hx
def DD(T:bz P)(t:TypeId)(f:Nat)(X:aI):Option aI:=
 match find T.und t with
 |some (.struct fs)=>match fs[f]? with
  |some (ft,off)=>match find T.und ft with
   |some kk=>match X with
    | .val af u=>match u.get (vU fs.length f)with
      |some (s,fJ)=>bif aqV fJ off&&pX T ft kk s.size then aa (.val (mT kk) s)else ae
      |none=>ae
    |_=>ae
   |none=>ae
  |none=>ae
 |_=>ae
def IS(T:bz P){t:TypeId}{f:Nat}{X D:aI}{x:Operand}(h:DD T t f X=aa D)(hs:aP U H F w ob n)(hx:aH H F w X (ev ρ x)):
 cX P U H F w ρ ob n ⟨aa d, .field t x f,ty,pos,aft,ae⟩ {dst:=D}:=by
 unfold DD at h;split at h
 case h_2=>cases h
 rename_i fs hu;obtain⟨arr,IL,TC⟩:=T.und_ok _ _ hu;split at h
 case h_2=>cases h
 rename_i ft off hf;obtain⟨fd,Y2,rfl,rfl⟩:=Fs TC hf;split at h
 case h_2=>cases h
 rename_i kk hft;obtain⟨dd,yB,yC⟩:=(T.und_ok _ _ hft).agg;split at h
 case h_2=>cases h
 rename_i u;split at h
 case h_2=>cases h
 rename_i s fJ hg;obtain⟨hb,rfl⟩:=vV h;obtain⟨OW,WO⟩:=c7 hb;obtain rfl:=beq_true OW;have hz:=mF T WO;obtain⟨cs,tP,e,_⟩:=hx;obtain⟨g1,g2⟩:=tP.get hg;have hl:=g1.length;have e':ev ρ x= .agg cs.toArray:=e
 have ZM:∃v,(part fd.type cs.toArray fd.offset).run P w= .ok v w/\bg H F w (mT kk) s v:=by
  cases ha:mT kk with
  |true=>
   rw[aj ha]at hz;obtain⟨r,hr,Ta⟩:=hz;obtain⟨ti,z,h1,_,_,h4,_⟩:=T.row_ok _ _ hr;refine⟨.agg ((cs.drop fd.offset).take s.size).toArray,?_,_,g1,rfl,by simp⟩;unfold part;rw[arj,ic yB,yC,ha];simp[sizeOf,typeInfo,h1,h4,Ta]
  |false=>
   rw[ai (by simp[ha])]at hz
   have aF:fd.offset<cs.length:=by omega
   refine⟨cs[fd.offset],?_,_,g1,?_,λ_=>?_⟩
   .unfold part;rw[arj,ic yB,yC,ha];simp[aF]
   all_goals grind [List.take_one,List.head?_drop]
 obtain⟨v,hv,qk⟩:=ZM;refine cm hs (v:=v) ?_ qk;simp[execOp,Instr.field,run_underlying IL,Y2,e',asAgg,hv]
end
end
section
open Go Go.RowKit Go.MapKept
noncomputable def cy{α:Type}(K:Row):List (K.den×α)->K.den->Option α
 |[],_=>ae
 |p::l,k=>if gf K p.1 k=af then aa p.2 else cy K l k
noncomputable def rj{α:Type}(K:Row):List (K.den×α)->K.den->α->List (K.den×α)
 |[],k,v=>[(k,v)]
 |p::l,k,v=>if gf K p.1 k=af then(p.1,v)::l else p::rj K l k v
theorem k7{K:Row}{a b:K.den}{u v:Value}(ha:mS K a=aa u)(hb:mS K b=aa v):gf K a b=af↔u=v:=by
 unfold mS at ha
 split at ha<;>first|cases ha|skip
 all_goals grind [mS,gf]
def FB{P:Program}(T:bz P)(kt:TypeId):Row->Bool
 | .int k=>match find T.und kt with
   |some (.int k')=>decide (k=k')
   |_=>ag
 | .bool=>match find T.und kt with
   |some .bool=>af
   |_=>ag
 | .str=>match find T.und kt with
   |some .str=>af
   |_=>ag
 |_=>ag
section
variable {P:Program} {ρ:Nat->Value} {w w':World} {H H':aN} {F F':Nat->Prop} {U:Nat->Prop} {ob:Nat->Option (Nat×Th)} {n:Nat} {R:Type}
variable {op:Op} {ty:TypeId} {pos:String} {aft:Array Edge} {d:Nat}
def zR(T:bz P){kt:TypeId}{K:Row}(h:FB T kt K=af):∃d,P.underlying kt=aa d/\(∀x v,mS K x=aa v->IsKey d v)/\(∀x v,dy F w K [v] x->mS K x=aa v):=by
 unfold FB at h;split at h
 .split at h
  .rename_i k _ k' hu;obtain rfl:=al h;refine⟨_,T.und_ok _ _ hu,λx v hx=>?_,λx v hr=>?_⟩
   .obtain rfl:=aqP hx;rfl
   .have OV:[v]=[arI k x]:=hr;simp only[arV,and_true]at OV;rw[OV];rfl
  .cases h
 .split at h
  .rename_i hu;refine⟨_,T.und_ok _ _ hu,λx v hx=>?_,λx v hr=>?_⟩
   .obtain rfl:=aqP hx;trivial
   .have OV:[v]=[Value.bool x]:=hr;simp only[arV,and_true]at OV;rw[OV];rfl
  .cases h
 .split at h
  .rename_i hu;refine⟨_,T.und_ok _ _ hu,λx v hx=>?_,λx v hr=>?_⟩
   .obtain rfl:=aqP hx;trivial
   .have OV:[v]=[Value.string x]:=hr;simp only[arV,and_true]at OV;rw[OV];rfl
  .cases h
 .cases h
def xg{K:Row}{agg:Bool}{V:Row}{dd:TypeDesc}{x:K.den}{kv:Value}(hK:∀x v,mS K x=aa v->IsKey dd v)(hx:mS K x=aa kv):{es:List MapEntry}->{l:List (K.den×V.den)}->(i:Nat)->iP H F w K agg V es l->
 (arN dd kv es i=aa ae/\cy K l x=ae/\(∀e∈es,e.key≠kv)/\∀H' F' w' y(e:MapEntry),e.key=kv->H.le H'->Step F w F' w'->bg H' F' w' agg (.leaf V y) e.val->iP H' F' w' K agg V (es++[e]) (rj K l x y))\/
 ∃j e y,arN dd kv es i=aa (aa (i+j,e.val))/\es[j]? =aa e/\e.key=kv/\cy K l x=aa y/\bg H F w agg (.leaf V y) e.val/\
  ∀H' F' w' y(f:MapEntry->MapEntry),(f e).key=kv->H.le H'->Step F w F' w'->bg H' F' w' agg (.leaf V y) (f e).val->iP H' F' w' K agg V (es.modify j f) (rj K l x y)
 |[],l,i,h=>by
  obtain rfl:l=[]:=h;refine .inl ⟨rfl,rfl,by simp,λH' F' w' y e he hH hs hv=>⟨x,y,[],rfl,by grind,hv,rfl⟩⟩
 |e::es,l,i,h=>by
  obtain⟨k,y,l',rfl,h1,h2,h3⟩:=h;obtain⟨r,hr,WW⟩:=sameNow_of_keys (hK x kv hx) (hK k _ h1);have OT:=k7 h1 hx
  cases r with
  |true=>
   have hke:kv=e.key:=WW.1 rfl;have hq:gf K k x=af:=OT.2 hke.symm;refine .inr ⟨0,e,y,by simp[arN,hr],rfl,hke.symm,by simp[cy,hq],h2,λH' F' w' y' f hf hH hs hv=>?_⟩;refine⟨k,y',l',by simp[rj,hq],?_,hv,h3.keep hH hs⟩
   grind
  |false=>
   have eG:¬e.key=kv:=(by grind)
   have hq:¬gf K k x=af:=λq=>eG (OT.1 q)
   rcases xg hK hx (i+1) h3 with⟨a1,a2,a3,a4⟩|⟨j,e',z,a1,a2,a3,a4,a5,a6⟩
   .refine .inl ⟨by simp[arN,hr,a1],by simp[cy,hq,a2],λe' za=>?_,λH' F' w' y' e' za hH hs hv=>?_⟩
    .grind
    .exact⟨k,y,_,by simp[rj,hq],h1,h2.keep hH hs,a4 H' F' w' y' e' za hH hs hv⟩
   .refine .inr ⟨j+1,e',z,by simp[arN,hr,a1];omega,by simpa using a2,a3,by simp[cy,hq,a4],a5,λH' F' w' y' f hf hH hs hv=>?_⟩;refine⟨k,y,_,by simp[rj,hq],?_,?_,a6 H' F' w' y' f hf hH hs hv⟩
    .exact h1
    .exact h2.keep hH hs
noncomputable def asKey(ob:Nat->Option (Nat×Th))(K:Row):aI->Option K.den
 | .val ag t=>flat ob K t
 |_=>ae
def zS(hs:aP U H F w ob n){K:Row}{D:aI}{x:K.den}{v:Value}(h:asKey ob K D=aa x)(hd:aH H F w D v):dy F w K [v] x:=by
 unfold asKey at h;split at h
 .obtain⟨cs,h1,_,h3⟩:=hd
  grind [jz]
 .cases h
def KQ(ob:Nat->Option (Nat×Th)):aI->Option (Nat×Nat×Th)
 | .val ag (.own o)=>match ob o with
   |some (s, .map T K agg V l)=>aa (o,s, .map T K agg V l)
   |_=>ae
 |_=>ae
def FC(hs:aP U H F w ob n){D:aI}{o s:Nat}{t:Th}{v:Value}(h:KQ ob D=aa (o,s,t))(hd:aH H F w D v):∃T K agg V l b es clock,t= .map T K agg V l/\ob o=aa (s,t)/\H.val o=aa v/\v= .map (aa b)/\
 w.heap[b]? =aa (.map es clock)/\Stamped es clock/\iP H F w K agg V es.toList l:=by
 unfold KQ at h;split at h
 .rename_i o';split at h
  .rename_i s' T K agg V l de;simp only[aq2,Prod.mk.injEq]at h;obtain⟨rfl,rfl,rfl⟩:=h;obtain⟨cs,⟨u,hu,_,e⟩,_,h3⟩:=hd;rw[h3 rfl]at e
   obtain rfl:v=u:=by simpa using e
   obtain⟨v',ga,dC⟩:=hs.obj _ _ _ de;rw[hu]at ga;obtain rfl:=aqP ga;obtain⟨b,es,clock,e,h1,h2,h3⟩:=dC.ok
   grind
  .cases h
 .cases h
def rk(T:bz P)(n:Nat)(t:TypeId)(k:fF->Option R):Option R:=
 match find T.und t with
 |some (.map kt vt)=>match find T.row kt with
  |some K=>match find T.row vt with
   |some V=>match find T.und vt with
    |some kk=>k {dst:= .val ag (.own n),make:=[(n,(n, .map t K (mT kk) V []))]}
    |none=>ae
   |none=>ae
  |none=>ae
 |_=>ae
def FD(T:bz P){t:TypeId}{k:fF->Option R}{q:R}(h:rk T n t k=aa q)(hs:aP U H F w ob n):
 ∃e,k e=aa q/\cX P U H F w ρ ob n ⟨aa d, .makeMap t ae,ty,pos,aft,ae⟩ e:=by
 unfold rk at h;split at h
 case h_2=>cases h
 split at h
 case h_2=>cases h
 rename_i K _;split at h
 case h_2=>cases h
 rename_i V _;split at h
 case h_2=>cases h
 rename_i kk _
 have bP:(execOp (ev ρ) ⟨aa d, .makeMap t ae,ty,pos,aft,ae⟩).run P w= .ok (.value (.map (aa w.heap.size))) (w.alloc (.map #[] 0)):=by
  simp[execOp,Instr.makeMap,aq5]
 refine⟨_,h,cP.val bP ?_⟩
 have hv:((H.bR n (.map t K (mT kk) V [])).dh n (.map (aa w.heap.size))).val n=aa (.map (aa w.heap.size)):=by simp[aN.dh]
 refine oh.new (v0:= .map (aa w.heap.size)) hs rfl rfl (rf _) ⟨_, #[],0,rfl,(heap_alloc w _).1,stamped_empty 0,rfl⟩ (λk hk=>?_) (qp hv rfl);simp only[fp,Value.map.injEq,aq2]at hk;subst hk;exact⟨λe=>by have:=hs.lt _ e;omega,by simp, .inl (aqU _)⟩
noncomputable def oi(T:bz P)(ob:Nat->Option (Nat×Th))(n:Nat)(t:TypeId)(M X Y:aI)(k:fF->Option R):Option R:=
 match find T.und t with
 |some (.map kt _)=>match KQ ob M with
  |some (o,_, .map T0 K agg V l)=>bif FB T kt K then(match asKey ob K X with
   |some x=>match Y with
    | .val gh tr=>bif (bif agg then gh else !gh)then(match flat ob V tr with
      |some y=>k {dst:= .dead,eat:=[o],make:=[(o,(n, .map T0 K agg V (rj K l x y)))]}
      |none=>ae)else ae
    |_=>ae
   |none=>ae)else ae
  |_=>ae
 |_=>ae
def xh{WX kt et:TypeId}{dd:TypeDesc}{b clock:Nat}{es:Array MapEntry}{key val:Value}(hm:P.underlying WX=aa (.map kt et))(hd:P.underlying kt=aa dd)(hb:w.heap[b]? =aa (.map es clock))(hk:IsKey dd key):
 (arN dd key es.toList 0=aa ae->(ar2 WX (.map (aa b)) key val).run P w= .ok () {w with heap:=w.heap.setIfInBounds b (.map (es.push {key,val,born:=clock}) (clock+1))})/\
 (∀j e,arN dd key es.toList 0=aa (aa (j,e))->((es[j]?).map (·.key)).getD key=key->(ar2 WX (.map (aa b)) key val).run P w= .ok () {w with heap:=w.heap.setIfInBounds b (.map (es.modify j λe=>{e with key,val}) clock)}):=by
 refine⟨λh1=>?_,λj e h1 h2=>?_⟩
 .simp[ar2,run_underlying hm,arD hb,ar4 hd hk,asa hd h1,ar9 _ hb,aq5]
 .simp[ar2,run_underlying hm,arD hb,ar4 hd hk,asa hd h1,h2,run_keyThatStays hk,ar9 _ hb,aq5]
def Bw(T:bz P){t:TypeId}{M X Y:aI}{m x y:Operand}{k:fF->Option R}{q:R}(h:oi T ob n t M X Y k=aa q)(hs:aP U H F w ob n)(hm:aH H F w M (ev ρ m))(hx:aH H F w X (ev ρ x))(hy:aH H F w Y (ev ρ y)):
 ∃e,k e=aa q/\cX P U H F w ρ ob n ⟨ae, .mapUpdate t m x y,ty,pos,aft,ae⟩ e:=by
 unfold oi at h;split at h
 case h_2=>cases h
 rename_i kt vt hu;split at h
 case h_2=>cases h
 rename_i o s T0 K agg V l vY;obtain⟨hk,h'⟩:=bi h;clear h;split at h'
 case h_2=>cases h'
 rename_i a ha;split at h'
 case h_2=>cases h'
 rename_i gh tr;obtain⟨va,h⟩:=bi h';clear h'
 have va:agg=gh:=by cases agg<;>cases gh<;>simp_all
 subst va;split at h
 case h_2=>cases h
 rename_i b hb;refine⟨_,h,?_⟩;obtain⟨dd,hd,hK,hR⟩:=zR (F:=F) (w:=w) T hk;obtain⟨T1,K1,adW,V1,l1,r,es,clock,e0,de,hv,qj,hh,jJ,zT⟩:=FC hs vY hm;cases e0;have sI:=hR _ _ (zS hs ha hx)
 have sH:bg H F w agg (.leaf V b) (ev ρ y):=by
  obtain⟨cs,h1,h2⟩:=hy;exact⟨cs,jz hs hb h1,h2⟩
 have adX:r<w.heap.size:=(ary.1 hh).1
 have fin:∀o',(ar2 t (.map (aa r)) (ev ρ x) (ev ρ y)).run P w= .ok () {w with heap:=w.heap.setIfInBounds r o'}->
  (∀w',(∀k,k≠r->w'.heap[k]? =w.heap[k]?)->∃pA qS,o'= .map pA qS/\Stamped pA qS/\iP (H.bR n (.map T0 K agg V (rj K l a b))) F w' K agg V pA.toList (rj K l a b))->
  cX P U H F w ρ ob n ⟨ae, .mapUpdate t m x y,ty,pos,aft,ae⟩ {dst:= .dead,eat:=[o],make:=[(o,(n, .map T0 K agg V (rj K l a b)))]}:=by
  intro o' bP P3;refine cP.unit (w':={w with heap:=w.heap.setIfInBounds r o'}) ?_ ?_
  .simp[execOp,qj,bP,aq5]
  .have qT:∀k,k≠r->(w.heap.setIfInBounds r o')[k]? =w.heap[k]? :=(heap_set hh).2;obtain⟨pA,qS,rfl,g1,g2⟩:=P3 {w with heap:=w.heap.setIfInBounds r o'} qT;refine oh.yX (t':= .map T0 K agg V (rj K l a b)) (w':={w with heap:=w.heap.setIfInBounds r (.map pA qS)}) hs de hv rfl (λk hk=>hk) ⟨rfl,⟨rfl,aqU _⟩,rfl,by simp,λk hk hn=>qT k λe=>hn (by subst e;exact qj)⟩ ⟨r,pA,qS,qj,(heap_set hh).1,g1,g2⟩ trivial
 have P4:H.le (H.bR n (.map T0 K agg V (rj K l a b))):=aN.iU (hs.fresh n (aqU _) (by omega)).2
 have fC:∀w':World,(∀k,k≠r->w'.heap[k]? =w.heap[k]?)->Step F w F w':=by
  intro w' hw b hb;refine⟨hb,hw b λe=>?_⟩;subst e;obtain⟨v',ga,dC⟩:=hs.obj _ _ _ de;rw[hv]at ga;obtain rfl:=aqP ga;exact dC.no b qj hb
 obtain⟨r1,r2⟩:=xh (val:=ev ρ y) (T.und_ok _ _ hu) hd hh (hK _ _ sI)
 rcases xg hK sI 0 zT with⟨a1,a2,a3,a4⟩|⟨j,e,z,a1,a2,a3,a4,a5,a6⟩
 .refine fin _ (r1 a1) λw' hw=>⟨_,_,rfl,stamped_push jJ a3,?_⟩
  rw[Array.toList_push];exact a4 _ F w' b _ rfl P4 (fC w' hw) (sH.keep P4 (fC w' hw))
 .rw[arv]at a1
  have hj:es[j]? =aa e:=by simpa using a2
  refine fin _ (r2 j _ a1 (by grind)) λw' hw=>⟨_,_,rfl,stamped_modify jJ _ _ (λ_ _=>rfl) (λe' _ za=>?_),?_⟩
  .grind
  .rw[Array.toList_modify];exact a6 _ F w' b _ rfl P4 (fC w' hw) (sH.keep P4 (fC w' hw))
noncomputable def sJ{α:Type}(K:Row):List (K.den×α)->K.den->List (K.den×α)
 |[],_=>[]
 |p::l,k=>if gf K p.1 k=af then l else p::sJ K l k
def Ci{K:Row}{agg:Bool}{V:Row}{dd:TypeDesc}{x:K.den}{kv:Value}(hK:∀x v,mS K x=aa v->IsKey dd v)(hx:mS K x=aa kv):{es:List MapEntry}->{l:List (K.den×V.den)}->(i:Nat)->iP H F w K agg V es l->
 (arN dd kv es i=aa ae/\sJ K l x=l)\/
 ∃(j:Nat)(e:MapEntry),arN dd kv es i=aa (aa (i+j,e.val))/\j<es.length/\∀H' F' w',H.le H'->Step F w F' w'->iP H' F' w' K agg V (es.eraseIdx j) (sJ K l x)
 |[],l,i,h=>by
  obtain rfl:l=[]:=h;exact .inl ⟨rfl,rfl⟩
 |e::es,l,i,h=>by
  obtain⟨k,y,l',rfl,h1,h2,h3⟩:=h;obtain⟨r,hr,WW⟩:=sameNow_of_keys (hK x kv hx) (hK k _ h1);have OT:=k7 h1 hx
  cases r with
  |true=>
   have hq:gf K k x=af:=OT.2 (WW.1 rfl).symm;exact .inr ⟨0,e,by simp[arN,hr],by simp,λH' F' w' hH hs=>by simpa[sJ,hq]using h3.keep hH hs⟩
  |false=>
   have hq:¬gf K k x=af:=(by grind)
   rcases Ci hK hx (i+1) h3 with⟨a1,a2⟩|⟨j,e',a1,a2,a3⟩
   .exact .inl ⟨by simp[arN,hr,a1],by simp[sJ,hq,a2]⟩
   .exact .inr ⟨j+1,e',by simp[arN,hr,a1];omega,by simpa using a2,λH' F' w' hH hs=>⟨k,y,_,by simp[sJ,hq],h1,h2.keep hH hs,a3 H' F' w' hH hs⟩⟩
noncomputable def tU(T:bz P)(ob:Nat->Option (Nat×Th))(n:Nat)(t:TypeId)(M X:aI)(k:fF->Option R):Option R:=
 match find T.und t with
 |some (.map kt _)=>match KQ ob M with
  |some (o,_, .map T0 K agg V l)=>bif FB T kt K then(match asKey ob K X with
   |some x=>k {dst:= .dead,eat:=[o],make:=[(o,(n, .map T0 K agg V (sJ K l x)))]}
   |none=>ae)else ae
  |_=>ae
 |_=>ae
def IT(T:bz P){t t':TypeId}{M X:aI}{m x:Operand}{k:fF->Option R}{q:R}{dst:Option Nat}(h:tU T ob n t M X k=aa q)(hs:aP U H F w ob n)(hm:aH H F w M (ev ρ m))(hx:aH H F w X (ev ρ x)):
 ∃e,k e=aa q/\cX P U H F w ρ ob n ⟨dst, .call {callee:= .builtin .delete,args:= #[m,x],argTypes:= #[t,t']},ty,pos,aft,ae⟩ e:=by
 unfold tU at h;split at h
 case h_2=>cases h
 rename_i kt vt hu;split at h
 case h_2=>cases h
 rename_i o s T0 K agg V l vY;obtain⟨hk,h'⟩:=bi h;clear h;split at h'
 case h_2=>cases h'
 rename_i a ha;refine⟨_,h',?_⟩;obtain⟨dd,hd,hK,hR⟩:=zR (F:=F) (w:=w) T hk;obtain⟨T1,K1,adW,V1,l1,r,es,clock,e0,de,hv,qj,hh,jJ,zT⟩:=FC hs vY hm;cases e0;have sI:=hR _ _ (zS hs ha hx);have P4:H.le (H.bR n (.map T0 K agg V (sJ K l a))):=aN.iU (hs.fresh n (aqU _) (by omega)).2
 have fin:∀pA,(Builtin.delete_ #[t,t'] ty #[.map (aa r),ev ρ x]).run P w= .ok (.tuple #[]) {w with heap:=w.heap.setIfInBounds r (.map pA clock)}->Stamped pA clock->
  (∀w',Step F w F w'->iP (H.bR n (.map T0 K agg V (sJ K l a))) F w' K agg V pA.toList (sJ K l a))->
  cX P U H F w ρ ob n ⟨dst, .call {callee:= .builtin .delete,args:= #[m,x],argTypes:= #[t,t']},ty,pos,aft,ae⟩ {dst:= .dead,eat:=[o],make:=[(o,(n, .map T0 K agg V (sJ K l a)))]}:=by
  intro pA bP WY P3;have qT:∀k,k≠r->(w.heap.setIfInBounds r (.map pA clock))[k]? =w.heap[k]? :=(heap_set hh).2;refine cP.val (v:= .tuple #[]) (w':={w with heap:=w.heap.setIfInBounds r (.map pA clock)}) (by simp[execOp,resolve,invoke,builtin,qj,bP,aq5]) ?_;refine oh.yX (t':= .map T0 K agg V (sJ K l a)) (w':={w with heap:=w.heap.setIfInBounds r (.map pA clock)}) hs de hv rfl (λk hk=>hk) ⟨rfl,⟨rfl,aqU _⟩,rfl,by simp,λk hk hn=>qT k λe=>hn (by subst e;exact qj)⟩ ⟨r,pA,clock,qj,(heap_set hh).1,WY,P3 _ λb hb=>?_⟩ trivial;refine⟨hb,qT b λe=>?_⟩;subst e;obtain⟨v',ga,dC⟩:=hs.obj _ _ _ de;rw[hv]at ga;obtain rfl:=aqP ga;exact dC.no b qj hb
 rcases Ci hK sI 0 zT with⟨a1,a2⟩|⟨j,e,a1,a2,a3⟩
 .refine fin es ?_ jJ λw' hw=>?_
  .simp[Builtin.delete_,run_underlying (T.und_ok _ _ hu),arD hh,ar4 hd (hK _ _ sI),asa hd a1,ar9 _ hh,aq5]
  .rw[a2];exact zT.keep (by grind) hw
 .rw[arv]at a1
  refine fin (es.eraseIdxIfInBounds j) ?_ (MapKept.stamped_erase jJ j) λw' hw=>?_
  .simp[Builtin.delete_,run_underlying (T.und_ok _ _ hu),arD hh,ar4 hd (hK _ _ sI),asa hd a1,ar9 _ hh,aq5]
  simp_all
def FE{t:TypeId}{agg:Bool}{V:Row}(h:DB P t agg V)(h1:agg=ag->V.size=1):∃z,(zeroValue t).run P w= .ok z w/\bg H F w agg (.leaf V V.zero) z:=by
 obtain⟨z,hz,e⟩:=h
 cases hi:P.info? t with
 |none=>grind
 |some ti=>
  rw[hi]at hz;refine⟨z,?_,V.gF,dy.zero F w V,e,λha=>?_⟩
  .have hz':ti.zero=aa z:=hz;simp[zeroValue,typeInfo,hi,hz',aq5]
  .have hl:V.gF.length=V.size:=(dy.zero F w V).length;rw[h1 ha]at hl;subst ha;rw[cond_false]at e
   match hv:V.gF,hl with
   |[u],_=>grind
theorem KR{K:Row}{agg:Bool}{V:Row}:{es:List MapEntry}->{l:List (K.den×V.den)}->es.length=l.length->(∀i(h:i<l.length),∃(e:MapEntry)(cs:List Value),es[i]? =aa e/\mS K l[i].1=aa e.key/\dy F w V cs l[i].2/\e.val=(bif agg then .agg cs.toArray else cs.headD undef)/\(agg=ag->cs=[e.val]))->iP H F w K agg V es l
 |[],[],_,_=>rfl
 |[],_::_,h,_=>by cases h
 |_::_,[],h,_=>by cases h
 |e::es,(k,x)::l,hl,h=>by
  obtain⟨e',cs,h1,h2,h3,h4,h5⟩:=h 0 (by simp)
  obtain rfl:e=e':=by simpa using h1
  exact⟨k,x,l,rfl,h2,⟨cs,h3,h4,h5⟩,KR (by simpa using hl) λi hi=>by
   obtain⟨e',yA,q1,q2,q3,q4⟩:=h (i+1) (by simpa using hi)
   grind⟩
def KS{K:Row}{agg:Bool}{V:Row}:{es:List MapEntry}->{l:List (K.den×V.den)}->iP H F w K agg V es l->es.length=l.length/\∀i(h:i<l.length),∃(e:MapEntry)(cs:List Value),es[i]? =aa e/\mS K l[i].1=aa e.key/\dy F w V cs l[i].2/\e.val=(bif agg then .agg cs.toArray else cs.headD undef)/\(agg=ag->cs=[e.val])
 |[],l,h=>by obtain rfl:l=[]:=h;grind
 |e::es,l,h=>by
  obtain⟨k,x,l',rfl,h1,⟨cs,h2,h3,h4⟩,h5⟩:=h;obtain⟨g1,g2⟩:=KS h5;refine⟨by simp[g1],λi hi=>?_⟩
  cases i with
  |zero=>exact⟨e,cs,rfl,h1,h2,h3,h4⟩
  |succ i=>
   obtain⟨e',yA,q1,q2,q3,q4⟩:=g2 i (by simpa using hi)
   grind
structure ZN where
 K:Row
 agg:Bool
 V:Row
 l:List (K.den×V.den)
def IU(ob:Nat->Option (Nat×Th)):aI->Option ZN
 | .val ag (.leaf (.map K agg V) l)=>aa ⟨K,agg,V,l⟩
 | .val ag (.own o)=>match ob o with
   |some (_, .map _ K agg V l)=>aa ⟨K,agg,V,l⟩
   |some (_, .fmap _ K agg V l)=>aa ⟨K,agg,V,l⟩
   |_=>ae
 |_=>ae
def KT{K:Row}{agg:Bool}{V:Row}{l:List (K.den×V.den)}{v:Value}(h:dy F w (.map K agg V) [v] l):(v= .map ae/\l=[])\/∃b es clock,v= .map (aa b)/\w.heap[b]? =aa (.map es clock)/\Stamped es clock/\iP H F w K agg V es.toList l:=by
 obtain⟨u,e,h⟩:=h
 grind [KR]
def MZ(hs:aP U H F w ob n){D:aI}{m:ZN}{v:Value}(h:IU ob D=aa m)(hd:aH H F w D v):(v= .map ae/\m.l=[])\/∃b es clock,v= .map (aa b)/\w.heap[b]? =aa (.map es clock)/\Stamped es clock/\iP H F w m.K m.agg m.V es.toList m.l:=by
 unfold IU at h;split at h
 .cases h;exact KT hd.inv
 .rename_i o;obtain⟨cs,⟨u,hu,_,e⟩,_,h3⟩:=hd;rw[h3 rfl]at e
  obtain rfl:v=u:=by simpa using e
  split at h
  .rename_i s T K agg V l de;cases h;obtain⟨v',ga,dC⟩:=hs.obj _ _ _ de;rw[hu]at ga;obtain rfl:=aqP ga;obtain⟨b,es,clock,e,h1,h2,h3⟩:=dC.ok
   grind
  .rename_i s T K agg V l de;cases h;obtain⟨v',ga,dC⟩:=hs.obj _ _ _ de;rw[hu]at ga;obtain rfl:=aqP ga;exact KT dC.ok
  .cases h
 .cases h
noncomputable def tV(T:bz P)(ob:Nat->Option (Nat×Th))(t:TypeId)(ok:Bool)(M X:aI)(k:fF->Option R):Option R:=
 match find T.und t with
 |some (.map kt vt)=>match IU ob M with
  |some ⟨K,agg,V,l⟩=>match find T.zer vt with
   |some (gh,V')=>bif FB T kt K&&(bif agg then gh else !gh)&&V'.beq V&&(agg||aqV V.size 1)then(match asKey ob K X with
    |some x=>bif ok then k {dst:= .tup [(agg, .leaf V ((cy K l x).getD V.zero)),(ag, .leaf .bool (cy K l x).isSome)]}
     else k {dst:= .val agg (.leaf V ((cy K l x).getD V.zero))}
    |none=>ae)else ae
   |none=>ae
  |none=>ae
 |_=>ae
def IV(T:bz P){t:TypeId}{ok:Bool}{M X:aI}{m x:Operand}{k:fF->Option R}{q:R}(h:tV T ob t ok M X k=aa q)(hs:aP U H F w ob n)(hm:aH H F w M (ev ρ m))(hx:aH H F w X (ev ρ x)):
 ∃e,k e=aa q/\cX P U H F w ρ ob n ⟨aa d, .lookup t m x ok,ty,pos,aft,ae⟩ e:=by
 unfold tV at h;split at h
 case h_2=>cases h
 rename_i kt vt hu;split at h
 case h_2=>cases h
 rename_i K agg V l vY;split at h
 case h_2=>cases h
 rename_i gh V' hz;obtain⟨hc,h'⟩:=bi h;clear h;obtain⟨hc,Y7⟩:=c7 hc;obtain⟨hc,P5⟩:=c7 hc;obtain⟨B7,Fg⟩:=c7 hc
 have va:agg=gh:=by cases agg<;>cases gh<;>simp_all
 subst va;obtain rfl:=Row.eq_of_beq P5;split at h'
 case h_2=>cases h'
 rename_i a ha;obtain⟨dd,hd,hK,hR⟩:=zR (F:=F) (w:=w) T B7;have sI:=hR _ _ (zS hs ha hx)
 have po:agg=ag->V'.size=1:=λe=>by simp_all
 obtain⟨z,IP,KL⟩:=FE (w:=w) (H:=H) (F:=F) (T.zer_ok _ _ _ hz) po
 have main:∃v,(asx t (ev ρ m) (ev ρ x) ok).run P w= .ok (if ok then .tuple #[v, .bool (cy K l a).isSome]else v) w/\bg H F w agg (.leaf V' ((cy K l a).getD V'.zero)) v:=by
  have P6:=hK _ _ sI;have KU:=T.und_ok _ _ hu
  rcases MZ hs vY hm with⟨qj,hl⟩|⟨r,es,clock,qj,hh,jJ,zT⟩
  .dsimp only at hl;subst hl;refine⟨z,?_,KL⟩;rw[qj];have hf:=asa (w:=w) hd (show arN dd (ev ρ x) [] 0=aa ae from rfl)
   cases ok<;>simp[asx,run_underlying KU,ar4 hd P6,hf,IP,cy,aq5]
  .dsimp only at zT
   rcases xg hK sI 0 zT with⟨a1,a2,_⟩|⟨j,e,y,a1,_,_,a4,a5,_⟩
   .refine⟨z,?_,by grind⟩;rw[qj,a2];simp[asx,run_underlying KU,arD hh,ar4 hd P6,asa hd a1,IP,aq5]
   .refine⟨e.val,?_,by grind⟩;rw[qj,a4];simp[asx,run_underlying KU,arD hh,ar4 hd P6,asa hd a1,aq5]
 obtain⟨v,bP,qk⟩:=main
 cases ok with
 |true=>
  refine⟨_,h',cm hs (v:= .tuple #[v, .bool (cy K l a).isSome]) (by simp[execOp,bP,aq5]) ⟨[v, .bool (cy K l a).isSome],rfl,_,_,rfl,qk,_,_,rfl,bg.iF ..,rfl⟩⟩
 |false=>exact⟨_,h',cm hs (v:=v) (by simp[execOp,bP,aq5]) qk⟩
def lH(s:ByteArray)(i:Int):Option Int:=(if 0<=i then s[i.toNat]? else ae).map λb=>(b.toNat:Int)
def FF{e:Row}:{m:Nat}->{r:Row}->{x:r.den}->{l:List e.den}->{cs:List Value}->pu m r x e=aa l->dy F w r cs x->l.length=m/\cs.length=m*e.size/\∀i(h:i<l.length),dy F w e ((cs.drop (i*e.size)).take e.size) l[i]
 |0,r,x,l,cs,h,_=>by unfold pu at h;cases h
 |1,r,x,l,cs,h,ha=>by
  unfold pu at h;split at h
  case isFalse=>cases h
  rename_i hb;obtain rfl:=Row.eq_of_beq hb;obtain rfl:=aqP h;have hl:=ha.length;refine⟨rfl,by simp[hl],λi hi=>?_⟩
  obtain rfl:i=0:=by grind
  rw[Nat.zero_mul,List.drop_zero,<-hl,List.take_length];exact ha
 |m+2, .pair a b,x,l,cs,h,ha=>by
  unfold pu at h;split at h
  case isFalse=>cases h
  rename_i hb;obtain rfl:=Row.eq_of_beq hb;split at h
  case h_2=>cases h
  rename_i l' hl;obtain rfl:=aqP h;obtain⟨c1,c2,rfl,h1,h2⟩:=ha;have Y1:=h1.length;obtain⟨g1,g2,g3⟩:=FF hl h2;refine⟨by simp[g1],by grind,λi hi=>?_⟩
  cases i with
  |zero=>
   rw[Nat.zero_mul,List.drop_zero,List.take_append_of_le_length (by omega),<-Y1,List.take_length];exact h1
  |succ i=>
   grind [List.drop_drop,List.drop_left]
 |m+2, .int _,_,_,_,h,_=>by unfold pu at h;cases h
 |m+2, .bool,_,_,_,h,_=>by unfold pu at h;cases h
 |m+2, .str,_,_,_,h,_=>by unfold pu at h;cases h
 |m+2, .slice _,_,_,_,h,_=>by unfold pu at h;cases h
 |m+2, .od,_,_,_,h,_=>by unfold pu at h;cases h
 |m+2, .nul _,_,_,_,h,_=>by unfold pu at h;cases h
 |m+2, .map ..,_,_,_,h,_=>by unfold pu at h;cases h
def tW(T:bz P)(ob:Nat->Option (Nat×Th))(t:TypeId)(D:aI)(i:Int)(k:fF->Option R):Option R:=
 match find T.und t with
 |some .str=>match Fj D with
  |some s=>(lH s i).bind λc=>k {dst:=pW .u8 c}
  |none=>ae
 |some (.array m e)=>match find T.row t with
  |some r=>match find T.row e with
   |some re=>match find T.und e with
    |some kk=>match D with
     | .val af tr=>match flat ob r tr with
       |some x=>match pu m r x re with
        |some l=>bif mT kk||aqV re.size 1 then(idx l i).bind λy=>k {dst:= .val (mT kk) (.leaf re y)}else ae
        |none=>ae
       |none=>ae
     |_=>ae
    |none=>ae
   |none=>ae
  |none=>ae
 |_=>ae
def IW(T:bz P){t:TypeId}{D:aI}{x y:Operand}{kd:IntKind}{i:Int}{k:fF->Option R}{q:R}(h:tW T ob t D i k=aa q)(hs:aP U H F w ob n)(hx:aH H F w D (ev ρ x))(hy:ev ρ y= .int kd i):
 ∃e,k e=aa q/\cX P U H F w ρ ob n ⟨aa d, .index t x y,ty,pos,aft,ae⟩ e:=by
 unfold tW at h;split at h
 .rename_i hu;have hu:=T.und_ok _ _ hu;split at h
  case h_2=>cases h
  rename_i s hS;obtain⟨c,hc,hk⟩:=bind_some h;have hv:=zG hS hx;unfold lH at hc;obtain⟨b,hb,rfl⟩:=Option.map_eq_some_iff.1 hc;refine⟨_,hk,cm hs (v:= .int .u8 b.toNat) ?_ (bg.mE ..)⟩;have KU:P.underlying t=aa .string:=hu;simp[execOp,Instr.index,asIntOf,run_underlying KU,hv,hy,hb]
 .rename_i m e hu;have hu:P.underlying t=aa (.array m e):=T.und_ok _ _ hu;split at h
  case h_2=>cases h
  rename_i r hr;split at h
  case h_2=>cases h
  rename_i re hre;split at h
  case h_2=>cases h
  rename_i kk OT;split at h
  case h_2=>cases h
  rename_i tr;split at h
  case h_2=>cases h
  rename_i z hz;split at h
  case h_2=>cases h
  rename_i l hl;obtain⟨hag,h'⟩:=bi h;clear h;obtain⟨a,ha,hk⟩:=bind_some h';obtain⟨cs,hh,hv,_⟩:=hx;rw[cond_true]at hv;obtain⟨g1,g2,g3⟩:=FF hl (jz hs hz hh);obtain⟨j,hj,aF,rfl⟩:=jI ha;obtain⟨ti,z0,h1,_,_,h4,_⟩:=T.row_ok _ _ hre;obtain⟨dd,yB,yC⟩:=(T.und_ok _ _ OT).agg;have xi:=g3 j aF
  have po:(j+1)*re.size<=cs.length:=by rw[g2];exact aq4 _ (by omega)
  rw[arn]at po;refine⟨_,hk,?_⟩
  cases va:mT kk with
  |true=>
   refine cm hs (v:= .agg ((cs.drop (j*re.size)).take re.size).toArray) ?_ ⟨_,xi,rfl,by simp⟩;subst hj;simp[execOp,Instr.index,asIntOf,run_underlying hu,hv,hy,show j<m by omega,part,arj,ic yB,yC,va,sizeOf,typeInfo,h1,h4,List.extract_eq_take_drop]
  |false=>
   rw[va,Bool.false_or]at hag;have n5:=beq_true hag;have hlen:=xi.length;rw[n5,Nat.mul_one]at xi po;rw[n5]at hlen
   obtain⟨v,Bt⟩:∃v,(cs.drop j).take 1=[v]:=by
    match hq:(cs.drop j).take 1,KV:((cs.drop j).take 1).length with
    |[v],_=>grind
    |[],_=>grind
    |_::_::_,_=>grind
   rw[Bt]at xi
   have Tv:cs[j]? =aa v:=by
    have:(cs.drop j)[0]? =aa v:=by
     have h0:((cs.drop j).take 1)[0]? =aa v:=by rw[Bt];rfl
     rwa [List.getElem?_take_of_lt (by omega)]at h0
    simpa using this
   refine cm hs (v:=v) ?_ (bg.qm xi);subst hj;simp[execOp,Instr.index,asIntOf,run_underlying hu,hv,hy,show j<m by omega,part,arj,ic yB,yC,va,sizeOf,typeInfo,h1,h4,n5,Tv]
 .cases h
end
end
section
def M0(T:TypeId):(e:DR)->List e.row.den->Th
 | .leaf r,y=> .own T r y
 | .sl T' e,y=> .deep T (.sl T' e) y ae
 | .pair a b,y=> .deep T (.pair a b) y ae
section
variable {P:Program} {ρ:Nat->Value} {w w':World} {H H':aN} {F F':Nat->Prop} {U:Nat->Prop} {ob:Nat->Option (Nat×Th)} {n:Nat} {R:Type}
variable {op:Op} {ty:TypeId} {pos:String} {aft:Array Edge} {d:Nat}
def zU(T:TypeId)(e:DR)(y:List e.row.den):(M0 T e y).base=M0 T e y:=by cases e<;>rfl
def xj{T:TypeId}{e:DR}{u:Value}{y:List e.row.den}{A:Nat->Prop}(h:mP F w (.sl T e) u y A):kA H F w A u (M0 T e y)/\(∀k,fp A u (M0 T e y) k->A k)/\u.oneCell'=af:=by
 obtain⟨lh,Ss,h1,h2,h3,h4⟩:=h;have n5:=h1.one
 cases e with
 |leaf r=>
  have hl:lh=y:=List.ext_getElem h2 λi a b=>(h3 i a b).1
  subst hl;exact⟨h1,λk hk=>h4.cx k hk,n5⟩
 |sl T' e=>exact⟨⟨lh,Ss,h1,h2,h3,h4⟩,λk hk=>hk,n5⟩
 |pair a b=>exact⟨⟨lh,Ss,h1,h2,h3,h4⟩,λk hk=>hk,n5⟩
def zV{T:TypeId}{e:DR}{u:Value}{y:List e.row.den}{A:Nat->Prop}(h:kA H F w A u (M0 T e y)):mP F w (.sl T e) u y (λk=>fp A u (M0 T e y) k):=by
 cases e with
 |leaf r=>
  have h':pE F w T r u y:=h;refine⟨y,λ_ _=>False,h',rfl,λi a b=>⟨rfl,λ_ h=>h⟩,⟨λk=>?_,λ_ _ _ _ _ _ h=>h.elim,λ_ _ _ h=>h.elim⟩⟩
  show cx u k↔_
  simp
 |sl T' e=>exact h
 |pair a b=>exact h
def zb{d:DR}{r:Row}(q:iS d (.leaf r)){x':d.low.den}{x:d.row.den}{S:Nat->Prop}(h:mP F w d x' x S):q.lo.get x'=q.hi.get x:=by
 obtain⟨A,B,h1,_⟩:=h.out q;exact h1.1
def zW:{d e:DR}->{T:TypeId}->{r:Row}->(p:iS d (.sl T e))->(q:iS d (.leaf r))->{x':d.low.den}->{x:d.row.den}->{S:Nat->Prop}->qR F w p x' x S->q.lo.get x'=q.hi.get x
 |_,_,_,_, .fst p, .fst q,_,_,_,h=>by obtain⟨A,B,h1,_⟩:=h;exact zW p q h1
 |_,_,_,_, .fst p, .snd q,_,_,_,h=>by obtain⟨A,B,_,h2,_⟩:=h;exact zb q h2
 |_,_,_,_, .snd p, .fst q,_,_,_,h=>by obtain⟨A,B,h1,_⟩:=h;exact zb q h1
 |_,_,_,_, .snd p, .snd q,_,_,_,h=>by obtain⟨A,B,_,h2,_⟩:=h;exact zW p q h2
def P7{d:DR}{h:Option zD}{i:Nat}{x':d.low.den}{x:d.row.den}{S:Nat->Prop}{r:Row}(q:iS d (.leaf r))(hr:rR H F w d h i x' x S):q.lo.get x'=q.hi.get x:=by
 cases h with
 |none=>exact zb q hr
 |some h=>
  by_cases hi:h.i=(i:Int)
  .obtain⟨T',e,p,_,h2,_⟩:=hr.2 hi;exact zW p q h2
  .exact zb q (hr.1 hi)
def vZ{d:DR}{r:Row}(q:iS d (.leaf r)){x':d.low.den}{x:d.row.den}{S:Nat->Prop}(y:r.den)(h:mP F w d x' x S):mP F w d (q.lo.set x' y) (q.hi.set x y) S:=by
 obtain⟨A,B,h1,h2,h3⟩:=h.out q;exact h2.put q (y':=y) (A:=A) ⟨rfl,h1.2⟩ h3
theorem xk:{d e:DR}->{T:TypeId}->{r:Row}->(p:iS d (.sl T e))->(q:iS d (.leaf r))->{x':d.low.den}->{x:d.row.den}->{S:Nat->Prop}->(y:r.den)->qR F w p x' x S->qR F w p (q.lo.set x' y) (q.hi.set x y) S/\p.lo.get (q.lo.set x' y)=p.lo.get x'
 |_,_,_,_, .fst p, .fst q,_,_,_,y,h=>by
  obtain⟨A,B,h1,h2,h3⟩:=h;obtain⟨g1,g2⟩:=xk p q y h1;exact⟨⟨A,B,g1,h2,h3⟩,g2⟩
 |_,_,_,_, .fst p, .snd q,_,_,_,y,h=>by
  obtain⟨A,B,h1,h2,h3⟩:=h;exact⟨⟨A,B,h1,vZ q y h2,h3⟩,rfl⟩
 |_,_,_,_, .snd p, .fst q,_,_,_,y,h=>by
  obtain⟨A,B,h1,h2,h3⟩:=h;exact⟨⟨A,B,vZ q y h1,h2,h3⟩,rfl⟩
 |_,_,_,_, .snd p, .snd q,_,_,_,y,h=>by
  obtain⟨A,B,h1,h2,h3⟩:=h;obtain⟨g1,g2⟩:=xk p q y h2;exact⟨⟨A,B,h1,g1,h3⟩,g2⟩
def M1{d:DR}{h:Option zD}{i:Nat}{x':d.low.den}{x:d.row.den}{S:Nat->Prop}{r:Row}(q:iS d (.leaf r))(y:r.den)(hr:rR H F w d h i x' x S):rR H F w d h i (q.lo.set x' y) (q.hi.set x y) S:=by
 cases h with
 |none=>exact vZ q y hr
 |some h=>
  refine⟨λhi=>vZ q y (hr.1 hi),λhi=>?_⟩;obtain⟨T',e,p,h1,h2,h3⟩:=hr.2 hi
  grind [xk]
def aP.low(hs:aP U H F w ob n){o s:Nat}{T:TypeId}{dr:DR}{l:List dr.row.den}{h:Option zD}(ho:ob o=aa (s, .deep T dr l h)){v:Value}(hv:H.val o=aa v):
 ∃(lh:List dr.low.den)(Ss:Nat->Nat->Prop),pz 0 F w T dr.low v lh/\lh.length=l.length/\(∀i(h1:i<lh.length)(h2:i<l.length),rR H F w dr h i lh[i] l[i] (Ss i))/\ra Ss l.length (cx v) (H.sub s):=by
 obtain⟨v',ga,dC⟩:=hs.obj _ _ _ ho;rw[hv]at ga;obtain rfl:=aqP ga;obtain⟨lh,Ss,h1,h2,h3,h4⟩:=dC.ok;exact⟨lh,Ss,⟨λk hk=>dC.no k (h4.cx k hk),h1⟩,h2,h3,h4⟩
def Path.DE:{r s:Row}->(p:Path r s)->(x:r.den)->(y:s.den)->p.get (p.set x y)=y
 |_,_, .here,_,_=>rfl
 |_,_, .fst p,x,y=>Path.DE p x.1 y
 |_,_, .snd p,x,y=>Path.DE p x.2 y
def qR.P8:{d e:DR}->(p:iS d e)->{x':d.low.den}->{x:d.row.den}->{S:Nat->Prop}->(y':e.low.den)->qR F w p x' x S->qR F w p (p.lo.set x' y') x S
 |_,_, .here,_,_,_,_,h=>h
 |_,_, .fst p,_,_,_,y',h=>by
  obtain⟨A,B,h1,h2,h3⟩:=h;exact⟨A,B,h1.P8 p y',h2,h3⟩
 |_,_, .snd p,_,_,_,y',h=>by
  obtain⟨A,B,h1,h2,h3⟩:=h;exact⟨A,B,h1,h2.P8 p y',h3⟩
def vb(m:Nat->Prop)(Ss:Nat->Nat->Prop)(c:Nat)(k:Nat):Prop:=m k\/∃i,i<c/\Ss i k
def ra.less{Ss:Nat->Nat->Prop}{c:Nat}{m S:Nat->Prop}(h:ra Ss c m S)(j:Nat){B:Nat->Prop}(hB:∀k,B k->Ss j k):ra (λi=>if i=j then B else Ss i) c m (vb m (λi=>if i=j then B else Ss i) c):=by
 have sub:∀i k,(if i=j then B else Ss i) k->Ss i k:=by
  intro i k hk;by_cases e:i=j
  .grind
  .grind
 exact⟨λk=>Iff.rfl,λi i' k h1 h2 eG h3 h4=>h.two i i' k h1 h2 eG (sub i k h3) (sub i' k h4),λi k h1 h2=>h.out i k h1 (sub i k h2)⟩
def ra.FG{Ss:Nat->Nat->Prop}{c:Nat}{m S:Nat->Prop}(h:ra Ss c m S)(j:Nat){B:Nat->Prop}(hB:∀k,B k->Ss j k):∀k,vb m (λi=>if i=j then B else Ss i) c k->S k:=by
 rintro k (hk|⟨i,hi,hk⟩)
 .exact h.cx k hk
 .by_cases e:i=j
  .subst e;rw[aj rfl]at hk;exact h.part hi k (hB k hk)
  .rw[ai e]at hk;exact h.part hi k hk
def TM{α β:Type}{rel:Nat->α->β->(Nat->Prop)->Prop}{lh:List α}{l:List β}{Ss:Nat->Nat->Prop}{j:Nat}{x':α}{x:β}{B:Nat->Prop}(h:∀i(h1:i<lh.length)(h2:i<l.length),i≠j->rel i lh[i] l[i] (Ss i))(hj:rel j x' x B):
 ∀i(h1:i<(lh.set j x').length)(h2:i<(l.set j x).length),rel i (lh.set j x')[i] (l.set j x)[i] ((λi=>if i=j then B else Ss i) i):=by
 grind
def aN.tX{H:aN}{n:Nat}{S:Nat->Prop}{t:Th}(h:H.con n=ae):H.le ((H.fV n S).bR n t):=(aN.MM h).trans (aN.iU h)
def oh.DF(hs:aP U H F w ob n){o s:Nat}{t t':Th}{v0:Value}(ho:ob o=aa (s,t))(hv:H.val o=aa v0)(hb:t'.base=t'){eat:List Nat}(hoe:o∈eat)(S':Nat->Prop)(Tb:∀k,fp S' v0 t' k->cT H ob eat k){D:aI}{v:Value}
 (ct:Ext (cT H ob eat) w w')(qk:kA ((H.fV n S').bR n t') F w' S' v0 t')(hd:aH ((H.fV n S').bR n t') F w' D v):pB H F w ob n {dst:=D,eat:=eat,make:=[(o,(n,t'))]} v w':=by
 obtain⟨v1,vK,dC⟩:=hs.obj _ _ _ ho;rw[hv]at vK;obtain rfl:=aqP vK;have hf:=hs.fresh n (aqU _) (by omega)
 have kC:((H.fV n S').bR n t').sub n=S':=by simp[aN.bR,aN.fV]
 refine⟨(H.fV n S').bR n t',F,⟨aN.tX hf.2,ct,λ_ h=>h,λ_ h=> .inl h,λb hb=>arh (hs.lt b hb) ct.size⟩,λm hm=>?_,hd,⟨λo' s' q hq=>?_,λo1 o2 s1 s2 q1 q2 u1 u2 eG h1 h2=>?_⟩,λo' h=>?_⟩
 .refine⟨id,λh=>?_⟩;simp[aN.bR,aN.fV,show m≠n from by omega,h]
 .obtain⟨rfl,e⟩:=gH hq;obtain⟨rfl,rfl⟩:=Prod.mk.inj e;refine⟨v0,hv,dC.one,by simp[aN.bR,hb],by grind,λk hk=>?_⟩;rw[kC]at hk;have:=Tb k hk;exact⟨hs.gG k this,arh (hs.zE k this) ct.size, .inr this⟩
 all_goals grind [gH,arw]
def vc(T:bz P)(ob:Nat->Option (Nat×Th))(n:Nat)(t:TypeId)(D:aI)(k:fF->Option R):Option R:=
 match find T.und t with
 |none=>ae
 |some kk=>match D with
  | .dlm o d0 i p off=>match ob o with
    |some (_, .deep T0 dr l h)=>bif d0.beq dr then(match dr.path p with
     |some ⟨.leaf r,q⟩=>bif aqV q.lo.off off&&pX T t kk r.size then(idx l i).bind λx=>k {dst:= .val (mT kk) (.leaf r (q.hi.get x))}else ae
     |some ⟨.sl T' e',q⟩=>bif aqV q.lo.off off&&pX T t kk 1&& !mT kk then(match h with
       |none=>(idx l i).bind λx=>k {dst:= .val ag (.own n),eat:=[o],make:=[(o,(n, .deep T0 dr l (aa ⟨i,p,n,n+1⟩))),(n,(n+1,M0 T' e' (q.hi.get x)))]}
       |some hh=>bif rT hh.p p then(if decide (hh.i=i)=af then(idx l i).bind λ_=>k {dst:= .val ag (.own hh.o)}else ae)else ae)else ae
     |_=>ae)else ae
    |_=>ae
  |_=>ae
def FH(hs:aP U H F w ob n){o s:Nat}{T0 T':TypeId}{dr e':DR}{l:List dr.row.den}{i:Int}{p:List Bool}{q:iS dr (.sl T' e')}(hq:dr.path p=aa ⟨_,q⟩)(de:ob o=aa (s, .deep T0 dr l ae)){v:Value}(hv:H.val o=aa v)
 {j:Nat}(ZO:i=(j:Nat))(hj:j<l.length){lh:List dr.low.den}{Ss:Nat->Nat->Prop}(hm:pE F w T0 dr.low v lh)(hlen:lh.length=l.length)(Bx:∀i(h1:i<lh.length)(h2:i<l.length),rR H F w dr ae i lh[i] l[i] (Ss i))(fm:ra Ss l.length (cx v) (H.sub s)):
 pB H F w ob n {dst:= .val ag (.own n),eat:=[o],make:=[(o,(n, .deep T0 dr l (aa ⟨i,p,n,n+1⟩))),(n,(n+1,M0 T' e' (q.hi.get l[j])))]} (q.lo.get (lh[j]'(by omega))) w:=by
 have TO:j<lh.length:=by omega
 obtain⟨v1,vK,dC⟩:=hs.obj _ _ _ de;rw[hv]at vK;obtain rfl:=aqP vK;obtain⟨A,B,hA,hB,h2⟩:=mP.out q (Bx j TO hj);obtain⟨_,m2,m3⟩:=xj (H:=H) hA;have hBs:∀k,B k->Ss j k:=h2.right;obtain⟨f1,f2⟩:=hs.fresh n (aqU _) (by omega);obtain⟨f3,f4⟩:=hs.fresh (n+1) (by omega) (by omega)
 have Dz:o≠n:=λe=>by grind
 generalize ht1:Th.deep T0 dr l (aa ⟨i,p,n,n+1⟩)=t1;generalize Y8:M0 T' e' (q.hi.get l[j])=t2;generalize hu:q.lo.get lh[j]=u;generalize hSo:vb (cx v) (λi=>if i=j then B else Ss i) l.length=So
 have adZ:∀k,So k->H.sub s k:=by rw[<-hSo];exact fm.FG j hBs
 have hAS:∀k,A k->H.sub s k:=λk hk=>fm.part hj k (h2.left k hk)
 have hAo:∀k,So k->¬A k:=by
  rw[<-hSo]
  rintro k (hk|⟨i',mO,hk⟩) ha
  .exact fm.out j k hj (h2.left k ha) hk
  .by_cases e:i'=j
   .subst e;rw[aj rfl]at hk;exact h2.off k ha hk
   .rw[ai e]at hk;exact fm.two i' j k mO hj e hk (h2.left k ha)
 let H1:aN:=⟨λm=>if m=n then aa u else H.val m,λm=>if m=n then aa t1 else if m=n+1 then aa t2 else H.con m,λm=>if m=n then So else if m=n+1 then A else H.sub m⟩
 have hle:H.le H1:=by
  refine⟨λo v ho=>?_,λs t jJ=>?_,λs t jJ=>?_⟩
  .grind
  .grind
  .grind
 have hun:H1.val n=aa u:=by simp[H1]
 have mv:∀k,H.sub s k->cT H ob [o] k:=λk hk=>⟨o,by simp,s,_,v,de,hv,hk⟩
 have n5:u.oneCell'=af:=by rw[<-hu];exact m3
 refine⟨H1,F,⟨hle,⟨rfl,⟨rfl,aqU _⟩,rfl,aqU _,λ_ _ _=>rfl⟩,λ_ h=>h,λ_ h=> .inl h,hs.lt⟩,λm hm=>?_,qp hun n5,⟨λo' s' t hf=>?_,λo1 o2 s1 s2 q1 q2 u1 u2 eG g1 g2 e1 e2 k hk jn=>?_⟩,λo' pq=>?_⟩
 .grind
 .rw[bp]at hf;split at hf
  .rename_i e;subst e;simp only[aq2,Prod.mk.injEq]at hf;obtain⟨rfl,rfl⟩:=hf
   have Y9:H1.sub n=So:=by simp[H1]
   refine⟨v,hle.val _ _ hv,dC.one,?_,?_,λk hk=>?_⟩
   .rw[<-ht1];simp[H1,Th.base,ht1]
   .rw[Y9,<-ht1,<-hSo];refine⟨lh,_,hm,hlen,λi' a b=>?_,fm.less j hBs⟩;have hr:mP F w dr lh[i'] l[i'] (Ss i'):=Bx i' a b;refine⟨λhi=>?_,λhi=>?_⟩
    all_goals grind
   .rw[Y9,<-ht1]at hk;have hk:So k:=hk;have:=adZ k hk;exact⟨dC.no k this,dC.lt k this, .inr (mv k this)⟩
  .obtain⟨e0,e⟩:=gH hf;obtain⟨rfl,rfl⟩:=Prod.mk.inj e;rw[e0]
   have Y9:H1.sub (n+1)=A:=by simp[H1]
   obtain⟨m1,m2',_⟩:=xj (H:=H1) hA;rw[Y8,hu]at m1 m2';refine⟨u,hun,n5,?_,by grind,λk hk=>?_⟩
   .rw[<-Y8,zU,Y8];simp[H1]
   .rw[Y9]at hk;have:=hAS k (m2' k hk);exact⟨dC.no k this,dC.lt k this, .inr (mv k this)⟩
 all_goals grind [fp,find,bp]
def DG{α β:Type}{l:List α}{lh:List β}(h:lh.length=l.length){i:Int}{x:α}(hi:idx l i=aa x):∃j,i=(j:Nat)/\∃(h1:j<lh.length)(h2:j<l.length),x=l[j]/\idx lh i=aa lh[j]:=by
 grind [idx]
def M2(T:bz P){t:TypeId}{D:aI}{x:Operand}{k:fF->Option R}{q:R}(h:vc T ob n t D k=aa q)(hs:aP U H F w ob n)(hx:aH H F w D (ev ρ x)):
 ∃e,k e=aa q/\cX P U H F w ρ ob n ⟨aa d, .load t x,ty,pos,aft,ae⟩ e:=by
 unfold vc at h;split at h
 .cases h
 rename_i kk hu;split at h
 case h_2=>cases h
 rename_i o d0 i p off;split at h
 case h_2=>cases h
 rename_i s T0 dr l hh de;obtain⟨hd,h'⟩:=bi h;clear h;obtain rfl:=DR.eq_of_beq hd;obtain⟨g,o0,qq,m,cap,e1,e2,e5⟩:=hx;obtain⟨lh,Ss,fU,hlen,Bx,fm⟩:=hs.low de e1;split at h'
 .rename_i r Cc DC;obtain⟨h1,h2⟩:=bi h';obtain⟨h1,h3⟩:=c7 h1;obtain rfl:=beq_true h1;obtain⟨a,ha,hk⟩:=bind_some h2;obtain⟨j,hj,g1,g2,rfl,sS⟩:=DG hlen ha;have Bq:=(fU.at rfl e2 sS).path Cc.lo _ rfl;rw[P7 Cc (Bx j g1 g2)]at Bq;obtain⟨es,hl,TE,hr⟩:=Bq;exact⟨_,hk,rc T hu e5 hs (s:= .leaf r _) hr TE (mF T h3)⟩
 .rename_i T' e' Cc DC;obtain⟨h1,h2⟩:=bi h';obtain⟨h1,h4⟩:=c7 h1;obtain⟨h1,h3⟩:=c7 h1;obtain rfl:=beq_true h1
  have va:mT kk=ag:=by simpa using h4
  obtain⟨dd,yB,yC⟩:=(T.und_ok _ _ hu).agg
  have run:∀{j:Nat}(g1:j<lh.length),idx lh i=aa lh[j]->(execOp (ev ρ) ⟨aa d, .load t x,ty,pos,aft,ae⟩).run P w= .ok (.value (Cc.lo.get lh[j])) w:=by
   intro j g1 sS;have Bq:=(fU.at rfl e2 sS).path Cc.lo _ rfl;obtain⟨es,hl,TE,hr,_⟩:=Bq;rw[hr]at TE;exact B4 yB (yC.trans va) e5 (TE 0 _ rfl)
  split at h2
  .obtain⟨a,ha,hk⟩:=bind_some h2;obtain⟨j,hj,g1,g2,rfl,sS⟩:=DG hlen ha;exact⟨_,hk,cP.val (run g1 sS) (FH hs DC de e1 hj g2 fU.2 hlen Bx fm)⟩
  .rename_i hh;obtain⟨hp,h3⟩:=bi h2;have hp:=u9 hp;split at h3
   case isFalse=>cases h3
   rename_i hi;have hi:hh.i=i:=al hi;obtain⟨a,ha,hk⟩:=bind_some h3;obtain⟨j,hj,g1,g2,rfl,sS⟩:=DG hlen ha;obtain⟨T'',e'',q'',k1,_,k3⟩:=(Bx j g1 g2).2 (hi.trans hj);rw[hp,DC]at k1;cases k1;refine⟨_,hk,cm hs (run g1 sS) (qp k3 ?_)⟩;have Bq:=(fU.at rfl e2 sS).path Cc.lo _ rfl;obtain⟨es,_,_,_,A,m',c,KU⟩:=Bq;rw[KU];rfl
 .cases h'
def ZP(T:TypeId):(e:DR)->Th->Option (List e.row.den)
 | .leaf r, .own T1 r1 y=>bif aqV T1 T then(if h:r1.beq r=af then aa (lS (r:= .slice r1) (s:= .slice r) (av Row.slice (Row.eq_of_beq h)) y)else ae)else ae
 | .sl T2 e2, .deep T1 (.sl T3 e3) y ae=>bif aqV T1 T then(if h:(DR.sl T3 e3).beq (.sl T2 e2)=af then aa (DR.eq_of_beq h▸y)else ae)else ae
 | .pair a b, .deep T1 (.pair a1 b1) y ae=>bif aqV T1 T then(if h:(DR.pair a1 b1).beq (.pair a b)=af then aa (DR.eq_of_beq h▸y)else ae)else ae
 |_,_=>ae
def IX{T:TypeId}{e:DR}{t:Th}{y:List e.row.den}(h:ZP T e t=aa y):t=M0 T e y:=by
 unfold ZP at h;split at h
 .obtain⟨h1,h2⟩:=bi h;split at h2
  .rename_i hb;obtain rfl:=Row.eq_of_beq hb;obtain rfl:=aqP h2;rw[beq_true h1];rfl
  .cases h2
 .obtain⟨h1,h2⟩:=bi h;split at h2
  .rename_i hb;cases DR.eq_of_beq hb;obtain rfl:=aqP h2;rw[beq_true h1];rfl
  .cases h2
 .obtain⟨h1,h2⟩:=bi h;split at h2
  .rename_i hb;cases DR.eq_of_beq hb;obtain rfl:=aqP h2;rw[beq_true h1];rfl
  .cases h2
 .cases h
def DH(h:Option zD)(i:Int)(p:List Bool):Bool:=
 match h with
 |none=>af
 |some h=>rT h.p p&&decide (h.i=i)
def FI{h:Option zD}{i:Int}{p:List Bool}(hh:DH h i p=af){dr e:DR}{T:TypeId}{q:iS dr (.sl T e)}(hq:dr.path p=aa ⟨_,q⟩){j:Nat}(hj:i=(j:Nat)){x':dr.low.den}{x:dr.row.den}{S:Nat->Prop}(hr:rR H F w dr h j x' x S):
 ∃B,(∀k,B k->S k)/\qR F w q x' x B:=by
 cases h with
 |none=>
  obtain⟨A,B,_,h2,h3⟩:=mP.out q (show mP F w dr x' x S from hr);exact⟨B,h3.right,h2⟩
 |some h=>
  have h':(rT h.p p&&decide (h.i=i))=af:=hh;obtain⟨h1,h2⟩:=c7 h';obtain⟨T',e',q',k1,k2,_⟩:=hr.2 ((al h2).trans hj)
  grind [u9]
def zX{h:Option zD}{i:Int}{p:List Bool}(hh:DH h i p=af){dr:DR}{j:Nat}(hj:i≠(j:Nat)){x':dr.low.den}{x:dr.row.den}{S:Nat->Prop}(hr:rR H F w dr h j x' x S):mP F w dr x' x S:=by
 cases h with
 |none=>exact hr
 |some h=>
  have h':(rT h.p p&&decide (h.i=i))=af:=hh;obtain⟨h1,h2⟩:=c7 h';exact hr.1 (by grind)
end
end
end Go.Proofs.YtfeahmiobbjklaaGreatDoor
section
open _root_.Option renaming none->ae,some->aa
open _root_.Bool renaming true->af
open _root_.Nat renaming beq->aqV,le_refl->aqU
open _root_.Option.some renaming inj->aqP
open _root_.Go.Value renaming ownBlock->are
namespace Go.Proofs.YtfeahmiobbjklaaGreatDoor
open Go Go.RowKit
section
variable {P:Program} {ρ:Nat->Value} {w w':World} {H H':aN} {F F':Nat->Prop} {U:Nat->Prop} {ob:Nat->Option (Nat×Th)} {n:Nat} {R:Type}
variable {op:Op} {ty:TypeId} {pos:String} {aft:Array Edge} {d:Nat}
noncomputable def tY(T:bz P)(ob:Nat->Option (Nat×Th))(n:Nat)(t:TypeId)(D V:aI)(k:fF->Option R):Option R:=
 match find T.row t with
 |none=>ae
 |some rt=>match V with
  | .val _ u=>match D with
    | .dlm o d0 i p off=>match ob o with
      |some (_, .deep T0 dr l h)=>bif d0.beq dr then(match dr.path p with
       |some ⟨.leaf r,q⟩=>bif aqV q.lo.off off&&aqV rt.size r.size then(match flat ob r u with
        |some y=>(idx l i).bind λx=>k {dst:= .dead,eat:=[o],make:=[(o,(n, .deep T0 dr (bH l i (q.hi.set x y)) h))]}
        |none=>ae)else ae
       |some ⟨.sl T' e',q⟩=>bif aqV q.lo.off off&&aqV rt.size 1 then(match u with
        | .own o1=>match ob o1 with
          |some (_,t1)=>match ZP T' e' t1 with
           |some _=>if DH h i p=af then(idx l i).bind λ_=>k {dst:= .dead,eat:=[o],make:=[(o,(n, .deep T0 dr l (aa ⟨i,p,o1,n⟩)))]}else ae
           |none=>ae
          |none=>ae
        | .nil=>if DH h i p=af then(idx l i).bind λx=>k {dst:= .dead,eat:=[o],make:=[(o,(n, .deep T0 dr (bH l i (q.hi.set x ([]:List e'.row.den))) ae))]}else ae
        |_=>ae)else ae
       |_=>ae)else ae
      |_=>ae
    |_=>ae
  |_=>ae
def vd(T:bz P){t:TypeId}{rt:Row}(PV:find T.row t=aa rt){x y:Operand}{o s:Nat}{T0:TypeId}{dr e:DR}{i:Int}{l l':List dr.row.den}{h h':Option zD}{q:iS dr e}{g o0 qq m cap j:Nat}{u:e.low.den}{cs:List Value}{x1:dr.row.den}
 (hs:aP U H F w ob n)(de:ob o=aa (s, .deep T0 dr l h))(hv:H.val o=aa (.slice (aa ⟨g,o0,ae⟩) m cap))(hj:i=(j:Nat))(xl:j<l.length)(hx:ev ρ x= .pointer (aa ⟨g,o0+qq*dr.low.size+q.lo.off,ae⟩))(hqq:i=(qq:Nat))(hz:rt.size=e.low.size)
 (hr:dy F w e.low cs u)(Bt:(ev ρ y).cells.toList=cs)(hl':l'=l.set j x1)
 (Bx:∀{w':World}{H1:aN},H.le H1->Step F w F w'->∀{x':dr.low.den}{S:Nat->Prop},(∀k,S k->w'.heap[k]? =w.heap[k]?)->rR H F w dr h j x' l[j] S->∃B,(∀k,B k->S k)/\rR H1 F w' dr h' j (q.lo.set x' u) x1 B)
 (ad0:∀{H1:aN}{w':World}{i':Nat}{x':dr.low.den}{x:dr.row.den}{S:Nat->Prop},i'≠j->rR H1 F w' dr h i' x' x S->rR H1 F w' dr h' i' x' x S):
 cX P U H F w ρ ob n ⟨ae, .store t x y,ty,pos,aft,ae⟩ {dst:= .dead,eat:=[o],make:=[(o,(n, .deep T0 dr l' h'))]}:=by
 obtain⟨ti,z0,h1,_,_,h4,_⟩:=T.row_ok _ _ PV;obtain⟨lh,Ss,fU,hlen,VP,fm⟩:=hs.low de hv;obtain⟨v1,vK,dC⟩:=hs.obj _ _ _ de;rw[hv]at vK;obtain rfl:=aqP vK
 have hjh:j<lh.length:=by omega
 obtain rfl:qq=j:=by omega
 obtain⟨cur,hh,hle,ct,jK⟩:=fU.put rfl hjh hs.lt q.lo hr;generalize hw':w.setRow g (cur.toList.take (o0+qq*dr.low.size+q.lo.off)++cs++cur.toList.drop (o0+qq*dr.low.size+q.lo.off+cs.length)).toArray=w' at ct jK;refine cP.unit (w':=w') (by rw[<-hw'];exact rQ h1 (h4.trans (hz.trans hr.length.symm)) hx rfl Bt hr.mb hh hle) ?_;have jJ:Step F w F w':=Step.ext ct hs.lt fU.no
 have hblk:∀i',i'<l.length->∀k,Ss i' k->w'.heap[k]? =w.heap[k]? :=λi' mO k hk=>ct.block k (dC.lt k (fm.part mO k hk)) (fm.out i' k mO hk)
 have hf:=hs.fresh n (aqU _) (by omega)
 have mv:∀k,H.sub s k->cT H ob [o] k:=λk hk=>⟨o,by simp,s,_,_,de,hv,hk⟩
 obtain⟨B0,ZQ,_⟩:=Bx (w':=w') (H1:=H) (aN.le.refl H) jJ (hblk qq xl) (VP qq hjh xl)
 have main:∀{H1:aN},H.le H1->∃B,(∀k,B k->Ss qq k)/\rR H1 F w' dr h' qq (q.lo.set lh[qq] u) x1 B:=(by grind)
 have ZR:∃B,(∀k,B k->Ss qq k)/\∀{H1:aN},H.le H1->rR H1 F w' dr h' qq (q.lo.set lh[qq] u) x1 B:=by
  obtain⟨B,b1,b2⟩:=main (aN.le.refl H);exact⟨B,b1,λTP=>b2.keep TP (Step.refl F w') λ_ _=>rfl⟩
 obtain⟨B,b1,b2⟩:=ZR;have hSs:∀k,vb (cx (Value.slice (aa ⟨g,o0,ae⟩) m cap)) (λi=>if i=qq then B else Ss i) l.length k->H.sub s k:=fm.FG qq b1;refine oh.DF (t':= .deep T0 dr l' h') hs de hv rfl (by simp) (vb (cx (Value.slice (aa ⟨g,o0,ae⟩) m cap)) (λi=>if i=qq then B else Ss i) l.length) (λk hk=>mv k (hSs k hk)) ⟨ct.os,ct.tape,ct.output,ct.size,λk hk hn=>ct.block k hk λe=>hn (mv k (fm.cx k e))⟩ ?_ trivial;have TP:=aN.tX (H:=H) (S:=vb (cx (Value.slice (aa ⟨g,o0,ae⟩) m cap)) (λi=>if i=qq then B else Ss i) l.length) (t:= .deep T0 dr l' h') hf.2
 have KV:l'.length=l.length:=by rw[hl'];simp
 refine⟨lh.set qq (q.lo.set lh[qq] u),(λi=>if i=qq then B else Ss i),jK.2,by grind,?_,?_⟩
 .intro i' a b
  have:=TM (rel:=rR ((H.fV n (vb (cx (Value.slice (aa ⟨g,o0,ae⟩) m cap)) (λi=>if i=qq then B else Ss i) l.length)).bR n (.deep T0 dr l' h')) F w' dr h') (lh:=lh) (l:=l) (Ss:=Ss) (j:=qq) (x':=q.lo.set lh[qq] u) (x:=x1) (B:=B)
   (λi2 c1 c2 eG=>ad0 eG ((VP i2 c1 c2).keep TP jJ (hblk i2 c2))) (b2 TP) i' a (by grind)
  grind
 .rw[KV];exact fm.less qq b1
def IY(T:bz P){t:TypeId}{D V:aI}{x y:Operand}{k:fF->Option R}{q:R}(h:tY T ob n t D V k=aa q)(hs:aP U H F w ob n)(hx:aH H F w D (ev ρ x))(hy:aH H F w V (ev ρ y)):
 ∃e,k e=aa q/\cX P U H F w ρ ob n ⟨ae, .store t x y,ty,pos,aft,ae⟩ e:=by
 unfold tY at h;split at h
 .cases h
 rename_i rt PV;split at h
 case h_2=>cases h
 rename_i agg u;split at h
 case h_2=>cases h
 rename_i o d0 i p off;split at h
 case h_2=>cases h
 rename_i s T0 dr l hh de;obtain⟨hd,h'⟩:=bi h;clear h;obtain rfl:=DR.eq_of_beq hd;obtain⟨g,o0,qq,m,cap,e1,e2,e5⟩:=hx;obtain⟨cs,tP,Bt⟩:=bg.cells hy;split at h'
 .rename_i r Cc DC;obtain⟨h1,h2⟩:=bi h';obtain⟨h1,h3⟩:=c7 h1;obtain rfl:=beq_true h1;split at h2
  case h_2=>cases h2
  rename_i z hz;obtain⟨a,ha,hk⟩:=bind_some h2;obtain⟨j,hj,xl,rfl⟩:=jI ha;refine⟨_,hk,vd (l':=bH l i (Cc.hi.set l[j] z)) (x1:=Cc.hi.set l[j] z) (u:=z) T PV hs de e1 hj xl e5 e2 (beq_true h3) (jz hs hz tP) Bt ?_ ?_ ?_⟩
  .unfold bH;grind
  .intro w' H1 hle jJ x' S hb hr;exact⟨S,λ_ h=>h,M1 Cc z (hr.keep hle jJ hb)⟩
  grind
 .rename_i T' e' Cc DC;obtain⟨h1,h2⟩:=bi h';obtain⟨h1,h3⟩:=c7 h1;obtain rfl:=beq_true h1;split at h2
  .rename_i o1;split at h2
   case h_2=>cases h2
   rename_i s1 t1 DJ;split at h2
   case h_2=>cases h2
   rename_i y1 hD;split at h2
   case isFalse=>cases h2
   rename_i FJ;obtain⟨a,ha,hk⟩:=bind_some h2;obtain⟨j,hj,xl,rfl⟩:=jI ha;obtain⟨u1,IL,sK⟩:=hs.obj _ _ _ DJ;obtain⟨v,hv,n5,rfl⟩:=tP;rw[IL]at hv;obtain rfl:=aqP hv
   have ad1:dy F w .od [u1] u1:=by
    have:=sK.ok;rw[IX hD]at this;obtain⟨lh1,_,g1,_⟩:=zV this;obtain⟨xs,⟨_,hx⟩,_⟩:=g1
    rcases hx with⟨rfl,_⟩|⟨gg,o0,cp,cur,rfl,_⟩<;>exact⟨rfl,_,_,_,rfl⟩
   refine⟨_,hk,vd (l':=l) (x1:=l[j]) (u:=u1) (e:= .sl T' e') T PV hs de e1 hj xl e5 e2 (beq_true h3) ad1 Bt ?_ ?_ ?_⟩
   .simp_all
   .intro w' H1 hle jJ x' S hb hr;obtain⟨B,b1,b2⟩:=FI FJ DC hj hr;refine⟨B,b1,λeG=>absurd hj eG,λ_=>⟨T',e',Cc,DC,(b2.keep jJ λk hk=>hb k (b1 k hk)).P8 Cc u1,?_⟩⟩;rw[Path.DE];exact hle.val _ _ IL
   .intro H1 w' i' x' x S eG hr
    have M3:i≠(i':Int):=λe=>eG (by omega)
    exact⟨λ_=>zX FJ M3 hr,λe=>absurd e M3⟩
  .split at h2
   case isFalse=>cases h2
   rename_i FJ;obtain⟨a,ha,hk⟩:=bind_some h2;obtain⟨j,hj,xl,rfl⟩:=jI ha;have ad2:cs=_:=tP;subst ad2;refine⟨_,hk,vd (x1:=Cc.hi.set l[j] ([]:List e'.row.den)) (u:=Value.slice ae 0 0) (e:= .sl T' e') T PV hs de e1 hj xl e5 e2 (beq_true h3) ⟨rfl,_,_,_,rfl⟩ Bt ?_ ?_ ?_⟩
   .unfold bH;grind
   .intro w' H1 hle jJ x' S hb hr;obtain⟨B,b1,b2⟩:=FI FJ DC hj hr;refine⟨B,b1,?_⟩;refine qR.put (e:= .sl T' e') Cc (b2.keep jJ λk hk=>hb k (b1 k hk)) (A:=λ_=>False) ?_ ⟨λk=>by simp,λ_ h=>h.elim⟩;exact⟨[],λ_ _=>False,pE.nil F w' T' e'.low,rfl,λi h=>absurd h (by simp),⟨λk=>by simp[cx,are],λ_ _ _ h=>absurd h (by simp),λ_ _ h=>absurd h (by simp)⟩⟩
   .intro H1 w' i' x' x S eG hr
    have M3:i≠(i':Int):=λe=>eG (by omega)
    exact zX FJ M3 hr
  .cases h2
 .cases h'
end
end Go.Proofs.YtfeahmiobbjklaaGreatDoor
namespace Go.Proofs.YtfeahmiobbjklaaGreatDoor
open Go Go.RowKit
def v7{α:Type}(l:List α)(i:Int)(f:α->α):List α:=if 0<=i then l.modify i.toNat f else l
def kE{α:Type}(l:List α)(i:Int)(f:α->α):(v7 l i f).length=l.length:=by unfold v7;split<;>simp
def zc{α:Type}{l:List α}{i:Int}{f:α->α}{j:Nat}(h:j<(v7 l i f).length)(h':j<l.length):(v7 l i f)[j]=if i=(j:Int)then f l[j]else l[j]:=by
 grind [v7]
def Path.DK:{r s:Row}->(p:Path r s)->(x:r.den)->p.set x (p.get x)=x
 |_,_, .here,_=>rfl
 |_,_, .fst p,x=>by show(p.set x.1 (p.get x.1),x.2)=x;rw[Path.DK p]
 |_,_, .snd p,x=>by show(x.1,p.set x.2 (p.get x.2))=x;rw[Path.DK p]
section
variable {P:Program} {ρ:Nat->Value} {w w':World} {H H':aN} {F F':Nat->Prop} {U:Nat->Prop} {ob:Nat->Option (Nat×Th)} {n:Nat} {R:Type}
variable {op:Op} {ty:TypeId} {pos:String} {aft:Array Edge} {d:Nat}
def P9(ob:Nat->Option (Nat×Th))(n o:Nat):Option fF:=
 match ob o with
 |some (_, .deep T0 dr l (aa h))=>match dr.path h.p with
  |some ⟨.sl T' e',q⟩=>match ob h.o with
   |some (_,t1)=>bif aqV h.o o then ae else(match ZP T' e' t1 with
    |some y=>aa {dst:= .dead,eat:=[o,h.o],make:=[(o,(n, .deep T0 dr (v7 l h.i λx=>q.hi.set x y) ae))]}
    |none=>ae)
   |none=>ae
  |_=>ae
 |_=>ae
def M4(hs:aP U H F w ob n){o:Nat}{e:fF}(h:P9 ob n o=aa e):pB H F w ob n e undef w:=by
 unfold P9 at h;split at h
 case h_2=>cases h
 rename_i s T0 dr l hh de;split at h
 case h_2=>cases h
 rename_i T' e' q hq;split at h
 case h_2=>cases h
 rename_i s1 t1 DJ
 cases eG:aqV hh.o o with
 |true=>grind
 |false=>
  rw[eG,cond_false]at h
  have eG:o≠hh.o:=λe=>by simp_all
  split at h
  case h_2=>cases h
  rename_i y hD;obtain rfl:=aqP h;have hD:=IX hD;subst hD;obtain⟨v,hv,dC⟩:=hs.obj _ _ _ de;obtain⟨u,hu,sK⟩:=hs.obj _ _ _ DJ;obtain⟨lh,Ss,fU,hlen,Bx,fm⟩:=hs.low de hv;have hA:=zV sK.ok;generalize hAA:(λk=>fp (H.sub s1) u (M0 T' e' y) k)=A at hA
  have hAd:∀k,A k->¬H.sub s k:=λk hk=>by
   rw[<-hAA]at hk
   exact λh2=>hs.apart _ _ _ _ _ _ _ _ eG de DJ hv hu k h2 hk
  have hf:=hs.fresh n (aqU _) (by omega)
  let ZS:Nat->Nat->Prop:=λi k=>Ss i k\/(hh.i=(i:Int)/\A k)
  have mv:∀k,H.sub s k\/A k->cT H ob [o,hh.o] k:=by
   rintro k (hk|hk)
   .exact⟨o,by simp,s,_,v,de,hv,hk⟩
   .rw[<-hAA]at hk;exact⟨hh.o,by simp,s1,_,u,DJ,hu,hk⟩
  have hS:∀k,vb (cx v) ZS l.length k->H.sub s k\/A k:=by
   rintro k (hk|⟨i,hi,hk|hk⟩)
   .exact .inl (fm.cx k hk)
   .exact .inl (fm.part hi k hk)
   .exact .inr hk.2
  refine oh.DF (t':= .deep T0 dr (v7 l hh.i λx=>q.hi.set x y) ae) hs de hv rfl (by simp) (vb (cx v) ZS l.length) (λk hk=>mv k (hS k hk)) ⟨rfl,⟨rfl,aqU _⟩,rfl,aqU _,λ_ _ _=>rfl⟩ ?_ trivial;have KV:(v7 l hh.i λx=>q.hi.set x y).length=l.length:=kE ..;refine⟨lh,ZS,fU.2,by grind,λi a b=>?_,?_⟩
  .have b':i<l.length:=by omega
   rw[zc b b'];have hr:=Bx i a b'
   by_cases hi:hh.i=(i:Int)
   .rw[aj hi];obtain⟨T'',e'',q'',k1,k2,k3⟩:=hr.2 hi;rw[hq]at k1;cases k1;rw[hu]at k3;have k3:=aqP k3;have:mP F w dr (q.lo.set lh[i] u) (q.hi.set l[i] y) (ZS i):=k2.put q hA ⟨(by grind),λk hk h2=>hAd k hk (fm.part b' k h2)⟩;rw[k3,Path.DK]at this;exact this
   .rw[ai hi];have VQ:=hr.1 hi
    have:ZS i=Ss i:=by
     funext k;exact(by grind)
    rw[this];exact VQ
  .rw[KV];refine⟨λk=>Iff.rfl,λi j k h1 h2 ZO h3 h4=>?_,λi k h1 h3 h4=>?_⟩
   .rcases h3 with h3|h3<;>rcases h4 with h4|h4
    .exact fm.two i j k h1 h2 ZO h3 h4
    .exact hAd k h4.2 (fm.part h1 k h3)
    .exact hAd k h3.2 (fm.part h2 k h4)
    grind
   .rcases h3 with h3|h3
    .exact fm.out i k h1 h3 h4
    .exact hAd k h3.2 (fm.cx k h4)
end
end Go.Proofs.YtfeahmiobbjklaaGreatDoor
end
namespace Go.Proofs.YtfeahmiobbjklaaGreatDoor
open Go Go.RowKit
set_option maxRecDepth 100000
set_option linter.unusedSimpArgs false
set_option linter.unusedVariables false
set_option linter.defProp false
section
def DR.gF:(d:DR)->d.low.gF=d.row.gF
 | .leaf _=>rfl
 | .sl _ _=>rfl
 | .pair a b=>by show a.low.gF++b.low.gF=a.row.gF++b.row.gF;rw[a.gF,b.gF]
def TI.low{P:Program}{e:TypeId}{d:DR}(h:TI P e d.row):TI P e d.low:=by
 obtain⟨ti,z,h1,h2,h3,h4,h5⟩:=h;exact⟨ti,z,h1,h2,by rw[d.gF];exact h3,by rw[d.size];exact h4,h5⟩
def IZ:List Nat->Bool
 |[]=>af
 |o::l=> !l.any (aqV o)&&IZ l
def Cj:{l:List Nat}->IZ l=af->l.Nodup
 |[],_=>List.nodup_nil
 |o::l,h=>by
  obtain⟨h1,h2⟩:=c7 h;refine List.nodup_cons.2 ⟨λhm=>?_,Cj h2⟩;rw[any_beq.2 hm]at h1;cases h1
def DR.mk2:DR->DR->DR
 | .leaf a, .leaf b=> .leaf (.pair a b)
 |a,b=> .pair a b
def WZ(ob:Nat->Option (Nat×Th)):Row->Tree->DR
 | .slice e, .own o=>match ob o with
   |some (_, .own T r _)=> .sl T (.leaf r)
   |some (_, .deep T d _ ae)=> .sl T d
   |_=> .leaf (.slice e)
 | .pair a b,t=>match t.split with
   |some (x,y)=>DR.mk2 (WZ ob a x) (WZ ob b y)
   |none=> .leaf (.pair a b)
 |r,_=> .leaf r
def I0(ob:Nat->Option (Nat×Th)):(d:DR)->Tree->Option (d.row.den×List Nat)
 | .leaf r,t=>match flat ob r t with
   |some x=>aa (x,[])
   |none=>ae
 | .sl T e, .own o=>match ob o with
   |some (_,t1)=>match ZP T e t1 with
    |some y=>aa (y,[o])
    |none=>ae
   |none=>ae
 | .sl _ _, .nil=>aa ([],[])
 | .sl _ _,_=>ae
 | .pair a b,t=>match t.split with
   |some (x,y)=>match I0 ob a x with
    |some (u,os)=>match I0 ob b y with
     |some (v,M5)=>aa ((u,v),os++M5)
     |none=>ae
    |none=>ae
   |none=>ae
def KW(ob:Nat->Option (Nat×Th))(d:DR):List aI->Option (List d.row.den×List Nat)
 |[]=>aa ([],[])
 | .val _ u::l=>match I0 ob d u with
   |some (x,os)=>match KW ob d l with
    |some (xs,M5)=>aa (x::xs,os++M5)
    |none=>ae
   |none=>ae
 |_::_=>ae
section
variable {P:Program} {ρ:Nat->Value} {w w':World} {H H':aN} {F F':Nat->Prop} {U:Nat->Prop} {ob:Nat->Option (Nat×Th)} {n:Nat} {R:Type}
variable {op:Op} {ty:TypeId} {pos:String} {aft:Array Edge} {d:Nat}
def xX(hs:aP U H F w ob n){os M5:List Nat}(hd:∀o,o∈os->o∉M5):∀k,cT H ob os k->¬cT H ob M5 k:=by
 rintro k ⟨o,ho,s,t,v,h1,h2,h3⟩ ⟨o',pq,s',t',v',g1,g2,g3⟩
 exact hs.apart o o' s s' t t' v v' (λe=>hd o ho (e▸pq)) h1 g1 h2 g2 k h3 g3
theorem tZ{os M5:List Nat}(h:∀o,o∈os->o∈M5):∀k,cT H ob os k->cT H ob M5 k:=λ_ ⟨o,ho,rest⟩=>⟨o,h o ho,rest⟩
def DL(hs:aP U H F w ob n):{d:DR}->{t:Tree}->{x:d.row.den}->{os:List Nat}->{cs:List Value}->I0 ob d t=aa (x,os)->Holds H F w t cs->os.Nodup->∃x' S,dy F w d.low cs x'/\mP F w d x' x S/\∀k,S k->cT H ob os k
 | .leaf r,t,x,os,cs,h,hh,M6=>by
   unfold I0 at h
   split at h<;>cases h
   rename_i hf;exact⟨x,λ_=>False,jz hs hf hh,⟨rfl,λ_ h=>h⟩,λ_ h=>h.elim⟩
 | .sl T e, .own o,x,os,cs,h,hh,M6=>by
   unfold I0 at h;split at h
   case h_2=>cases h
   rename_i s1 t1 ho
   split at h<;>cases h
   rename_i hD;obtain⟨v,hv,_,rfl⟩:=hh;obtain⟨v',ga,dC⟩:=hs.obj _ _ _ ho;rw[hv]at ga;obtain rfl:=aqP ga;have hD:=IX hD;subst hD;have hb:=zV dC.ok;refine⟨v,_,?_,hb,λk hk=>⟨o,by simp,s1,_,v,ho,hv,hk⟩⟩;obtain⟨lh1,_,⟨xs,⟨_,hx⟩,_⟩,_⟩:=hb
   rcases hx with⟨rfl,_⟩|⟨gg,o0,cp,cur,rfl,_⟩<;>exact⟨rfl,_,_,_,rfl⟩
 | .sl T e, .nil,x,os,cs,h,hh,_=>by
   cases h;have hh':cs=_:=hh;subst hh';exact⟨.slice ae 0 0,λ_=>False,⟨rfl,_,_,_,rfl⟩,⟨[],λ_ _=>False,pE.nil F w T e.low,rfl,λi h=>absurd h (by simp),⟨λk=>by simp[cx,are],λ_ _ _ h=>absurd h (by simp),λ_ _ h=>absurd h (by simp)⟩⟩,λ_ h=>h.elim⟩
 | .pair a b,t,x,os,cs,h,hh,hn=>by
   unfold I0 at h;split at h
   case h_2=>cases h
   rename_i t1 t2 uL;split at h
   case h_2=>cases h
   rename_i u os1 h1;split at h
   case h_2=>cases h
   rename_i v os2 h2;cases h;obtain⟨c1,c2,rfl,g1,g2,_⟩:=hh.split uL;obtain⟨n1,n2,n3⟩:=List.nodup_append.1 hn;obtain⟨x1,S1,r1,e1,s1⟩:=DL hs h1 g1 n1;obtain⟨x2,S2,r2,e2,s2⟩:=DL hs h2 g2 n2;refine⟨(x1,x2),λk=>S1 k\/S2 k,⟨c1,c2,rfl,r1,r2⟩,⟨S1,S2,e1,e2,λ_=>Iff.rfl,λk hk jn=>xX hs (λo ho pq=>n3 o ho o pq rfl) k (s1 k hk) (s2 k jn)⟩,λk hk=>hk.elim (λhk=>tZ (λo ho=>by simp[ho]) k (s1 k hk)) λhk=>tZ (λo ho=>by simp[ho]) k (s2 k hk)⟩
 | .sl _ _, .leaf _ _,_,_,_,h,_,_=>by cases h
 | .sl _ _, .pair _ _,_,_,_,h,_,_=>by cases h
 | .sl _ _, .view ..,_,_,_,h,_,_=>by cases h
def FK(hs:aP U H F w ob n){d:DR}:{ds:List aI}->{l:List d.row.den}->{os:List Nat}->{vs:List Value}->KW ob d ds=aa (l,os)->il H F w ds vs->os.Nodup->
 ∃(lh:List d.low.den)(Ss:Nat->Nat->Prop),zB F w d.low vs lh/\lh.length=l.length/\(∀i(h1:i<lh.length)(h2:i<l.length),mP F w d lh[i] l[i] (Ss i))/\(∀i k,i<l.length->Ss i k->cT H ob os k)/\∀i j k,i<l.length->j<l.length->i≠j->Ss i k->¬Ss j k
 |[],l,os,vs,h,hd,_=>by
  cases h;rw[show vs=[]from hd];exact⟨[],λ_ _=>False, .nil,rfl,λi h=>absurd h (by simp),λ_ _ h=>absurd h (by simp),λ_ _ _ h=>absurd h (by simp)⟩
 | .val _ u::ds,l,os,vs,h,hd,hn=>by
   obtain⟨v,us,rfl,h1,h2⟩:=hd;unfold KW at h;split at h
   case h_2=>cases h
   rename_i x os1 hf;split at h
   case h_2=>cases h
   rename_i xs os2 hg;cases h;obtain⟨cs,tP,Bt⟩:=bg.cells h1;obtain⟨n1,n2,n3⟩:=List.nodup_append.1 hn;obtain⟨x',S,r1,e1,s1⟩:=DL hs hf tP n1;obtain⟨lh,Ss,k1,k2,k3,k4,k5⟩:=FK hs hg h2 n2
   have ap:∀i k,i<xs.length->S k->¬Ss i k:=λi k hi hk jn=>xX hs (λo ho pq=>n3 o ho o pq rfl) k (s1 k hk) (k4 i k hi jn)
   refine⟨x'::lh,λi=>match i with|0=>S|i+1=>Ss i, .cons Bt r1 k1,by simp[k2],λi a b=>?_,λi k hi hk=>?_,λi j k hi hj eG hk jn=>?_⟩
   .grind
   .cases i with
    |zero=>grind [tZ]
    |succ i=>grind [tZ]
   .cases i with
    |zero=>
     cases j<;>grind
    |succ i=>
     cases j<;>grind
 | .dead::_,_,_,_,h,_,_=>by cases h
 | .undef::_,_,_,_,h,_,_=>by cases h
 | .ptr .. ::_,_,_,_,h,_,_=>by cases h
 | .at .. ::_,_,_,_,h,_,_=>by cases h
 | .elem .. ::_,_,_,_,h,_,_=>by cases h
 | .tup _::_,_,_,_,h,_,_=>by cases h
 | .dlm .. ::_,_,_,_,h,_,_=>by cases h
 | .fn .. ::_,_,_,_,h,_,_=>by cases h
 | .ifc .. ::_,_,_,_,h,_,_=>by cases h
def oh.TQ(hs:aP U H F w ob n){eat:List Nat}{t:Th}{v0:Value}{S:Nat->Prop}(hb:t.base=t)(h1:v0.oneCell'=af){D:aI}{v:Value}
 (ct:Ext (cT H ob eat) w w')(qk:kA (((H.fV n S).bR n t).dh n v0) F w' S v0 t)(Tb:∀k,fp S v0 t k->¬F k/\k<w'.heap.size/\(w.heap.size<=k\/cT H ob eat k))
 (hd:aH (((H.fV n S).bR n t).dh n v0) F w' D v):pB H F w ob n {dst:=D,eat:=eat,make:=[(n,(n,t))]} v w':=by
 have hf:=hs.fresh n (aqU _) (by omega)
 have kC:(((H.fV n S).bR n t).dh n v0).sub n=S:=by simp[aN.dh,aN.bR,aN.fV]
 refine⟨((H.fV n S).bR n t).dh n v0,F,⟨(aN.tX hf.2).trans (aN.tR (by simp[aN.bR,aN.fV,hf.1])),ct,λ_ h=>h,λ_ h=> .inl h,λb hb=>arh (hs.lt b hb) ct.size⟩,λm hm=>?_,hd,⟨λo' s' q hq=>?_,λo1 o2 s1 s2 q1 q2 u1 u2 eG h1 h2=>?_⟩,λo' h=>?_⟩
 .simp[aN.bR,aN.dh,aN.fV,show m≠n from by omega]
 .obtain⟨rfl,e⟩:=gH hq;obtain⟨rfl,rfl⟩:=Prod.mk.inj e;exact⟨v0,by simp[aN.dh],h1,by simp[aN.bR,aN.dh,hb],by rw[kC];exact qk,by grind⟩
 .grind [gH]
 .right
  obtain⟨y,hy⟩:=arw.1 h
  grind [gH]
def DM(ob:Nat->Option (Nat×Th))(r:Row):List aI->DR
 | .val _ u::_=>WZ ob r u
 |_=> .leaf r
def sX(e:TypeId)(dr:DR)(ob:Nat->Option (Nat×Th))(n:Nat)(ds:List aI)(k:fF->Option R):Option R:=
 match KW ob dr ds with
 |some (l,os)=>bif IZ os then k {dst:= .val ag (.own n),eat:=os,make:=[(n,(n,M0 e dr l))]}else ae
 |none=>ae
def ua(T:bz P)(rd:Operand->Option aI)(ob:Nat->Option (Nat×Th))(n:Nat)(t:TypeId)(m:Nat)(parts:Array (Nat×Operand))(k:fF->Option R):Option R:=
 match find T.und t with
 |some (.slice e)=>match find T.row e with
  |some r=>bif KN 0 parts.toList&&aqV m parts.toList.length&&Nat.ble (m*r.size) 16777216 then
    (match vX rd (parts.toList.map (·.2))with
    |some ds=>bif (DM ob r ds).row.beq r then sX e (DM ob r ds) ob n ds k else ae
    |none=>ae)else ae
  |none=>ae
 |_=>ae
def I1(T:bz P){rd:Operand->Option aI}(jo:∀x d,rd x=aa d->aH H F w d (ev ρ x)){t:TypeId}{m:Nat}{parts:Array (Nat×Operand)}{k:fF->Option R}{q:R}(h:ua T rd ob n t m parts k=aa q)(hs:aP U H F w ob n):
 ∃e,k e=aa q/\cX P U H F w ρ ob n ⟨aa d, .buildSlice t m parts,ty,pos,aft,ae⟩ e:=by
 unfold ua at h;split at h
 case h_2=>cases h
 rename_i e hu;split at h
 case h_2=>cases h
 rename_i r hr;obtain⟨c0,h8⟩:=bi h;clear h;obtain⟨c1,c3⟩:=c7 c0;obtain⟨h1,c2⟩:=c7 c1;have h2:=beq_true c2
 have h3:m*r.size<=16777216:=by simpa using c3
 clear c0 c1 c2 c3;split at h8
 case h_2=>cases h8
 rename_i ds Bv;obtain⟨ZT,h⟩:=bi h8;clear h8;have od:=Row.eq_of_beq ZT;clear ZT
 obtain⟨dr,Za⟩:∃dr,dr=DM ob r ds:=⟨_,rfl⟩
 rw[<-Za]at h od;clear Za;subst od;unfold sX at h;split at h
 case h_2=>cases h
 rename_i l os hl;obtain⟨hn,hk⟩:=bi h;clear h;obtain⟨lh,Ss,k1,k2,k3,k4,k5⟩:=FK hs hl (ri jo Bv) (Cj hn)
 have hp:parts=(((parts.toList.map (·.2)).zipIdx).map λp=>(p.2,p.1)).toArray:=by
  rw[<-zM h1,arL]
 have hm:m=(parts.toList.map (·.2)).length:=by simpa using h2
 obtain⟨v,w',bP,ct,fU,Bu⟩:=zL (d:=d) (ty:=ty) (pos:=pos) (aft:=aft) (T.und_ok _ _ hu) (TI.low (T.row_ok _ _ hr)) hp (by rw[<-hm,DR.size];exact h3) k1 hs;rw[<-hm]at bP;refine⟨_,hk,cP.val bP ?_⟩
 have aF:∀i k,i<l.length->Ss i k->k<w.heap.size:=λi k hi hk=>hs.zE k (k4 i k hi hk)
 have jJ:Step F w F w':=λb hb=>⟨hb,(ct λ_=>False).block b (hs.lt b hb) λh=>h⟩
 have fm:ra Ss l.length (cx v) (vb (cx v) Ss l.length):=⟨λ_=>Iff.rfl,k5,(by grind)⟩
 have yx:mP F w' (.sl e dr) v l (vb (cx v) Ss l.length):=⟨lh,Ss,fU.2,k2,λi a b=>(k3 i a b).keep jJ λk hk=>(ct λ_=>False).block k (aF i k b hk) λh=>h,fm⟩
 have Tb:∀k,vb (cx v) Ss l.length k->¬F k/\k<w'.heap.size/\(w.heap.size<=k\/cT H ob os k):=by
  rintro k (hk|⟨i,hi,hk⟩)
  .exact⟨fU.1 k hk,fU.lt k hk, .inl (Bu k hk)⟩
  .have:=k4 i k hi hk;exact⟨hs.gG k this,arh (hs.zE k this) (ct λ_=>False).size, .inr this⟩
 refine oh.TQ (S:=vb (cx v) Ss l.length) (v0:=v) hs (zU ..) (tS fU) (ct _) (xj yx).1 (λk hk=>Tb k ((xj (H:=H) yx).2.1 k hk)) (qp (by simp[aN.dh]) (tS fU))
def DN(T:bz P)(n:Nat)(t:TypeId)(same:Bool)(a b:Int)(k:fF->Option R):Option R:=
 match find T.und t with
 |some (.slice e)=>match find T.row e with
  |some (.slice r)=>match find T.und e with
   |some (.slice e')=>(bif same then qh a ([]:List r.den)else mkC a b ([]:List r.den)).bind λl=>k {dst:= .val ag (.own n),make:=[(n,(n, .deep e (.sl e' (.leaf r)) l ae))]}
   |_=>ae
  |_=>zK T n t same a b k
 |_=>ae
def Ck{e e' t:TypeId}{r:Row}{a b:Int}(ht:P.underlying t=aa (.slice e))(vW:TI P e (.slice r))(hs:aP U H F w ob n){ka kb:IntKind}{x y:Operand}(hx:ev ρ x= .int ka a)(hy:ev ρ y= .int kb b)(h0:0<=a)(h1:a<=b)(h2:b<=4294967296):
 cX P U H F w ρ ob n ⟨aa d, .makeSlice t x y,ty,pos,aft,ae⟩ {dst:= .val ag (.own n),make:=[(n,(n, .deep e (.sl e' (.leaf r)) (aqW a.toNat ([]:List r.den)) ae))]}:=by
 obtain⟨v,w',bP,ct,fU,Bu⟩:=Cf (d:=d) (ty:=ty) (pos:=pos) (aft:=aft) (r:= .od) ht (TI.low (d:= .sl e' (.leaf r)) vW) hs hx hy h0 h1 h2
 have yx:mP F w' (.sl e (.sl e' (.leaf r))) v (aqW a.toNat ([]:List r.den)) (cx v):=by
  refine⟨aqW a.toNat (Value.slice ae 0 0),λ_ _=>False,fU.2,by simp,λi h1 h2=>?_,⟨λk=>by simp,λ_ _ _ _ _ _ h=>h.elim,λ_ _ _ h=>h.elim⟩⟩;simp only[List.getElem_replicate];exact⟨[],λ_ _=>False,pE.nil F w' e' r,rfl,λi h=>absurd h (by simp),⟨λk=>by simp[cx,are],λ_ _ _ h=>absurd h (by simp),λ_ _ h=>absurd h (by simp)⟩⟩
 refine cP.val bP (oh.TQ (S:=cx v) (v0:=v) (eat:=[]) (t:=M0 e (.sl e' (.leaf r)) (aqW a.toNat ([]:List r.den))) hs (zU ..) (tS fU) (ct _) (xj yx).1 (λk hk=>?_) (qp (by simp[aN.dh]) (tS fU)));have hk:=(xj (H:=H) yx).2.1 k hk;exact⟨fU.1 k hk,fU.lt k hk, .inl (Bu k hk)⟩
def M7(T:bz P){t:TypeId}{a b:Int}{ka kb:IntKind}{x y:Operand}{k:fF->Option R}{q:R}(h:DN T n t (sW x y) a b k=aa q)(hs:aP U H F w ob n)(hx:ev ρ x= .int ka a)(hy:ev ρ y= .int kb b):
 ∃e,k e=aa q/\cX P U H F w ρ ob n ⟨aa d, .makeSlice t x y,ty,pos,aft,ae⟩ e:=by
 unfold DN at h;split at h
 case h_2=>cases h
 rename_i e hu;split at h
 case h_2=>exact Fv T h hs hx hy
 rename_i r hr;split at h
 case h_2=>cases h
 rename_i e' KU;obtain⟨l,hl,hk⟩:=bind_some h;have vW:=T.row_ok _ _ hr;have ht:=T.und_ok _ _ hu
 cases gk:sW x y with
 |true=>
  rw[gk,cond_true]at hl;unfold qh at hl;split at hl
  case isFalse=>cases hl
  rename_i hc;obtain rfl:=aqP hl;obtain rfl:=Cg gk hx hy;exact⟨_,hk,Ck ht vW hs hx hy hc.1 (arT _) hc.2⟩
 |false=>
  rw[gk,cond_false]at hl;unfold mkC at hl;split at hl
  case isFalse=>cases hl
  rename_i hc;obtain rfl:=aqP hl;exact⟨_,hk,Ck ht vW hs hx hy hc.1 hc.2.1 hc.2.2⟩
def zY(deep:Bool)(T:bz P)(n:Nat)(t:TypeId)(same:Bool)(a b:Int)(k:fF->Option R):Option R:=
 match deep with
 |true=>DN T n t same a b k
 |false=>zK T n t same a b k
def M8(deep:Bool)(T:bz P){t:TypeId}{a b:Int}{ka kb:IntKind}{x y:Operand}{k:fF->Option R}{q:R}(h:zY deep T n t (sW x y) a b k=aa q)(hs:aP U H F w ob n)(hx:ev ρ x= .int ka a)(hy:ev ρ y= .int kb b):
 ∃e,k e=aa q/\cX P U H F w ρ ob n ⟨aa d, .makeSlice t x y,ty,pos,aft,ae⟩ e:=by
 cases deep with
 |true=>exact M7 T h hs hx hy
 |false=>exact Fv T h hs hx hy
def sY(T:bz P)(ob:Nat->Option (Nat×Th))(n:Nat)(t:TypeId)(D:aI)(k:fF->Option R):Option R:=
 match D with
 | .dlm .. =>vc T ob n t D k
 |_=>Cb T ob t D k
def M9(T:bz P){t:TypeId}{D:aI}{x:Operand}{k:fF->Option R}{q:R}(h:sY T ob n t D k=aa q)(hs:aP U H F w ob n)(hx:aH H F w D (ev ρ x)):
 ∃e,k e=aa q/\cX P U H F w ρ ob n ⟨aa d, .load t x,ty,pos,aft,ae⟩ e:=by
 unfold sY at h;split at h
 .exact M2 T h hs hx
 .exact PU T h hs hx
noncomputable def ub(T:bz P)(ob:Nat->Option (Nat×Th))(n:Nat)(t:TypeId)(D V:aI)(k:fF->Option R):Option R:=
 match D with
 | .dlm .. =>tY T ob n t D V k
 |_=>w9 T ob n t D V k
def I2(T:bz P){t:TypeId}{D V:aI}{x y:Operand}{k:fF->Option R}{q:R}(h:ub T ob n t D V k=aa q)(hs:aP U H F w ob n)(hx:aH H F w D (ev ρ x))(hy:aH H F w V (ev ρ y)):
 ∃e,k e=aa q/\cX P U H F w ρ ob n ⟨ae, .store t x y,ty,pos,aft,ae⟩ e:=by
 unfold ub at h;split at h
 .exact IY T h hs hx hy
 .exact MN T h hs hx hy
def zd(deep:Bool)(T:bz P)(rd:Operand->Option aI)(ob:Nat->Option (Nat×Th))(n:Nat)(t:TypeId)(m:Nat)(parts:Array (Nat×Operand))(k:fF->Option R):Option R:=
 match deep with
 |true=>ua T rd ob n t m parts k
 |false=>mG T rd ob n t m parts k
def I3(deep:Bool)(T:bz P){rd:Operand->Option aI}(jo:∀x d,rd x=aa d->aH H F w d (ev ρ x)){t:TypeId}{m:Nat}{parts:Array (Nat×Operand)}{k:fF->Option R}{q:R}(h:zd deep T rd ob n t m parts k=aa q)(hs:aP U H F w ob n):
 ∃e,k e=aa q/\cX P U H F w ρ ob n ⟨aa d, .buildSlice t m parts,ty,pos,aft,ae⟩ e:=by
 cases deep with
 |true=>exact I1 T jo h hs
 |false=>exact zN T jo h hs
end
end
end Go.Proofs.YtfeahmiobbjklaaGreatDoor
