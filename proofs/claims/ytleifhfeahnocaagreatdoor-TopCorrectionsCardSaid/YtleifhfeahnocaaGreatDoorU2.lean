/- Joined texts: Effs2 Effs3 Effs4 Effs5 Effs6 Effs8 Effs9. -/
import Derived.Test.YtleifhfeahnocaaGreatDoorU1
import Derived.Lib.AppendZerosOnto
import Derived.Carry
set_option linter.defProp false
open _root_.Bool renaming false->ag,true->af
open _root_.Option renaming none->ae,some->aa,isSome_iff_exists->ajE
open _root_.Array renaming toArray_toList->ajZ,getElem?_eq_some_iff->ajF
open _root_.Go.RowKit.Below renaming heap_alloc->akc
open _root_.Int renaming eq_ofNat_of_zero_le->ajd,le_refl->aj1,toNat_natCast->ajg,tdiv->ajl,tmod->ajH
open _root_.List renaming replicate->aji,map_cons->ajD,take_length->ajn
open _root_.Nat renaming add_mul->akq,beq->ajf,le_trans->ajs,mul_le_mul_right->ajq,zero_add->ajL,zero_le->ajB,le_refl->ajh,min_eq_left->akp,lt_of_lt_of_le->ajA
open _root_.Option.some renaming inj->aja,injEq->ajj
open _root_.Go.Result renaming andThen_ok->aj8,andThen->ajz
open _root_.Go.Sem renaming run_bind->ajw
open _root_.Go.Value renaming ownBlock->ajo,int->ajV
open _root_.List.cons renaming injEq->aj3
open _root_.Go.Value.slice renaming injEq->akn
open _root_.Go.Instr renaming findNow->akh,mapUpdate->akN
open _root_.Go.MapKept renaming run_checkKey->akr,run_findKey->akw,run_getObj_map->aku
open _root_.Prod.mk renaming inj->akA
section
open _root_.Bool renaming false->ag,true->af
open _root_.Option renaming none->ae,some->aa,isSome_iff_exists->ajE
open _root_.Array renaming toArray_toList->ajZ
open _root_.Go.RowKit.Below renaming heap_alloc->akc
open _root_.Int renaming toNat_natCast->ajg
open _root_.Nat renaming add_zero->akj,beq->ajf,blt->ajK,le_refl->ajh,lt_of_lt_of_le->ajA
open _root_.Option.some renaming inj->aja,injEq->ajj
open _root_.Prod.mk renaming inj->akA
open _root_.Go.Value renaming oneCell'->akt
namespace Go.Proofs.YtleifhfeahnocaaGreatDoor
open Go Go.RowKit
section
variable {P:Program} {ρ:Nat->Value} {w w':World} {H H':aK} {F F':Nat->Prop} {U:Nat->Prop} {ob:Nat->Option (Nat×Th)} {n:Nat} {R:Type}
variable {op:Op} {ty:TypeId} {pos:String} {aft:Array Edge} {d:Nat}
def aL.box(hs:aL U H F w ob n){o s:Nat}{T:TypeId}{t:Tree}(ho:ob o=aa (s, .box T t)){b:Nat}(hb:H.val o=aa (.pointer (aa ⟨b,0,ae⟩))):
 ∃es,w.heap[b]? =aa (.cells es.toArray T (0,0))/\Holds H F w t es:=by
 obtain⟨v,hv,hi⟩:=hs.obj _ _ _ ho;rw[hb]at hv;obtain rfl:=aja hv;obtain⟨b',es,e,h1,h2⟩:=hi.ok
 grind
def aL.own(hs:aL U H F w ob n){o s:Nat}{T:TypeId}{r:Row}{l:List r.den}(ho:ob o=aa (s, .own T r l)){v:Value}(hv:H.val o=aa v):Own 0 F w T r v l:=by
 obtain⟨v',dZ,hi⟩:=hs.obj _ _ _ ho;rw[hv]at dZ;obtain rfl:=aja dZ;exact⟨hi.no,hi.ok⟩
def Cl{fs:List (TypeId×Nat)}{arr:Array Field}(ha:arr.toList.map (λf=>(f.type,f.offset))=fs){f:Nat}{ft:TypeId}{off:Nat}(hf:fs[f]? =aa (ft,off)):∃fd,arr[f]? =aa fd/\fd.type=ft/\fd.offset=off:=by
 grind
def sub(r:Row)(x:r.den)(p:List Bool):Option ((s:Row)×s.den×Nat):=
 match Tree.get (.leaf r x) p with
 |some (.leaf s y,off)=>aa ⟨s,y,off⟩
 |_=>ae
def EM{r s:Row}{x:r.den}{y:s.den}{p:List Bool}{off b k:Nat}(h:sub r x p=aa ⟨s,y,off⟩)(ha:At F w r b k x):At F w s b (k+off) y:=by
 unfold sub at h;split at h
 .rename_i s' y' eE hg;simp only[ajj,Sigma.mk.injEq]at h;obtain⟨rfl,h⟩:=h;obtain⟨rfl,rfl⟩:=akA (eq_of_heq h);obtain⟨es,hl,hc,hr⟩:=ha;obtain⟨g1,g2⟩:=Holds.get (H:=⟨λ_=>ae,λ_=>ae,λ_ _=>False⟩) (F:=F) (w:=w) (cs:=es) hg hr;have Uz:cI F w s' ((es.drop eE).take s'.size) y':=g1;refine⟨_,Uz.length,λj u hu=>?_,Uz⟩
  grind
 .cases h
def EN(T:bj P)(t:TypeId)(f:Nat)(D:aI):Option aI:=
 match find T.und t with
 |some (.struct fs)=>match fs[f]? with
  |some (ft,off)=>match find T.row ft with
   |some _=>match D with
    | .ptr o p k=>aa (.ptr o (p++sO fs.length f) (k+off))
    | .at r x=>match sub r x (sO fs.length f)with
      |some ⟨s,y,eE⟩=>bif ajf eE off then aa (.at s y)else ae
      |none=>ae
    | .elem o s r i x p k=>aa (.elem o s r i x (p++sO fs.length f) (k+off))
    | .dlm o d i p k=>aa (.dlm o d i (p++sO fs.length f) (k+off))
    |_=>ae
   |none=>ae
  |none=>ae
 |_=>ae
theorem beq_true{m k:Nat}(h:ajf m k=af):m=k:=Nat.eq_of_beq_eq_true h
def sP{α:Type}{b:Bool}{x:α}{y:α}(h:(bif b then aa x else ae)=aa y):b=af/\x=y:=by
 grind
def IC(T:bj P){t:TypeId}{f:Nat}{D D':aI}{x:Operand}(h:EN T t f D=aa D')(hs:aL U H F w ob n)(hx:aH H F w D (ev ρ x)):
 cO P U H F w ρ ob n ⟨aa d, .fieldAddr t x f,ty,pos,aft,ae⟩ {dst:=D'}:=by
 unfold EN at h;split at h
 case h_2=>cases h
 rename_i fs hu;obtain⟨arr,Et,N3⟩:=T.und_ok _ _ hu;split at h
 case h_2=>cases h
 rename_i ft off hf;obtain⟨fd,TU,rfl,rfl⟩:=Cl N3 hf;split at h
 case h_2=>cases h
 rename_i r' NI;have yh:=T.row_ok _ _ NI;split at h
 .obtain rfl:=aja h;obtain⟨b,h1,h2⟩:=hx;exact ba hs (nY (r:=r') fd.offset Et TU yh rfl h2) ⟨b,h1,rfl⟩
 .split at h
  .rename_i s y eE iL;obtain⟨h1,rfl⟩:=sP h;obtain rfl:=beq_true h1;obtain⟨b,k,h2,h3,h4⟩:=hx;exact ba hs (nY (r:=r') fd.offset Et TU yh rfl h2) ⟨b,_,rfl,h3,EM iL h4⟩
  .cases h
 .obtain rfl:=aja h;obtain⟨g,o0,q,T',m,cap,l,h1,h2,h3,h4,h5⟩:=hx;exact ba hs (nY (r:=r') fd.offset Et TU yh rfl h5) ⟨g,o0,q,T',m,cap,l,h1,h2,h3,h4,by rw[Nat.add_assoc]⟩
 .obtain rfl:=aja h;obtain⟨g,o0,q,m,cap,h1,h2,h5⟩:=hx;exact ba hs (nY (r:=r') fd.offset Et TU yh rfl h5) ⟨g,o0,q,m,cap,h1,h2,by rw[Nat.add_assoc]⟩
 .cases h
def cI.elemAt{r:Row}{v:Value}{l:List r.den}(h:cI F w (.slice r) [v] l){i:Int}{y:r.den}(hi:idx l i=aa y):
 ∃b off cap k,v= .slice (aa ⟨b,off,ae⟩) l.length cap/\i=(k:Nat)/\k<l.length/\F b/\At F w r b (off+k*r.size) y:=by
 obtain⟨A,cap,hv,_,_,h4⟩:=h;obtain⟨k,hk,aG,rfl⟩:=iK hi;obtain⟨b,off,es,rfl,hF,vy,hc,hr⟩:=h4 k aG;exact⟨b,off,cap,k,by simpa using hv,hk,aG,hF,es,vy,hc,hr⟩
inductive Li where
 |read (r:Row) (l:List r.den)
 |own (o s:Nat) (T:TypeId) (r:Row) (l:List r.den)
 |nil
 |view (o s:Nat) (r:Row) (l:List r.den)
 |deep (o s:Nat) (T:TypeId) (d:DR) (l:List d.row.den) (h:Option wh)
def sQ(ob:Nat->Option (Nat×Th)):aI->Option Li
 | .val ag (.leaf (.slice r) l)=>aa (.read r l)
 | .val ag .nil=>aa .nil
 | .val ag (.own o)=>match ob o with
   |some (s, .own T r l)=>aa (.own o s T r l)
   |some (_, .vB _ r l)=>aa (.read r l)
   |some (_, .fdeep _ d l)=>aa (.read d.row l)
   |some (s, .deep T d l h)=>aa (.deep o s T d l h)
   |_=>ae
 | .val ag (.view o s r m)=>match ob o with
   |some (s', .vB ..)=>bif ajf s' s then aa (.read r m)else aa (.view o s r m)
   |_=>aa (.view o s r m)
 |_=>ae
def N4(U:Nat->Prop)(H:aK)(F:Nat->Prop)(w:World)(ob:Nat->Option (Nat×Th))(v:Value):Li->Prop
 | .read r l=>cI F w (.slice r) [v] l
 | .own o s T r l=>H.val o=aa v/\ob o=aa (s, .own T r l)/\Own 0 F w T r v l
 | .nil=>v= .slice ae 0 0
 | .view o s r m=>mX H o s r m v
 | .deep o s T d l h=>H.val o=aa v/\ob o=aa (s, .deep T d l h)/\Iy U H F w v s (.deep T d l h)
def ij(hs:aL U H F w ob n){D:aI}{k:Li}{v:Value}(h:sQ ob D=aa k)(hd:aH H F w D v):N4 U H F w ob v k:=by
 unfold sQ at h;split at h
 .cases h;exact aV.inv hd
 .cases h;obtain⟨cs,h1,_,h3⟩:=hd;have Aw:cs=_:=h1
  grind [N4]
 .rename_i o;obtain⟨cs,⟨u,hu,Et,e⟩,_,h3⟩:=hd;rw[h3 rfl]at e
  obtain rfl:v=u:=by simpa using e
  split at h
  .rename_i s T r l yr;cases h;exact⟨hu,yr,hs.own yr hu⟩
  .rename_i s T r l yr;cases h;obtain⟨v',dZ,hi⟩:=hs.obj _ _ _ yr;rw[hu]at dZ;obtain rfl:=aja dZ;exact hi.ok
  .rename_i s T d l yr;cases h;obtain⟨v',dZ,hi⟩:=hs.obj _ _ _ yr;rw[hu]at dZ;obtain rfl:=aja dZ;exact hi.ok
  .rename_i s T d l h' yr;cases h;obtain⟨v',dZ,hi⟩:=hs.obj _ _ _ yr;rw[hu]at dZ;obtain rfl:=aja dZ;exact⟨hu,yr,hi⟩
  .cases h
 .rename_i o s r m;obtain⟨cs,⟨u,e,hu⟩,_,h3⟩:=hd;rw[h3 rfl]at e
  obtain rfl:v=u:=by simpa using e
  split at h
  .rename_i s' T r' l' yr
   cases hb:ajf s' s with
   |false=>rw[hb]at h;cases h;exact hu
   |true=>
    rw[hb]at h;obtain rfl:=Nat.eq_of_beq_eq_true hb;cases h;exact yX hs yr hu
  .cases h;exact hu
 .cases h
def na:Nat->(r:Row)->r.den->(e:Row)->Option (List e.den)
 |1,r,x,e=>if h:r.beq e=af then aa [jZ (Row.eq_of_beq h) x]else ae
 |m+2, .pair a b,x,e=>if h:a.beq e=af then(match na (m+1) b x.2 e with
  |some l=>aa (jZ (Row.eq_of_beq h) x.1::l)
  |none=>ae)else ae
 |_,_,_,_=>ae
def GP{e:Row}{b:Nat}:{m:Nat}->{r:Row}->{x:r.den}->{l:List e.den}->{off:Nat}->na m r x e=aa l->At F w r b off x->l.length=m/\∀i(h:i<l.length),At F w e b (off+i*e.size) l[i]
 |0,r,x,l,off,h,_=>by unfold na at h;cases h
 |1,r,x,l,off,h,ha=>by
  unfold na at h;split at h
  case isFalse=>cases h
  rename_i hb;obtain rfl:=Row.eq_of_beq hb;obtain rfl:=aja h;refine⟨rfl,λi hi=>?_⟩
  obtain rfl:i=0:=by simp at hi;omega
  rw[Nat.zero_mul,akj];exact ha
 |m+2, .pair a b',x,l,off,h,ha=>by
  unfold na at h;split at h
  case isFalse=>cases h
  rename_i hb;obtain rfl:=Row.eq_of_beq hb;split at h
  case h_2=>cases h
  rename_i l' hl;obtain rfl:=aja h;obtain⟨g1,g2⟩:=GP hl (ha.snd _ rfl);refine⟨by simp[g1],λi hi=>?_⟩
  cases i with
  |zero=>
   rw[Nat.zero_mul,akj];exact ha.fst
  |succ i=>
   grind
 |m+2, .int _,_,_,_,h,_=>by unfold na at h;cases h
 |m+2, .bool,_,_,_,h,_=>by unfold na at h;cases h
 |m+2, .str,_,_,_,h,_=>by unfold na at h;cases h
 |m+2, .slice _,_,_,_,h,_=>by unfold na at h;cases h
 |m+2, .lZ,_,_,_,h,_=>by unfold na at h;cases h
 |m+2, .nul _,_,_,_,h,_=>by unfold na at h;cases h
 |m+2, .map ..,_,_,_,h,_=>by unfold na at h;cases h
def rH{t e:TypeId}{x y:Operand}{kd:IntKind}{a:Int}{ti:TypeInfo}{m nG off i:Nat}(size:Nat)(ht:P.underlying t=aa (.array m e))(hi:P.info? e=aa ti)(kS:ti.size=size)
 (hx:ev ρ x= .pointer (aa ⟨nG,off,ae⟩))(hy:ev ρ y= .int kd a)(ha:a=(i:Int))(aG:i<m):
 Pure P ρ ⟨aa d, .indexAddr t x y,ty,pos,aft,ae⟩ (.pointer (aa ⟨nG,off+i*size,ae⟩)):=λw=>by
 subst kS;subst ha;simp[execOp,Instr.indexAt,Instr.sureAddr,asIntOf,run_underlying ht,sizeOf,typeInfo,hi,hx,hy,aG,dh]
def GQ{α:Type}{b:Bool}{x:Option α}{y:α}(h:(bif b then x else ae)=aa y):b=af/\x=aa y:=by
 cases b with
 |true=>exact⟨rfl,h⟩
 |false=>cases h
def qU(T:bj P)(m:Nat)(e:TypeId)(D:aI)(i:Int)(k:eD->Option R):Option R:=
 match find T.row e with
 |some re=>match D with
  | .at r x=>match na m r x re with
    |some l=>(idx l i).bind λy=>k {dst:= .at re y}
    |none=>ae
  | .ptr o p off=>match i with
    | .ofNat j=>bif ajK j m then k {dst:= .ptr o (p++sO m j) (off+j*re.size)}else ae
    | .negSucc _=>ae
  |_=>ae
 |none=>ae
def EO(T:bj P){t:TypeId}{m:Nat}{e:TypeId}(hu:P.underlying t=aa (.array m e)){D:aI}{x y:Operand}{kd:IntKind}{i:Int}{k:eD->Option R}{q:R}(h:qU T m e D i k=aa q)(hs:aL U H F w ob n)(hx:aH H F w D (ev ρ x))(hy:ev ρ y= .int kd i):
 ∃e,k e=aa q/\cO P U H F w ρ ob n ⟨aa d, .indexAddr t x y,ty,pos,aft,ae⟩ e:=by
 unfold qU at h;split at h
 case h_2=>cases h
 rename_i re hr;obtain⟨ti,z,h1,_,_,h4,_⟩:=T.row_ok _ _ hr;split at h
 case h_3=>cases h
 case h_2=>
  split at h
  case h_2=>cases h
  rename_i o p off _ j;obtain⟨aG,hk⟩:=GQ h
  have aG:j<m:=by simpa using aG
  obtain⟨b,hb,hv⟩:=hx;exact⟨_,hk,ba hs (rH re.size hu h1 h4 hv hy rfl aG) ⟨b,hb,rfl⟩⟩
 rename_i r v;split at h
 case h_2=>cases h
 rename_i l hl;obtain⟨a,ha,hk⟩:=bind_some h;obtain⟨b,off,hv,hF,ym⟩:=hx;obtain⟨g1,g2⟩:=GP hl ym;obtain⟨j,hj,aG,rfl⟩:=iK ha;exact⟨_,hk,ba hs (rH re.size hu h1 h4 hv hy hj (by omega)) ⟨b,_,rfl,hF,g2 j aG⟩⟩
def tU(T:bj P)(ob:Nat->Option (Nat×Th))(t:TypeId)(D:aI)(i:Int)(k:eD->Option R):Option R:=
 match find T.und t with
 |some (.slice e)=>match find T.row e with
  |some re=>match sQ ob D with
   |some (.read r l)=>bif ajf r.size re.size then(idx l i).bind λx=>k {dst:= .at r x}else ae
   |some (.own o s _ r l)=>bif ajf r.size re.size then(idx l i).bind λx=>k {dst:= .elem o s r i x [] 0}else ae
   |some (.deep o _ _ d l _)=>bif ajf d.low.size re.size then(idx l i).bind λ_=>k {dst:= .dlm o d i [] 0}else ae
   |_=>ae
  |none=>ae
 |some (.array m e)=>qU T m e D i k
 |_=>ae
def ID(T:bj P){t:TypeId}{D:aI}{x y:Operand}{kd:IntKind}{i:Int}{k:eD->Option R}{q:R}(h:tU T ob t D i k=aa q)(hs:aL U H F w ob n)(hx:aH H F w D (ev ρ x))(hy:ev ρ y= .int kd i):
 ∃e,k e=aa q/\cO P U H F w ρ ob n ⟨aa d, .indexAddr t x y,ty,pos,aft,ae⟩ e:=by
 unfold tU at h;split at h
 case h_3=>cases h
 case h_2=>rename_i m e hu;exact EO T (T.und_ok _ _ hu) h hs hx hy
 rename_i e hu;have hu:=T.und_ok _ _ hu;split at h
 case h_2=>cases h
 rename_i re hr;obtain⟨ti,z,h1,_,_,h4,_⟩:=T.row_ok _ _ hr;split at h
 .rename_i r l gY
  cases hz:ajf r.size re.size with
  |false=>rw[hz]at h;cases h
  |true=>
   rw[hz,cond_true]at h;have hz:=beq_true hz;obtain⟨a,ha,hk⟩:=bind_some h;have gY:=ij hs gY hx;obtain⟨b,off,cap,j,hv,hj,aG,hF,ym⟩:=cI.elemAt gY ha;refine⟨_,hk,ba hs (nI r.size hu h1 (h4.trans hz.symm) hv hy hj aG) ⟨b,_,rfl,hF,ym⟩⟩
 .rename_i o s T' r l gY
  cases hz:ajf r.size re.size with
  |false=>rw[hz]at h;cases h
  |true=>
   rw[hz,cond_true]at h;have hz:=beq_true hz;obtain⟨a,ha,hk⟩:=bind_some h;obtain⟨hv,cJ,eh⟩:=ij hs gY hx;obtain⟨v',dZ,cT⟩:=hs.obj _ _ _ cJ;obtain⟨j,hj,aG,hja⟩:=iK ha;obtain⟨_,xs,GO,_⟩:=eh
   rcases GO.2 with⟨Lj,h0⟩|⟨g,o0,cap,cur,IE,_,_,_⟩
   .omega
   .have hp:=nI (P:=P) (d:=aa d) (ty:=ty) (pos:=pos) (aft:=aft) r.size hu h1 (h4.trans hz.symm) IE hy hj aG;refine⟨_,hk,ba hs hp ⟨g,o0,j,T',l.length,cap,l,?_,hj,cT.con,ha,rfl⟩⟩
    grind
 .rename_i o s T' d' l hh gY;obtain⟨hz,h⟩:=GQ h;have hz:=beq_true hz;obtain⟨a,ha,hk⟩:=bind_some h;obtain⟨hv,cJ,cT⟩:=ij hs gY hx;obtain⟨j,hj,aG,hja⟩:=iK ha;obtain⟨lh,_,⟨xs,GO,_⟩,TT,_⟩:=cT.ok
  rcases GO.2 with⟨Lj,h0⟩|⟨g,o0,cap,cur,IE,_,_,_⟩
  .omega
  .have hp:=nI (P:=P) (d:=aa d) (ty:=ty) (pos:=pos) (aft:=aft) d'.low.size hu h1 (h4.trans hz.symm) IE hy hj (by omega);refine⟨_,hk,ba hs hp ⟨g,o0,j,lh.length,cap,?_,hj,rfl⟩⟩
   grind
 .cases h
theorem wo{b:Nat}{T:TypeId}{es:List Value}(hh:w.heap[b]? =aa (.cells es.toArray T (0,0)))(j:Nat):w.cell? ⟨b,j,ae⟩=es[j]? :=by
 rw[cell_of_row w b j _ T (0,0) hh];simp
theorem oS(T:bj P){t:TypeId}{kk:Ks}(hu:find T.und t=aa kk){x:Operand}{b off:Nat}{s:Tree}{cs:List Value}(hx:ev ρ x= .pointer (aa ⟨b,off,ae⟩))(hs:aL U H F w ob n)
 (hh:Holds H F w s cs)(hc:∀j u,cs[j]? =aa u->w.cell? ⟨b,off+j,ae⟩=aa u)
 (hz:if mi kk=af then∃r,find T.row t=aa r/\r.size=s.size else s.size=1):
 cO P U H F w ρ ob n ⟨aa d, .load t x,ty,pos,aft,ae⟩ {dst:= .val (mi kk) s}:=by
 obtain⟨dd,yd,ye⟩:=(T.und_ok _ _ hu).agg;have hl:=hh.length
 cases ha:mi kk with
 |true=>
  rw[aj ha]at hz;obtain⟨r,hr,NJ⟩:=hz;obtain⟨ti,z,h1,_,_,h4,_⟩:=T.row_ok _ _ hr;exact cn hs (Im yd (ye.trans ha) h1 (by omega) hx hc) ⟨cs,hh,rfl,by simp⟩
 |false=>
  rw[ai (by simp[ha])]at hz
  obtain⟨v,rfl⟩:∃v,cs=[v]:=by
   match cs,hl.trans hz with
   |[v],_=>exact⟨v,rfl⟩
  exact cn hs (yS yd (ye.trans ha) hx (hc 0 v rfl)) ⟨[v],hh,rfl,λ_=>rfl⟩
def nK(T:bj P)(t:TypeId)(kk:Ks)(m:Nat):Bool:=
 bif mi kk then(match find T.row t with|some r=>ajf r.size m|none=>ag)else ajf m 1
theorem lf(T:bj P){t:TypeId}{kk:Ks}{m:Nat}(h:nK T t kk m=af):if mi kk=af then∃r,find T.row t=aa r/\r.size=m else m=1:=by
 grind [nK,beq_true]
def yY(T:bj P)(ob:Nat->Option (Nat×Th))(t:TypeId)(D:aI)(k:eD->Option R):Option R:=
 match find T.und t with
 |none=>ae
 |some kk=>match D with
  | .at r x=>bif nK T t kk r.size then k {dst:= .val (mi kk) (.leaf r x)}else ae
  | .ptr o p off=>match ob o with
    |some (_, .box _ tr)=>match tr.get p with
     |some (s,eE)=>bif ajf eE off&&nK T t kk s.size then k {dst:= .val (mi kk) s}else ae
     |none=>ae
    |_=>ae
  | .elem o s r i x p off=>match ob o with
    |some (s', .own _ r' l)=>bif ajf s' s then
      (match sub r x p with
      |some ⟨q,y,eE⟩=>bif ajf eE off&&nK T t kk q.size then k {dst:= .val (mi kk) (.leaf q y)}else ae
      |none=>ae)
     else(idx l i).bind λx'=>match sub r' x' p with
      |some ⟨q,y,eE⟩=>bif ajf eE off&&nK T t kk q.size&&ajf r'.size r.size then k {dst:= .val (mi kk) (.leaf q y)}else ae
      |none=>ae
    |_=>ae
  |_=>ae
def be{α:Type}{b:Bool}{x:Option α}{y:α}(h:(bif b then x else ae)=aa y):b=af/\x=aa y:=by
 cases b with
 |true=>exact⟨rfl,h⟩
 |false=>cases h
def de{a b:Bool}(h:(a&&b)=af):a=af/\b=af:=by simpa using h
def GR(hs:aL U H F w ob n){o s':Nat}{T':TypeId}{r':Row}{i:Int}{x':r'.den}{l:List r'.den}{g o0 q m cap:Nat}(cJ:ob o=aa (s', .own T' r' l))(hv:H.val o=aa (.slice (aa ⟨g,o0,ae⟩) m cap))(hq:i=(q:Nat))(hi:idx l i=aa x'):
 At F w r' g (o0+q*r'.size) x':=(hs.own cJ hv).at rfl hq hi
def Lk(T:bj P){t:TypeId}{D:aI}{x:Operand}{k:eD->Option R}{q:R}(h:yY T ob t D k=aa q)(hs:aL U H F w ob n)(hx:aH H F w D (ev ρ x)):
 ∃e,k e=aa q/\cO P U H F w ρ ob n ⟨aa d, .load t x,ty,pos,aft,ae⟩ e:=by
 unfold yY at h;split at h
 .cases h
 rename_i kk hu;split at h
 .rename_i r y;obtain⟨h1,h2⟩:=be h;obtain⟨b,off,e,hF,es,hl,hc,hr⟩:=hx;exact⟨_,h2,oS T hu e hs (s:= .leaf r y) hr hc (lf T h1)⟩
 .rename_i o p off;split at h
  .rename_i st0 T0 tr cJ;split at h
   .rename_i s eE hg;obtain⟨h1,h2⟩:=be h;obtain⟨h1,h3⟩:=de h1;obtain rfl:=beq_true h1;obtain⟨b,hb,e⟩:=hx;obtain⟨es,hh,Qc⟩:=hs.box cJ hb;obtain⟨g1,g2⟩:=Qc.get hg
    grind [oS,lf,wo]
   .cases h
  .cases h
 .rename_i o s r i y p off;split at h
  .rename_i s' T0 r' l cJ;obtain⟨g,o0,qq,T',m,cap,l0,e1,e2,e3,e4,e5⟩:=hx
   cases yZ:ajf s' s with
   |true=>
    rw[yZ,cond_true]at h;obtain rfl:=beq_true yZ;obtain⟨v,hv,cT⟩:=hs.obj _ _ _ cJ;have hc:=cT.con;rw[e3]at hc
    obtain⟨rfl,yc⟩:T'=T0/\(⟨r,l0⟩:(r:Row)×List r.den)=⟨r',l⟩:=by
     grind [Th.base]
    cases yc;split at h
    .rename_i q' y' eE iL;obtain⟨h1,h2⟩:=be h;obtain⟨h1,h3⟩:=de h1;obtain rfl:=beq_true h1;obtain⟨es,hl,N5,hr⟩:=EM iL (GR hs cJ e1 e2 e4);exact⟨_,h2,oS T hu e5 hs (s:= .leaf q' y') hr N5 (lf T h3)⟩
    .cases h
   |false=>
    rw[yZ,cond_false]at h;obtain⟨x',hx',h⟩:=bind_some h;split at h
    .rename_i q' y' eE iL;obtain⟨h1,h2⟩:=be h;obtain⟨h1,h4⟩:=de h1;obtain⟨h1,h3⟩:=de h1;obtain rfl:=beq_true h1;have h4:=beq_true h4;obtain⟨es,hl,N5,hr⟩:=EM iL (GR hs cJ e1 e2 hx');rw[h4]at N5;exact⟨_,h2,oS T hu e5 hs (s:= .leaf q' y') hr N5 (lf T h3)⟩
    .cases h
  .cases h
 .cases h
end
end Go.Proofs.YtleifhfeahnocaaGreatDoor
namespace Go.Proofs.YtleifhfeahnocaaGreatDoor
open Go Go.RowKit
def EP:(r:Row)->List Bool->Option ((s:Row)×Path r s)
 |r,[]=>aa ⟨r, .here⟩
 | .pair a b,d::p=>match d with
   |false=>match EP a p with
    |some ⟨s,q⟩=>aa ⟨s, .fst q⟩
    |none=>ae
   |true=>match EP b p with
    |some ⟨s,q⟩=>aa ⟨s, .snd q⟩
    |none=>ae
 |_,_::_=>ae
section
variable {P:Program} {ρ:Nat->Value} {w w':World} {H H':aK} {F F':Nat->Prop} {U:Nat->Prop} {ob:Nat->Option (Nat×Th)} {n:Nat} {R:Type}
variable {op:Op} {ty:TypeId} {pos:String} {aft:Array Edge} {d:Nat}
def aK.bU(H:aK)(s:Nat)(t:Th):aK:=⟨H.val,λm=>if m=s then aa t else H.con m,H.sub⟩
def aK.cF(H:aK)(o:Nat)(v:Value):aK:=⟨λm=>if m=o then aa v else H.val m,H.con,H.sub⟩
def aK.fK(H:aK)(s:Nat)(S:Nat->Prop):aK:=⟨H.val,H.con,λm=>if m=s then S else H.sub m⟩
def aK.gN{H:aK}{s:Nat}{t:Th}(h:H.con s=ae):H.le (H.bU s t):=⟨λ_ _ h=>h,λm q hq=>by
 grind [aK.bU],λ_ _ _=>rfl⟩
def aK.IF{H:aK}{s:Nat}{S:Nat->Prop}(h:H.con s=ae):H.le (H.fK s S):=⟨λ_ _ h=>h,λ_ _ h=>h,λm t hm=>by
 grind [aK.fK]⟩
def aK.qV{H:aK}{s:Nat}{t:Value}(h:H.val s=ae):H.le (H.cF s t):=⟨λm q hq=>by
 grind [aK.cF],λ_ _ h=>h,λ_ _ _=>rfl⟩
theorem ee{α:Type}{o o':Nat}{x y:α}(h:find [(o,x)] o'=aa y):o'=o/\y=x:=by
 rw[aZ]at h;split at h
 .grind
 .cases h
def mY.Az(hs:aL U H F w ob n){o s:Nat}{t t':Th}{v0:Value}(ho:ob o=aa (s,t))(hv:H.val o=aa v0)(hb:t'.base=t')(NK:∀k,fp (H.sub n) v0 t' k->fp (H.sub s) v0 t k){D:aI}{v:Value}
 (bY:Ext (fp (H.sub s) v0 t) w w')(sL:kf (H.bU n t') F w' (H.sub n) v0 t')(hd:aH (H.bU n t') F w' D v):ma H F w ob n {dst:=D,eat:=[o],make:=[(o,(n,t'))]} v w':=by
 obtain⟨v1,vD,cT⟩:=hs.obj _ _ _ ho;rw[hv]at vD;obtain rfl:=aja vD
 have mj:∀k,fp (H.sub s) v0 t k->cD H ob [o] k:=λk hk=>⟨o,by simp,s,t,v0,ho,hv,hk⟩
 refine⟨H.bU n t',F,⟨aK.gN (hs.fresh n (ajh _) (by omega)).2,⟨bY.os,bY.tape,bY.output,bY.size,λk hk hn=>bY.block k hk λe=>hn (mj k e)⟩,λ_ h=>h,λ_ h=> .inl h,λb hb=>ajA (hs.lt b hb) bY.size⟩,λm hm=>?_,hd,⟨λo' s' q hq=>?_,λo1 o2 s1 s2 q1 q2 u1 u2 dw h1 h2=>?_⟩,λo' h=>?_⟩
 .grind [aK.bU]
 .obtain⟨rfl,e⟩:=ee hq;obtain⟨rfl,rfl⟩:=akA e;refine⟨v0,hv,cT.one,by simp[aK.bU,hb],sL,λk hk=>⟨cT.no k (NK k hk),ajA (cT.lt k (NK k hk)) bY.size, .inr (mj k (NK k hk))⟩⟩
 all_goals grind [ee,ajE]
def mY.new(hs:aL U H F w ob n){eat:List Nat}{t:Th}{v0:Value}(hb:t.base=t)(h1:v0.oneCell'=af){D:aI}{v:Value}
 (bY:Ext (cD H ob eat) w w')(sL:kf ((H.bU n t).cF n v0) F w' (H.sub n) v0 t)(NK:∀k,fp (H.sub n) v0 t k->¬F k/\k<w'.heap.size/\(w.heap.size<=k\/cD H ob eat k))
 (hd:aH ((H.bU n t).cF n v0) F w' D v):ma H F w ob n {dst:=D,eat:=eat,make:=[(n,(n,t))]} v w':=by
 have hf:=hs.fresh n (ajh _) (by omega);refine⟨(H.bU n t).cF n v0,F,⟨(aK.gN hf.2).trans (aK.qV (by simp[aK.bU,hf.1])),bY,λ_ h=>h,λ_ h=> .inl h,λb hb=>ajA (hs.lt b hb) bY.size⟩,λm hm=>?_,hd,⟨λo' s' q hq=>?_,λo1 o2 s1 s2 q1 q2 u1 u2 dw h1 h2=>?_⟩,λo' h=>?_⟩
 .simp[aK.bU,aK.cF,show m≠n from by omega]
 .obtain⟨rfl,e⟩:=ee hq;obtain⟨rfl,rfl⟩:=akA e;exact⟨v0,by simp[aK.cF],h1,by simp[aK.bU,aK.cF,hb],sL,NK⟩
 .grind [ee]
 .right
  obtain⟨y,hy⟩:=ajE.1 h
  grind [ee]
def tV(T:bj P)(ob:Nat->Option (Nat×Th))(n:Nat)(t:TypeId)(D V:aI)(k:eD->Option R):Option R:=
 match find T.row t with
 |none=>ae
 |some rt=>match V with
  | .val _ u=>match D with
    | .ptr o p off=>match ob o with
      |some (_, .box T0 tr)=>match tr.get p with
       |some (s,eE)=>bif ajf eE off&&ajf rt.size s.size&&ajf u.size s.size then
         (match tr.put p u with
         |some XH=>k {dst:= .dead,eat:=[o],make:=[(o,(n, .box T0 XH))]}
         |none=>ae)else ae
       |none=>ae
      |_=>ae
    | .elem o s r i x p off=>match ob o with
      |some (s', .own T0 r' l)=>match EP r' p with
       |some ⟨q,za⟩=>bif ajf za.off off&&ajf rt.size q.size&&ajf r'.size r.size then
         (match flat ob q u with
         |some y=>bif ajf s' s then
           (if h:r.beq r'=af then k {dst:= .dead,eat:=[o],make:=[(o,(n, .own T0 r' (b8 l i (za.set (jZ (Row.eq_of_beq h) x) y))))]}else ae)
          else(idx l i).bind λx'=>k {dst:= .dead,eat:=[o],make:=[(o,(n, .own T0 r' (b8 l i (za.set x' y))))]}
         |none=>ae)else ae
       |none=>ae
      |_=>ae
    |_=>ae
  |_=>ae
def aV.cells{agg:Bool}{t:Tree}{v:Value}(h:aV H F w agg t v):∃cs,Holds H F w t cs/\v.cells.toList=cs:=by
 obtain⟨cs,h1,h2,h3⟩:=h;refine⟨cs,h1,?_⟩
 cases agg with
 |true=>rw[h2];rfl
 |false=>
  have e:=h3 rfl;have h1c:=h1.kD v (by rw[e];simp);rw[e]
  cases v<;>first|rfl|simp[akt]at h1c
def wq(T:bj P){t:TypeId}{rt:Row}(Ll:find T.row t=aa rt){x y:Operand}{o s':Nat}{T0:TypeId}{r q:Row}{i:Int}{x':r.den}{z:q.den}{l:List r.den}{p:Path r q}{off g o0 j m cap:Nat}{agg:Bool}{u:Tree}
 (hs:aL U H F w ob n)(cJ:ob o=aa (s', .own T0 r l))(hv:H.val o=aa (.slice (aa ⟨g,o0,ae⟩) m cap))(hj:i=(j:Nat))(hi:idx l i=aa x')(hx:ev ρ x= .pointer (aa ⟨g,o0+j*r.size+off,ae⟩))(N6:p.off=off)(hz:rt.size=q.size)
 (hf:flat ob q u=aa z)(hV:aV H F w agg u (ev ρ y)):
 cO P U H F w ρ ob n ⟨ae, .store t x y,ty,pos,aft,ae⟩ {dst:= .dead,eat:=[o],make:=[(o,(n, .own T0 r (b8 l i (p.set x' z))))]}:=by
 obtain⟨ti,z0,h1,_,_,h4,_⟩:=T.row_ok _ _ Ll;obtain⟨cs,rT,zb⟩:=hV.cells;have hr:=jL hs hf rT;have eh:=hs.own cJ hv;obtain⟨k',hk,aG,rfl⟩:=iK hi
 obtain rfl:k'=j:=by omega
 obtain⟨cur,hh,hle,bY,hZ⟩:=eh.put rfl aG hs.lt p hr;subst N6;refine cA.unit (pw h1 (h4.trans (hz.trans hr.length.symm)) hx rfl zb hr.kD hh hle) ?_;refine mY.Az (t':= .own T0 r (b8 l i (p.set l[k'] z))) (D:= .dead) hs cJ hv rfl (λ_ h=>h) bY ?_ trivial;have:kf (H.bU n (.own T0 r (b8 l i (p.set l[k'] z)))) F (w.setRow g (cur.toList.take (o0+k'*r.size+p.off)++cs++cur.toList.drop (o0+k'*r.size+p.off+cs.length)).toArray) (H.sub n) (.slice (aa ⟨g,o0,ae⟩) m cap) (.own T0 r (l.set k' (p.set l[k'] z))):=hZ.2
 grind [b8,ajg]
def IG(T:bj P){t:TypeId}{D V:aI}{x y:Operand}{k:eD->Option R}{q:R}(h:tV T ob n t D V k=aa q)(hs:aL U H F w ob n)(hx:aH H F w D (ev ρ x))(hy:aH H F w V (ev ρ y)):
 ∃e,k e=aa q/\cO P U H F w ρ ob n ⟨ae, .store t x y,ty,pos,aft,ae⟩ e:=by
 unfold tV at h;split at h
 .cases h
 rename_i rt Ll;split at h
 case h_2=>cases h
 rename_i agg u;split at h
 .rename_i o p off;split at h
  case h_2=>cases h
  rename_i s0 T0 tr cJ;split at h
  case h_2=>cases h
  rename_i s eE hg;obtain⟨h1,h2⟩:=be h;obtain⟨h1,GS⟩:=de h1;obtain⟨h1,wu⟩:=de h1;obtain rfl:=beq_true h1;have wu:=beq_true wu;have GS:=beq_true GS;split at h2
  case h_2=>cases h2
  rename_i XH hp;obtain⟨b,hb,e⟩:=hx;obtain⟨es,hh,Qc⟩:=hs.box cJ hb;obtain⟨cs,rT,zb⟩:=aV.cells hy;have hl:=rT.length;have hle:=(Qc.get hg).2;have wj:=Holds.put rT hg hp GS.symm Qc;obtain⟨ti,z0,g1,_,_,g4,_⟩:=T.row_ok _ _ Ll;refine⟨_,h2,cA.unit (pw g1 (by omega) e rfl zb rT.kD hh (by simp;omega)) ?_⟩
  have TV:¬F b:=by
   obtain⟨v1,vD,cT⟩:=hs.obj _ _ _ cJ;rw[hb]at vD;obtain rfl:=aja vD;exact cT.no b rfl
  have bY:Ext (fp (H.sub s0) (.pointer (aa ⟨b,0,ae⟩)) (.box T0 tr)) w (w.setRow b (es.toArray.toList.take eE++cs++es.toArray.toList.drop (eE+cs.length)).toArray):=
   ⟨rfl,rfl,rfl,by simp,λk _ hk=>setRow_other w b k _ λe=>hk (by simp[fp,e])⟩
  refine mY.Az (t':= .box T0 XH) (D:= .dead) hs cJ hb rfl (λk hk=>hk) bY ⟨b,_,rfl,setRow_heap w b _ _ T0 (0,0) hh,?_⟩ trivial
  have hk:=wj.keep (H':=H.bU n (.box T0 XH)) (aK.gN (hs.fresh n (ajh _) (by omega)).2) (Step.ext bY hs.lt λk hk=>by
   grind [fp])
  grind
 .rename_i o s r i x0 p off;split at h
  case h_2=>cases h
  rename_i s' T0 r' l cJ;split at h
  case h_2=>cases h
  rename_i q' za AA;obtain⟨h1,h2⟩:=be h;obtain⟨h1,GS⟩:=de h1;obtain⟨h1,wu⟩:=de h1;have h1:=beq_true h1;have wu:=beq_true wu;have GS:=beq_true GS;split at h2
  case h_2=>cases h2
  rename_i z hf;obtain⟨g,o0,qq,T',m,cap,l0,e1,e2,e3,e4,e5⟩:=hx;rw[<-GS]at e5
  cases yZ:ajf s' s with
  |true=>
   rw[yZ,cond_true]at h2;obtain rfl:=beq_true yZ;split at h2
   case isFalse=>cases h2
   rename_i Cm;obtain⟨v,hv,cT⟩:=hs.obj _ _ _ cJ;have hc:=cT.con;rw[e3]at hc
   obtain⟨rfl,yc⟩:T'=T0/\(⟨r,l0⟩:(r:Row)×List r.den)=⟨r',l⟩:=by
    grind [Th.base]
   cases yc;exact⟨_,h2,wq T Ll hs cJ e1 e2 e4 e5 h1 wu hf hy⟩
  |false=>
   rw[yZ,cond_false]at h2;obtain⟨x',hx',h2⟩:=bind_some h2;exact⟨_,h2,wq T Ll hs cJ e1 e2 hx' e5 h1 wu hf hy⟩
 .cases h
def Lm(hs:aL U H F w ob n){t:TypeId}{tr:Tree}{cs:List Value}(hh:Holds H F w tr cs):
 ma H F w ob n {dst:= .ptr n [] 0,make:=[(n,(n, .box t tr))]} (.pointer (aa ⟨w.heap.size,0,ae⟩)) (w.alloc (.cells cs.toArray t)):=by
 have bY:Ext (cD H ob []) w (w.alloc (.cells cs.toArray t)):=⟨rfl,rfl,rfl,by simp,λk hk _=>akc w _ k hk⟩
 have hf:=hs.fresh n (ajh _) (by omega);refine mY.new (v0:= .pointer (aa ⟨w.heap.size,0,ae⟩)) hs rfl rfl bY ⟨_,cs,rfl,heap_alloc_new w _,?_⟩ (λk hk=>?_) ⟨w.heap.size,by simp[aK.cF],rfl⟩
 .exact hh.keep ((aK.gN hf.2).trans (aK.qV (by simp[aK.bU,hf.1]))) (Step.alloc hs.lt _)
 .simp only[fp,Value.pointer.injEq,ajj,Addr.mk.injEq,and_true]at hk;subst hk;exact⟨λe=>by have:=hs.lt _ e;omega,by simp, .inl (ajh _)⟩
def tW(T:bj P)(n:Nat)(t:TypeId)(k:eD->Option R):Option R:=
 match find T.row t with
 |some r=>k {dst:= .ptr n [] 0,make:=[(n,(n, .box t r.Ck))]}
 |none=>ae
def IH(T:bj P){t:TypeId}{k:eD->Option R}{q:R}(h:tW T n t k=aa q)(hs:aL U H F w ob n):
 ∃e,k e=aa q/\cO P U H F w ρ ob n ⟨aa d, .alloc t,ty,pos,aft,ae⟩ e:=by
 unfold tW at h;split at h
 case h_2=>cases h
 rename_i r hr;obtain⟨ti,z,h1,h2,h3,_,_⟩:=T.row_ok _ _ hr;refine⟨_,h,cA.val (Ip h1 h2) ?_⟩;have:=Lm (t:=t) hs (Row.n7 H F w r);rw[<-h3,ajZ]at this;exact this
def II(n:Nat)(t:TypeId)(V:aI)(k:eD->Option R):Option R:=
 match V with
 | .val _ u=>k {dst:= .ptr n [] 0,make:=[(n,(n, .box t u))]}
 |_=>ae
def N7{t:TypeId}{V:aI}{x:Operand}{k:eD->Option R}{q:R}(h:II n t V k=aa q)(hs:aL U H F w ob n)(hx:aH H F w V (ev ρ x)):
 ∃e,k e=aa q/\cO P U H F w ρ ob n ⟨aa d, .box t x,ty,pos,aft,ae⟩ e:=by
 unfold II at h;split at h
 case h_2=>cases h
 rename_i agg u;obtain⟨cs,rT,zb⟩:=aV.cells hx;refine⟨_,h,cA.val (NZ rfl) ?_⟩;have:=Lm (t:=t) hs rT;rw[<-zb,ajZ]at this;exact this
end
end Go.Proofs.YtleifhfeahnocaaGreatDoor
end
namespace Go.Proofs.YtleifhfeahnocaaGreatDoor
open Go Go.RowKit
set_option maxRecDepth 100000
set_option linter.unusedSimpArgs false
set_option linter.unusedVariables false
set_option linter.defProp false
section
section
variable {P:Program} {ρ:Nat->Value} {w w':World} {H H':aK} {F F':Nat->Prop} {U:Nat->Prop} {ob:Nat->Option (Nat×Th)} {n:Nat} {R:Type}
variable {op:Op} {ty:TypeId} {pos:String} {aft:Array Edge} {d:Nat}
def qW{base:Nat}{T:TypeId}{r:Row}{v:Value}{l:List r.den}(h:Own base F w T r v l):v.oneCell'=af:=by
 obtain⟨A,cap,rfl,_⟩:=h.reads;rfl
def n9{H:aK}{o:Nat}{v:Value}(h:H.val o=aa v)(h1:v.oneCell'=af):aH H F w (.val ag (.own o)) v:=⟨[v],⟨v,h,h1,rfl⟩,rfl,λ_=>rfl⟩
def rY(hs:aL U H F w ob n){e:TypeId}{r:Row}{v:Value}{l:List r.den}{eat:List Nat}(bY:Ext (cD H ob eat) w w')(ho:Own 0 F w' e r v l)(hn:∀k,bH v k->cD H ob eat k\/w.heap.size<=k):
 ma H F w ob n {dst:= .val ag (.own n),eat:=eat,make:=[(n,(n, .own e r l))]} v w':=
 mY.new (v0:=v) hs rfl (qW ho) bY ho.2 (λk hk=>⟨ho.1 k hk,ho.lt k hk,(hn k hk).symm⟩) (n9 (by simp[aK.cF]) (qW ho))
def qX{g:Nat->Prop}(o:Obj):Ext g w (w.alloc o):=⟨rfl,rfl,rfl,by simp,λk hk _=>akc w _ k hk⟩
def TW{α:Type}(a b:Int)(z:α):Option (List α):=if 0<=a/\a<=b/\b<=4294967296 then aa (aji a.toNat z)else ae
def qe:Operand->Operand->Bool
 | .tmp a, .tmp b=>ajf a b
 | .const (.int _ a), .const (.int _ b)=>decide (a=b)
 |_,_=>ag
def zc{e t:TypeId}{r:Row}{a b:Int}(ht:P.underlying t=aa (.slice e))(yh:TI P e r)(hs:aL U H F w ob n){ka kb:IntKind}{x y:Operand}(hx:ev ρ x= .int ka a)(hy:ev ρ y= .int kb b)(h0:0<=a)(h1:a<=b)(h2:b<=4294967296):
 ∃v w',(execOp (ev ρ) ⟨aa d, .makeSlice t x y,ty,pos,aft,ae⟩).run P w= .ok (.value v) w'/\(∀g,Ext g w w')/\Own 0 F w' e r v (aji a.toNat r.zero)/\∀k,bH v k->w.heap.size<=k:=by
 obtain⟨ti,z,hi,hz,Q4,kS,P5⟩:=yh;obtain⟨ca,rfl⟩:=ajd h0;obtain⟨cb,rfl⟩:=ajd (Int.le_trans h0 h1)
 have hc:cb<=4294967296:=by omega
 have HZ:ti.bytes*cb<=281474976710656:=ajs (Nat.mul_le_mul P5 hc) (by omega)
 have qR:(ti.bytes:Int)*(cb:Int)<=281474976710656:=by
  have h:((ti.bytes*cb:Nat):Int)<=281474976710656:=by omega
  rwa [Int.natCast_mul]at h
 have bJ:=run_make (P:=P) w t e ti z ht hi hz ka kb ca cb (by omega) (by omega) qR (by omega)
 have hzl:z.cells=r.dI.toArray:=by rw[<-Q4,ajZ]
 have Yy:r.dI.length=r.size:=(cI.zero F w r).length;have qa:=r.size_pos;simp only[ajg]at bJ;refine⟨.slice (aa ⟨w.heap.size,0,ae⟩) ca cb,w.alloc (.cells (madeCells z.cells (cb*ti.size)) e),by simp[execOp,hx,hy,bJ],λ_=>qX _,⟨λq hq=>?_,(madeCells z.cells (cb*ti.size)).toList.take (ca*r.size),?_,?_⟩,λq hq=>?_⟩
 .simp only[bH,ajo,ajj]at hq;intro e;have:=hs.lt _ e;omega
 .have hle:ca*r.size<=cb*r.size:=ajq _ (by omega);have Yz:=size_madeCells z.cells (cb*ti.size);refine nX.of ⟨by grind, .inr ⟨w.heap.size,cb,madeCells z.cells (cb*ti.size),by simp,ajB _,heap_alloc_new w _,by simp;omega,by simp[maxLen];omega,by rw[Yz,kS],by simp⟩⟩
 .intro i aG;simp only[ajg,List.length_replicate]at aG;have hle:(i+1)*r.size<=ca*r.size:=ajq _ aG
  grind [B8,cI.zero,List.drop_take]
 .simp only[bH,ajo,ajj]at hq;omega
def Cn{e t:TypeId}{r:Row}{a b:Int}(ht:P.underlying t=aa (.slice e))(yh:TI P e r)(hs:aL U H F w ob n){ka kb:IntKind}{x y:Operand}(hx:ev ρ x= .int ka a)(hy:ev ρ y= .int kb b)(h0:0<=a)(h1:a<=b)(h2:b<=4294967296):
 cO P U H F w ρ ob n ⟨aa d, .makeSlice t x y,ty,pos,aft,ae⟩ {dst:= .val ag (.own n),make:=[(n,(n, .own e r (aji a.toNat r.zero)))]}:=by
 obtain⟨v,w',bJ,bY,eh,EQ⟩:=zc (d:=d) (ty:=ty) (pos:=pos) (aft:=aft) ht yh hs hx hy h0 h1 h2;exact cA.val bJ (rY hs (bY _) eh λq hq=> .inr (EQ q hq))
def wx(T:bj P)(n:Nat)(t:TypeId)(same:Bool)(a b:Int)(k:eD->Option R):Option R:=
 match find T.und t with
 |some (.slice e)=>match find T.row e with
  |some r=>(bif same then p6 a r.zero else TW a b r.zero).bind λl=>k {dst:= .val ag (.own n),make:=[(n,(n, .own e r l))]}
  |none=>ae
 |_=>ae
def zd{x y:Operand}(h:qe x y=af){a b:Int}{ka kb:IntKind}(hx:ev ρ x= .int ka a)(hy:ev ρ y= .int kb b):a=b:=by
 unfold qe at h
 grind [beq_true,ev]
def Co(T:bj P){t:TypeId}{a b:Int}{ka kb:IntKind}{x y:Operand}{k:eD->Option R}{q:R}(h:wx T n t (qe x y) a b k=aa q)(hs:aL U H F w ob n)(hx:ev ρ x= .int ka a)(hy:ev ρ y= .int kb b):
 ∃e,k e=aa q/\cO P U H F w ρ ob n ⟨aa d, .makeSlice t x y,ty,pos,aft,ae⟩ e:=by
 unfold wx at h;split at h
 case h_2=>cases h
 rename_i e hu;split at h
 case h_2=>cases h
 rename_i r hr;obtain⟨l,hl,hk⟩:=bind_some h;have yh:=T.row_ok _ _ hr;have ht:=T.und_ok _ _ hu
 cases eY:qe x y with
 |true=>
  rw[eY,cond_true]at hl;unfold p6 at hl;split at hl
  case isFalse=>cases hl
  rename_i hc;obtain rfl:=aja hl;obtain rfl:=zd eY hx hy;exact⟨_,hk,Cn ht yh hs hx hy hc.1 (aj1 _) hc.2⟩
 |false=>
  rw[eY,cond_false]at hl;unfold TW at hl;split at hl
  case isFalse=>cases hl
  rename_i hc;obtain rfl:=aja hl;exact⟨_,hk,Cn ht yh hs hx hy hc.1 hc.2.1 hc.2.2⟩
def YA(ob:Nat->Option (Nat×Th))(r:Row)(D:aI):Option (List r.den):=
 match sQ ob D with
 |some (.read s l)=>if h:s.beq r=af then aa (jZ (r:= .slice s) (s:= .slice r) (ay Row.slice (Row.eq_of_beq h)) l)else ae
 |some (.own _ _ _ s l)=>if h:s.beq r=af then aa (jZ (r:= .slice s) (s:= .slice r) (ay Row.slice (Row.eq_of_beq h)) l)else ae
 |some .nil=>aa []
 |some (.view ..)=>ae
 |some (.deep ..)=>ae
 |none=>ae
def Q9(hs:aL U H F w ob n){r:Row}{D:aI}{l:List r.den}{v:Value}(h:YA ob r D=aa l)(hd:aH H F w D v):Reads F w r v l:=by
 unfold YA at h;split at h
 .rename_i s m gY;split at h
  case isFalse=>cases h
  rename_i hb;obtain rfl:=Row.eq_of_beq hb;obtain rfl:=aja h;exact cI.reads (ij hs gY hd)
 .rename_i o s0 T s m gY;split at h
  case isFalse=>cases h
  rename_i hb;obtain rfl:=Row.eq_of_beq hb;obtain rfl:=aja h;exact(ij hs gY hd).2.2.reads
 .rename_i gY;obtain rfl:=aja h;have:v=_:=ij hs gY hd;subst this;exact(cI.nil F w r).reads
 all_goals grind
def uX:Li->Int
 | .read _ l=>(l.length:Int)
 | .own _ _ _ _ l=>(l.length:Int)
 | .nil=>0
 | .view _ _ _ l=>(l.length:Int)
 | .deep _ _ _ _ l _=>(l.length:Int)
def Ln{v:Value}{k:Li}(h:N4 U H F w ob v k):∃A m cap,v= .slice A m cap/\uX k=(m:Int):=by
 cases k with
 |read r l=>
  obtain⟨A,cap,e,_⟩:=cI.EA h;exact⟨A,_,cap,e,rfl⟩
 |own o s T r l=>
  obtain⟨A,cap,e,_⟩:=h.2.2.reads;exact⟨A,_,cap,e,rfl⟩
 |nil=>exact⟨ae,0,0,h,rfl⟩
 |view o s r m=>
  obtain⟨A,cap,T,l,a,b,_,_,h3,h4,rfl,rfl⟩:=h;refine⟨_,_,_,rfl,?_⟩
  grind [uX]
 |deep o s T d l hh=>
  obtain⟨lh,_,⟨xs,GO,_⟩,TT,_⟩:=h.2.2.ok
  rcases GO.2 with⟨Lj,h0⟩|⟨g,o0,cap,cur,IE,_,_,_⟩
  all_goals grind [uX]
def IJ(T:bj P)(ob:Nat->Option (Nat×Th))(t:TypeId)(D:aI):Option aI:=
 match find T.und t with
 |some (.slice _)=>match sQ ob D with
  |some k=>aa (np .i64 (uX k))
  |none=>ae
 |some .str=>match Cb D with
  |some s=>aa (np .i64 (s.size:Int))
  |none=>ae
 |_=>ae
def GU(T:bj P){t:TypeId}{D D':aI}{x:Operand}(h:IJ T ob t D=aa D')(hs:aL U H F w ob n)(hx:aH H F w D (ev ρ x)):
 cO P U H F w ρ ob n ⟨aa d, .call {callee:= .builtin .len,args:= #[x],argTypes:= #[t]},ty,pos,aft,ae⟩ {dst:=D'}:=by
 unfold IJ at h;split at h
 .rename_i e hu;split at h
  case h_2=>cases h
  rename_i k hk;obtain rfl:=aja h;obtain⟨A,m,cap,e1,e2⟩:=Ln (ij hs hk hx);rw[e2];exact ba hs (K0 rfl (T.und_ok _ _ hu) e1) (aV.ku ..)
 .rename_i hu;split at h
  case h_2=>cases h
  rename_i s hk;obtain rfl:=aja h;exact ba hs (Ii (T.und_ok _ _ hu) (wm hk hx)) (aV.ku ..)
 .cases h
def Ra(T:bj P)(t:TypeId)(D:aI):Option aI:=
 match find T.und t with
 |some (.slice _)=>match D with
  | .val ag .nil=>aa (np .i64 0)
  |_=>ae
 |_=>ae
def N8(T:bj P){t:TypeId}{D D':aI}{x:Operand}(h:Ra T t D=aa D')(hs:aL U H F w ob n)(hx:aH H F w D (ev ρ x)):
 cO P U H F w ρ ob n ⟨aa d, .call {callee:= .builtin .cap,args:= #[x],argTypes:= #[t]},ty,pos,aft,ae⟩ {dst:=D'}:=by
 unfold Ra at h;split at h
 .rename_i e hu;split at h
  .obtain rfl:=aja h;obtain⟨cs,h1,_,h3⟩:=hx;have Aw:cs=_:=h1;exact ba hs (Ij (T.und_ok _ _ hu) (by grind)) (aV.ku ..)
  .cases h
 .cases h
def XI{α:Type}(m:Int)(z:α):Option (List α):=if 1<=m/\m<=4294967296 then aa (aji m.toNat z)else ae
def IK{e t t':TypeId}{kn:IntKind}{r:Row}{m:Int}(ht:P.underlying t=aa (.slice e))(BW:P.underlying t'=aa (.int kn))(yh:TI P e r)(hs:aL U H F w ob n){ka:IntKind}{x y:Operand}(hx:ev ρ x= .slice ae 0 0)(hy:ev ρ y= .int ka m)(h0:1<=m)(h1:m<=4294967296):
 ∃v w',(execOp (ev ρ) ⟨aa d, .call {callee:= .builtin .append,args:= #[x,y],argTypes:= #[t,t']},ty,pos,aft,ae⟩).run P w= .ok (.value v) w'/\(∀g,Ext g w w')/\Own 0 F w' e r v (aji m.toNat r.zero)/\∀k,bH v k->w.heap.size<=k:=by
 obtain⟨ti,z,hi,hz,Q4,kS,P5⟩:=yh;obtain⟨c,rfl⟩:=ajd (show 0<=m by omega)
 have hc:c<=4294967296:=by omega
 have hb:c*ti.bytes<=140737488355328:=ajs (Nat.mul_le_mul hc P5) (by omega);have qa:=r.size_pos;have bJ:=Lib.run_append_grow_zeros (P:=P) w t t' ty e ti z ka kn ht BW hi hz ae 0 0 [] (run_firstCells_none _ _ _ _ _) c (by omega) (by omega) (by omega) (by omega) (by omega) (growslice_fits (by omega) (by rw[ajL];omega))
 have hzl:z.cells=r.dI.toArray:=by rw[<-Q4,ajZ]
 have Yy:r.dI.length=r.size:=(cI.zero F w r).length;have hge:=grownCap_ge w (0+c) 0 e;have Ur:=grownCap_le_maxLen w (0+c) 0 e (by simp only[maxLen];omega)
 have wu:∀q,Builtin.zeroCells z.cells q=madeCells r.dI.toArray (q*r.dI.length):=λq=>by rw[hzl];rfl
 rw[wu,wu,Yy]at bJ;generalize grownCap w (0+c) 0 e=G at*;have NH:(madeCells r.dI.toArray (c*r.size)).size=c*r.size:=size_madeCells _ _;have hl2:(madeCells r.dI.toArray ((G-c)*r.size)).size=(G-c)*r.size:=size_madeCells _ _;simp only[ajg];refine⟨.slice (aa ⟨w.heap.size,0,ae⟩) (0+c) G,w.drew.alloc (.cells (([]:List Value).toArray++madeCells r.dI.toArray (c*r.size)++madeCells r.dI.toArray ((G-(0+c))*r.size)) e),by simp[execOp,resolve,invoke,builtin,hx,hy,bJ],λg=>⟨rfl,rfl,rfl,by simp,λk hk _=>heap_alloc_old w.drew _ hk⟩,⟨λq hq=>?_,(madeCells r.dI.toArray (c*r.size)).toList,?_,?_⟩,λq hq=>?_⟩
 .simp only[bH,ajo,ajj]at hq;intro e;have:=hs.lt _ e;omega
 .have e1:G*r.size=c*r.size+(G-c)*r.size:=by rw[<-akq];congr 1;omega
  refine .of ⟨by simp[NH], .inr ⟨w.heap.size,G,_,by simp,ajB _,heap_alloc_new w.drew _,by simp;omega,Ur,?_,?_⟩⟩
  .simp[NH,hl2];omega
  .simp[NH]
 .intro i aG;simp only[List.length_replicate]at aG;have:=B8 r.dI c i (by omega) aG;rw[Yy]at this;rw[this,List.getElem_replicate];exact cI.zero F _ r
 .simp only[bH,ajo,ajj]at hq;omega
def oT(T:bj P)(ob:Nat->Option (Nat×Th))(n:Nat)(t t':TypeId)(X Y:aI)(k:eD->Option R):Option R:=
 match find T.und t,find T.und t' with
 |some (.slice e),aa (.int _)=>match find T.row e,sQ ob X,asInt Y with
  |some r,aa .nil,aa (_,m)=>(XI m r.zero).bind λl=>k {dst:= .val ag (.own n),make:=[(n,(n, .own e r l))]}
  |_,_,_=>ae
 |_,_=>ae
def Cp(T:bj P){t t':TypeId}{X Y:aI}{x y:Operand}{k:eD->Option R}{q:R}(h:oT T ob n t t' X Y k=aa q)(hs:aL U H F w ob n)(hx:aH H F w X (ev ρ x))(hy:aH H F w Y (ev ρ y)):
 ∃e,k e=aa q/\cO P U H F w ρ ob n ⟨aa d, .call {callee:= .builtin .append,args:= #[x,y],argTypes:= #[t,t']},ty,pos,aft,ae⟩ e:=by
 unfold oT at h;split at h
 case h_2=>cases h
 rename_i e kn hu AB;split at h
 case h_2=>cases h
 rename_i r kq m hr hX hY;obtain⟨l,hl,hk⟩:=bind_some h;unfold XI at hl;split at hl
 case isFalse=>cases hl
 rename_i hc;obtain rfl:=aja hl;obtain⟨v,w',bJ,bY,eh,EQ⟩:=IK (d:=d) (ty:=ty) (pos:=pos) (aft:=aft) (T.und_ok _ _ hu) (T.und_ok _ _ AB) (T.row_ok _ _ hr) hs (ij hs hX hx) (fW hY hy) hc.1 hc.2;exact⟨_,hk,cA.val bJ (rY hs (bY _) eh λq hq=> .inr (EQ q hq))⟩
def qY(T:bj P)(ob:Nat->Option (Nat×Th))(n:Nat)(t:TypeId)(X Y:aI)(k:eD->Option R):Option R:=
 match find T.und t with
 |some (.slice e)=>match find T.row e with
  |some r=>match YA ob r Y with
   |some m=>match sQ ob X with
    |some .nil=>(cu ([]:List r.den) m).bind λl=>k {dst:= .val ag (.own n),make:=[(n,(n, .own e r l))]}
    |some (.own o _ T0 s l0)=>bif ajf T0 e then
      (if h:s.beq r=af then(cu (jZ (r:= .slice s) (s:= .slice r) (ay Row.slice (Row.eq_of_beq h)) l0) m).bind λl=>k {dst:= .val ag (.own n),eat:=[o],make:=[(n,(n, .own e r l))]}else ae)else ae
    |_=>ae
   |none=>ae
  |none=>ae
 |_=>ae
def ER(T:bj P){t:TypeId}{X Y:aI}{x y:Operand}{k:eD->Option R}{q:R}(h:qY T ob n t X Y k=aa q)(hs:aL U H F w ob n)(hx:aH H F w X (ev ρ x))(hy:aH H F w Y (ev ρ y)):
 ∃e,k e=aa q/\cO P U H F w ρ ob n ⟨aa d, .call {callee:= .builtin .append,args:= #[x,y],argTypes:= #[t,t]},ty,pos,aft,ae⟩ e:=by
 unfold qY at h;split at h
 case h_2=>cases h
 rename_i e hu;split at h
 case h_2=>cases h
 rename_i r hr;obtain⟨ti,z,h1,h2,h3,h4,h5⟩:=T.row_ok _ _ hr;have ht:=T.und_ok _ _ hu;split at h
 case h_2=>cases h
 rename_i m hm;have gO:=Q9 hs hm hy
 have key:∀{l out:List r.den},Own 0 F w e r (ev ρ x) l->cu l m=aa out->∃v' w',(execOp (ev ρ) ⟨aa d, .call {callee:= .builtin .append,args:= #[x,y],argTypes:= #[t,t]},ty,pos,aft,ae⟩).run P w= .ok (.value v') w'/\Ext (bH (ev ρ x)) w w'/\Own 0 F w' e r v' out/\(∀k,bH v' k->bH (ev ρ x) k\/w.heap.size<=k):=by
  intro l out ho ha;obtain⟨v',w',bJ,he,jY,Q8⟩:=wc ty ht h1 h2 h3 h4 h5 ho gO ha hs.lt (ajB _);refine⟨v',w',by simp[execOp,resolve,invoke,builtin,bJ],he,jY,λk hk=>?_⟩
  rcases Q8 with g|g
  .exact .inl (g▸hk)
  .simp_all
 split at h
 .rename_i gY;obtain⟨l,hl,hk⟩:=bind_some h;have hv:ev ρ x=_:=ij hs gY hx;obtain⟨v',w',bJ,he,jY,hn⟩:=key (by rw[hv];exact Own.nil 0 F w e r) hl
  have no:∀k,¬bH (ev ρ x) k:=λk hk=>by rw[hv]at hk;simp[bH,ajo]at hk
  exact⟨_,hk,cA.val bJ (rY hs ⟨he.os,he.tape,he.output,he.size,λk hk _=>he.block k hk (no k)⟩ jY (by grind))⟩
 .rename_i o s0 T0 s l0 gY;obtain⟨hb,h⟩:=be h;obtain rfl:=beq_true hb;split at h
  case isFalse=>cases h
  rename_i Cm;obtain rfl:=Row.eq_of_beq Cm;obtain⟨l,hl,hk⟩:=bind_some h;obtain⟨hv,cJ,eh⟩:=ij hs gY hx;obtain⟨v',w',bJ,he,jY,hn⟩:=key eh hl
  have mj:∀k,bH (ev ρ x) k->cD H ob [o] k:=λk hk=>⟨o,by simp,_,_,_,cJ,hv,hk⟩
  exact⟨_,hk,cA.val bJ (rY hs ⟨he.os,he.tape,he.output,he.size,λk hk ND=>he.block k hk λhm=>ND (mj k hm)⟩ jY λk hk=>(hn k hk).imp (mj k) id)⟩
 .cases h
def Cq(ob:Nat->Option (Nat×Th))(r:Row):List aI->Option (List r.den)
 |[]=>aa []
 | .val _ u::l=>match flat ob r u with
   |some x=>match Cq ob r l with
    |some xs=>aa (x::xs)
    |none=>ae
   |none=>ae
 |_::_=>ae
def sS(rd:Operand->Option aI):List Operand->Option (List aI)
 |[]=>aa []
 |x::xs=>match rd x with
  |some d=>match sS rd xs with
   |some ds=>aa (d::ds)
   |none=>ae
  |none=>ae
def fX(H:aK)(F:Nat->Prop)(w:World):List aI->List Value->Prop
 |[],vs=>vs=[]
 |d::ds,vs=>∃v us,vs=v::us/\aH H F w d v/\fX H F w ds us
def oU{rd:Operand->Option aI}(h:∀x d,rd x=aa d->aH H F w d (ev ρ x)):{xs:List Operand}->{ds:List aI}->sS rd xs=aa ds->fX H F w ds (xs.map (ev ρ))
 |[],ds,e=>by obtain rfl:=aja e;rfl
 |x::xs,ds,e=>by
  unfold sS at e
  cases h1:rd x with
  |none=>rw[h1]at e;cases e
  |some d=>
   cases h2:sS rd xs with
   |none=>grind
   |some YB=>
    simp only[h1,h2,ajj]at e;subst e;exact⟨_,_,rfl,h _ _ h1,oU h h2⟩
def Cr(hs:aL U H F w ob n){r:Row}:{ds:List aI}->{l:List r.den}->{vs:List Value}->Cq ob r ds=aa l->fX H F w ds vs->wg F w r vs l
 |[],l,vs,e,h=>by
  obtain rfl:=aja e;rw[show vs=[]from h];exact .nil
 | .val _ u::ds,l,vs,e,h=>by
   obtain⟨v,us,rfl,h1,h2⟩:=h;unfold Cq at e
   cases hf:flat ob r u with
   |none=>rw[hf]at e;cases e
   |some x=>
    cases hg:Cq ob r ds with
    |none=>grind
    |some xs=>
     simp only[hf,hg,ajj]at e;subst e;obtain⟨cs,rT,zb⟩:=aV.cells h1;exact .cons zb (jL hs hf rT) (Cr hs hg h2)
 | .dead::_,_,_,e,_=>by cases e
 | .undef::_,_,_,e,_=>by cases e
 | .ptr .. ::_,_,_,e,_=>by cases e
 | .at .. ::_,_,_,e,_=>by cases e
 | .elem .. ::_,_,_,e,_=>by cases e
 | .tup _::_,_,_,e,_=>by cases e
 | .dlm .. ::_,_,_,e,_=>by cases e
def wy{e t:TypeId}{r:Row}{xs:List Operand}{l:List r.den}{parts:Array (Nat×Operand)}(ht:P.underlying t=aa (.slice e))(yh:TI P e r)(dY:parts=((xs.zipIdx).map λp=>(p.2,p.1)).toArray)(eY:xs.length*r.size<=16777216)
 (hl:wg F w r (xs.map (ev ρ)) l)(hs:aL U H F w ob n):
 ∃v w',(execOp (ev ρ) ⟨aa d, .buildSlice t xs.length parts,ty,pos,aft,ae⟩).run P w= .ok (.value v) w'/\(∀g,Ext g w w')/\Own 0 F w' e r v l/\∀k,bH v k->w.heap.size<=k:=by
 obtain⟨ti,z,h1,h2,h3,h4,h5⟩:=yh
 have YC:(xs.map (ev ρ)).length=xs.length:=by simp
 have TT:=hl.length;have qa:=r.size_pos
 have Uq:z.cells.size=r.size:=by rw[<-(cI.zero F w r).length,<-h3];simp
 have IL:(parts.map λ(i,q)=>(i,ev ρ q)).toList=((xs.map (ev ρ)).zipIdx).map λp=>(p.2,p.1):=by
  subst dY;simp[List.zipIdx_map,Function.comp_def]
 generalize hm:xs.length=m at*;generalize xs.map (ev ρ)=vs at*
 have key:∀zz:Array Value,zz.size=m*r.size->∃Eu:List Value,Instr.fill (λi=>aa (i*r.size,r.size)) zz ((vs.zipIdx).map λp=>(p.2,p.1))=aa Eu.toArray/\Eu.length=l.length*r.size/\∀i(hi:i<l.length),cI F w r ((Eu.drop (i*r.size)).take r.size) l[i]:=by
  intro zz UA;obtain⟨Eu,a1,a2,a3⟩:=hl.fill 0 [] zz.toList (by simp) (by rw[Array.length_toList,UA,YC]);exact⟨Eu,by simpa using a1,a2,a3⟩
 have bJ:∃Eu:List Value,(execOp (ev ρ) ⟨aa d, .buildSlice t m parts,ty,pos,aft,ae⟩).run P w= .ok (.value (.slice (aa ⟨w.heap.size,0,ae⟩) m m)) (w.alloc (.cells Eu.toArray e))/\Eu.length=l.length*r.size/\∀i(hi:i<l.length),cI F w r ((Eu.drop (i*r.size)).take r.size) l[i]:=by
  by_cases h0:m*r.size=0
  .obtain⟨Eu,a1,a2,a3⟩:=key #[] (by simp[h0]);refine⟨Eu,?_,a2,a3⟩;simp only[execOp,Instr.buildSlice,ajw,run_underlying ht,aj8];rw[IL]
   have YD:Array.range 0=(#[]:Array Nat):=by rfl
   simp[sizeOf,typeInfo,h1,h4,h0,newRow,YD,a1]
  .obtain⟨Eu,a1,a2,a3⟩:=key ((Array.range (m*r.size)).map (z.cells[· %z.cells.size]!)) (by simp);refine⟨Eu,?_,a2,a3⟩;simp only[execOp,Instr.buildSlice,ajw,run_underlying ht,aj8];rw[IL];simp[sizeOf,typeInfo,h1,h4,h0,zeroValue,h2,newRow,a1,show¬(16777216<m*r.size)from by omega]
 obtain⟨Eu,bJ,a2,a3⟩:=bJ
 have Rb:m=l.length:=by omega
 have ad7:m<=16777216:=ajs (Nat.le_mul_of_pos_right m qa) eY;refine⟨_,_,bJ,λg=>qX _,⟨λk hk=>?_,Eu,?_,λi hi=>(a3 i hi).step (Step.alloc hs.lt _)⟩,λk hk=>?_⟩
 .simp only[bH,ajo,ajj]at hk;intro e;have:=hs.lt _ e;omega
 .have:=World.ownsRow_lit (base:=0) (e:=e) (size:=r.size) w Eu.toArray m (ajB _) (by simp[maxLen];omega) (by simp[a2,Rb]);rw[Rb]at this⊢;simpa using nX.of this
 .simp only[bH,ajo,ajj]at hk;omega
def run_build{e t:TypeId}{r:Row}{xs:List Operand}{l:List r.den}{parts:Array (Nat×Operand)}(ht:P.underlying t=aa (.slice e))(yh:TI P e r)(dY:parts=((xs.zipIdx).map λp=>(p.2,p.1)).toArray)(eY:xs.length*r.size<=16777216)
 (hl:wg F w r (xs.map (ev ρ)) l)(hs:aL U H F w ob n):
 cO P U H F w ρ ob n ⟨aa d, .buildSlice t xs.length parts,ty,pos,aft,ae⟩ {dst:= .val ag (.own n),make:=[(n,(n, .own e r l))]}:=by
 obtain⟨v,w',h1,h2,h3,h4⟩:=wy (d:=d) (ty:=ty) (pos:=pos) (aft:=aft) ht yh dY eY hl hs;exact cA.val h1 (rY hs (h2 _) h3 λk hk=> .inr (h4 k hk))
def GV:Nat->List (Nat×Operand)->Bool
 |_,[]=>af
 |k,p::l=>ajf p.1 k&&GV (k+1) l
def wz:{k:Nat}->{l:List (Nat×Operand)}->GV k l=af->l=((l.map (·.2)).zipIdx k).map λp=>(p.2,p.1)
 |_,[],_=>rfl
 |k,p::l,h=>by
  obtain⟨h1,h2⟩:=de h;have h1:=beq_true h1;have ih:=wz h2
  grind [List.zipIdx_cons]
def lg(T:bj P)(rd:Operand->Option aI)(ob:Nat->Option (Nat×Th))(n:Nat)(t:TypeId)(m:Nat)(parts:Array (Nat×Operand))(k:eD->Option R):Option R:=
 match find T.und t with
 |some (.slice e)=>match find T.row e with
  |some r=>bif GV 0 parts.toList&&ajf m parts.toList.length&&Nat.ble (m*r.size) 16777216 then
    (match sS rd (parts.toList.map (·.2))with
    |some ds=>match Cq ob r ds with
     |some l=>k {dst:= .val ag (.own n),make:=[(n,(n, .own e r l))]}
     |none=>ae
    |none=>ae)else ae
  |none=>ae
 |_=>ae
def wA(T:bj P){rd:Operand->Option aI}(gO:∀x d,rd x=aa d->aH H F w d (ev ρ x)){t:TypeId}{m:Nat}{parts:Array (Nat×Operand)}{k:eD->Option R}{q:R}(h:lg T rd ob n t m parts k=aa q)(hs:aL U H F w ob n):
 ∃e,k e=aa q/\cO P U H F w ρ ob n ⟨aa d, .buildSlice t m parts,ty,pos,aft,ae⟩ e:=by
 unfold lg at h;split at h
 case h_2=>cases h
 rename_i e hu;split at h
 case h_2=>cases h
 rename_i r hr;obtain⟨h1,h⟩:=be h;obtain⟨h1,h3⟩:=de h1;obtain⟨h1,h2⟩:=de h1;have h2:=beq_true h2
 have h3:m*r.size<=16777216:=by simpa using h3
 split at h
 case h_2=>cases h
 rename_i ds yt;split at h
 case h_2=>cases h
 rename_i l hl;have UB:=Cr hs hl (oU gO yt)
 have hp:parts=(((parts.toList.map (·.2)).zipIdx).map λp=>(p.2,p.1)).toArray:=by
  rw[<-wz h1,ajZ]
 have hm:m=(parts.toList.map (·.2)).length:=by simpa using h2
 refine⟨_,h,?_⟩;have:=run_build (d:=d) (ty:=ty) (pos:=pos) (aft:=aft) (T.und_ok _ _ hu) (T.row_ok _ _ hr) hp (by rw[<-hm];exact h3) UB hs
 grind
def GW{P:Program}(T:bj P)(fs:List (TypeId×Nat)):Tree->List (Nat×aI)->Option Tree
 |t,[]=>aa t
 |t,(f, .val _ u)::l=>match t.get (sO fs.length f)with
  |some (s,off)=>match fs[f]? with
   |some (ft,eE)=>bif ajf off eE&&ajf u.size s.size&&(match find T.row ft with|some r=>ajf r.size u.size|none=>ag)then
     (match t.put (sO fs.length f) u with
     |some t'=>GW T fs t' l
     |none=>ae)else ae
   |none=>ae
  |none=>ae
 |_,_::_=>ae
def vO(T:bj P):List (TypeId×Nat)->Bool
 |[]=>af
 |p::fs=>(match find T.row p.1 with|some _=>af|none=>ag)&&vO T fs
def place(T:bj P)(fs:List (TypeId×Nat))(i:Nat):Option (Nat×Nat):=
 match fs[i]? with
 |some (ft,off)=>match find T.row ft with
  |some r=>aa (off,r.size)
  |none=>ae
 |none=>ae
def wB(T:bj P):{l:List Field}->{fs:List (TypeId×Nat)}->l.map (λf=>(f.type,f.offset))=fs->vO T fs=af->
 ∃pl:List (Nat×Nat),(l.mapM λ(f:Field)=>(do pure (f.offset,<-sizeOf f.type):Sem (Nat×Nat))).run P w= .ok pl w/\∀i,pl[i]? =place T fs i
 |[],fs,h,_=>by
  subst h;exact⟨[],by simp,λi=>by simp[place]⟩
 |f::l,fs,h,hz=>by
  subst h;obtain⟨h1,h2⟩:=de hz;obtain⟨pl,XJ,XK⟩:=wB T (l:=l) rfl h2
  cases hr:find T.row f.type with
  |none=>rw[hr]at h1;cases h1
  |some r=>
   obtain⟨ti,z,g1,_,_,g4,_⟩:=T.row_ok _ _ hr;refine⟨(f.offset,r.size)::pl,?_,λi=>?_⟩
   .have wu:(sizeOf f.type).run P w= .ok r.size w:=by simp[sizeOf,typeInfo,g1,g4]
    simp_all
   grind [place]
end
end
section
section
variable {P:Program} {ρ:Nat->Value} {w w':World} {H H':aK} {F F':Nat->Prop} {U:Nat->Prop} {ob:Nat->Option (Nat×Th)} {n:Nat} {R:Type}
variable {op:Op} {ty:TypeId} {pos:String} {aft:Array Edge} {d:Nat}
def Ct(T:bj P){fs:List (TypeId×Nat)}{pl:List (Nat×Nat)}(hz:vO T fs=af)(BY:∀i,pl[i]? =place T fs i)(kS:∀ft off r,(ft,off)∈fs->find T.row ft=aa r->True):
 {parts:List (Nat×aI)}->{t t':Tree}->{cs:List Value}->{vs:List (Nat×Value)}->GW T fs t parts=aa t'->Holds H F w t cs->parts.map (·.1)=vs.map (·.1)->fX H F w (parts.map (·.2)) (vs.map (·.2))->
 ∃rE,Instr.fill (pl[·]?) cs.toArray vs=aa rE.toArray/\Holds H F w t' rE
 |[],t,t',cs,vs,h,hh,h1,h2=>by
  obtain rfl:=aja h
  have:vs=[]:=by simpa using h1.symm
  subst this;exact⟨cs,by simp[Instr.fill],hh⟩
 |(f, .val agg u)::parts,t,t',cs,vs,h,hh,h1,h2=>by
  obtain⟨v,us,e,hv,h3⟩:=h2
  cases vs with
  |nil=>simp at e
  |cons fv vs=>
   obtain⟨f',v'⟩:=fv;simp only[ajD,aj3]at h1 e;obtain⟨rfl,h1⟩:=h1;obtain⟨rfl,rfl⟩:=e;unfold GW at h;split at h
   case h_2=>cases h
   rename_i s off hg;split at h
   case h_2=>cases h
   rename_i ft eE hf;obtain⟨hb,h'⟩:=be h;clear h;obtain⟨hb,XL⟩:=de hb;obtain⟨Ku,Kv⟩:=de hb;have Ku:=beq_true Ku;subst Ku;have Kv:=beq_true Kv;split at h'
   case h_2=>cases h'
   rename_i tp hp;obtain⟨c1,yV,zb⟩:=aV.cells hv;have hl:=yV.length;have hle:=(hh.get hg).2
   cases hr:find T.row ft with
   |none=>grind
   |some r=>
    simp only[hr]at XL;have XL:=beq_true XL
    have Rc:pl[f]? =aa (off,r.size):=by rw[BY];simp[place,hf,hr]
    rw[yT Rc zb (by omega) (by omega)];have wj:=Holds.put yV hg hp Kv.symm hh;rw[show u.size=r.size from by omega]at wj;exact Ct T hz BY kS h' wj h1 h3
 |(_, .dead)::_,_,_,_,_,h,_,_,_=>by cases h
 |(_, .undef)::_,_,_,_,_,h,_,_,_=>by cases h
 |(_, .ptr ..)::_,_,_,_,_,h,_,_,_=>by cases h
 |(_, .at ..)::_,_,_,_,_,h,_,_,_=>by cases h
 |(_, .elem ..)::_,_,_,_,_,h,_,_,_=>by cases h
 |(_, .tup _)::_,_,_,_,_,h,_,_,_=>by cases h
 |(_, .dlm ..)::_,_,_,_,_,h,_,_,_=>by cases h
def tX(T:bj P)(rd:Operand->Option aI)(t:TypeId)(parts:Array (Nat×Operand))(k:eD->Option R):Option R:=
 match find T.und t with
 |some (.struct fs)=>match find T.row t with
  |some r=>bif vO T fs then
    (match sS rd (parts.toList.map (·.2))with
    |some ds=>match GW T fs r.Ck ((parts.toList.map (·.1)).zip ds)with
     |some tr=>k {dst:= .val af tr}
     |none=>ae
    |none=>ae)else ae
  |none=>ae
 |_=>ae
def lu:{ds:List aI}->{vs:List Value}->fX H F w ds vs->ds.length=vs.length
 |[],_,h=>by rw[show _=[]from h];rfl
 |_::_,_,h=>by obtain⟨v,us,rfl,_,h2⟩:=h;simp[lu h2]
def IM(T:bj P){rd:Operand->Option aI}(gO:∀x d,rd x=aa d->aH H F w d (ev ρ x)){t:TypeId}{parts:Array (Nat×Operand)}{k:eD->Option R}{q:R}(h:tX T rd t parts k=aa q)(hs:aL U H F w ob n):
 ∃e,k e=aa q/\cO P U H F w ρ ob n ⟨aa d, .build t parts,ty,pos,aft,ae⟩ e:=by
 unfold tX at h;split at h
 case h_2=>cases h
 rename_i fs hu;obtain⟨arr,Et,N3⟩:=T.und_ok _ _ hu;split at h
 case h_2=>cases h
 rename_i r hr;obtain⟨ti,z,h1,h2,h3,h4,h5⟩:=T.row_ok _ _ hr;obtain⟨hz,h⟩:=be h;split at h
 case h_2=>cases h
 rename_i ds yt;split at h
 case h_2=>cases h
 rename_i tr UC;have hd:=oU (w:=w) (H:=H) (F:=F) (ρ:=ρ) gO yt;have hlen:=lu hd;obtain⟨pl,XJ,XK⟩:=wB (w:=w) T N3 hz
 have hn:∀(a:List Nat)(b:List aI),a.length=b.length->(a.zip b).map (·.1)=a/\(a.zip b).map (·.2)=b:=λa b TX=>⟨List.map_fst_zip (by omega),List.map_snd_zip (by omega)⟩
 have ad8:=hn (parts.toList.map (·.1)) ds (by simp at hlen⊢;omega);obtain⟨rE,hf,hh⟩:=Ct (w:=w) (H:=H) (F:=F) T hz XK (λ_ _ _ _ _=>trivial) (vs:=parts.toList.map λ(i,q)=>(i,ev ρ q)) UC (Row.n7 H F w r) (by simp_all) (by grind [Function.comp_def]);refine⟨_,h,cn hs (v:= .agg rE.toArray) ?_ ⟨rE,hh,rfl,by simp⟩⟩
 have hzc:z.cells=r.dI.toArray:=by rw[<-h3,ajZ]
 have YE:(arr.mapM λ(f:Field)=>(do pure (f.offset,<-sizeOf f.type):Sem (Nat×Nat))).run P w= .ok pl.toArray w:=by
  rw[<-ajZ (xs:=arr),List.mapM_toArray];simp only[Sem.run_map,XJ];rfl
 have hpp:(parts.map λ(i,q)=>(i,ev ρ q)).toList=parts.toList.map λ(i,q)=>(i,ev ρ q):=by simp
 have YF:(λ(x:Nat)=>pl.toArray[x]?)=λx=>pl[x]? :=by funext x;simp
 simp only[execOp,Instr.build,ajw,zeroValue,typeInfo,h1,h2,run_program,Sem.run_pure,aj8,run_underlying Et,hzc,hpp,YE,YF,hf]
def Lo(rd:Operand->Option aI):Option Operand->Option (Option Int)
 |none=>aa ae
 |some x=>match rd x with
  |some d=>match asInt d with
   |some (_,i)=>aa (aa i)
   |none=>ae
  |none=>ae
def AD{rd:Operand->Option aI}(gO:∀x d,rd x=aa d->aH H F w d (ev ρ x)){lo:Option Operand}{a:Option Int}(h:Lo rd lo=aa a):Qa ρ lo a:=by
 unfold Lo at h;split at h
 .obtain rfl:=aja h;exact .none
 .split at h
  .split at h
   .obtain rfl:=aja h;rename_i hD _ _ _ hi;exact .some (fW hi (gO _ _ hD))
   .cases h
  .cases h
def tY(dr:Bool)(T:bj P)(rd:Operand->Option aI)(ob:Nat->Option (Nat×Th))(n:Nat)(t:TypeId)(D:aI)(lo hi:Option Operand)(k:eD->Option R):Option R:=
 match find T.und t with
 |some (.slice e)=>match find T.row e with
  |some re=>match Lo rd lo with
   |some a=>match Lo rd hi with
    |some b=>match sQ ob D with
     |some (.read r l)=>bif ajf r.size re.size then(gq l (a.getD 0) (b.getD (l.length:Int))).bind λm=>k {dst:= .val ag (.leaf (.slice r) m)}else ae
     |some .nil=>(gq ([]:List re.den) (a.getD 0) (b.getD 0)).bind λ_=>k {dst:= .val ag .nil}
     |some (.own o s T0 r l)=>bif ajf r.size re.size&&ajf T0 e&&(lo.isNone||dr)then(gq l (a.getD 0) (b.getD (l.length:Int))).bind λm=>k {dst:= .val ag (.own n),eat:=[o],make:=[(n,(n, .own T0 r m))]}
       else bif ajf r.size re.size then(gq l (a.getD 0) (b.getD (l.length:Int))).bind λm=>k {dst:= .val ag (.view o s r m)}else ae
     |_=>ae
    |none=>ae
   |none=>ae
  |none=>ae
 |_=>ae
def IN{e T0:TypeId}{ti:TypeInfo}{r:Row}{t:TypeId}{x:Operand}{lo hi:Option Operand}{a b:Option Int}{l m:List r.den}{o s:Nat}{v:Value}(ht:P.underlying t=aa (.slice e))(h1:P.info? e=aa ti)(h4:ti.size=r.size)(hx:ev ρ x=v)
 (hs:aL U H F w ob n)(cJ:ob o=aa (s, .own T0 r l))(Re:H.val o=aa v)(ha:Qa ρ lo a)(hb:Qa ρ hi b)(hm:gq l (a.getD 0) (b.getD l.length)=aa m):
 cO P U H F w ρ ob n ⟨aa d, .slice t x lo hi ae,ty,pos,aft,ae⟩ {dst:= .val ag (.own n),eat:=[o],make:=[(n,(n, .own T0 r m))]}:=by
 have hv:=hs.own cJ Re;obtain⟨p,q,ep,eq,Rf,hq,rfl⟩:=qT hm;obtain⟨A,cap,rfl,hlen,Ur,_⟩:=hv.reads;have bJ:=vN (P:=P) (w:=w) (d:=d) (ty:=ty) (pos:=pos) (aft:=aft) ht h1 hx ha hb (by omega) (by omega) (by omega) hlen;rw[ep,eq,ajg,ajg,h4]at bJ;obtain⟨ND,xs,⟨K6,UD⟩,hr⟩:=hv
 have YG:((l.take q).drop p).length=q-p:=by simp;omega
 have hmul:q*r.size<=l.length*r.size:=ajq _ hq;have acx:p*r.size<=q*r.size:=ajq _ Rf;have acy:(q-p)*r.size=q*r.size-p*r.size:=Nat.sub_mul ..
 have bY:Ext (cD H ob [o]) w w:=⟨rfl,rfl,rfl,ajh _,λ_ _ _=>rfl⟩
 rcases UD with⟨Lj,h0⟩|⟨g,o0,ED,cur,gY,qR,hh,TY,TZ,rT,Rg⟩
 .simp only[akn]at Lj;obtain⟨rfl,_,rfl⟩:=Lj
  have N9:q=0:=by omega
  subst N9
  obtain rfl:p=0:=by omega
  refine cA.val bJ (rY hs bY ?_ ?_)
  .simpa[sliced]using Own.nil 0 F w T0 r
  .intro k hk;simp[sliced,bH,ajo]at hk
 .simp only[akn,true_and]at gY;obtain⟨rfl,rfl⟩:=gY
  obtain⟨o1,rz,ho1,UE⟩:∃o1,sliced (aa ⟨g,o0,ae⟩) p q cap r.size= .slice (aa ⟨g,o1,ae⟩) (q-p) (cap-p)/\o1+(cap-p)*r.size<=cur.size/\(cur.toList.drop o1).take ((q-p)*r.size)=(xs.drop (p*r.size)).take ((q-p)*r.size):=by
   have hcp:p*r.size<=cap*r.size:=ajq _ (by omega);have aeb:(cap-p)*r.size=cap*r.size-p*r.size:=Nat.sub_mul ..;unfold sliced;by_cases hc:cap=p
   .refine⟨o0,by rw[aj hc],by omega,?_⟩
    have:q=p:=by omega
    subst this;simp
   .refine⟨o0+p*r.size,by rw[ai hc,Option.map_some,dh],by omega,?_⟩;rw[<-Rg,List.drop_take,List.take_take,List.drop_drop]
    congr 1
    omega
  rw[rz]at bJ
  have hmy:∀k,bH (.slice (aa ⟨g,o1,ae⟩) (q-p) (cap-p)) k->bH (.slice (aa ⟨g,o0,ae⟩) l.length cap) k:=λk hk=>by simpa[bH,ajo]using hk
  refine cA.val bJ (rY hs bY ⟨λk hk=>ND k (hmy k hk),(xs.drop (p*r.size)).take ((q-p)*r.size),⟨by rw[YG];simp;omega, .inr ⟨g,o1,cap-p,cur,by rw[YG],qR,hh,by omega,by omega,ho1,?_⟩⟩,λi hi=>?_⟩ λk hk=> .inl ⟨o,by simp,_,_,_,cJ,Re,hmy k hk⟩)
  .rw[YG];exact UE
  .have hi2:i<q-p:=by omega
   have hle:(i+1)*r.size<=(q-p)*r.size:=ajq _ hi2;rw[akq]at hle;have:=hr (p+i) (by omega)
   have hg:((l.take q).drop p)[i]=l[p+i]'(by omega):=by simp
   rw[hg,List.drop_take,List.take_take,akp (by omega),List.drop_drop,show p*r.size+i*r.size=(p+i)*r.size from(akq ..).symm];exact this
def IP(dr:Bool)(T:bj P){rd:Operand->Option aI}(gO:∀x d,rd x=aa d->aH H F w d (ev ρ x)){t:TypeId}{D:aI}{x:Operand}{lo hi:Option Operand}{k:eD->Option R}{q:R}(h:tY dr T rd ob n t D lo hi k=aa q)(hs:aL U H F w ob n)(hx:aH H F w D (ev ρ x)):
 ∃e,k e=aa q/\cO P U H F w ρ ob n ⟨aa d, .slice t x lo hi ae,ty,pos,aft,ae⟩ e:=by
 unfold tY at h;split at h
 case h_2=>cases h
 rename_i e hu;have ht:=T.und_ok _ _ hu;split at h
 case h_2=>cases h
 rename_i re UF;obtain⟨ti,z,h1,_,_,h4,_⟩:=T.row_ok _ _ UF;split at h
 case h_2=>cases h
 rename_i a ha;split at h
 case h_2=>cases h
 rename_i b hb;have XM:=AD (w:=w) (H:=H) (F:=F) (ρ:=ρ) gO ha;have qR:=AD (w:=w) (H:=H) (F:=F) (ρ:=ρ) gO hb
 have Rh:∀{r:Row}{l m:List r.den},cI F w (.slice r) [ev ρ x] l->r.size=re.size->gq l (a.getD 0) (b.getD (l.length:Int))=aa m->cO P U H F w ρ ob n ⟨aa d, .slice t x lo hi ae,ty,pos,aft,ae⟩ {dst:= .val ag (.leaf (.slice r) m)}:=by
  intro r l m hv hz hm;obtain⟨p,q',ep,eq,Rf,hq,rfl⟩:=qT hm;have dZ:=hv;obtain⟨A,cap,he,hc,NL,_⟩:=hv;simp only[aj3,and_true]at he;have bJ:=vN (P:=P) (w:=w) (d:=d) (ty:=ty) (pos:=pos) (aft:=aft) ht h1 he XM qR (by omega) (by omega) (by omega) hc;rw[ep,eq,ajg,ajg,h4,<-hz]at bJ;rw[he]at dZ;exact cn hs bJ (aV.mK (dZ.cut Rf hq))
 split at h
 .rename_i r l gY;obtain⟨hz,h⟩:=be h;obtain⟨m,hm,hk⟩:=bind_some h;exact⟨_,hk,Rh (ij hs gY hx) (beq_true hz) hm⟩
 .rename_i gY;obtain⟨m,hm,hk⟩:=bind_some h;have hv:ev ρ x=_:=ij hs gY hx;unfold gq at hm;split at hm
  case isFalse=>cases hm
  rename_i hc
  have ea:a.getD 0=0:=by have:=hc.2.1;have:=hc.2.2;simp at this;omega
  have eb:b.getD ((0:Nat):Int)=0:=by have:=hc.2.1;have:=hc.2.2;simp at this⊢;omega
  have bJ:=vN (P:=P) (w:=w) (d:=d) (ty:=ty) (pos:=pos) (aft:=aft) ht h1 hv XM qR (by omega) (by omega) (by omega) (ajh _);rw[ea,eb]at bJ;exact⟨_,hk,cn hs bJ ⟨_,rfl,rfl,λ_=>rfl⟩⟩
 .rename_i o s T0 r l gY;obtain⟨hv,cJ,eh⟩:=ij hs gY hx
  cases YH:(ajf r.size re.size&&ajf T0 e&&(lo.isNone||dr))with
  |true=>
   rw[YH,cond_true]at h;obtain⟨wu,hlo⟩:=de YH;obtain⟨GS,hT⟩:=de wu;have UA:=beq_true GS;obtain⟨m,hm,hk⟩:=bind_some h;exact⟨_,hk,IN ht h1 (h4.trans UA.symm) rfl hs cJ hv XM qR hm⟩
  |false=>
   rw[YH,cond_false]at h;obtain⟨GS,h'⟩:=be h;clear h;have UA:=beq_true GS;obtain⟨m,hm,hk⟩:=bind_some h';obtain⟨p,q',ep,eq,Rf,hq,rfl⟩:=qT hm;obtain⟨A,cap,he,hc,NL,_⟩:=eh.reads;have bJ:=vN (P:=P) (w:=w) (d:=d) (ty:=ty) (pos:=pos) (aft:=aft) ht h1 he XM qR (by omega) (by omega) (by omega) hc;rw[ep,eq,ajg,ajg,h4,<-UA]at bJ;obtain⟨v',dZ,cT⟩:=hs.obj _ _ _ cJ;refine⟨_,hk,cn hs bJ ⟨_,⟨_,rfl,A,cap,T0,l,p,q',by rw[hv,he],cT.con,Rf,hq,rfl,rfl⟩,rfl,λ_=>rfl⟩⟩
 .cases h
def qZ(T:bj P)(rd:Operand->Option aI)(ob:Nat->Option (Nat×Th))(t:TypeId)(D:aI)(lo:Option Operand)(hi mx:Operand)(k:eD->Option R):Option R:=
 match find T.und t with
 |some (.slice e)=>match find T.row e with
  |some re=>match Lo rd lo with
   |some a=>match rd hi with
    |some B=>match asInt B with
     |some (_,b)=>match rd mx with
      |some C=>match asInt C with
       |some (_,c)=>match sQ ob D with
        |some (.read r l)=>bif ajf r.size re.size then(we l (a.getD 0) b c).bind λm=>k {dst:= .val ag (.leaf (.slice r) m)}else ae
        |_=>ae
       |none=>ae
      |none=>ae
     |none=>ae
    |none=>ae
   |none=>ae
  |none=>ae
 |_=>ae
def ES(T:bj P){rd:Operand->Option aI}(gO:∀x d,rd x=aa d->aH H F w d (ev ρ x)){t:TypeId}{D:aI}{x hi mx:Operand}{lo:Option Operand}{k:eD->Option R}{q:R}(h:qZ T rd ob t D lo hi mx k=aa q)(hs:aL U H F w ob n)(hx:aH H F w D (ev ρ x)):
 ∃e,k e=aa q/\cO P U H F w ρ ob n ⟨aa d, .slice t x lo (aa hi) (aa mx),ty,pos,aft,ae⟩ e:=by
 unfold qZ at h;split at h
 case h_2=>cases h
 rename_i e hu;have ht:=T.und_ok _ _ hu;split at h
 case h_2=>cases h
 rename_i re UF;obtain⟨ti,z,h1,_,_,h4,_⟩:=T.row_ok _ _ UF;split at h
 case h_2=>cases h
 rename_i a ha;split at h
 case h_2=>cases h
 rename_i B hB;split at h
 case h_2=>cases h
 rename_i kb b hb;split at h
 case h_2=>cases h
 rename_i C hC;split at h
 case h_2=>cases h
 rename_i kc c hc;split at h
 case h_2=>cases h
 rename_i r l gY;obtain⟨hz,h⟩:=be h;obtain⟨m,hm,hk⟩:=bind_some h;refine⟨_,hk,?_⟩;have hv:cI F w (.slice r) [ev ρ x] l:=ij hs gY hx;have dZ:=hv;unfold we at hm;split at hm
 case isFalse=>cases hm
 rename_i Qd;obtain⟨p,q',ep,eq,Rf,hq,rfl⟩:=qT hm;obtain⟨A,cap,he,Lp,NL,_⟩:=hv;simp only[aj3,and_true]at he;have bJ:=La (P:=P) (w:=w) (d:=d) (ty:=ty) (pos:=pos) (aft:=aft) ht h1 he (AD gO ha) (fW hb (gO _ _ hB)) (fW hc (gO _ _ hC)) (by omega) (by omega) (by omega) (by omega);rw[ep,eq,Qd,ajg,ajg,ajg,h4,<-beq_true hz]at bJ;rw[he]at dZ;exact cn hs bJ (aV.mK (dZ.tight.cut Rf hq))
noncomputable def Ri(T:bj P)(ob:Nat->Option (Nat×Th))(o:BinOp)(t:TypeId)(X Y:aI):Option aI:=
 match X,Y with
 | .val ag (.leaf .bool a), .val ag (.leaf .bool b)=>match find T.und t with
   |some .bool=>match o with
    | .eql=>aa (eA (decide (a=b)))
    | .neq=>aa (eA (!decide (a=b)))
    |_=>ae
   |_=>ae
 | .val ag (.leaf .str a), .val ag (.leaf .str b)=>match o with
   | .eql=>aa (eA (decide (a=b)))
   | .neq=>aa (eA (!decide (a=b)))
   |_=>ae
 | .val af u, .val af v=>match find T.eqs t with
   |some r=>match flat ob r u with
    |some x=>match flat ob r v with
     |some y=>match o with
      | .eql=>aa (eA (pT r x y))
      | .neq=>aa (eA (!(pT r x y)))
      |_=>ae
     |none=>ae
    |none=>ae
   |none=>ae
 |_,_=>ae
theorem Oa(T:bj P){o:BinOp}{t u:TypeId}{X Y D:aI}{x y:Operand}(h:Ri T ob o t X Y=aa D)(hs:aL U H F w ob n)(hx:aH H F w X (ev ρ x))(hy:aH H F w Y (ev ρ y)):
 cO P U H F w ρ ob n ⟨aa d, .binOp o t x y u,ty,pos,aft,ae⟩ {dst:=D}:=by
 unfold Ri at h;split at h
 .rename_i a b;split at h
  case h_2=>cases h
  rename_i hu;have hu:=T.und_ok _ _ hu;have ha:ev ρ x= .bool a:=aV.bool hx;have hb:ev ρ y= .bool b:=aV.bool hy
  split at h<;>cases h
  .exact ba hs (Ic hu ha hb) (aV.ig ..)
  .exact ba hs (Ie hu ha hb) (aV.ig ..)
 .rename_i a b;have ha:ev ρ x= .string a:=aV.str hx;have hb:ev ρ y= .string b:=aV.str hy
  split at h<;>cases h
  .exact ba hs (If ha hb) (aV.ig ..)
  .exact ba hs (Ig ha hb) (aV.ig ..)
 .rename_i u v;split at h
  case h_2=>cases h
  rename_i r hr;obtain⟨K,dd,hE,hd,hg,hD⟩:=T.eqs_ok _ _ hr;split at h
  case h_2=>cases h
  rename_i a ha;split at h
  case h_2=>cases h
  rename_i b hb;obtain⟨c1,g1,e1,_⟩:=hx;obtain⟨c2,g2,e2,_⟩:=hy;have r1:=jL hs ha g1;have r2:=jL hs hb g2
  split at h<;>cases h
  .exact ba hs (It hE hd hg hD e1 e2 r1 r2) (aV.ig ..)
  .exact ba hs (Iu hE hd hg hD e1 e2 r1 r2) (aV.ig ..)
 .cases h
def Rj(a b:ByteArray):Option ByteArray:=if a.size+b.size<=9223372036854775807 then aa (a++b)else ae
def ET(o:BinOp)(X Y:aI):Option (ByteArray×ByteArray):=
 match o,X,Y with
 | .add, .val ag (.leaf .str a), .val ag (.leaf .str b)=>aa (a,b)
 |_,_,_=>ae
def Rk{t u:TypeId}{o:BinOp}{X Y:aI}{x y:Operand}{a b c:ByteArray}(h:ET o X Y=aa (a,b))(hc:Rj a b=aa c)(hs:aL U H F w ob n)(hx:aH H F w X (ev ρ x))(hy:aH H F w Y (ev ρ y)):
 cO P U H F w ρ ob n ⟨aa d, .binOp o t x y u,ty,pos,aft,ae⟩ {dst:= .val ag (.leaf .str c)}:=by
 unfold ET at h
 split at h<;>cases h
 unfold Rj at hc;split at hc
 case isFalse=>cases hc
 rename_i hle;obtain rfl:=aja hc;have ha:ev ρ x= .string a:=aV.str hx;have hb:ev ρ y= .string b:=aV.str hy;refine cn hs (v:= .string (a++b)) ?_ (aV.mK rfl)
 have:¬(9223372036854775807:Int)<(a.size:Int)+(b.size:Int):=by omega
 simp[execOp,eqGuard,binOp,Op.stringOp,ha,hb,IntKind.max,IntKind.signed,IntKind.bits,this]
noncomputable def IQ(T:bj P)(ob:Nat->Option (Nat×Th))(o:BinOp)(t:TypeId)(lit:Bool)(X Y:aI)(k:eD->Option R):Option R:=
 match asInt X with
 |some (kx,a)=>match asInt Y with
  |some (ky,b)=>match o with
   | .shl=>bif lit then(bif !decide (b<0)then k {dst:=np kx (Ay kx a b)}else ae)else(IA kx a b).bind λc=>k {dst:=np kx c}
   | .shr=>bif lit then(bif !decide (b<0)then k {dst:=np kx (gF kx a b)}else ae)else(Cc kx a b).bind λc=>k {dst:=np kx c}
   |o=>bif decide (kx=ky)then
    (match o with
    | .quo=>bif lit then(bif decide (b≠0)then k {dst:=np kx (kx.wrap (ajl a b))}else ae)else(yq a b).bind λc=>k {dst:=np kx (kx.wrap c)}
    | .rem=>bif lit then(bif decide (b≠0)then k {dst:=np kx (ajH a b)}else ae)else(EK a b).bind λc=>k {dst:=np kx c}
    |_=>match arith o kx a b with
     |some D=>k {dst:=D}
     |none=>ae)else ae
  |none=>ae
 |none=>match ET o X Y with
  |some (a,b)=>(Rj a b).bind λc=>k {dst:= .val ag (.leaf .str c)}
  |none=>match Ri T ob o t X Y with
   |some D=>k {dst:=D}
   |none=>ae
def Ob(T:bj P){o:BinOp}{t u:TypeId}{lit:Bool}{X Y:aI}{x y:Operand}{k:eD->Option R}{q:R}(h:IQ T ob o t lit X Y k=aa q)(hs:aL U H F w ob n)(hx:aH H F w X (ev ρ x))(hy:aH H F w Y (ev ρ y)):
 ∃e,k e=aa q/\cO P U H F w ρ ob n ⟨aa d, .binOp o t x y u,ty,pos,aft,ae⟩ e:=by
 unfold IQ at h;split at h
 .rename_i kx a hX;split at h
  case h_2=>cases h
  rename_i ky b hY;have ha:=fW hX hx;have hb:=fW hY hy;split at h
  .cases lit with
   |true=>
    rw[cond_true]at h;obtain⟨dw,h⟩:=be h;exact⟨_,h,ba hs (Ci ha hb (by simpa using dw)) (aV.ku ..)⟩
   |false=>
    rw[cond_false]at h;obtain⟨c,hc,h⟩:=bind_some h;unfold IA at hc;split at hc
    .cases hc
    .rename_i dw;obtain rfl:=aja hc;exact⟨_,h,ba hs (Ci ha hb dw) (aV.ku ..)⟩
  .cases lit with
   |true=>
    rw[cond_true]at h;obtain⟨dw,h⟩:=be h;exact⟨_,h,ba hs (Cj ha hb (by simpa using dw)) (aV.ku ..)⟩
   |false=>
    rw[cond_false]at h;obtain⟨c,hc,h⟩:=bind_some h;unfold Cc at hc;split at hc
    .cases hc
    .rename_i dw;obtain rfl:=aja hc;exact⟨_,h,ba hs (Cj ha hb dw) (aV.ku ..)⟩
  obtain⟨hk,h'⟩:=be h;clear h;have hk:=an hk;subst hk;revert h';intro h;split at h
  .cases lit with
   |true=>
    rw[cond_true]at h;obtain⟨dw,h⟩:=be h
    grind [Lg]
   |false=>
    grind [yq,Lg]
  .cases lit with
   |true=>
    rw[cond_true]at h;obtain⟨dw,h⟩:=be h
    grind [Lh]
   |false=>
    grind [EK,Lh]
  grind [Lf]
 .split at h
  .rename_i a b TX;obtain⟨c,hc,h⟩:=bind_some h;exact⟨_,h,Rk TX hc hs hx hy⟩
  grind [Oa]
def YI(o:UnOp)(X:aI):Option aI:=
 match o with
 | .not=>match asBool X with
   |some b=>aa (eA (!b))
   |none=>ae
 | .neg=>match asInt X with
   |some (k,a)=>aa (np k (k.wrap (0-a)))
   |none=>ae
 |_=>ae
theorem Rl{o:UnOp}{t:TypeId}{X D:aI}{x:Operand}(h:YI o X=aa D)(hs:aL U H F w ob n)(hx:aH H F w X (ev ρ x)):
 cO P U H F w ρ ob n ⟨aa d, .unOp o t x,ty,pos,aft,ae⟩ {dst:=D}:=by
 unfold YI at h;split at h
 .split at h<;>cases h
  rename_i b hb;exact ba hs (KY (oR hb hx)) (aV.ig ..)
 .split at h<;>cases h
  rename_i k a ha;exact ba hs (KZ (fW ha hx)) (aV.ku ..)
 .cases h
def Lq(T:bj P)(s t:TypeId)(X:aI):Option aI:=
 match find T.und s with
 |some _=>match find T.und t with
  |some (.int k)=>match asInt X with
   |some (_,a)=>aa (np k (k.wrap a))
   |none=>ae
  |some .str=>match Cb X with
   |some a=>aa (Yx a)
   |none=>ae
  |_=>ae
 |none=>ae
def Lr(T:bj P){s t:TypeId}{X D:aI}{x:Operand}(h:Lq T s t X=aa D)(hs:aL U H F w ob n)(hx:aH H F w X (ev ρ x)):
 cO P U H F w ρ ob n ⟨aa d, .convert s t x,ty,pos,aft,ae⟩ {dst:=D}:=by
 unfold Lq at h;split at h
 case h_2=>cases h
 rename_i ks hsu;obtain⟨dd,yd,_⟩:=(T.und_ok _ _ hsu).agg;split at h
 .rename_i k YJ
  split at h<;>cases h
  rename_i k' a ha;exact ba hs (Ih yd (T.und_ok _ _ YJ) (fW ha hx)) (aV.ku ..)
 .rename_i YJ
  split at h<;>cases h
  rename_i a ha;have hv:=wm ha hx;have YK:P.underlying t=aa .string:=T.und_ok _ _ YJ;refine cn hs (v:= .string a) ?_ (aV.mkStr ..);simp[execOp,convert,run_underlying yd,run_underlying YK,hv]
 .cases h
def wC(D:aI)(i:Nat):Option aI:=
 match D with
 | .tup ds=>match ds[i]? with
   |some (a,t)=>aa (.val a t)
   |none=>ae
 |_=>ae
def sM.get:{ds:List (Bool×Tree)}->{vs:List Value}->{i:Nat}->{a:Bool}->{t:Tree}->sM H F w ds vs->ds[i]? =aa (a,t)->∃v,vs[i]? =aa v/\aV H F w a t v
 |[],_,_,_,_,_,h=>by cases h
 |d::ds,_,0,a,t,hh,h=>by
  obtain⟨v,us,rfl,h1,h2⟩:=hh
  grind
 |d::ds,_,i+1,a,t,hh,h=>by
  obtain⟨v,us,rfl,h1,h2⟩:=hh;obtain⟨v',e,hv⟩:=sM.get h2 (by simpa using h)
  grind
theorem Cu{D D':aI}{i:Nat}{x:Operand}(h:wC D i=aa D')(hs:aL U H F w ob n)(hx:aH H F w D (ev ρ x)):
 cO P U H F w ρ ob n ⟨aa d, .extract x i,ty,pos,aft,ae⟩ {dst:=D'}:=by
 unfold wC at h;split at h
 case h_2=>cases h
 split at h<;>cases h
 rename_i ds a t hd;obtain⟨vs,e,ht⟩:=hx;obtain⟨v,hv,sL⟩:=ht.get hd;exact ba hs (As e (by simpa using hv)) sL
def vP(mx:Bool)(X Y:aI):Option aI:=
 match asInt X,asInt Y with
 |some (k,a),aa (k',b)=>bif decide (k=k')then aa (np k (bif mx then(if a<b then b else a)else(if b<a then b else a)))else ae
 |_,_=>ae
theorem wD{mx:Bool}{t t':TypeId}{X Y D:aI}{x y:Operand}(h:vP mx X Y=aa D)(hs:aL U H F w ob n)(hx:aH H F w X (ev ρ x))(hy:aH H F w Y (ev ρ y)):
 cO P U H F w ρ ob n ⟨aa d, .call {callee:= .builtin (bif mx then .max else .min),args:= #[x,y],argTypes:= #[t,t']},ty,pos,aft,ae⟩ {dst:=D}:=by
 unfold vP at h;split at h
 case h_2=>cases h
 rename_i k a k' b ha hb;obtain⟨hk,h'⟩:=be h;clear h;have hk:=an hk;subst hk;obtain rfl:=aja h';have ha:=fW ha hx;have hb:=fW hb hy
 cases mx with
 |true=>exact ba hs (Ik ha hb) (aV.ku ..)
 |false=>exact ba hs (Il ha hb) (aV.ku ..)
theorem IR{D:aI}{x:Operand}(hs:aL U H F w ob n)(hx:aH H F w D (ev ρ x)):cO P U H F w ρ ob n ⟨aa d, .move x,ty,pos,aft,ae⟩ {dst:=D}:=ba hs (Ib rfl) hx
theorem Cv{D:aI}{x:Operand}(hs:aL U H F w ob n)(hx:aH H F w D (ev ρ x)):cO P U H F w ρ ob n ⟨aa d, .assign x,ty,pos,aft,ae⟩ {dst:=D}:=ba hs (B7 rfl) hx
def AE(T:bj P)(t:TypeId)(f:Nat)(X:aI):Option aI:=
 match find T.und t with
 |some (.struct fs)=>match fs[f]? with
  |some (ft,off)=>match find T.und ft with
   |some kk=>match X with
    | .val af u=>match u.get (sO fs.length f)with
      |some (s,eE)=>bif ajf eE off&&nK T ft kk s.size then aa (.val (mi kk) s)else ae
      |none=>ae
    |_=>ae
   |none=>ae
  |none=>ae
 |_=>ae
def EU(T:bj P){t:TypeId}{f:Nat}{X D:aI}{x:Operand}(h:AE T t f X=aa D)(hs:aL U H F w ob n)(hx:aH H F w X (ev ρ x)):
 cO P U H F w ρ ob n ⟨aa d, .field t x f,ty,pos,aft,ae⟩ {dst:=D}:=by
 unfold AE at h;split at h
 case h_2=>cases h
 rename_i fs hu;obtain⟨arr,Et,N3⟩:=T.und_ok _ _ hu;split at h
 case h_2=>cases h
 rename_i ft off hf;obtain⟨fd,TU,rfl,rfl⟩:=Cl N3 hf;split at h
 case h_2=>cases h
 rename_i kk YL;obtain⟨dd,yd,ye⟩:=(T.und_ok _ _ YL).agg;split at h
 case h_2=>cases h
 rename_i u;split at h
 case h_2=>cases h
 rename_i s eE hg;obtain⟨hb,rfl⟩:=sP h;obtain⟨Ku,Kv⟩:=de hb;obtain rfl:=beq_true Ku;have hz:=lf T Kv;obtain⟨cs,rT,e,_⟩:=hx;obtain⟨g1,g2⟩:=rT.get hg;have hl:=g1.length;have e':ev ρ x= .agg cs.toArray:=e
 have UG:∃v,(part fd.type cs.toArray fd.offset).run P w= .ok v w/\aV H F w (mi kk) s v:=by
  cases ha:mi kk with
  |true=>
   rw[aj ha]at hz;obtain⟨r,hr,NJ⟩:=hz;obtain⟨ti,z,h1,_,_,h4,_⟩:=T.row_ok _ _ hr;refine⟨.agg ((cs.drop fd.offset).take s.size).toArray,?_,_,g1,rfl,by simp⟩;unfold part;rw[ajw,fN yd,ye,ha];simp[sizeOf,typeInfo,h1,h4,NJ]
  |false=>
   rw[ai (by simp[ha])]at hz
   have aG:fd.offset<cs.length:=by omega
   refine⟨cs[fd.offset],?_,_,g1,?_,λ_=>?_⟩
   .unfold part;rw[ajw,fN yd,ye,ha];simp[aG]
   all_goals grind [List.take_one,List.head?_drop]
 obtain⟨v,hv,sL⟩:=UG;refine cn hs (v:=v) ?_ sL;simp[execOp,Instr.field,run_underlying Et,TU,e',asAgg,hv]
end
end
section
open Go Go.RowKit Go.MapKept
noncomputable def bn{α:Type}(K:Row):List (K.den×α)->K.den->Option α
 |[],_=>ae
 |p::l,k=>if c9 K p.1 k=af then aa p.2 else bn K l k
noncomputable def fL{α:Type}(K:Row):List (K.den×α)->K.den->α->List (K.den×α)
 |[],k,v=>[(k,v)]
 |p::l,k,v=>if c9 K p.1 k=af then(p.1,v)::l else p::fL K l k v
def ze{K:Row}{a b:K.den}{u v:Value}(ha:p5 K a=aa u)(hb:p5 K b=aa v):c9 K a b=af↔u=v:=by
 unfold p5 at ha
 split at ha<;>first|cases ha|skip
 all_goals grind [p5,c9]
def wE{P:Program}(T:bj P)(kt:TypeId):Row->Bool
 | .int k=>match find T.und kt with
   |some (.int k')=>decide (k=k')
   |_=>ag
 | .bool=>match find T.und kt with
   |some .bool=>af
   |_=>ag
 | .str=>match find T.und kt with
   |some .str=>af
   |_=>ag
 |_=>ag
section
variable {P:Program} {ρ:Nat->Value} {w w':World} {H H':aK} {F F':Nat->Prop} {U:Nat->Prop} {ob:Nat->Option (Nat×Th)} {n:Nat} {R:Type}
variable {op:Op} {ty:TypeId} {pos:String} {aft:Array Edge} {d:Nat}
def sT(T:bj P){kt:TypeId}{K:Row}(h:wE T kt K=af):∃d,P.underlying kt=aa d/\(∀x v,p5 K x=aa v->IsKey d v)/\(∀x v,cI F w K [v] x->p5 K x=aa v):=by
 unfold wE at h;split at h
 .split at h
  .rename_i k _ k' hu;obtain rfl:=an h;refine⟨_,T.und_ok _ _ hu,λx v hx=>?_,λx v hr=>?_⟩
   .obtain rfl:=aja hx;rfl
   .have NI:[v]=[ajV k x]:=hr;simp only[aj3,and_true]at NI;rw[NI];rfl
  .cases h
 .split at h
  .rename_i hu;refine⟨_,T.und_ok _ _ hu,λx v hx=>?_,λx v hr=>?_⟩
   .obtain rfl:=aja hx;trivial
   .have NI:[v]=[Value.bool x]:=hr;simp only[aj3,and_true]at NI;rw[NI];rfl
  .cases h
 .split at h
  .rename_i hu;refine⟨_,T.und_ok _ _ hu,λx v hx=>?_,λx v hr=>?_⟩
   .obtain rfl:=aja hx;trivial
   .have NI:[v]=[Value.string x]:=hr;simp only[aj3,and_true]at NI;rw[NI];rfl
  .cases h
 .cases h
def tZ{K:Row}{agg:Bool}{V:Row}{dd:TypeDesc}{x:K.den}{kv:Value}(hK:∀x v,p5 K x=aa v->IsKey dd v)(hx:p5 K x=aa kv):{es:List MapEntry}->{l:List (K.den×V.den)}->(i:Nat)->nl H F w K agg V es l->
 (akh dd kv es i=aa ae/\bn K l x=ae/\(∀e∈es,e.key≠kv)/\∀H' F' w' y(e:MapEntry),e.key=kv->H.le H'->Step F w F' w'->aV H' F' w' agg (.leaf V y) e.val->nl H' F' w' K agg V (es++[e]) (fL K l x y))\/
 ∃j e y,akh dd kv es i=aa (aa (i+j,e.val))/\es[j]? =aa e/\e.key=kv/\bn K l x=aa y/\aV H F w agg (.leaf V y) e.val/\
  ∀H' F' w' y(f:MapEntry->MapEntry),(f e).key=kv->H.le H'->Step F w F' w'->aV H' F' w' agg (.leaf V y) (f e).val->nl H' F' w' K agg V (es.modify j f) (fL K l x y)
 |[],l,i,h=>by
  obtain rfl:l=[]:=h;refine .inl ⟨rfl,rfl,by simp,λH' F' w' y e he hH hs hv=>⟨x,y,[],rfl,by rw[he];exact hx,hv,rfl⟩⟩
 |e::es,l,i,h=>by
  obtain⟨k,y,l',rfl,h1,h2,h3⟩:=h;obtain⟨r,hr,Oc⟩:=sameNow_of_keys (hK x kv hx) (hK k _ h1);have Ld:=ze h1 hx
  cases r with
  |true=>
   have T4:kv=e.key:=Oc.1 rfl;have hq:c9 K k x=af:=Ld.2 T4.symm;refine .inr ⟨0,e,y,by simp[akh,hr],rfl,T4.symm,by simp[bn,hq],h2,λH' F' w' y' f hf hH hs hv=>?_⟩;refine⟨k,y',l',by simp[fL,hq],?_,hv,h3.keep hH hs⟩
   grind
  |false=>
   have dw:¬e.key=kv:=(by grind)
   have hq:¬c9 K k x=af:=λq=>dw (Ld.1 q)
   rcases tZ hK hx (i+1) h3 with⟨a1,a2,a3,a4⟩|⟨j,e',z,a1,a2,a3,a4,a5,a6⟩
   .refine .inl ⟨by simp[akh,hr,a1],by simp[bn,hq,a2],λe' he'=>?_,λH' F' w' y' e' he' hH hs hv=>?_⟩
    .grind
    .exact⟨k,y,_,by simp[fL,hq],h1,h2.keep hH hs,a4 H' F' w' y' e' he' hH hs hv⟩
   .refine .inr ⟨j+1,e',z,by simp[akh,hr,a1];omega,by simpa using a2,a3,by simp[bn,hq,a4],a5,λH' F' w' y' f hf hH hs hv=>?_⟩;refine⟨k,y,_,by simp[fL,hq],?_,?_,a6 H' F' w' y' f hf hH hs hv⟩
    .exact h1
    .exact h2.keep hH hs
noncomputable def asKey(ob:Nat->Option (Nat×Th))(K:Row):aI->Option K.den
 | .val ag t=>flat ob K t
 |_=>ae
def sU(hs:aL U H F w ob n){K:Row}{D:aI}{x:K.den}{v:Value}(h:asKey ob K D=aa x)(hd:aH H F w D v):cI F w K [v] x:=by
 unfold asKey at h;split at h
 .obtain⟨cs,h1,_,h3⟩:=hd
  grind [jL]
 .cases h
def Ls(ob:Nat->Option (Nat×Th)):aI->Option (Nat×Nat×Th)
 | .val ag (.own o)=>match ob o with
   |some (s, .map T K agg V l)=>aa (o,s, .map T K agg V l)
   |_=>ae
 |_=>ae
def Lt(hs:aL U H F w ob n){D:aI}{o s:Nat}{t:Th}{v:Value}(h:Ls ob D=aa (o,s,t))(hd:aH H F w D v):∃T K agg V l b es clock,t= .map T K agg V l/\ob o=aa (s,t)/\H.val o=aa v/\v= .map (aa b)/\
 w.heap[b]? =aa (.map es clock)/\Stamped es clock/\nl H F w K agg V es.toList l:=by
 unfold Ls at h;split at h
 .rename_i o';split at h
  .rename_i s' T K agg V l cJ;simp only[ajj,Prod.mk.injEq]at h;obtain⟨rfl,rfl,rfl⟩:=h;obtain⟨cs,⟨u,hu,_,e⟩,_,h3⟩:=hd;rw[h3 rfl]at e
   obtain rfl:v=u:=by simpa using e
   obtain⟨v',dZ,cT⟩:=hs.obj _ _ _ cJ;rw[hu]at dZ;obtain rfl:=aja dZ;obtain⟨b,es,clock,e,h1,h2,h3⟩:=cT.ok
   grind
  .cases h
 .cases h
def oV(T:bj P)(n:Nat)(t:TypeId)(k:eD->Option R):Option R:=
 match find T.und t with
 |some (.map kt vt)=>match find T.row kt with
  |some K=>match find T.row vt with
   |some V=>match find T.und vt with
    |some kk=>k {dst:= .val ag (.own n),make:=[(n,(n, .map t K (mi kk) V []))]}
    |none=>ae
   |none=>ae
  |none=>ae
 |_=>ae
def Cw(T:bj P){t:TypeId}{k:eD->Option R}{q:R}(h:oV T n t k=aa q)(hs:aL U H F w ob n):
 ∃e,k e=aa q/\cO P U H F w ρ ob n ⟨aa d, .makeMap t ae,ty,pos,aft,ae⟩ e:=by
 unfold oV at h;split at h
 case h_2=>cases h
 split at h
 case h_2=>cases h
 rename_i K _;split at h
 case h_2=>cases h
 rename_i V _;split at h
 case h_2=>cases h
 rename_i kk _
 have bJ:(execOp (ev ρ) ⟨aa d, .makeMap t ae,ty,pos,aft,ae⟩).run P w= .ok (.value (.map (aa w.heap.size))) (w.alloc (.map #[] 0)):=by
  simp[execOp,Instr.makeMap,ajz]
 refine⟨_,h,cA.val bJ ?_⟩
 have hv:((H.bU n (.map t K (mi kk) V [])).cF n (.map (aa w.heap.size))).val n=aa (.map (aa w.heap.size)):=by simp[aK.cF]
 refine mY.new (v0:= .map (aa w.heap.size)) hs rfl rfl (qX _) ⟨_, #[],0,rfl,(heap_alloc w _).1,stamped_empty 0,rfl⟩ (λk hk=>?_) (n9 hv rfl);simp only[fp,Value.map.injEq,ajj]at hk;subst hk;exact⟨λe=>by have:=hs.lt _ e;omega,by simp, .inl (ajh _)⟩
noncomputable def kU(T:bj P)(ob:Nat->Option (Nat×Th))(n:Nat)(t:TypeId)(M X Y:aI)(k:eD->Option R):Option R:=
 match find T.und t with
 |some (.map kt _)=>match Ls ob M with
  |some (o,_, .map T0 K agg V l)=>bif wE T kt K then(match asKey ob K X with
   |some x=>match Y with
    | .val mL tr=>bif (bif agg then mL else !mL)then(match flat ob V tr with
      |some y=>k {dst:= .dead,eat:=[o],make:=[(o,(n, .map T0 K agg V (fL K l x y)))]}
      |none=>ae)else ae
    |_=>ae
   |none=>ae)else ae
  |_=>ae
 |_=>ae
def oW{YM kt et:TypeId}{dd:TypeDesc}{b clock:Nat}{es:Array MapEntry}{key val:Value}(hm:P.underlying YM=aa (.map kt et))(hd:P.underlying kt=aa dd)(hb:w.heap[b]? =aa (.map es clock))(hk:IsKey dd key):
 (akh dd key es.toList 0=aa ae->(akN YM (.map (aa b)) key val).run P w= .ok () {w with heap:=w.heap.setIfInBounds b (.map (es.push {key,val,born:=clock}) (clock+1))})/\
 (∀j e,akh dd key es.toList 0=aa (aa (j,e))->((es[j]?).map (·.key)).getD key=key->(akN YM (.map (aa b)) key val).run P w= .ok () {w with heap:=w.heap.setIfInBounds b (.map (es.modify j λe=>{e with key,val}) clock)}):=by
 refine⟨λh1=>?_,λj e h1 h2=>?_⟩
 .simp[akN,run_underlying hm,aku hb,akr hd hk,akw hd h1,MapKept.run_setObj_map _ hb,ajz]
 .simp[akN,run_underlying hm,aku hb,akr hd hk,akw hd h1,h2,run_keyThatStays hk,MapKept.run_setObj_map _ hb,ajz]
def rI(T:bj P){t:TypeId}{M X Y:aI}{m x y:Operand}{k:eD->Option R}{q:R}(h:kU T ob n t M X Y k=aa q)(hs:aL U H F w ob n)(hm:aH H F w M (ev ρ m))(hx:aH H F w X (ev ρ x))(hy:aH H F w Y (ev ρ y)):
 ∃e,k e=aa q/\cO P U H F w ρ ob n ⟨ae, .mapUpdate t m x y,ty,pos,aft,ae⟩ e:=by
 unfold kU at h;split at h
 case h_2=>cases h
 rename_i kt vt hu;split at h
 case h_2=>cases h
 rename_i o s T0 K agg V l IL;obtain⟨hk,h'⟩:=be h;clear h;split at h'
 case h_2=>cases h'
 rename_i a ha;split at h'
 case h_2=>cases h'
 rename_i mL tr;obtain⟨yu,h⟩:=be h';clear h'
 have yu:agg=mL:=by cases agg<;>cases mL<;>simp_all
 subst yu;split at h
 case h_2=>cases h
 rename_i b hb;refine⟨_,h,?_⟩;obtain⟨dd,hd,hK,hR⟩:=sT (F:=F) (w:=w) T hk;obtain⟨T1,K1,aee,V1,l1,r,es,clock,e0,cJ,hv,sJ,hh,gD,IS⟩:=Lt hs IL hm;cases e0;have ua:=hR _ _ (sU hs ha hx)
 have rz:aV H F w agg (.leaf V b) (ev ρ y):=by
  obtain⟨cs,h1,h2⟩:=hy;exact⟨cs,jL hs hb h1,h2⟩
 have aef:r<w.heap.size:=(ajF.1 hh).1
 have fin:∀o',(akN t (.map (aa r)) (ev ρ x) (ev ρ y)).run P w= .ok () {w with heap:=w.heap.setIfInBounds r o'}->
  (∀w',(∀k,k≠r->w'.heap[k]? =w.heap[k]?)->∃oP oH,o'= .map oP oH/\Stamped oP oH/\nl (H.bU n (.map T0 K agg V (fL K l a b))) F w' K agg V oP.toList (fL K l a b))->
  cO P U H F w ρ ob n ⟨ae, .mapUpdate t m x y,ty,pos,aft,ae⟩ {dst:= .dead,eat:=[o],make:=[(o,(n, .map T0 K agg V (fL K l a b)))]}:=by
  intro o' bJ Rm;refine cA.unit (w':={w with heap:=w.heap.setIfInBounds r o'}) ?_ ?_
  .simp[execOp,sJ,bJ,ajz]
  .have ub:∀k,k≠r->(w.heap.setIfInBounds r o')[k]? =w.heap[k]? :=(heap_set hh).2;obtain⟨oP,oH,rfl,g1,g2⟩:=Rm {w with heap:=w.heap.setIfInBounds r o'} ub;refine mY.Az (t':= .map T0 K agg V (fL K l a b)) (w':={w with heap:=w.heap.setIfInBounds r (.map oP oH)}) hs cJ hv rfl (λk hk=>hk) ⟨rfl,rfl,rfl,by simp,λk hk hn=>ub k λe=>hn (by subst e;exact sJ)⟩ ⟨r,oP,oH,sJ,(heap_set hh).1,g1,g2⟩ trivial
 have Od:H.le (H.bU n (.map T0 K agg V (fL K l a b))):=aK.gN (hs.fresh n (ajh _) (by omega)).2
 have nh:∀w':World,(∀k,k≠r->w'.heap[k]? =w.heap[k]?)->Step F w F w':=by
  intro w' hw b hb;refine⟨hb,hw b λe=>?_⟩;subst e;obtain⟨v',dZ,cT⟩:=hs.obj _ _ _ cJ;rw[hv]at dZ;obtain rfl:=aja dZ;exact cT.no b sJ hb
 obtain⟨r1,r2⟩:=oW (val:=ev ρ y) (T.und_ok _ _ hu) hd hh (hK _ _ ua)
 rcases tZ hK ua 0 IS with⟨a1,a2,a3,a4⟩|⟨j,e,z,a1,a2,a3,a4,a5,a6⟩
 .refine fin _ (r1 a1) λw' hw=>⟨_,_,rfl,stamped_push gD a3,?_⟩
  rw[Array.toList_push];exact a4 _ F w' b _ rfl Od (nh w' hw) (rz.keep Od (nh w' hw))
 .rw[ajL]at a1
  have hj:es[j]? =aa e:=by simpa using a2
  refine fin _ (r2 j _ a1 (by rw[hj];exact a3)) λw' hw=>⟨_,_,rfl,stamped_modify gD _ _ (λ_ _=>rfl) (λe' _ he'=>?_),?_⟩
  .grind
  .rw[Array.toList_modify];exact a6 _ F w' b _ rfl Od (nh w' hw) (rz.keep Od (nh w' hw))
def Lu{t:TypeId}{agg:Bool}{V:Row}(h:Ax P t agg V)(h1:agg=ag->V.size=1):∃z,(zeroValue t).run P w= .ok z w/\aV H F w agg (.leaf V V.zero) z:=by
 obtain⟨z,hz,e⟩:=h
 cases hi:P.info? t with
 |none=>rw[hi]at hz;cases hz
 |some ti=>
  rw[hi]at hz;refine⟨z,?_,V.dI,cI.zero F w V,e,λha=>?_⟩
  .have YN:ti.zero=aa z:=hz;simp[zeroValue,typeInfo,hi,YN,ajz]
  .have hl:V.dI.length=V.size:=(cI.zero F w V).length;rw[h1 ha]at hl;subst ha;rw[cond_false]at e
   match hv:V.dI,hl with
   |[u],_=>grind
theorem GX{K:Row}{agg:Bool}{V:Row}:{es:List MapEntry}->{l:List (K.den×V.den)}->es.length=l.length->(∀i(h:i<l.length),∃(e:MapEntry)(cs:List Value),es[i]? =aa e/\p5 K l[i].1=aa e.key/\cI F w V cs l[i].2/\e.val=(bif agg then .agg cs.toArray else cs.headD undef)/\(agg=ag->cs=[e.val]))->nl H F w K agg V es l
 |[],[],_,_=>rfl
 |[],_::_,h,_=>by cases h
 |_::_,[],h,_=>by cases h
 |e::es,(k,x)::l,hl,h=>by
  obtain⟨e',cs,h1,h2,h3,h4,h5⟩:=h 0 (by simp)
  obtain rfl:e=e':=by simpa using h1
  exact⟨k,x,l,rfl,h2,⟨cs,h3,h4,h5⟩,GX (by simpa using hl) λi hi=>by
   obtain⟨e',rE,q1,q2,q3,q4⟩:=h (i+1) (by simpa using hi)
   exact⟨e',rE,by simpa only[List.getElem?_cons_succ]using q1,q2,q3,q4⟩⟩
def GY{K:Row}{agg:Bool}{V:Row}:{es:List MapEntry}->{l:List (K.den×V.den)}->nl H F w K agg V es l->es.length=l.length/\∀i(h:i<l.length),∃(e:MapEntry)(cs:List Value),es[i]? =aa e/\p5 K l[i].1=aa e.key/\cI F w V cs l[i].2/\e.val=(bif agg then .agg cs.toArray else cs.headD undef)/\(agg=ag->cs=[e.val])
 |[],l,h=>by obtain rfl:l=[]:=h;grind
 |e::es,l,h=>by
  obtain⟨k,x,l',rfl,h1,⟨cs,h2,h3,h4⟩,h5⟩:=h;obtain⟨g1,g2⟩:=GY h5;refine⟨by simp[g1],λi hi=>?_⟩
  cases i with
  |zero=>exact⟨e,cs,rfl,h1,h2,h3,h4⟩
  |succ i=>
   obtain⟨e',rE,q1,q2,q3,q4⟩:=g2 i (by simpa using hi);exact⟨e',rE,by simpa only[List.getElem?_cons_succ]using q1,q2,q3,q4⟩
structure UH where
 K:Row
 agg:Bool
 V:Row
 l:List (K.den×V.den)
def EV(ob:Nat->Option (Nat×Th)):aI->Option UH
 | .val ag (.leaf (.map K agg V) l)=>aa ⟨K,agg,V,l⟩
 | .val ag (.own o)=>match ob o with
   |some (_, .map _ K agg V l)=>aa ⟨K,agg,V,l⟩
   |some (_, .fmap _ K agg V l)=>aa ⟨K,agg,V,l⟩
   |some (_, .fdmap _ K _ r l)=>aa ⟨K,ag, .slice r,l⟩
   |_=>ae
 |_=>ae
def AF{K:Row}{agg:Bool}{V:Row}{l:List (K.den×V.den)}{v:Value}(h:cI F w (.map K agg V) [v] l):(v= .map ae/\l=[])\/∃b es clock,v= .map (aa b)/\w.heap[b]? =aa (.map es clock)/\Stamped es clock/\nl H F w K agg V es.toList l:=by
 obtain⟨u,e,h⟩:=h
 grind [GX]
def IT(hs:aL U H F w ob n){D:aI}{m:UH}{v:Value}(h:EV ob D=aa m)(hd:aH H F w D v):(v= .map ae/\m.l=[])\/∃b es clock,v= .map (aa b)/\w.heap[b]? =aa (.map es clock)/\Stamped es clock/\nl H F w m.K m.agg m.V es.toList m.l:=by
 unfold EV at h;split at h
 .cases h;exact AF hd.inv
 .rename_i o;obtain⟨cs,⟨u,hu,_,e⟩,_,h3⟩:=hd;rw[h3 rfl]at e
  obtain rfl:v=u:=by simpa using e
  split at h
  .rename_i s T K agg V l cJ;cases h;obtain⟨v',dZ,cT⟩:=hs.obj _ _ _ cJ;rw[hu]at dZ;obtain rfl:=aja dZ;obtain⟨b,es,clock,e,h1,h2,h3⟩:=cT.ok
   grind
  .rename_i s T K agg V l cJ;cases h;obtain⟨v',dZ,cT⟩:=hs.obj _ _ _ cJ;rw[hu]at dZ;obtain rfl:=aja dZ;exact AF cT.ok
  .rename_i s T K E r l cJ;cases h;obtain⟨v',dZ,cT⟩:=hs.obj _ _ _ cJ;rw[hu]at dZ;obtain rfl:=aja dZ;exact AF (K:=K) (agg:=ag) (V:= .slice r) cT.ok
  .cases h
 .cases h
noncomputable def pz(T:bj P)(ob:Nat->Option (Nat×Th))(t:TypeId)(ok:Bool)(M X:aI)(k:eD->Option R):Option R:=
 match find T.und t with
 |some (.map kt vt)=>match EV ob M with
  |some ⟨K,agg,V,l⟩=>match find T.zer vt with
   |some (mL,V')=>bif wE T kt K&&(bif agg then mL else !mL)&&V'.beq V&&(agg||ajf V.size 1)then(match asKey ob K X with
    |some x=>bif ok then k {dst:= .tup [(agg, .leaf V ((bn K l x).getD V.zero)),(ag, .leaf .bool (bn K l x).isSome)]}
     else k {dst:= .val agg (.leaf V ((bn K l x).getD V.zero))}
    |none=>ae)else ae
   |none=>ae
  |none=>ae
 |_=>ae
def wF(T:bj P){t:TypeId}{ok:Bool}{M X:aI}{m x:Operand}{k:eD->Option R}{q:R}(h:pz T ob t ok M X k=aa q)(hs:aL U H F w ob n)(hm:aH H F w M (ev ρ m))(hx:aH H F w X (ev ρ x)):
 ∃e,k e=aa q/\cO P U H F w ρ ob n ⟨aa d, .lookup t m x ok,ty,pos,aft,ae⟩ e:=by
 unfold pz at h;split at h
 case h_2=>cases h
 rename_i kt vt hu;split at h
 case h_2=>cases h
 rename_i K agg V l IL;split at h
 case h_2=>cases h
 rename_i mL V' hz;obtain⟨hc,h'⟩:=be h;clear h;obtain⟨hc,UI⟩:=de hc;obtain⟨hc,Oe⟩:=de hc;obtain⟨yV,yc⟩:=de hc
 have yu:agg=mL:=by cases agg<;>cases mL<;>simp_all
 subst yu;obtain rfl:=Row.eq_of_beq Oe;split at h'
 case h_2=>cases h'
 rename_i a ha;obtain⟨dd,hd,hK,hR⟩:=sT (F:=F) (w:=w) T yV;have ua:=hR _ _ (sU hs ha hx)
 have kS:agg=ag->V'.size=1:=λe=>by simp_all
 obtain⟨z,wu,GS⟩:=Lu (w:=w) (H:=H) (F:=F) (T.zer_ok _ _ _ hz) kS
 have main:∃v,(Instr.lookup t (ev ρ m) (ev ρ x) ok).run P w= .ok (if ok then .tuple #[v, .bool (bn K l a).isSome]else v) w/\aV H F w agg (.leaf V' ((bn K l a).getD V'.zero)) v:=by
  have T5:=hK _ _ ua;have AB:=T.und_ok _ _ hu
  rcases IT hs IL hm with⟨sJ,hl⟩|⟨r,es,clock,sJ,hh,gD,IS⟩
  .dsimp only at hl;subst hl;refine⟨z,?_,GS⟩;rw[sJ];have hf:=akw (w:=w) hd (show akh dd (ev ρ x) [] 0=aa ae from rfl)
   cases ok<;>simp[Instr.lookup,run_underlying AB,akr hd T5,hf,wu,bn,ajz]
  .dsimp only at IS
   rcases tZ hK ua 0 IS with⟨a1,a2,_⟩|⟨j,e,y,a1,_,_,a4,a5,_⟩
   .refine⟨z,?_,by rw[a2];exact GS⟩;rw[sJ,a2];simp[Instr.lookup,run_underlying AB,aku hh,akr hd T5,akw hd a1,wu,ajz]
   .refine⟨e.val,?_,by rw[a4];exact a5⟩;rw[sJ,a4];simp[Instr.lookup,run_underlying AB,aku hh,akr hd T5,akw hd a1,ajz]
 obtain⟨v,bJ,sL⟩:=main
 cases ok with
 |true=>
  refine⟨_,h',cn hs (v:= .tuple #[v, .bool (bn K l a).isSome]) (by simp[execOp,bJ,ajz]) ⟨[v, .bool (bn K l a).isSome],rfl,_,_,rfl,sL,_,_,rfl,aV.ig ..,rfl⟩⟩
 |false=>exact⟨_,h',cn hs (v:=v) (by simp[execOp,bJ,ajz]) sL⟩
def me(s:ByteArray)(i:Int):Option Int:=(if 0<=i then s[i.toNat]? else ae).map λb=>(b.toNat:Int)
def Cx{e:Row}:{m:Nat}->{r:Row}->{x:r.den}->{l:List e.den}->{cs:List Value}->na m r x e=aa l->cI F w r cs x->l.length=m/\cs.length=m*e.size/\∀i(h:i<l.length),cI F w e ((cs.drop (i*e.size)).take e.size) l[i]
 |0,r,x,l,cs,h,_=>by unfold na at h;cases h
 |1,r,x,l,cs,h,ha=>by
  unfold na at h;split at h
  case isFalse=>cases h
  rename_i hb;obtain rfl:=Row.eq_of_beq hb;obtain rfl:=aja h;have hl:=ha.length;refine⟨rfl,by simp[hl],λi hi=>?_⟩
  obtain rfl:i=0:=by simp at hi;omega
  rw[Nat.zero_mul,List.drop_zero,<-hl,ajn];exact ha
 |m+2, .pair a b,x,l,cs,h,ha=>by
  unfold na at h;split at h
  case isFalse=>cases h
  rename_i hb;obtain rfl:=Row.eq_of_beq hb;split at h
  case h_2=>cases h
  rename_i l' hl;obtain rfl:=aja h;obtain⟨c1,c2,rfl,h1,h2⟩:=ha;have NH:=h1.length;obtain⟨g1,g2,g3⟩:=Cx hl h2;refine⟨by simp[g1],by grind,λi hi=>?_⟩
  cases i with
  |zero=>
   rw[Nat.zero_mul,List.drop_zero,List.take_append_of_le_length (by omega),<-NH,ajn];exact h1
  |succ i=>
   grind [List.drop_drop,List.drop_left]
 |m+2, .int _,_,_,_,h,_=>by unfold na at h;cases h
 |m+2, .bool,_,_,_,h,_=>by unfold na at h;cases h
 |m+2, .str,_,_,_,h,_=>by unfold na at h;cases h
 |m+2, .slice _,_,_,_,h,_=>by unfold na at h;cases h
 |m+2, .lZ,_,_,_,h,_=>by unfold na at h;cases h
 |m+2, .nul _,_,_,_,h,_=>by unfold na at h;cases h
 |m+2, .map ..,_,_,_,h,_=>by unfold na at h;cases h
def q6(T:bj P)(ob:Nat->Option (Nat×Th))(t:TypeId)(D:aI)(i:Int)(k:eD->Option R):Option R:=
 match find T.und t with
 |some .str=>match Cb D with
  |some s=>(me s i).bind λc=>k {dst:=np .u8 c}
  |none=>ae
 |some (.array m e)=>match find T.row t with
  |some r=>match find T.row e with
   |some re=>match find T.und e with
    |some kk=>match D with
     | .val af tr=>match flat ob r tr with
       |some x=>match na m r x re with
        |some l=>bif mi kk||ajf re.size 1 then(idx l i).bind λy=>k {dst:= .val (mi kk) (.leaf re y)}else ae
        |none=>ae
       |none=>ae
     |_=>ae
    |none=>ae
   |none=>ae
  |none=>ae
 |_=>ae
def EW(T:bj P){t:TypeId}{D:aI}{x y:Operand}{kd:IntKind}{i:Int}{k:eD->Option R}{q:R}(h:q6 T ob t D i k=aa q)(hs:aL U H F w ob n)(hx:aH H F w D (ev ρ x))(hy:ev ρ y= .int kd i):
 ∃e,k e=aa q/\cO P U H F w ρ ob n ⟨aa d, .index t x y,ty,pos,aft,ae⟩ e:=by
 unfold q6 at h;split at h
 .rename_i hu;have hu:=T.und_ok _ _ hu;split at h
  case h_2=>cases h
  rename_i s hS;obtain⟨c,hc,hk⟩:=bind_some h;have hv:=wm hS hx;unfold me at hc;obtain⟨b,hb,rfl⟩:=Option.map_eq_some_iff.1 hc;refine⟨_,hk,cn hs (v:= .int .u8 b.toNat) ?_ (aV.ku ..)⟩;have AB:P.underlying t=aa .string:=hu;simp[execOp,Instr.index,asIntOf,run_underlying AB,hv,hy,hb]
 .rename_i m e hu;have hu:P.underlying t=aa (.array m e):=T.und_ok _ _ hu;split at h
  case h_2=>cases h
  rename_i r hr;split at h
  case h_2=>cases h
  rename_i re UF;split at h
  case h_2=>cases h
  rename_i kk Ld;split at h
  case h_2=>cases h
  rename_i tr;split at h
  case h_2=>cases h
  rename_i z hz;split at h
  case h_2=>cases h
  rename_i l hl;obtain⟨hag,h'⟩:=be h;clear h;obtain⟨a,ha,hk⟩:=bind_some h';obtain⟨cs,hh,hv,_⟩:=hx;rw[cond_true]at hv;obtain⟨g1,g2,g3⟩:=Cx hl (jL hs hz hh);obtain⟨j,hj,aG,rfl⟩:=iK ha;obtain⟨ti,z0,h1,_,_,h4,_⟩:=T.row_ok _ _ UF;obtain⟨dd,yd,ye⟩:=(T.und_ok _ _ Ld).agg;have yv:=g3 j aG
  have kS:(j+1)*re.size<=cs.length:=by rw[g2];exact ajq _ (by omega)
  rw[akq]at kS;refine⟨_,hk,?_⟩
  cases yu:mi kk with
  |true=>
   refine cn hs (v:= .agg ((cs.drop (j*re.size)).take re.size).toArray) ?_ ⟨_,yv,rfl,by simp⟩;subst hj;simp[execOp,Instr.index,asIntOf,run_underlying hu,hv,hy,show j<m by omega,part,ajw,fN yd,ye,yu,sizeOf,typeInfo,h1,h4,List.extract_eq_take_drop]
  |false=>
   rw[yu,Bool.false_or]at hag;have l4:=beq_true hag;have hlen:=yv.length;rw[l4,Nat.mul_one]at yv kS;rw[l4]at hlen
   obtain⟨v,zb⟩:∃v,(cs.drop j).take 1=[v]:=by
    match hq:(cs.drop j).take 1,wG:((cs.drop j).take 1).length with
    |[v],_=>exact⟨v,rfl⟩
    |[],_=>rw[Nat.mul_one,hq]at hlen;cases hlen
    |_::_::_,_=>rw[Nat.mul_one,hq]at hlen;cases hlen
   rw[zb]at yv
   have N0:cs[j]? =aa v:=by
    have:(cs.drop j)[0]? =aa v:=by
     have h0:((cs.drop j).take 1)[0]? =aa v:=by rw[zb];rfl
     rwa [List.getElem?_take_of_lt (by omega)]at h0
    simpa using this
   refine cn hs (v:=v) ?_ (aV.mK yv);subst hj;simp[execOp,Instr.index,asIntOf,run_underlying hu,hv,hy,show j<m by omega,part,ajw,fN yd,ye,yu,sizeOf,typeInfo,h1,h4,l4,N0]
 .cases h
end
end
section
def IU(T:TypeId):(e:DR)->List e.row.den->Th
 | .leaf r,y=> .own T r y
 | .sl T' e,y=> .deep T (.sl T' e) y ae
 | .pair a b,y=> .deep T (.pair a b) y ae
section
variable {P:Program} {ρ:Nat->Value} {w w':World} {H H':aK} {F F':Nat->Prop} {U:Nat->Prop} {ob:Nat->Option (Nat×Th)} {n:Nat} {R:Type}
variable {op:Op} {ty:TypeId} {pos:String} {aft:Array Edge} {d:Nat}
def wH(T:TypeId)(e:DR)(y:List e.row.den):(IU T e y).base=IU T e y:=by cases e<;>rfl
def uc{T:TypeId}{e:DR}{u:Value}{y:List e.row.den}{A:Nat->Prop}(h:lr F w (.sl T e) u y A):kf H F w A u (IU T e y)/\(∀k,fp A u (IU T e y) k->A k)/\u.oneCell'=af:=by
 obtain⟨lh,Ss,h1,h2,h3,h4⟩:=h;have l4:=h1.one
 cases e with
 |leaf r=>
  have hl:lh=y:=List.ext_getElem h2 λi a b=>(h3 i a b).1
  subst hl;exact⟨h1,λk hk=>h4.bH k hk,l4⟩
 |sl T' e=>exact⟨⟨lh,Ss,h1,h2,h3,h4⟩,λk hk=>hk,l4⟩
 |pair a b=>exact⟨⟨lh,Ss,h1,h2,h3,h4⟩,λk hk=>hk,l4⟩
def wI{T:TypeId}{e:DR}{u:Value}{y:List e.row.den}{A:Nat->Prop}(h:kf H F w A u (IU T e y)):lr F w (.sl T e) u y (λk=>fp A u (IU T e y) k):=by
 cases e with
 |leaf r=>
  have h':l5 F w T r u y:=h;refine⟨y,λ_ _=>False,h',rfl,λi a b=>⟨rfl,λ_ h=>h⟩,⟨λk=>?_,λ_ _ _ _ _ _ h=>h.elim,λ_ _ _ h=>h.elim⟩⟩
  show bH u k↔_
  simp
 |sl T' e=>exact h
 |pair a b=>exact h
def vQ{d:DR}{r:Row}(q:gL d (.leaf r)){x':d.low.den}{x:d.row.den}{S:Nat->Prop}(h:lr F w d x' x S):q.lo.get x'=q.hi.get x:=by
 obtain⟨A,B,h1,_⟩:=h.out q;exact h1.1
def wJ:{d e:DR}->{T:TypeId}->{r:Row}->(p:gL d (.sl T e))->(q:gL d (.leaf r))->{x':d.low.den}->{x:d.row.den}->{S:Nat->Prop}->oG F w p x' x S->q.lo.get x'=q.hi.get x
 |_,_,_,_, .fst p, .fst q,_,_,_,h=>by obtain⟨A,B,h1,_⟩:=h;exact wJ p q h1
 |_,_,_,_, .fst p, .snd q,_,_,_,h=>by obtain⟨A,B,_,h2,_⟩:=h;exact vQ q h2
 |_,_,_,_, .snd p, .fst q,_,_,_,h=>by obtain⟨A,B,h1,_⟩:=h;exact vQ q h1
 |_,_,_,_, .snd p, .snd q,_,_,_,h=>by obtain⟨A,B,_,h2,_⟩:=h;exact wJ p q h2
def Lv{d:DR}{h:Option wh}{i:Nat}{x':d.low.den}{x:d.row.den}{S:Nat->Prop}{r:Row}(q:gL d (.leaf r))(hr:px H F w d h i x' x S):q.lo.get x'=q.hi.get x:=by
 cases h with
 |none=>exact vQ q hr
 |some h=>
  by_cases hi:h.i=(i:Int)
  .obtain⟨T',e,p,_,h2,_⟩:=hr.2 hi;exact wJ p q h2
  .exact vQ q (hr.1 hi)
def sW{d:DR}{r:Row}(q:gL d (.leaf r)){x':d.low.den}{x:d.row.den}{S:Nat->Prop}(y:r.den)(h:lr F w d x' x S):lr F w d (q.lo.set x' y) (q.hi.set x y) S:=by
 obtain⟨A,B,h1,h2,h3⟩:=h.out q;exact h2.put q (y':=y) (A:=A) ⟨rfl,h1.2⟩ h3
theorem ud:{d e:DR}->{T:TypeId}->{r:Row}->(p:gL d (.sl T e))->(q:gL d (.leaf r))->{x':d.low.den}->{x:d.row.den}->{S:Nat->Prop}->(y:r.den)->oG F w p x' x S->oG F w p (q.lo.set x' y) (q.hi.set x y) S/\p.lo.get (q.lo.set x' y)=p.lo.get x'
 |_,_,_,_, .fst p, .fst q,_,_,_,y,h=>by
  obtain⟨A,B,h1,h2,h3⟩:=h;obtain⟨g1,g2⟩:=ud p q y h1;exact⟨⟨A,B,g1,h2,h3⟩,g2⟩
 |_,_,_,_, .fst p, .snd q,_,_,_,y,h=>by
  obtain⟨A,B,h1,h2,h3⟩:=h;exact⟨⟨A,B,h1,sW q y h2,h3⟩,rfl⟩
 |_,_,_,_, .snd p, .fst q,_,_,_,y,h=>by
  obtain⟨A,B,h1,h2,h3⟩:=h;exact⟨⟨A,B,sW q y h1,h2,h3⟩,rfl⟩
 |_,_,_,_, .snd p, .snd q,_,_,_,y,h=>by
  obtain⟨A,B,h1,h2,h3⟩:=h;obtain⟨g1,g2⟩:=ud p q y h2;exact⟨⟨A,B,h1,g1,h3⟩,g2⟩
def IV{d:DR}{h:Option wh}{i:Nat}{x':d.low.den}{x:d.row.den}{S:Nat->Prop}{r:Row}(q:gL d (.leaf r))(y:r.den)(hr:px H F w d h i x' x S):px H F w d h i (q.lo.set x' y) (q.hi.set x y) S:=by
 cases h with
 |none=>exact sW q y hr
 |some h=>
  refine⟨λhi=>sW q y (hr.1 hi),λhi=>?_⟩;obtain⟨T',e,p,h1,h2,h3⟩:=hr.2 hi
  grind [ud]
def aL.low(hs:aL U H F w ob n){o s:Nat}{T:TypeId}{dr:DR}{l:List dr.row.den}{h:Option wh}(ho:ob o=aa (s, .deep T dr l h)){v:Value}(hv:H.val o=aa v):
 ∃(lh:List dr.low.den)(Ss:Nat->Nat->Prop),Own 0 F w T dr.low v lh/\lh.length=l.length/\(∀i(h1:i<lh.length)(h2:i<l.length),px H F w dr h i lh[i] l[i] (Ss i))/\oQ Ss l.length (bH v) (H.sub s):=by
 obtain⟨v',dZ,cT⟩:=hs.obj _ _ _ ho;rw[hv]at dZ;obtain rfl:=aja dZ;obtain⟨lh,Ss,h1,h2,h3,h4⟩:=cT.ok;exact⟨lh,Ss,⟨λk hk=>cT.no k (h4.bH k hk),h1⟩,h2,h3,h4⟩
def Path.AG:{r s:Row}->(p:Path r s)->(x:r.den)->(y:s.den)->p.get (p.set x y)=y
 |_,_, .here,_,_=>rfl
 |_,_, .fst p,x,y=>Path.AG p x.1 y
 |_,_, .snd p,x,y=>Path.AG p x.2 y
def oG.Lx:{d e:DR}->(p:gL d e)->{x':d.low.den}->{x:d.row.den}->{S:Nat->Prop}->(y':e.low.den)->oG F w p x' x S->oG F w p (p.lo.set x' y') x S
 |_,_, .here,_,_,_,_,h=>h
 |_,_, .fst p,_,_,_,y',h=>by
  obtain⟨A,B,h1,h2,h3⟩:=h;exact⟨A,B,h1.Lx p y',h2,h3⟩
 |_,_, .snd p,_,_,_,y',h=>by
  obtain⟨A,B,h1,h2,h3⟩:=h;exact⟨A,B,h1,h2.Lx p y',h3⟩
def rZ(m:Nat->Prop)(Ss:Nat->Nat->Prop)(c:Nat)(k:Nat):Prop:=m k\/∃i,i<c/\Ss i k
def oQ.less{Ss:Nat->Nat->Prop}{c:Nat}{m S:Nat->Prop}(h:oQ Ss c m S)(j:Nat){B:Nat->Prop}(hB:∀k,B k->Ss j k):oQ (λi=>if i=j then B else Ss i) c m (rZ m (λi=>if i=j then B else Ss i) c):=by
 have sub:∀i k,(if i=j then B else Ss i) k->Ss i k:=by
  intro i k hk;by_cases e:i=j
  .grind
  .rwa [ai e]at hk
 exact⟨λk=>Iff.rfl,λi i' k h1 h2 dw h3 h4=>h.two i i' k h1 h2 dw (sub i k h3) (sub i' k h4),λi k h1 h2=>h.out i k h1 (sub i k h2)⟩
def oQ.Cy{Ss:Nat->Nat->Prop}{c:Nat}{m S:Nat->Prop}(h:oQ Ss c m S)(j:Nat){B:Nat->Prop}(hB:∀k,B k->Ss j k):∀k,rZ m (λi=>if i=j then B else Ss i) c k->S k:=by
 rintro k (hk|⟨i,hi,hk⟩)
 .exact h.bH k hk
 .by_cases e:i=j
  .subst e;rw[aj rfl]at hk;exact h.part hi k (hB k hk)
  .rw[ai e]at hk;exact h.part hi k hk
def Of{α β:Type}{rel:Nat->α->β->(Nat->Prop)->Prop}{lh:List α}{l:List β}{Ss:Nat->Nat->Prop}{j:Nat}{x':α}{x:β}{B:Nat->Prop}(h:∀i(h1:i<lh.length)(h2:i<l.length),i≠j->rel i lh[i] l[i] (Ss i))(hj:rel j x' x B):
 ∀i(h1:i<(lh.set j x').length)(h2:i<(l.set j x).length),rel i (lh.set j x')[i] (l.set j x)[i] ((λi=>if i=j then B else Ss i) i):=by
 grind
def aK.vR{H:aK}{n:Nat}{S:Nat->Prop}{t:Th}(h:H.con n=ae):H.le ((H.fK n S).bU n t):=(aK.IF h).trans (aK.gN h)
def mY.AH(hs:aL U H F w ob n){o s:Nat}{t t':Th}{v0:Value}(ho:ob o=aa (s,t))(hv:H.val o=aa v0)(hb:t'.base=t'){eat:List Nat}(hoe:o∈eat)(S':Nat->Prop)(NK:∀k,fp S' v0 t' k->cD H ob eat k){D:aI}{v:Value}
 (bY:Ext (cD H ob eat) w w')(sL:kf ((H.fK n S').bU n t') F w' S' v0 t')(hd:aH ((H.fK n S').bU n t') F w' D v):ma H F w ob n {dst:=D,eat:=eat,make:=[(o,(n,t'))]} v w':=by
 obtain⟨v1,vD,cT⟩:=hs.obj _ _ _ ho;rw[hv]at vD;obtain rfl:=aja vD;have hf:=hs.fresh n (ajh _) (by omega)
 have iL:((H.fK n S').bU n t').sub n=S':=by simp[aK.bU,aK.fK]
 refine⟨(H.fK n S').bU n t',F,⟨aK.vR hf.2,bY,λ_ h=>h,λ_ h=> .inl h,λb hb=>ajA (hs.lt b hb) bY.size⟩,λm hm=>?_,hd,⟨λo' s' q hq=>?_,λo1 o2 s1 s2 q1 q2 u1 u2 dw h1 h2=>?_⟩,λo' h=>?_⟩
 .refine⟨id,λh=>?_⟩;simp[aK.bU,aK.fK,show m≠n from by omega,h]
 .obtain⟨rfl,e⟩:=ee hq;obtain⟨rfl,rfl⟩:=akA e;refine⟨v0,hv,cT.one,by simp[aK.bU,hb],by rw[iL];exact sL,λk hk=>?_⟩;rw[iL]at hk;have:=NK k hk;exact⟨hs.jt k this,ajA (hs.wi k this) bY.size, .inr this⟩
 all_goals grind [ee,ajE]
def r6(T:bj P)(ob:Nat->Option (Nat×Th))(n:Nat)(t:TypeId)(D:aI)(k:eD->Option R):Option R:=
 match find T.und t with
 |none=>ae
 |some kk=>match D with
  | .dlm o d0 i p off=>match ob o with
    |some (_, .deep T0 dr l h)=>bif d0.beq dr then(match dr.path p with
     |some ⟨.leaf r,q⟩=>bif ajf q.lo.off off&&nK T t kk r.size then(idx l i).bind λx=>k {dst:= .val (mi kk) (.leaf r (q.hi.get x))}else ae
     |some ⟨.sl T' e',q⟩=>bif ajf q.lo.off off&&nK T t kk 1&& !mi kk then(match h with
       |none=>(idx l i).bind λx=>k {dst:= .val ag (.own n),eat:=[o],make:=[(o,(n, .deep T0 dr l (aa ⟨i,p,n,n+1⟩))),(n,(n+1,IU T' e' (q.hi.get x)))]}
       |some hh=>bif py hh.p p then(if decide (hh.i=i)=af then(idx l i).bind λ_=>k {dst:= .val ag (.own hh.o)}else ae)else ae)else ae
     |_=>ae)else ae
    |_=>ae
  |_=>ae
def Cz(hs:aL U H F w ob n){o s:Nat}{T0 T':TypeId}{dr e':DR}{l:List dr.row.den}{i:Int}{p:List Bool}{q:gL dr (.sl T' e')}(hq:dr.path p=aa ⟨_,q⟩)(cJ:ob o=aa (s, .deep T0 dr l ae)){v:Value}(hv:H.val o=aa v)
 {j:Nat}(T6:i=(j:Nat))(hj:j<l.length){lh:List dr.low.den}{Ss:Nat->Nat->Prop}(hm:l5 F w T0 dr.low v lh)(hlen:lh.length=l.length)(wK:∀i(h1:i<lh.length)(h2:i<l.length),px H F w dr ae i lh[i] l[i] (Ss i))(dY:oQ Ss l.length (bH v) (H.sub s)):
 ma H F w ob n {dst:= .val ag (.own n),eat:=[o],make:=[(o,(n, .deep T0 dr l (aa ⟨i,p,n,n+1⟩))),(n,(n+1,IU T' e' (q.hi.get l[j])))]} (q.lo.get (lh[j]'(by omega))) w:=by
 have Qe:j<lh.length:=by omega
 obtain⟨v1,vD,cT⟩:=hs.obj _ _ _ cJ;rw[hv]at vD;obtain rfl:=aja vD;obtain⟨A,B,hA,hB,h2⟩:=lr.out q (wK j Qe hj);obtain⟨_,m2,m3⟩:=uc (H:=H) hA;have T7:∀k,B k->Ss j k:=h2.right;obtain⟨f1,f2⟩:=hs.fresh n (ajh _) (by omega);obtain⟨f3,f4⟩:=hs.fresh (n+1) (by omega) (by omega)
 have ND:o≠n:=λe=>by grind
 generalize XN:Th.deep T0 dr l (aa ⟨i,p,n,n+1⟩)=t1;generalize UJ:IU T' e' (q.hi.get l[j])=t2;generalize hu:q.lo.get lh[j]=u;generalize YO:rZ (bH v) (λi=>if i=j then B else Ss i) l.length=So
 have YP:∀k,So k->H.sub s k:=by rw[<-YO];exact dY.Cy j T7
 have Og:∀k,A k->H.sub s k:=λk hk=>dY.part hj k (h2.left k hk)
 have hAo:∀k,So k->¬A k:=by
  rw[<-YO]
  rintro k (hk|⟨i',qS,hk⟩) ha
  .exact dY.out j k hj (h2.left k ha) hk
  .by_cases e:i'=j
   .subst e;rw[aj rfl]at hk;exact h2.off k ha hk
   .rw[ai e]at hk;exact dY.two i' j k qS hj e hk (h2.left k ha)
 let H1:aK:=⟨λm=>if m=n then aa u else H.val m,λm=>if m=n then aa t1 else if m=n+1 then aa t2 else H.con m,λm=>if m=n then So else if m=n+1 then A else H.sub m⟩
 have hle:H.le H1:=by
  refine⟨λo v ho=>?_,λs t gD=>?_,λs t gD=>?_⟩
  .grind
  .grind
  .grind
 have AI:H1.val n=aa u:=by simp[H1]
 have mj:∀k,H.sub s k->cD H ob [o] k:=λk hk=>⟨o,by simp,s,_,v,cJ,hv,hk⟩
 have l4:u.oneCell'=af:=by rw[<-hu];exact m3
 refine⟨H1,F,⟨hle,⟨rfl,rfl,rfl,ajh _,λ_ _ _=>rfl⟩,λ_ h=>h,λ_ h=> .inl h,hs.lt⟩,λm hm=>?_,n9 AI l4,⟨λo' s' t hf=>?_,λo1 o2 s1 s2 q1 q2 u1 u2 dw g1 g2 e1 e2 k hk iU=>?_⟩,λo' jY=>?_⟩
 .grind
 .rw[aZ]at hf;split at hf
  .rename_i e;subst e;simp only[ajj,Prod.mk.injEq]at hf;obtain⟨rfl,rfl⟩:=hf
   have Ev:H1.sub n=So:=by simp[H1]
   refine⟨v,hle.val _ _ hv,cT.one,?_,?_,λk hk=>?_⟩
   .rw[<-XN];simp[H1,Th.base,XN]
   .rw[Ev,<-XN,<-YO];refine⟨lh,_,hm,hlen,λi' a b=>?_,dY.less j T7⟩;have hr:lr F w dr lh[i'] l[i'] (Ss i'):=wK i' a b;refine⟨λhi=>?_,λhi=>?_⟩
    all_goals grind
   .rw[Ev,<-XN]at hk;have hk:So k:=hk;have:=YP k hk;exact⟨cT.no k this,cT.lt k this, .inr (mj k this)⟩
  .obtain⟨e0,e⟩:=ee hf;obtain⟨rfl,rfl⟩:=akA e;rw[e0]
   have Ev:H1.sub (n+1)=A:=by simp[H1]
   obtain⟨m1,m2',_⟩:=uc (H:=H1) hA;rw[UJ,hu]at m1 m2';refine⟨u,AI,l4,?_,by rw[Ev];exact m1,λk hk=>?_⟩
   .rw[<-UJ,wH,UJ];simp[H1]
   .rw[Ev]at hk;have:=Og k (m2' k hk);exact⟨cT.no k this,cT.lt k this, .inr (mj k this)⟩
 all_goals grind [fp,find,aZ]
def AJ{α β:Type}{l:List α}{lh:List β}(h:lh.length=l.length){i:Int}{x:α}(hi:idx l i=aa x):∃j,i=(j:Nat)/\∃(h1:j<lh.length)(h2:j<l.length),x=l[j]/\idx lh i=aa lh[j]:=by
 grind [idx]
def IW(T:bj P){t:TypeId}{D:aI}{x:Operand}{k:eD->Option R}{q:R}(h:r6 T ob n t D k=aa q)(hs:aL U H F w ob n)(hx:aH H F w D (ev ρ x)):
 ∃e,k e=aa q/\cO P U H F w ρ ob n ⟨aa d, .load t x,ty,pos,aft,ae⟩ e:=by
 unfold r6 at h;split at h
 .cases h
 rename_i kk hu;split at h
 case h_2=>cases h
 rename_i o d0 i p off;split at h
 case h_2=>cases h
 rename_i s T0 dr l hh cJ;obtain⟨hd,h'⟩:=be h;clear h;obtain rfl:=DR.eq_of_beq hd;obtain⟨g,o0,qq,m,cap,e1,e2,e5⟩:=hx;obtain⟨lh,Ss,eh,hlen,wK,dY⟩:=hs.low cJ e1;split at h'
 .rename_i r za AA;obtain⟨h1,h2⟩:=be h';obtain⟨h1,h3⟩:=de h1;obtain rfl:=beq_true h1;obtain⟨a,ha,hk⟩:=bind_some h2;obtain⟨j,hj,g1,g2,rfl,qb⟩:=AJ hlen ha;have ym:=(eh.at rfl e2 qb).path za.lo _ rfl;rw[Lv za (wK j g1 g2)]at ym;obtain⟨es,hl,N5,hr⟩:=ym;exact⟨_,hk,oS T hu e5 hs (s:= .leaf r _) hr N5 (lf T h3)⟩
 .rename_i T' e' za AA;obtain⟨h1,h2⟩:=be h';obtain⟨h1,h4⟩:=de h1;obtain⟨h1,h3⟩:=de h1;obtain rfl:=beq_true h1
  have yu:mi kk=ag:=by simpa using h4
  obtain⟨dd,yd,ye⟩:=(T.und_ok _ _ hu).agg
  have run:∀{j:Nat}(g1:j<lh.length),idx lh i=aa lh[j]->(execOp (ev ρ) ⟨aa d, .load t x,ty,pos,aft,ae⟩).run P w= .ok (.value (za.lo.get lh[j])) w:=by
   intro j g1 qb;have ym:=(eh.at rfl e2 qb).path za.lo _ rfl;obtain⟨es,hl,N5,hr,_⟩:=ym;rw[hr]at N5;exact yS yd (ye.trans yu) e5 (N5 0 _ rfl)
  split at h2
  .obtain⟨a,ha,hk⟩:=bind_some h2;obtain⟨j,hj,g1,g2,rfl,qb⟩:=AJ hlen ha;exact⟨_,hk,cA.val (run g1 qb) (Cz hs AA cJ e1 hj g2 eh.2 hlen wK dY)⟩
  .rename_i hh;obtain⟨hp,h3⟩:=be h2;have hp:=rX hp;split at h3
   case isFalse=>cases h3
   rename_i hi;have hi:hh.i=i:=an hi;obtain⟨a,ha,hk⟩:=bind_some h3;obtain⟨j,hj,g1,g2,rfl,qb⟩:=AJ hlen ha;obtain⟨T'',e'',q'',k1,_,k3⟩:=(wK j g1 g2).2 (hi.trans hj);rw[hp,AA]at k1;cases k1;refine⟨_,hk,cn hs (run g1 qb) (n9 k3 ?_)⟩;have ym:=(eh.at rfl e2 qb).path za.lo _ rfl;obtain⟨es,_,_,_,A,m',c,AB⟩:=ym;rw[AB];rfl
 .cases h'
def Rn(T:TypeId):(e:DR)->Th->Option (List e.row.den)
 | .leaf r, .own T1 r1 y=>bif ajf T1 T then(if h:r1.beq r=af then aa (jZ (r:= .slice r1) (s:= .slice r) (ay Row.slice (Row.eq_of_beq h)) y)else ae)else ae
 | .sl T2 e2, .deep T1 (.sl T3 e3) y ae=>bif ajf T1 T then(if h:(DR.sl T3 e3).beq (.sl T2 e2)=af then aa (DR.eq_of_beq h▸y)else ae)else ae
 | .pair a b, .deep T1 (.pair a1 b1) y ae=>bif ajf T1 T then(if h:(DR.pair a1 b1).beq (.pair a b)=af then aa (DR.eq_of_beq h▸y)else ae)else ae
 |_,_=>ae
def wL{T:TypeId}{e:DR}{t:Th}{y:List e.row.den}(h:Rn T e t=aa y):t=IU T e y:=by
 unfold Rn at h;split at h
 .obtain⟨h1,h2⟩:=be h;split at h2
  .rename_i hb;obtain rfl:=Row.eq_of_beq hb;obtain rfl:=aja h2;rw[beq_true h1];rfl
  .cases h2
 .obtain⟨h1,h2⟩:=be h;split at h2
  .rename_i hb;cases DR.eq_of_beq hb;obtain rfl:=aja h2;rw[beq_true h1];rfl
  .cases h2
 .obtain⟨h1,h2⟩:=be h;split at h2
  .rename_i hb;cases DR.eq_of_beq hb;obtain rfl:=aja h2;rw[beq_true h1];rfl
  .cases h2
 .cases h
def AK(h:Option wh)(i:Int)(p:List Bool):Bool:=
 match h with
 |none=>af
 |some h=>py h.p p&&decide (h.i=i)
def CA{h:Option wh}{i:Int}{p:List Bool}(hh:AK h i p=af){dr e:DR}{T:TypeId}{q:gL dr (.sl T e)}(hq:dr.path p=aa ⟨_,q⟩){j:Nat}(hj:i=(j:Nat)){x':dr.low.den}{x:dr.row.den}{S:Nat->Prop}(hr:px H F w dr h j x' x S):
 ∃B,(∀k,B k->S k)/\oG F w q x' x B:=by
 cases h with
 |none=>
  obtain⟨A,B,_,h2,h3⟩:=lr.out q (show lr F w dr x' x S from hr);exact⟨B,h3.right,h2⟩
 |some h=>
  have h':(py h.p p&&decide (h.i=i))=af:=hh;obtain⟨h1,h2⟩:=de h';obtain⟨T',e',q',k1,k2,_⟩:=hr.2 ((an h2).trans hj)
  grind [rX]
def wM{h:Option wh}{i:Int}{p:List Bool}(hh:AK h i p=af){dr:DR}{j:Nat}(hj:i≠(j:Nat)){x':dr.low.den}{x:dr.row.den}{S:Nat->Prop}(hr:px H F w dr h j x' x S):lr F w dr x' x S:=by
 cases h with
 |none=>exact hr
 |some h=>
  have h':(py h.p p&&decide (h.i=i))=af:=hh;obtain⟨h1,h2⟩:=de h';exact hr.1 (by grind)
end
end
end Go.Proofs.YtleifhfeahnocaaGreatDoor
section
open _root_.Option renaming none->ae,some->aa
open _root_.Bool renaming true->af
open _root_.Int renaming toNat_natCast->ajg
open _root_.Nat renaming beq->ajf,le_refl->ajh
open _root_.Option.some renaming inj->aja
open _root_.Go.Value renaming ownBlock->ajo
namespace Go.Proofs.YtleifhfeahnocaaGreatDoor
open Go Go.RowKit
section
variable {P:Program} {ρ:Nat->Value} {w w':World} {H H':aK} {F F':Nat->Prop} {U:Nat->Prop} {ob:Nat->Option (Nat×Th)} {n:Nat} {R:Type}
variable {op:Op} {ty:TypeId} {pos:String} {aft:Array Edge} {d:Nat}
noncomputable def q7(T:bj P)(ob:Nat->Option (Nat×Th))(n:Nat)(t:TypeId)(D V:aI)(k:eD->Option R):Option R:=
 match find T.row t with
 |none=>ae
 |some rt=>match V with
  | .val _ u=>match D with
    | .dlm o d0 i p off=>match ob o with
      |some (_, .deep T0 dr l h)=>bif d0.beq dr then(match dr.path p with
       |some ⟨.leaf r,q⟩=>bif ajf q.lo.off off&&ajf rt.size r.size then(match flat ob r u with
        |some y=>(idx l i).bind λx=>k {dst:= .dead,eat:=[o],make:=[(o,(n, .deep T0 dr (b8 l i (q.hi.set x y)) h))]}
        |none=>ae)else ae
       |some ⟨.sl T' e',q⟩=>bif ajf q.lo.off off&&ajf rt.size 1 then(match u with
        | .own o1=>match ob o1 with
          |some (_,t1)=>match Rn T' e' t1 with
           |some _=>if AK h i p=af then(idx l i).bind λ_=>k {dst:= .dead,eat:=[o],make:=[(o,(n, .deep T0 dr l (aa ⟨i,p,o1,n⟩)))]}else ae
           |none=>ae
          |none=>ae
        | .nil=>if AK h i p=af then(idx l i).bind λx=>k {dst:= .dead,eat:=[o],make:=[(o,(n, .deep T0 dr (b8 l i (q.hi.set x ([]:List e'.row.den))) ae))]}else ae
        |_=>ae)else ae
       |_=>ae)else ae
      |_=>ae
    |_=>ae
  |_=>ae
def r7(T:bj P){t:TypeId}{rt:Row}(Ll:find T.row t=aa rt){x y:Operand}{o s:Nat}{T0:TypeId}{dr e:DR}{i:Int}{l l':List dr.row.den}{h h':Option wh}{q:gL dr e}{g o0 qq m cap j:Nat}{u:e.low.den}{cs:List Value}{x1:dr.row.den}
 (hs:aL U H F w ob n)(cJ:ob o=aa (s, .deep T0 dr l h))(hv:H.val o=aa (.slice (aa ⟨g,o0,ae⟩) m cap))(hj:i=(j:Nat))(EX:j<l.length)(hx:ev ρ x= .pointer (aa ⟨g,o0+qq*dr.low.size+q.lo.off,ae⟩))(hqq:i=(qq:Nat))(hz:rt.size=e.low.size)
 (hr:cI F w e.low cs u)(zb:(ev ρ y).cells.toList=cs)(XO:l'=l.set j x1)
 (wK:∀{w':World}{H1:aK},H.le H1->Step F w F w'->∀{x':dr.low.den}{S:Nat->Prop},(∀k,S k->w'.heap[k]? =w.heap[k]?)->px H F w dr h j x' l[j] S->∃B,(∀k,B k->S k)/\px H1 F w' dr h' j (q.lo.set x' u) x1 B)
 (Oh:∀{H1:aK}{w':World}{i':Nat}{x':dr.low.den}{x:dr.row.den}{S:Nat->Prop},i'≠j->px H1 F w' dr h i' x' x S->px H1 F w' dr h' i' x' x S):
 cO P U H F w ρ ob n ⟨ae, .store t x y,ty,pos,aft,ae⟩ {dst:= .dead,eat:=[o],make:=[(o,(n, .deep T0 dr l' h'))]}:=by
 obtain⟨ti,z0,h1,_,_,h4,_⟩:=T.row_ok _ _ Ll;obtain⟨lh,Ss,eh,hlen,Qf,dY⟩:=hs.low cJ hv;obtain⟨v1,vD,cT⟩:=hs.obj _ _ _ cJ;rw[hv]at vD;obtain rfl:=aja vD
 have hjh:j<lh.length:=by omega
 obtain rfl:qq=j:=by omega
 obtain⟨cur,hh,hle,bY,hZ⟩:=eh.put rfl hjh hs.lt q.lo hr;generalize hw':w.setRow g (cur.toList.take (o0+qq*dr.low.size+q.lo.off)++cs++cur.toList.drop (o0+qq*dr.low.size+q.lo.off+cs.length)).toArray=w' at bY hZ;refine cA.unit (w':=w') (by rw[<-hw'];exact pw h1 (h4.trans (hz.trans hr.length.symm)) hx rfl zb hr.kD hh hle) ?_;have gD:Step F w F w':=Step.ext bY hs.lt eh.no
 have Oi:∀i',i'<l.length->∀k,Ss i' k->w'.heap[k]? =w.heap[k]? :=λi' qS k hk=>bY.block k (cT.lt k (dY.part qS k hk)) (dY.out i' k qS hk)
 have hf:=hs.fresh n (ajh _) (by omega)
 have mj:∀k,H.sub s k->cD H ob [o] k:=λk hk=>⟨o,by simp,s,_,_,cJ,hv,hk⟩
 obtain⟨B0,Kw,_⟩:=wK (w':=w') (H1:=H) (aK.le.refl H) gD (Oi qq EX) (Qf qq hjh EX)
 have main:∀{H1:aK},H.le H1->∃B,(∀k,B k->Ss qq k)/\px H1 F w' dr h' qq (q.lo.set lh[qq] u) x1 B:=(by grind)
 have UK:∃B,(∀k,B k->Ss qq k)/\∀{H1:aK},H.le H1->px H1 F w' dr h' qq (q.lo.set lh[qq] u) x1 B:=by
  obtain⟨B,b1,b2⟩:=main (aK.le.refl H);exact⟨B,b1,λOj=>b2.keep Oj (Step.refl F w') λ_ _=>rfl⟩
 obtain⟨B,b1,b2⟩:=UK;have hSs:∀k,rZ (bH (Value.slice (aa ⟨g,o0,ae⟩) m cap)) (λi=>if i=qq then B else Ss i) l.length k->H.sub s k:=dY.Cy qq b1;refine mY.AH (t':= .deep T0 dr l' h') hs cJ hv rfl (by simp) (rZ (bH (Value.slice (aa ⟨g,o0,ae⟩) m cap)) (λi=>if i=qq then B else Ss i) l.length) (λk hk=>mj k (hSs k hk)) ⟨bY.os,bY.tape,bY.output,bY.size,λk hk hn=>bY.block k hk λe=>hn (mj k (dY.bH k e))⟩ ?_ trivial;have Oj:=aK.vR (H:=H) (S:=rZ (bH (Value.slice (aa ⟨g,o0,ae⟩) m cap)) (λi=>if i=qq then B else Ss i) l.length) (t:= .deep T0 dr l' h') hf.2
 have wG:l'.length=l.length:=by rw[XO];simp
 refine⟨lh.set qq (q.lo.set lh[qq] u),(λi=>if i=qq then B else Ss i),hZ.2,by grind,?_,?_⟩
 .intro i' a b
  have:=Of (rel:=px ((H.fK n (rZ (bH (Value.slice (aa ⟨g,o0,ae⟩) m cap)) (λi=>if i=qq then B else Ss i) l.length)).bU n (.deep T0 dr l' h')) F w' dr h') (lh:=lh) (l:=l) (Ss:=Ss) (j:=qq) (x':=q.lo.set lh[qq] u) (x:=x1) (B:=B)
   (λi2 c1 c2 dw=>Oh dw ((Qf i2 c1 c2).keep Oj gD (Oi i2 c2))) (b2 Oj) i' a (by simpa[XO]using b)
  grind
 .rw[wG];exact dY.less qq b1
def EY(T:bj P){t:TypeId}{D V:aI}{x y:Operand}{k:eD->Option R}{q:R}(h:q7 T ob n t D V k=aa q)(hs:aL U H F w ob n)(hx:aH H F w D (ev ρ x))(hy:aH H F w V (ev ρ y)):
 ∃e,k e=aa q/\cO P U H F w ρ ob n ⟨ae, .store t x y,ty,pos,aft,ae⟩ e:=by
 unfold q7 at h;split at h
 .cases h
 rename_i rt Ll;split at h
 case h_2=>cases h
 rename_i agg u;split at h
 case h_2=>cases h
 rename_i o d0 i p off;split at h
 case h_2=>cases h
 rename_i s T0 dr l hh cJ;obtain⟨hd,h'⟩:=be h;clear h;obtain rfl:=DR.eq_of_beq hd;obtain⟨g,o0,qq,m,cap,e1,e2,e5⟩:=hx;obtain⟨cs,rT,zb⟩:=aV.cells hy;split at h'
 .rename_i r za AA;obtain⟨h1,h2⟩:=be h';obtain⟨h1,h3⟩:=de h1;obtain rfl:=beq_true h1;split at h2
  case h_2=>cases h2
  rename_i z hz;obtain⟨a,ha,hk⟩:=bind_some h2;obtain⟨j,hj,EX,rfl⟩:=iK ha;refine⟨_,hk,r7 (l':=b8 l i (za.hi.set l[j] z)) (x1:=za.hi.set l[j] z) (u:=z) T Ll hs cJ e1 hj EX e5 e2 (beq_true h3) (jL hs hz rT) zb ?_ ?_ ?_⟩
  .unfold b8;rw[hj,ajg]
  .intro w' H1 hle gD x' S hb hr;exact⟨S,λ_ h=>h,IV za z (hr.keep hle gD hb)⟩
  grind
 .rename_i T' e' za AA;obtain⟨h1,h2⟩:=be h';obtain⟨h1,h3⟩:=de h1;obtain rfl:=beq_true h1;split at h2
  .rename_i o1;split at h2
   case h_2=>cases h2
   rename_i s1 t1 qf;split at h2
   case h_2=>cases h2
   rename_i y1 hD;split at h2
   case isFalse=>cases h2
   rename_i uY;obtain⟨a,ha,hk⟩:=bind_some h2;obtain⟨j,hj,EX,rfl⟩:=iK ha;obtain⟨u1,Et,nL⟩:=hs.obj _ _ _ qf;obtain⟨v,hv,l4,rfl⟩:=rT;rw[Et]at hv;obtain rfl:=aja hv
   have YQ:cI F w .lZ [u1] u1:=by
    have:=nL.ok;rw[wL hD]at this;obtain⟨lh1,_,g1,_⟩:=wI this;obtain⟨xs,⟨_,hx⟩,_⟩:=g1
    rcases hx with⟨rfl,_⟩|⟨gg,o0,cp,cur,rfl,_⟩<;>exact⟨rfl,_,_,_,rfl⟩
   refine⟨_,hk,r7 (l':=l) (x1:=l[j]) (u:=u1) (e:= .sl T' e') T Ll hs cJ e1 hj EX e5 e2 (beq_true h3) YQ zb ?_ ?_ ?_⟩
   .simp_all
   .intro w' H1 hle gD x' S hb hr;obtain⟨B,b1,b2⟩:=CA uY AA hj hr;refine⟨B,b1,λdw=>absurd hj dw,λ_=>⟨T',e',za,AA,(b2.keep gD λk hk=>hb k (b1 k hk)).Lx za u1,?_⟩⟩;rw[Path.AG];exact hle.val _ _ Et
   .intro H1 w' i' x' x S dw hr
    have Ly:i≠(i':Int):=λe=>dw (by omega)
    exact⟨λ_=>wM uY Ly hr,λe=>absurd e Ly⟩
  .split at h2
   case isFalse=>cases h2
   rename_i uY;obtain⟨a,ha,hk⟩:=bind_some h2;obtain⟨j,hj,EX,rfl⟩:=iK ha;have YR:cs=_:=rT;subst YR;refine⟨_,hk,r7 (x1:=za.hi.set l[j] ([]:List e'.row.den)) (u:=Value.slice ae 0 0) (e:= .sl T' e') T Ll hs cJ e1 hj EX e5 e2 (beq_true h3) ⟨rfl,_,_,_,rfl⟩ zb ?_ ?_ ?_⟩
   .unfold b8;rw[hj,ajg]
   .intro w' H1 hle gD x' S hb hr;obtain⟨B,b1,b2⟩:=CA uY AA hj hr;refine⟨B,b1,?_⟩;refine oG.put (e:= .sl T' e') za (b2.keep gD λk hk=>hb k (b1 k hk)) (A:=λ_=>False) ?_ ⟨λk=>by simp,λ_ h=>h.elim⟩;exact⟨[],λ_ _=>False,l5.nil F w' T' e'.low,rfl,λi h=>absurd h (by simp),⟨λk=>by simp[bH,ajo],λ_ _ _ h=>absurd h (by simp),λ_ _ h=>absurd h (by simp)⟩⟩
   .intro H1 w' i' x' x S dw hr
    have Ly:i≠(i':Int):=λe=>dw (by omega)
    exact wM uY Ly hr
  .cases h2
 .cases h'
end
end Go.Proofs.YtleifhfeahnocaaGreatDoor
namespace Go.Proofs.YtleifhfeahnocaaGreatDoor
open Go Go.RowKit
def sX{α:Type}(l:List α)(i:Int)(f:α->α):List α:=if 0<=i then l.modify i.toNat f else l
def ju{α:Type}(l:List α)(i:Int)(f:α->α):(sX l i f).length=l.length:=by unfold sX;split<;>simp
def vS{α:Type}{l:List α}{i:Int}{f:α->α}{j:Nat}(h:j<(sX l i f).length)(h':j<l.length):(sX l i f)[j]=if i=(j:Int)then f l[j]else l[j]:=by
 grind [sX]
def Path.AL:{r s:Row}->(p:Path r s)->(x:r.den)->p.set x (p.get x)=x
 |_,_, .here,_=>rfl
 |_,_, .fst p,x=>by show(p.set x.1 (p.get x.1),x.2)=x;rw[Path.AL p]
 |_,_, .snd p,x=>by show(x.1,p.set x.2 (p.get x.2))=x;rw[Path.AL p]
section
variable {P:Program} {ρ:Nat->Value} {w w':World} {H H':aK} {F F':Nat->Prop} {U:Nat->Prop} {ob:Nat->Option (Nat×Th)} {n:Nat} {R:Type}
variable {op:Op} {ty:TypeId} {pos:String} {aft:Array Edge} {d:Nat}
def Lz(ob:Nat->Option (Nat×Th))(n o:Nat):Option eD:=
 match ob o with
 |some (_, .deep T0 dr l (aa h))=>match dr.path h.p with
  |some ⟨.sl T' e',q⟩=>match ob h.o with
   |some (_,t1)=>bif ajf h.o o then ae else(match Rn T' e' t1 with
    |some y=>aa {dst:= .dead,eat:=[o,h.o],make:=[(o,(n, .deep T0 dr (sX l h.i λx=>q.hi.set x y) ae))]}
    |none=>ae)
   |none=>ae
  |_=>ae
 |_=>ae
def IX(hs:aL U H F w ob n){o:Nat}{e:eD}(h:Lz ob n o=aa e):ma H F w ob n e undef w:=by
 unfold Lz at h;split at h
 case h_2=>cases h
 rename_i s T0 dr l hh cJ;split at h
 case h_2=>cases h
 rename_i T' e' q hq;split at h
 case h_2=>cases h
 rename_i s1 t1 qf
 cases dw:ajf hh.o o with
 |true=>rw[dw]at h;cases h
 |false=>
  rw[dw,cond_false]at h
  have dw:o≠hh.o:=λe=>by simp_all
  split at h
  case h_2=>cases h
  rename_i y hD;obtain rfl:=aja h;have hD:=wL hD;subst hD;obtain⟨v,hv,cT⟩:=hs.obj _ _ _ cJ;obtain⟨u,hu,nL⟩:=hs.obj _ _ _ qf;obtain⟨lh,Ss,eh,hlen,wK,dY⟩:=hs.low cJ hv;have hA:=wI nL.ok;generalize hAA:(λk=>fp (H.sub s1) u (IU T' e' y) k)=A at hA
  have XP:∀k,A k->¬H.sub s k:=λk hk=>by
   rw[<-hAA]at hk
   exact λh2=>hs.apart _ _ _ _ _ _ _ _ dw cJ qf hv hu k h2 hk
  have hf:=hs.fresh n (ajh _) (by omega)
  let UL:Nat->Nat->Prop:=λi k=>Ss i k\/(hh.i=(i:Int)/\A k)
  have mj:∀k,H.sub s k\/A k->cD H ob [o,hh.o] k:=by
   rintro k (hk|hk)
   .exact⟨o,by simp,s,_,v,cJ,hv,hk⟩
   .rw[<-hAA]at hk;exact⟨hh.o,by simp,s1,_,u,qf,hu,hk⟩
  have hS:∀k,rZ (bH v) UL l.length k->H.sub s k\/A k:=by
   rintro k (hk|⟨i,hi,hk|hk⟩)
   .exact .inl (dY.bH k hk)
   .exact .inl (dY.part hi k hk)
   .exact .inr hk.2
  refine mY.AH (t':= .deep T0 dr (sX l hh.i λx=>q.hi.set x y) ae) hs cJ hv rfl (by simp) (rZ (bH v) UL l.length) (λk hk=>mj k (hS k hk)) ⟨rfl,rfl,rfl,ajh _,λ_ _ _=>rfl⟩ ?_ trivial;have wG:(sX l hh.i λx=>q.hi.set x y).length=l.length:=ju ..;refine⟨lh,UL,eh.2,by rw[wG];exact hlen,λi a b=>?_,?_⟩
  .have b':i<l.length:=by omega
   rw[vS b b'];have hr:=wK i a b'
   by_cases hi:hh.i=(i:Int)
   .rw[aj hi];obtain⟨T'',e'',q'',k1,k2,k3⟩:=hr.2 hi;rw[hq]at k1;cases k1;rw[hu]at k3;have k3:=aja k3;have:lr F w dr (q.lo.set lh[i] u) (q.hi.set l[i] y) (UL i):=k2.put q hA ⟨(by grind),λk hk h2=>XP k hk (dY.part b' k h2)⟩;rw[k3,Path.AL]at this;exact this
   .rw[ai hi];have YS:=hr.1 hi
    have:UL i=Ss i:=by
     funext k;exact(by grind)
    rw[this];exact YS
  .rw[wG];refine⟨λk=>Iff.rfl,λi j k h1 h2 T6 h3 h4=>?_,λi k h1 h3 h4=>?_⟩
   .rcases h3 with h3|h3<;>rcases h4 with h4|h4
    .exact dY.two i j k h1 h2 T6 h3 h4
    .exact XP k h4.2 (dY.part h1 k h3)
    .exact XP k h3.2 (dY.part h2 k h4)
    grind
   .rcases h3 with h3|h3
    .exact dY.out i k h1 h3 h4
    .exact XP k h3.2 (dY.bH k h4)
end
end Go.Proofs.YtleifhfeahnocaaGreatDoor
end
namespace Go.Proofs.YtleifhfeahnocaaGreatDoor
open Go Go.RowKit
set_option maxRecDepth 100000
set_option linter.unusedSimpArgs false
set_option linter.unusedVariables false
set_option linter.defProp false
section
def DR.dI:(d:DR)->d.low.dI=d.row.dI
 | .leaf _=>rfl
 | .sl _ _=>rfl
 | .pair a b=>by show a.low.dI++b.low.dI=a.row.dI++b.row.dI;rw[a.dI,b.dI]
def TI.low{P:Program}{e:TypeId}{d:DR}(h:TI P e d.row):TI P e d.low:=by
 obtain⟨ti,z,h1,h2,h3,h4,h5⟩:=h;exact⟨ti,z,h1,h2,by rw[d.dI];exact h3,by rw[d.size];exact h4,h5⟩
def EZ:List Nat->Bool
 |[]=>af
 |o::l=> !l.any (ajf o)&&EZ l
def zf:{l:List Nat}->EZ l=af->l.Nodup
 |[],_=>List.nodup_nil
 |o::l,h=>by
  obtain⟨h1,h2⟩:=de h;refine List.nodup_cons.2 ⟨λhm=>?_,zf h2⟩;rw[any_beq.2 hm]at h1;cases h1
def DR.mk2:DR->DR->DR
 | .leaf a, .leaf b=> .leaf (.pair a b)
 |a,b=> .pair a b
def Ro(ob:Nat->Option (Nat×Th)):Row->Tree->DR
 | .slice e, .own o=>match ob o with
   |some (_, .own T r _)=> .sl T (.leaf r)
   |some (_, .deep T d _ ae)=> .sl T d
   |_=> .leaf (.slice e)
 | .pair a b,t=>match t.split with
   |some (x,y)=>DR.mk2 (Ro ob a x) (Ro ob b y)
   |none=> .leaf (.pair a b)
 |r,_=> .leaf r
def E0(ob:Nat->Option (Nat×Th)):(d:DR)->Tree->Option (d.row.den×List Nat)
 | .leaf r,t=>match flat ob r t with
   |some x=>aa (x,[])
   |none=>ae
 | .sl T e, .own o=>match ob o with
   |some (_,t1)=>match Rn T e t1 with
    |some y=>aa (y,[o])
    |none=>ae
   |none=>ae
 | .sl _ _, .nil=>aa ([],[])
 | .sl _ _,_=>ae
 | .pair a b,t=>match t.split with
   |some (x,y)=>match E0 ob a x with
    |some (u,os)=>match E0 ob b y with
     |some (v,Ol)=>aa ((u,v),os++Ol)
     |none=>ae
    |none=>ae
   |none=>ae
def GZ(ob:Nat->Option (Nat×Th))(d:DR):List aI->Option (List d.row.den×List Nat)
 |[]=>aa ([],[])
 | .val _ u::l=>match E0 ob d u with
   |some (x,os)=>match GZ ob d l with
    |some (xs,Ol)=>aa (x::xs,os++Ol)
    |none=>ae
   |none=>ae
 |_::_=>ae
section
variable {P:Program} {ρ:Nat->Value} {w w':World} {H H':aK} {F F':Nat->Prop} {U:Nat->Prop} {ob:Nat->Option (Nat×Th)} {n:Nat} {R:Type}
variable {op:Op} {ty:TypeId} {pos:String} {aft:Array Edge} {d:Nat}
def uZ(hs:aL U H F w ob n){os Ol:List Nat}(hd:∀o,o∈os->o∉Ol):∀k,cD H ob os k->¬cD H ob Ol k:=by
 rintro k ⟨o,ho,s,t,v,h1,h2,h3⟩ ⟨o',jY,s',t',v',g1,g2,g3⟩
 exact hs.apart o o' s s' t t' v v' (λe=>hd o ho (e▸jY)) h1 g1 h2 g2 k h3 g3
theorem q8{os Ol:List Nat}(h:∀o,o∈os->o∈Ol):∀k,cD H ob os k->cD H ob Ol k:=λ_ ⟨o,ho,rest⟩=>⟨o,h o ho,rest⟩
def AM(hs:aL U H F w ob n):{d:DR}->{t:Tree}->{x:d.row.den}->{os:List Nat}->{cs:List Value}->E0 ob d t=aa (x,os)->Holds H F w t cs->os.Nodup->∃x' S,cI F w d.low cs x'/\lr F w d x' x S/\∀k,S k->cD H ob os k
 | .leaf r,t,x,os,cs,h,hh,Om=>by
   unfold E0 at h
   split at h<;>cases h
   rename_i hf;exact⟨x,λ_=>False,jL hs hf hh,⟨rfl,λ_ h=>h⟩,λ_ h=>h.elim⟩
 | .sl T e, .own o,x,os,cs,h,hh,Om=>by
   unfold E0 at h;split at h
   case h_2=>cases h
   rename_i s1 t1 ho
   split at h<;>cases h
   rename_i hD;obtain⟨v,hv,_,rfl⟩:=hh;obtain⟨v',dZ,cT⟩:=hs.obj _ _ _ ho;rw[hv]at dZ;obtain rfl:=aja dZ;have hD:=wL hD;subst hD;have hb:=wI cT.ok;refine⟨v,_,?_,hb,λk hk=>⟨o,by simp,s1,_,v,ho,hv,hk⟩⟩;obtain⟨lh1,_,⟨xs,⟨_,hx⟩,_⟩,_⟩:=hb
   rcases hx with⟨rfl,_⟩|⟨gg,o0,cp,cur,rfl,_⟩<;>exact⟨rfl,_,_,_,rfl⟩
 | .sl T e, .nil,x,os,cs,h,hh,_=>by
   cases h;have XQ:cs=_:=hh;subst XQ;exact⟨.slice ae 0 0,λ_=>False,⟨rfl,_,_,_,rfl⟩,⟨[],λ_ _=>False,l5.nil F w T e.low,rfl,λi h=>absurd h (by simp),⟨λk=>by simp[bH,ajo],λ_ _ _ h=>absurd h (by simp),λ_ _ h=>absurd h (by simp)⟩⟩,λ_ h=>h.elim⟩
 | .pair a b,t,x,os,cs,h,hh,hn=>by
   unfold E0 at h;split at h
   case h_2=>cases h
   rename_i t1 t2 tT;split at h
   case h_2=>cases h
   rename_i u os1 h1;split at h
   case h_2=>cases h
   rename_i v os2 h2;cases h;obtain⟨c1,c2,rfl,g1,g2,_⟩:=hh.split tT;obtain⟨n1,n2,n3⟩:=List.nodup_append.1 hn;obtain⟨x1,S1,r1,e1,s1⟩:=AM hs h1 g1 n1;obtain⟨x2,S2,r2,e2,s2⟩:=AM hs h2 g2 n2;refine⟨(x1,x2),λk=>S1 k\/S2 k,⟨c1,c2,rfl,r1,r2⟩,⟨S1,S2,e1,e2,λ_=>Iff.rfl,λk hk iU=>uZ hs (λo ho jY=>n3 o ho o jY rfl) k (s1 k hk) (s2 k iU)⟩,λk hk=>hk.elim (λhk=>q8 (λo ho=>by simp[ho]) k (s1 k hk)) λhk=>q8 (λo ho=>by simp[ho]) k (s2 k hk)⟩
 | .sl _ _, .leaf _ _,_,_,_,h,_,_=>by cases h
 | .sl _ _, .pair _ _,_,_,_,h,_,_=>by cases h
 | .sl _ _, .view ..,_,_,_,h,_,_=>by cases h
def CB(hs:aL U H F w ob n){d:DR}:{ds:List aI}->{l:List d.row.den}->{os:List Nat}->{vs:List Value}->GZ ob d ds=aa (l,os)->fX H F w ds vs->os.Nodup->
 ∃(lh:List d.low.den)(Ss:Nat->Nat->Prop),wg F w d.low vs lh/\lh.length=l.length/\(∀i(h1:i<lh.length)(h2:i<l.length),lr F w d lh[i] l[i] (Ss i))/\(∀i k,i<l.length->Ss i k->cD H ob os k)/\∀i j k,i<l.length->j<l.length->i≠j->Ss i k->¬Ss j k
 |[],l,os,vs,h,hd,_=>by
  cases h;rw[show vs=[]from hd];exact⟨[],λ_ _=>False, .nil,rfl,λi h=>absurd h (by simp),λ_ _ h=>absurd h (by simp),λ_ _ _ h=>absurd h (by simp)⟩
 | .val _ u::ds,l,os,vs,h,hd,hn=>by
   obtain⟨v,us,rfl,h1,h2⟩:=hd;unfold GZ at h;split at h
   case h_2=>cases h
   rename_i x os1 hf;split at h
   case h_2=>cases h
   rename_i xs os2 hg;cases h;obtain⟨cs,rT,zb⟩:=aV.cells h1;obtain⟨n1,n2,n3⟩:=List.nodup_append.1 hn;obtain⟨x',S,r1,e1,s1⟩:=AM hs hf rT n1;obtain⟨lh,Ss,k1,k2,k3,k4,k5⟩:=CB hs hg h2 n2
   have ap:∀i k,i<xs.length->S k->¬Ss i k:=λi k hi hk iU=>uZ hs (λo ho jY=>n3 o ho o jY rfl) k (s1 k hk) (k4 i k hi iU)
   refine⟨x'::lh,λi=>match i with|0=>S|i+1=>Ss i, .cons zb r1 k1,by simp[k2],λi a b=>?_,λi k hi hk=>?_,λi j k hi hj dw hk iU=>?_⟩
   .grind
   .cases i with
    |zero=>grind [q8]
    |succ i=>grind [q8]
   .cases i with
    |zero=>
     cases j<;>grind
    |succ i=>
     cases j<;>grind
 | .dead::_,_,_,_,h,_,_=>by cases h
 | .undef::_,_,_,_,h,_,_=>by cases h
 | .ptr .. ::_,_,_,_,h,_,_=>by cases h
 | .at .. ::_,_,_,_,h,_,_=>by cases h
 | .elem .. ::_,_,_,_,h,_,_=>by cases h
 | .tup _::_,_,_,_,h,_,_=>by cases h
 | .dlm .. ::_,_,_,_,h,_,_=>by cases h
 | .fn .. ::_,_,_,_,h,_,_=>by cases h
 | .ifc .. ::_,_,_,_,h,_,_=>by cases h
def mY.Rp(hs:aL U H F w ob n){eat:List Nat}{t:Th}{v0:Value}{S:Nat->Prop}(hb:t.base=t)(h1:v0.oneCell'=af){D:aI}{v:Value}
 (bY:Ext (cD H ob eat) w w')(sL:kf (((H.fK n S).bU n t).cF n v0) F w' S v0 t)(NK:∀k,fp S v0 t k->¬F k/\k<w'.heap.size/\(w.heap.size<=k\/cD H ob eat k))
 (hd:aH (((H.fK n S).bU n t).cF n v0) F w' D v):ma H F w ob n {dst:=D,eat:=eat,make:=[(n,(n,t))]} v w':=by
 have hf:=hs.fresh n (ajh _) (by omega)
 have iL:(((H.fK n S).bU n t).cF n v0).sub n=S:=by simp[aK.cF,aK.bU,aK.fK]
 refine⟨((H.fK n S).bU n t).cF n v0,F,⟨(aK.vR hf.2).trans (aK.qV (by simp[aK.bU,aK.fK,hf.1])),bY,λ_ h=>h,λ_ h=> .inl h,λb hb=>ajA (hs.lt b hb) bY.size⟩,λm hm=>?_,hd,⟨λo' s' q hq=>?_,λo1 o2 s1 s2 q1 q2 u1 u2 dw h1 h2=>?_⟩,λo' h=>?_⟩
 .simp[aK.bU,aK.cF,aK.fK,show m≠n from by omega]
 .obtain⟨rfl,e⟩:=ee hq;obtain⟨rfl,rfl⟩:=akA e;exact⟨v0,by simp[aK.cF],h1,by simp[aK.bU,aK.cF,hb],by rw[iL];exact sL,by grind⟩
 .grind [ee]
 .right
  obtain⟨y,hy⟩:=ajE.1 h
  grind [ee]
def AN(ob:Nat->Option (Nat×Th))(r:Row):List aI->DR
 | .val _ u::_=>Ro ob r u
 |_=> .leaf r
def qg(e:TypeId)(dr:DR)(ob:Nat->Option (Nat×Th))(n:Nat)(ds:List aI)(k:eD->Option R):Option R:=
 match GZ ob dr ds with
 |some (l,os)=>bif EZ os then k {dst:= .val ag (.own n),eat:=os,make:=[(n,(n,IU e dr l))]}else ae
 |none=>ae
def q9(T:bj P)(rd:Operand->Option aI)(ob:Nat->Option (Nat×Th))(n:Nat)(t:TypeId)(m:Nat)(parts:Array (Nat×Operand))(k:eD->Option R):Option R:=
 match find T.und t with
 |some (.slice e)=>match find T.row e with
  |some r=>bif GV 0 parts.toList&&ajf m parts.toList.length&&Nat.ble (m*r.size) 16777216 then
    (match sS rd (parts.toList.map (·.2))with
    |some ds=>bif (AN ob r ds).row.beq r then qg e (AN ob r ds) ob n ds k else ae
    |none=>ae)else ae
  |none=>ae
 |_=>ae
def E1(T:bj P){rd:Operand->Option aI}(gO:∀x d,rd x=aa d->aH H F w d (ev ρ x)){t:TypeId}{m:Nat}{parts:Array (Nat×Operand)}{k:eD->Option R}{q:R}(h:q9 T rd ob n t m parts k=aa q)(hs:aL U H F w ob n):
 ∃e,k e=aa q/\cO P U H F w ρ ob n ⟨aa d, .buildSlice t m parts,ty,pos,aft,ae⟩ e:=by
 unfold q9 at h;split at h
 case h_2=>cases h
 rename_i e hu;split at h
 case h_2=>cases h
 rename_i r hr;obtain⟨c0,h8⟩:=be h;clear h;obtain⟨c1,c3⟩:=de c0;obtain⟨h1,c2⟩:=de c1;have h2:=beq_true c2
 have h3:m*r.size<=16777216:=by simpa using c3
 clear c0 c1 c2 c3;split at h8
 case h_2=>cases h8
 rename_i ds yt;obtain⟨UM,h⟩:=be h8;clear h8;have lZ:=Row.eq_of_beq UM;clear UM
 obtain⟨dr,Qg⟩:∃dr,dr=AN ob r ds:=⟨_,rfl⟩
 rw[<-Qg]at h lZ;clear Qg;subst lZ;unfold qg at h;split at h
 case h_2=>cases h
 rename_i l os hl;obtain⟨hn,hk⟩:=be h;clear h;obtain⟨lh,Ss,k1,k2,k3,k4,k5⟩:=CB hs hl (oU gO yt) (zf hn)
 have hp:parts=(((parts.toList.map (·.2)).zipIdx).map λp=>(p.2,p.1)).toArray:=by
  rw[<-wz h1,ajZ]
 have hm:m=(parts.toList.map (·.2)).length:=by simpa using h2
 obtain⟨v,w',bJ,bY,eh,EQ⟩:=wy (d:=d) (ty:=ty) (pos:=pos) (aft:=aft) (T.und_ok _ _ hu) (TI.low (T.row_ok _ _ hr)) hp (by rw[<-hm,DR.size];exact h3) k1 hs;rw[<-hm]at bJ;refine⟨_,hk,cA.val bJ ?_⟩
 have aG:∀i k,i<l.length->Ss i k->k<w.heap.size:=λi k hi hk=>hs.wi k (k4 i k hi hk)
 have gD:Step F w F w':=λb hb=>⟨hb,(bY λ_=>False).block b (hs.lt b hb) λh=>h⟩
 have dY:oQ Ss l.length (bH v) (rZ (bH v) Ss l.length):=⟨λ_=>Iff.rfl,k5,(by grind)⟩
 have vy:lr F w' (.sl e dr) v l (rZ (bH v) Ss l.length):=⟨lh,Ss,eh.2,k2,λi a b=>(k3 i a b).keep gD λk hk=>(bY λ_=>False).block k (aG i k b hk) λh=>h,dY⟩
 have NK:∀k,rZ (bH v) Ss l.length k->¬F k/\k<w'.heap.size/\(w.heap.size<=k\/cD H ob os k):=by
  rintro k (hk|⟨i,hi,hk⟩)
  .exact⟨eh.1 k hk,eh.lt k hk, .inl (EQ k hk)⟩
  .have:=k4 i k hi hk;exact⟨hs.jt k this,ajA (hs.wi k this) (bY λ_=>False).size, .inr this⟩
 refine mY.Rp (S:=rZ (bH v) Ss l.length) (v0:=v) hs (wH ..) (qW eh) (bY _) (uc vy).1 (λk hk=>NK k ((uc (H:=H) vy).2.1 k hk)) (n9 (by simp[aK.cF]) (qW eh))
def AO(T:bj P)(n:Nat)(t:TypeId)(same:Bool)(a b:Int)(k:eD->Option R):Option R:=
 match find T.und t with
 |some (.slice e)=>match find T.row e with
  |some (.slice r)=>match find T.und e with
   |some (.slice e')=>(bif same then p6 a ([]:List r.den)else TW a b ([]:List r.den)).bind λl=>k {dst:= .val ag (.own n),make:=[(n,(n, .deep e (.sl e' (.leaf r)) l ae))]}
   |_=>ae
  |_=>wx T n t same a b k
 |_=>ae
def zg{e e' t:TypeId}{r:Row}{a b:Int}(ht:P.underlying t=aa (.slice e))(yh:TI P e (.slice r))(hs:aL U H F w ob n){ka kb:IntKind}{x y:Operand}(hx:ev ρ x= .int ka a)(hy:ev ρ y= .int kb b)(h0:0<=a)(h1:a<=b)(h2:b<=4294967296):
 cO P U H F w ρ ob n ⟨aa d, .makeSlice t x y,ty,pos,aft,ae⟩ {dst:= .val ag (.own n),make:=[(n,(n, .deep e (.sl e' (.leaf r)) (aji a.toNat ([]:List r.den)) ae))]}:=by
 obtain⟨v,w',bJ,bY,eh,EQ⟩:=zc (d:=d) (ty:=ty) (pos:=pos) (aft:=aft) (r:= .lZ) ht (TI.low (d:= .sl e' (.leaf r)) yh) hs hx hy h0 h1 h2
 have vy:lr F w' (.sl e (.sl e' (.leaf r))) v (aji a.toNat ([]:List r.den)) (bH v):=by
  refine⟨aji a.toNat (Value.slice ae 0 0),λ_ _=>False,eh.2,by simp,λi h1 h2=>?_,⟨λk=>by simp,λ_ _ _ _ _ _ h=>h.elim,λ_ _ _ h=>h.elim⟩⟩;simp only[List.getElem_replicate];exact⟨[],λ_ _=>False,l5.nil F w' e' r,rfl,λi h=>absurd h (by simp),⟨λk=>by simp[bH,ajo],λ_ _ _ h=>absurd h (by simp),λ_ _ h=>absurd h (by simp)⟩⟩
 refine cA.val bJ (mY.Rp (S:=bH v) (v0:=v) (eat:=[]) (t:=IU e (.sl e' (.leaf r)) (aji a.toNat ([]:List r.den))) hs (wH ..) (qW eh) (bY _) (uc vy).1 (λk hk=>?_) (n9 (by simp[aK.cF]) (qW eh)));have hk:=(uc (H:=H) vy).2.1 k hk;exact⟨eh.1 k hk,eh.lt k hk, .inl (EQ k hk)⟩
def IY(T:bj P){t:TypeId}{a b:Int}{ka kb:IntKind}{x y:Operand}{k:eD->Option R}{q:R}(h:AO T n t (qe x y) a b k=aa q)(hs:aL U H F w ob n)(hx:ev ρ x= .int ka a)(hy:ev ρ y= .int kb b):
 ∃e,k e=aa q/\cO P U H F w ρ ob n ⟨aa d, .makeSlice t x y,ty,pos,aft,ae⟩ e:=by
 unfold AO at h;split at h
 case h_2=>cases h
 rename_i e hu;split at h
 case h_2=>exact Co T h hs hx hy
 rename_i r hr;split at h
 case h_2=>cases h
 rename_i e' AB;obtain⟨l,hl,hk⟩:=bind_some h;have yh:=T.row_ok _ _ hr;have ht:=T.und_ok _ _ hu
 cases eY:qe x y with
 |true=>
  rw[eY,cond_true]at hl;unfold p6 at hl;split at hl
  case isFalse=>cases hl
  rename_i hc;obtain rfl:=aja hl;obtain rfl:=zd eY hx hy;exact⟨_,hk,zg ht yh hs hx hy hc.1 (aj1 _) hc.2⟩
 |false=>
  rw[eY,cond_false]at hl;unfold TW at hl;split at hl
  case isFalse=>cases hl
  rename_i hc;obtain rfl:=aja hl;exact⟨_,hk,zg ht yh hs hx hy hc.1 hc.2.1 hc.2.2⟩
def wN(deep:Bool)(T:bj P)(n:Nat)(t:TypeId)(same:Bool)(a b:Int)(k:eD->Option R):Option R:=
 match deep with
 |true=>AO T n t same a b k
 |false=>wx T n t same a b k
def IZ(deep:Bool)(T:bj P){t:TypeId}{a b:Int}{ka kb:IntKind}{x y:Operand}{k:eD->Option R}{q:R}(h:wN deep T n t (qe x y) a b k=aa q)(hs:aL U H F w ob n)(hx:ev ρ x= .int ka a)(hy:ev ρ y= .int kb b):
 ∃e,k e=aa q/\cO P U H F w ρ ob n ⟨aa d, .makeSlice t x y,ty,pos,aft,ae⟩ e:=by
 cases deep with
 |true=>exact IY T h hs hx hy
 |false=>exact Co T h hs hx hy
def qh(T:bj P)(ob:Nat->Option (Nat×Th))(n:Nat)(t:TypeId)(D:aI)(k:eD->Option R):Option R:=
 match D with
 | .dlm .. =>r6 T ob n t D k
 |_=>yY T ob t D k
def I0(T:bj P){t:TypeId}{D:aI}{x:Operand}{k:eD->Option R}{q:R}(h:qh T ob n t D k=aa q)(hs:aL U H F w ob n)(hx:aH H F w D (ev ρ x)):
 ∃e,k e=aa q/\cO P U H F w ρ ob n ⟨aa d, .load t x,ty,pos,aft,ae⟩ e:=by
 unfold qh at h;split at h
 .exact IW T h hs hx
 .exact Lk T h hs hx
noncomputable def ra(T:bj P)(ob:Nat->Option (Nat×Th))(n:Nat)(t:TypeId)(D V:aI)(k:eD->Option R):Option R:=
 match D with
 | .dlm .. =>q7 T ob n t D V k
 |_=>tV T ob n t D V k
def E2(T:bj P){t:TypeId}{D V:aI}{x y:Operand}{k:eD->Option R}{q:R}(h:ra T ob n t D V k=aa q)(hs:aL U H F w ob n)(hx:aH H F w D (ev ρ x))(hy:aH H F w V (ev ρ y)):
 ∃e,k e=aa q/\cO P U H F w ρ ob n ⟨ae, .store t x y,ty,pos,aft,ae⟩ e:=by
 unfold ra at h;split at h
 .exact EY T h hs hx hy
 .exact IG T h hs hx hy
def vT(deep:Bool)(T:bj P)(rd:Operand->Option aI)(ob:Nat->Option (Nat×Th))(n:Nat)(t:TypeId)(m:Nat)(parts:Array (Nat×Operand))(k:eD->Option R):Option R:=
 match deep with
 |true=>q9 T rd ob n t m parts k
 |false=>lg T rd ob n t m parts k
def E3(deep:Bool)(T:bj P){rd:Operand->Option aI}(gO:∀x d,rd x=aa d->aH H F w d (ev ρ x)){t:TypeId}{m:Nat}{parts:Array (Nat×Operand)}{k:eD->Option R}{q:R}(h:vT deep T rd ob n t m parts k=aa q)(hs:aL U H F w ob n):
 ∃e,k e=aa q/\cO P U H F w ρ ob n ⟨aa d, .buildSlice t m parts,ty,pos,aft,ae⟩ e:=by
 cases deep with
 |true=>exact E1 T gO h hs
 |false=>exact wA T gO h hs
end
end
end Go.Proofs.YtleifhfeahnocaaGreatDoor
