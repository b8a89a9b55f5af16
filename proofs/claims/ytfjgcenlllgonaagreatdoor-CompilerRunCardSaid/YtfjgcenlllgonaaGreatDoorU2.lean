/- Joined texts: Effs2 Effs3 Effs4 Effs5 Effs6 Effs8 Effs9 Grp. -/
import Derived.Test.YtfjgcenlllgonaaGreatDoorU1
import Derived.Carry
set_option linter.defProp false
open _root_.Bool renaming false->ah,true->af
open _root_.Option renaming none->ae,some->aa,map_eq_some_iff->arH,isSome_iff_exists->arA
open _root_.Array renaming toArray_toList->arG
open _root_.Int renaming eq_ofNat_of_zero_le->aqV,le_refl->arO,natCast_mul->arx,toNat_natCast->aqR,tdiv->aqW,tmod->aqY
open _root_.List renaming replicate->aqO,take_length->ara,getElem_append_left->aqX,getElem_append_right->are,length_append->aqT
open _root_.Nat renaming beq->aqU,mul_le_mul_right->aq4,zero_le->aq2,add_mul->aro,le_refl->aqS,min_eq_left->arF,lt_of_lt_of_le->ars
open _root_.Option.some renaming inj->aqL,injEq->aq1
open _root_.Go.Result renaming andThen_ok->arN
open _root_.Go.Sem renaming run_bind->arf
open _root_.Go.Value renaming ownBlock->ark
open _root_.Go.IntKind renaming bits->ase
open _root_.List.cons renaming injEq->arE
open _root_.Go.Value.slice renaming injEq->ar8
section
open _root_.Bool renaming false->ah,true->af
open _root_.Option renaming none->ae,some->aa,isSome_iff_exists->arA
open _root_.Array renaming toArray_toList->arG
open _root_.Int renaming toNat_natCast->aqR
open _root_.Nat renaming beq->aqU,blt->art,le_refl->aqS,lt_of_lt_of_le->ars
open _root_.Option.some renaming inj->aqL,injEq->aq1
open _root_.Go.Value renaming oneCell'->ar2
namespace Go.Proofs.YtfjgcenlllgonaaGreatDoor
open Go Go.RowKit
section
variable {P:Program} {ρ:Nat->Value} {w w':World} {H H':aW} {F F':Nat->Prop} {U:Nat->Prop} {ob:Nat->Option (Nat×Th)} {n:Nat} {R:Type}
variable {op:Op} {ty:TypeId} {pos:String} {aft:Array Edge} {d:Nat}
def aX.box(hs:aX U H F w ob n){o s:Nat}{T:TypeId}{t:Tree}(ho:ob o=aa (s, .box T t)){b:Nat}(hb:H.val o=aa (.pointer (aa ⟨b,0,ae⟩))):
 ∃es,w.heap[b]? =aa (.cells es.toArray T (0,0))/\Holds H F w t es:=by
 obtain⟨v,hv,hi⟩:=hs.obj _ _ _ ho;rw[hb]at hv;obtain rfl:=aqL hv;obtain⟨b',es,e,h1,h2⟩:=hi.ok
 grind
def aX.own(hs:aX U H F w ob n){o s:Nat}{T:TypeId}{r:Row}{l:List r.den}(ho:ob o=aa (s, .own T r l)){v:Value}(hv:H.val o=aa v):qa 0 F w T r v l:=by
 obtain⟨v',gZ,hi⟩:=hs.obj _ _ _ ho;rw[hv]at gZ;obtain rfl:=aqL gZ;exact⟨hi.no,hi.ok⟩
def E2{fs:List (TypeId×Nat)}{arr:Array Field}(ha:arr.toList.map (λf=>(f.type,f.offset))=fs){f:Nat}{ft:TypeId}{off:Nat}(hf:fs[f]? =aa (ft,off)):∃fd,arr[f]? =aa fd/\fd.type=ft/\fd.offset=off:=by
 grind
def sub(r:Row)(x:r.den)(p:List Bool):Option ((s:Row)×s.den×Nat):=
 match Tree.get (.leaf r x) p with
 |some (.leaf s y,off)=>aa ⟨s,y,off⟩
 |_=>ae
def Ir{r s:Row}{x:r.den}{y:s.den}{p:List Bool}{off b k:Nat}(h:sub r x p=aa ⟨s,y,off⟩)(ha:At F w r b k x):At F w s b (k+off) y:=by
 unfold sub at h;split at h
 .rename_i s' y' fZ hg;simp only[aq1,Sigma.mk.injEq]at h;obtain⟨rfl,h⟩:=h;obtain⟨rfl,rfl⟩:=Prod.mk.inj (eq_of_heq h);obtain⟨es,hl,hc,hr⟩:=ha;obtain⟨g1,g2⟩:=Holds.get (H:=⟨λ_=>ae,λ_=>ae,λ_ _=>False⟩) (F:=F) (w:=w) (cs:=es) hg hr;have ZE:eF F w s' ((es.drop fZ).take s'.size) y':=g1;refine⟨_,ZE.length,λj u hu=>?_,ZE⟩
  grind
 .cases h
def Is(T:b7 P)(t:TypeId)(f:Nat)(D:aN):Option aN:=
 match find T.und t with
 |some (.struct fs)=>match fs[f]? with
  |some (ft,off)=>match find T.row ft with
   |some _=>match D with
    | .ptr o p k=>aa (.ptr o (p++vH fs.length f) (k+off))
    | .at r x=>match sub r x (vH fs.length f)with
      |some ⟨s,y,fZ⟩=>bif aqU fZ off then aa (.at s y)else ae
      |none=>ae
    | .elem o s r i x p k=>aa (.elem o s r i x (p++vH fs.length f) (k+off))
    | .dlm o d i p k=>aa (.dlm o d i (p++vH fs.length f) (k+off))
    |_=>ae
   |none=>ae
  |none=>ae
 |_=>ae
theorem beq_true{m k:Nat}(h:aqU m k=af):m=k:=Nat.eq_of_beq_eq_true h
def pQ{α:Type}{b:Bool}{x:α}{y:α}(h:(bif b then aa x else ae)=aa y):b=af/\x=y:=by
 grind
def Mt(T:b7 P){t:TypeId}{f:Nat}{D D':aN}{x:Operand}(h:Is T t f D=aa D')(hs:aX U H F w ob n)(hx:aO H F w D (ev ρ x)):
 eH P U H F w ρ ob n ⟨aa d, .fieldAddr t x f,ty,pos,aft,ae⟩ {dst:=D'}:=by
 unfold Is at h;split at h
 case h_2=>cases h
 rename_i fs hu;obtain⟨arr,It,Tt⟩:=T.und_ok _ _ hu;split at h
 case h_2=>cases h
 rename_i ft off hf;obtain⟨fd,Y2,rfl,rfl⟩:=E2 Tt hf;split at h
 case h_2=>cases h
 rename_i r' Db;have uZ:=T.row_ok _ _ Db;split at h
 .obtain rfl:=aqL h;obtain⟨b,h1,h2⟩:=hx;exact bx hs (qe (r:=r') fd.offset It Y2 uZ rfl h2) ⟨b,h1,rfl⟩
 .split at h
  .rename_i s y fZ kK;obtain⟨h1,rfl⟩:=pQ h;obtain rfl:=beq_true h1;obtain⟨b,k,h2,h3,h4⟩:=hx;exact bx hs (qe (r:=r') fd.offset It Y2 uZ rfl h2) ⟨b,_,rfl,h3,Ir kK h4⟩
  .cases h
 .obtain rfl:=aqL h;obtain⟨g,o0,q,T',m,cap,l,h1,h2,h3,h4,h5⟩:=hx;exact bx hs (qe (r:=r') fd.offset It Y2 uZ rfl h5) ⟨g,o0,q,T',m,cap,l,h1,h2,h3,h4,by rw[Nat.add_assoc]⟩
 .obtain rfl:=aqL h;obtain⟨g,o0,q,m,cap,h1,h2,h5⟩:=hx;exact bx hs (qe (r:=r') fd.offset It Y2 uZ rfl h5) ⟨g,o0,q,m,cap,h1,h2,by rw[Nat.add_assoc]⟩
 .cases h
def eF.elemAt{r:Row}{v:Value}{l:List r.den}(h:eF F w (.slice r) [v] l){i:Int}{y:r.den}(hi:idx l i=aa y):
 ∃b off cap k,v= .slice (aa ⟨b,off,ae⟩) l.length cap/\i=(k:Nat)/\k<l.length/\F b/\At F w r b (off+k*r.size) y:=by
 obtain⟨A,cap,hv,_,_,h4⟩:=h;obtain⟨k,hk,aI,rfl⟩:=jX hi;obtain⟨b,off,es,rfl,hF,wR,hc,hr⟩:=h4 k aI;exact⟨b,off,cap,k,by simpa using hv,hk,aI,hF,es,wR,hc,hr⟩
inductive Pv where
 |read (r:Row) (l:List r.den)
 |own (o s:Nat) (T:TypeId) (r:Row) (l:List r.den)
 |nil
 |view (o s:Nat) (r:Row) (l:List r.den)
 |deep (o s:Nat) (T:TypeId) (d:DR) (l:List d.row.den) (h:Option zo)
def yA(ob:Nat->Option (Nat×Th)):aN->Option Pv
 | .val ah (.leaf (.slice r) l)=>aa (.read r l)
 | .val ah .nil=>aa .nil
 | .val ah (.own o)=>match ob o with
   |some (s, .own T r l)=>aa (.own o s T r l)
   |some (_, .yx _ r l)=>aa (.read r l)
   |some (_, .fdeep _ d l)=>aa (.read d.row l)
   |some (s, .deep T d l h)=>aa (.deep o s T d l h)
   |_=>ae
 | .val ah (.view o s r m)=>match ob o with
   |some (s', .yx ..)=>bif aqU s' s then aa (.read r m)else aa (.view o s r m)
   |_=>aa (.view o s r m)
 |_=>ae
def Tu(U:Nat->Prop)(H:aW)(F:Nat->Prop)(w:World)(ob:Nat->Option (Nat×Th))(v:Value):Pv->Prop
 | .read r l=>eF F w (.slice r) [v] l
 | .own o s T r l=>H.val o=aa v/\ob o=aa (s, .own T r l)/\qa 0 F w T r v l
 | .nil=>v= .slice ae 0 0
 | .view o s r m=>o8 H o s r m v
 | .deep o s T d l h=>H.val o=aa v/\ob o=aa (s, .deep T d l h)/\Mq U H F w v s (.deep T d l h)
def lj(hs:aX U H F w ob n){D:aN}{k:Pv}{v:Value}(h:yA ob D=aa k)(hd:aO H F w D v):Tu U H F w ob v k:=by
 unfold yA at h;split at h
 .cases h;exact bB.inv hd
 .cases h;obtain⟨cs,h1,_,h3⟩:=hd;have Da:cs=_:=h1
  grind [Tu]
 .rename_i o;obtain⟨cs,⟨u,hu,It,e⟩,_,h3⟩:=hd;rw[h3 rfl]at e
  obtain rfl:v=u:=by simpa using e
  split at h
  .rename_i s T r l A8;cases h;exact⟨hu,A8,hs.own A8 hu⟩
  .rename_i s T r l A8;cases h;obtain⟨v',gZ,hi⟩:=hs.obj _ _ _ A8;rw[hu]at gZ;obtain rfl:=aqL gZ;exact hi.ok
  .rename_i s T d l A8;cases h;obtain⟨v',gZ,hi⟩:=hs.obj _ _ _ A8;rw[hu]at gZ;obtain rfl:=aqL gZ;exact hi.ok
  .rename_i s T d l h' A8;cases h;obtain⟨v',gZ,hi⟩:=hs.obj _ _ _ A8;rw[hu]at gZ;obtain rfl:=aqL gZ;exact⟨hu,A8,hi⟩
  .cases h
 .rename_i o s r m;obtain⟨cs,⟨u,e,hu⟩,_,h3⟩:=hd;rw[h3 rfl]at e
  obtain rfl:v=u:=by simpa using e
  split at h
  .rename_i s' T r' l' A8
   cases hb:aqU s' s with
   |false=>rw[hb]at h;cases h;exact hu
   |true=>
    rw[hb]at h;obtain rfl:=Nat.eq_of_beq_eq_true hb;cases h;exact BU hs A8 hu
  .cases h;exact hu
 .cases h
def pc:Nat->(r:Row)->r.den->(e:Row)->Option (List e.den)
 |1,r,x,e=>if h:r.beq e=af then aa [lO (Row.eq_of_beq h) x]else ae
 |m+2, .pair a b,x,e=>if h:a.beq e=af then(match pc (m+1) b x.2 e with
  |some l=>aa (lO (Row.eq_of_beq h) x.1::l)
  |none=>ae)else ae
 |_,_,_,_=>ae
def Kf{e:Row}{b:Nat}:{m:Nat}->{r:Row}->{x:r.den}->{l:List e.den}->{off:Nat}->pc m r x e=aa l->At F w r b off x->l.length=m/\∀i(h:i<l.length),At F w e b (off+i*e.size) l[i]
 |0,r,x,l,off,h,_=>by unfold pc at h;cases h
 |1,r,x,l,off,h,ha=>by
  unfold pc at h;split at h
  case isFalse=>cases h
  rename_i hb;obtain rfl:=Row.eq_of_beq hb;obtain rfl:=aqL h;refine⟨rfl,λi hi=>?_⟩
  obtain rfl:i=0:=by simp at hi;omega
  rw[Nat.zero_mul,Nat.add_zero];exact ha
 |m+2, .pair a b',x,l,off,h,ha=>by
  unfold pc at h;split at h
  case isFalse=>cases h
  rename_i hb;obtain rfl:=Row.eq_of_beq hb;split at h
  case h_2=>cases h
  rename_i l' hl;obtain rfl:=aqL h;obtain⟨g1,g2⟩:=Kf hl (ha.snd _ rfl);refine⟨by simp[g1],λi hi=>?_⟩
  cases i with
  |zero=>
   rw[Nat.zero_mul,Nat.add_zero];exact ha.fst
  |succ i=>
   grind
 |m+2, .int _,_,_,_,h,_=>by unfold pc at h;cases h
 |m+2, .bool,_,_,_,h,_=>by unfold pc at h;cases h
 |m+2, .str,_,_,_,h,_=>by unfold pc at h;cases h
 |m+2, .slice _,_,_,_,h,_=>by unfold pc at h;cases h
 |m+2, .mX,_,_,_,h,_=>by unfold pc at h;cases h
 |m+2, .nul _,_,_,_,h,_=>by unfold pc at h;cases h
 |m+2, .map ..,_,_,_,h,_=>by unfold pc at h;cases h
def uK{t e:TypeId}{x y:Operand}{kd:IntKind}{a:Int}{ti:TypeInfo}{m sA off i:Nat}(size:Nat)(ht:P.underlying t=aa (.array m e))(hi:P.info? e=aa ti)(p9:ti.size=size)
 (hx:ev ρ x= .pointer (aa ⟨sA,off,ae⟩))(hy:ev ρ y= .int kd a)(ha:a=(i:Int))(aI:i<m):
 Pure P ρ ⟨aa d, .indexAddr t x y,ty,pos,aft,ae⟩ (.pointer (aa ⟨sA,off+i*size,ae⟩)):=λw=>by
 subst p9;subst ha;simp[execOp,Instr.indexAt,Instr.sureAddr,asIntOf,run_underlying ht,sizeOf,typeInfo,hi,hx,hy,aI,eG]
def Kg{α:Type}{b:Bool}{x:Option α}{y:α}(h:(bif b then x else ae)=aa y):b=af/\x=aa y:=by
 cases b with
 |true=>exact⟨rfl,h⟩
 |false=>cases h
def tP(T:b7 P)(m:Nat)(e:TypeId)(D:aN)(i:Int)(k:gY->Option R):Option R:=
 match find T.row e with
 |some re=>match D with
  | .at r x=>match pc m r x re with
    |some l=>(idx l i).bind λy=>k {dst:= .at re y}
    |none=>ae
  | .ptr o p off=>match i with
    | .ofNat j=>bif art j m then k {dst:= .ptr o (p++vH m j) (off+j*re.size)}else ae
    | .negSucc _=>ae
  |_=>ae
 |none=>ae
def Iu(T:b7 P){t:TypeId}{m:Nat}{e:TypeId}(hu:P.underlying t=aa (.array m e)){D:aN}{x y:Operand}{kd:IntKind}{i:Int}{k:gY->Option R}{q:R}(h:tP T m e D i k=aa q)(hs:aX U H F w ob n)(hx:aO H F w D (ev ρ x))(hy:ev ρ y= .int kd i):
 ∃e,k e=aa q/\eH P U H F w ρ ob n ⟨aa d, .indexAddr t x y,ty,pos,aft,ae⟩ e:=by
 unfold tP at h;split at h
 case h_2=>cases h
 rename_i re hr;obtain⟨ti,z,h1,_,_,h4,_⟩:=T.row_ok _ _ hr;split at h
 case h_3=>cases h
 case h_2=>
  split at h
  case h_2=>cases h
  rename_i o p off _ j;obtain⟨aI,hk⟩:=Kg h
  have aI:j<m:=by simpa using aI
  obtain⟨b,hb,hv⟩:=hx;exact⟨_,hk,bx hs (uK re.size hu h1 h4 hv hy rfl aI) ⟨b,hb,rfl⟩⟩
 rename_i r v;split at h
 case h_2=>cases h
 rename_i l hl;obtain⟨a,ha,hk⟩:=bind_some h;obtain⟨b,off,hv,hF,vy⟩:=hx;obtain⟨g1,g2⟩:=Kf hl vy;obtain⟨j,hj,aI,rfl⟩:=jX ha;exact⟨_,hk,bx hs (uK re.size hu h1 h4 hv hy hj (by omega)) ⟨b,_,rfl,hF,g2 j aI⟩⟩
def wW(T:b7 P)(ob:Nat->Option (Nat×Th))(t:TypeId)(D:aN)(i:Int)(k:gY->Option R):Option R:=
 match find T.und t with
 |some (.slice e)=>match find T.row e with
  |some re=>match yA ob D with
   |some (.read r l)=>bif aqU r.size re.size then(idx l i).bind λx=>k {dst:= .at r x}else ae
   |some (.own o s _ r l)=>bif aqU r.size re.size then(idx l i).bind λx=>k {dst:= .elem o s r i x [] 0}else ae
   |some (.deep o _ _ d l _)=>bif aqU d.low.size re.size then(idx l i).bind λ_=>k {dst:= .dlm o d i [] 0}else ae
   |_=>ae
  |none=>ae
 |some (.array m e)=>tP T m e D i k
 |_=>ae
def Mu(T:b7 P){t:TypeId}{D:aN}{x y:Operand}{kd:IntKind}{i:Int}{k:gY->Option R}{q:R}(h:wW T ob t D i k=aa q)(hs:aX U H F w ob n)(hx:aO H F w D (ev ρ x))(hy:ev ρ y= .int kd i):
 ∃e,k e=aa q/\eH P U H F w ρ ob n ⟨aa d, .indexAddr t x y,ty,pos,aft,ae⟩ e:=by
 unfold wW at h;split at h
 case h_3=>cases h
 case h_2=>rename_i m e hu;exact Iu T (T.und_ok _ _ hu) h hs hx hy
 rename_i e hu;have hu:=T.und_ok _ _ hu;split at h
 case h_2=>cases h
 rename_i re hr;obtain⟨ti,z,h1,_,_,h4,_⟩:=T.row_ok _ _ hr;split at h
 .rename_i r l jq
  cases hz:aqU r.size re.size with
  |false=>rw[hz]at h;cases h
  |true=>
   rw[hz,cond_true]at h;have hz:=beq_true hz;obtain⟨a,ha,hk⟩:=bind_some h;have jq:=lj hs jq hx;obtain⟨b,off,cap,j,hv,hj,aI,hF,vy⟩:=eF.elemAt jq ha;refine⟨_,hk,bx hs (pM r.size hu h1 (h4.trans hz.symm) hv hy hj aI) ⟨b,_,rfl,hF,vy⟩⟩
 .rename_i o s T' r l jq
  cases hz:aqU r.size re.size with
  |false=>rw[hz]at h;cases h
  |true=>
   rw[hz,cond_true]at h;have hz:=beq_true hz;obtain⟨a,ha,hk⟩:=bind_some h;obtain⟨hv,gz,iH⟩:=lj hs jq hx;obtain⟨v',gZ,eJ⟩:=hs.obj _ _ _ gz;obtain⟨j,hj,aI,hja⟩:=jX ha;obtain⟨_,xs,Ts,_⟩:=iH
   rcases Ts.2 with⟨Pw,h0⟩|⟨g,o0,cap,cur,Mv,_,_,_⟩
   .omega
   .have hp:=pM (P:=P) (d:=aa d) (ty:=ty) (pos:=pos) (aft:=aft) r.size hu h1 (h4.trans hz.symm) Mv hy hj aI;refine⟨_,hk,bx hs hp ⟨g,o0,j,T',l.length,cap,l,?_,hj,eJ.con,ha,rfl⟩⟩
    grind
 .rename_i o s T' d' l hh jq;obtain⟨hz,h⟩:=Kg h;have hz:=beq_true hz;obtain⟨a,ha,hk⟩:=bind_some h;obtain⟨hv,gz,eJ⟩:=lj hs jq hx;obtain⟨j,hj,aI,hja⟩:=jX ha;obtain⟨lh,_,⟨xs,Ts,_⟩,EK,_⟩:=eJ.ok
  rcases Ts.2 with⟨Pw,h0⟩|⟨g,o0,cap,cur,Mv,_,_,_⟩
  .omega
  .have hp:=pM (P:=P) (d:=aa d) (ty:=ty) (pos:=pos) (aft:=aft) d'.low.size hu h1 (h4.trans hz.symm) Mv hy hj (by omega);refine⟨_,hk,bx hs hp ⟨g,o0,j,lh.length,cap,?_,hj,rfl⟩⟩
   grind
 .cases h
theorem zu{b:Nat}{T:TypeId}{es:List Value}(hh:w.heap[b]? =aa (.cells es.toArray T (0,0)))(j:Nat):w.cell? ⟨b,j,ae⟩=es[j]? :=by
 rw[cell_of_row w b j _ T (0,0) hh];simp
theorem qT(T:b7 P){t:TypeId}{kk:Oy}(hu:find T.und t=aa kk){x:Operand}{b off:Nat}{s:Tree}{cs:List Value}(hx:ev ρ x= .pointer (aa ⟨b,off,ae⟩))(hs:aX U H F w ob n)
 (hh:Holds H F w s cs)(hc:∀j u,cs[j]? =aa u->w.cell? ⟨b,off+j,ae⟩=aa u)
 (hz:if pb kk=af then∃r,find T.row t=aa r/\r.size=s.size else s.size=1):
 eH P U H F w ρ ob n ⟨aa d, .load t x,ty,pos,aft,ae⟩ {dst:= .val (pb kk) s}:=by
 obtain⟨dd,xS,zk⟩:=(T.und_ok _ _ hu).agg;have hl:=hh.length
 cases ha:pb kk with
 |true=>
  rw[al ha]at hz;obtain⟨r,hr,OA⟩:=hz;obtain⟨ti,z,h1,_,_,h4,_⟩:=T.row_ok _ _ hr;exact cZ hs (Me xS (zk.trans ha) h1 (by omega) hx hc) ⟨cs,hh,rfl,by simp⟩
 |false=>
  rw[aj (by simp[ha])]at hz
  obtain⟨v,rfl⟩:∃v,cs=[v]:=by
   match cs,hl.trans hz with
   |[v],_=>exact⟨v,rfl⟩
  exact cZ hs (BO xS (zk.trans ha) hx (hc 0 v rfl)) ⟨[v],hh,rfl,λ_=>rfl⟩
def pR(T:b7 P)(t:TypeId)(kk:Oy)(m:Nat):Bool:=
 bif pb kk then(match find T.row t with|some r=>aqU r.size m|none=>ah)else aqU m 1
theorem mR(T:b7 P){t:TypeId}{kk:Oy}{m:Nat}(h:pR T t kk m=af):if pb kk=af then∃r,find T.row t=aa r/\r.size=m else m=1:=by
 grind [pR,beq_true]
def BV(T:b7 P)(ob:Nat->Option (Nat×Th))(t:TypeId)(D:aN)(k:gY->Option R):Option R:=
 match find T.und t with
 |none=>ae
 |some kk=>match D with
  | .at r x=>bif pR T t kk r.size then k {dst:= .val (pb kk) (.leaf r x)}else ae
  | .ptr o p off=>match ob o with
    |some (_, .box _ tr)=>match tr.get p with
     |some (s,fZ)=>bif aqU fZ off&&pR T t kk s.size then k {dst:= .val (pb kk) s}else ae
     |none=>ae
    |_=>ae
  | .elem o s r i x p off=>match ob o with
    |some (s', .own _ r' l)=>bif aqU s' s then
      (match sub r x p with
      |some ⟨q,y,fZ⟩=>bif aqU fZ off&&pR T t kk q.size then k {dst:= .val (pb kk) (.leaf q y)}else ae
      |none=>ae)
     else(idx l i).bind λx'=>match sub r' x' p with
      |some ⟨q,y,fZ⟩=>bif aqU fZ off&&pR T t kk q.size&&aqU r'.size r.size then k {dst:= .val (pb kk) (.leaf q y)}else ae
      |none=>ae
    |_=>ae
  |_=>ae
def bz{α:Type}{b:Bool}{x:Option α}{y:α}(h:(bif b then x else ae)=aa y):b=af/\x=aa y:=by
 cases b with
 |true=>exact⟨rfl,h⟩
 |false=>cases h
def e8{a b:Bool}(h:(a&&b)=af):a=af/\b=af:=by simpa using h
def Kh(hs:aX U H F w ob n){o s':Nat}{T':TypeId}{r':Row}{i:Int}{x':r'.den}{l:List r'.den}{g o0 q m cap:Nat}(gz:ob o=aa (s', .own T' r' l))(hv:H.val o=aa (.slice (aa ⟨g,o0,ae⟩) m cap))(hq:i=(q:Nat))(hi:idx l i=aa x'):
 At F w r' g (o0+q*r'.size) x':=(hs.own gz hv).at rfl hq hi
def Px(T:b7 P){t:TypeId}{D:aN}{x:Operand}{k:gY->Option R}{q:R}(h:BV T ob t D k=aa q)(hs:aX U H F w ob n)(hx:aO H F w D (ev ρ x)):
 ∃e,k e=aa q/\eH P U H F w ρ ob n ⟨aa d, .load t x,ty,pos,aft,ae⟩ e:=by
 unfold BV at h;split at h
 .cases h
 rename_i kk hu;split at h
 .rename_i r y;obtain⟨h1,h2⟩:=bz h;obtain⟨b,off,e,hF,es,hl,hc,hr⟩:=hx;exact⟨_,h2,qT T hu e hs (s:= .leaf r y) hr hc (mR T h1)⟩
 .rename_i o p off;split at h
  .rename_i st0 T0 tr gz;split at h
   .rename_i s fZ hg;obtain⟨h1,h2⟩:=bz h;obtain⟨h1,h3⟩:=e8 h1;obtain rfl:=beq_true h1;obtain⟨b,hb,e⟩:=hx;obtain⟨es,hh,VO⟩:=hs.box gz hb;obtain⟨g1,g2⟩:=VO.get hg
    grind [qT,mR,zu]
   .cases h
  .cases h
 .rename_i o s r i y p off;split at h
  .rename_i s' T0 r' l gz;obtain⟨g,o0,qq,T',m,cap,l0,e1,e2,e3,e4,e5⟩:=hx
   cases rE:aqU s' s with
   |true=>
    rw[rE,cond_true]at h;obtain rfl:=beq_true rE;obtain⟨v,hv,eJ⟩:=hs.obj _ _ _ gz;have hc:=eJ.con;rw[e3]at hc
    obtain⟨rfl,C9⟩:T'=T0/\(⟨r,l0⟩:(r:Row)×List r.den)=⟨r',l⟩:=by
     grind [Th.base]
    cases C9;split at h
    .rename_i q' y' fZ kK;obtain⟨h1,h2⟩:=bz h;obtain⟨h1,h3⟩:=e8 h1;obtain rfl:=beq_true h1;obtain⟨es,hl,Tv,hr⟩:=Ir kK (Kh hs gz e1 e2 e4);exact⟨_,h2,qT T hu e5 hs (s:= .leaf q' y') hr Tv (mR T h3)⟩
    .cases h
   |false=>
    rw[rE,cond_false]at h;obtain⟨x',VN,h⟩:=bind_some h;split at h
    .rename_i q' y' fZ kK;obtain⟨h1,h2⟩:=bz h;obtain⟨h1,h4⟩:=e8 h1;obtain⟨h1,h3⟩:=e8 h1;obtain rfl:=beq_true h1;have h4:=beq_true h4;obtain⟨es,hl,Tv,hr⟩:=Ir kK (Kh hs gz e1 e2 VN);rw[h4]at Tv;exact⟨_,h2,qT T hu e5 hs (s:= .leaf q' y') hr Tv (mR T h3)⟩
    .cases h
  .cases h
 .cases h
end
end Go.Proofs.YtfjgcenlllgonaaGreatDoor
namespace Go.Proofs.YtfjgcenlllgonaaGreatDoor
open Go Go.RowKit
def Iv:(r:Row)->List Bool->Option ((s:Row)×Path r s)
 |r,[]=>aa ⟨r, .here⟩
 | .pair a b,d::p=>match d with
   |false=>match Iv a p with
    |some ⟨s,q⟩=>aa ⟨s, .fst q⟩
    |none=>ae
   |true=>match Iv b p with
    |some ⟨s,q⟩=>aa ⟨s, .snd q⟩
    |none=>ae
 |_,_::_=>ae
section
variable {P:Program} {ρ:Nat->Value} {w w':World} {H H':aW} {F F':Nat->Prop} {U:Nat->Prop} {ob:Nat->Option (Nat×Th)} {n:Nat} {R:Type}
variable {op:Op} {ty:TypeId} {pos:String} {aft:Array Edge} {d:Nat}
def aW.cU(H:aW)(s:Nat)(t:Th):aW:=⟨H.val,λm=>if m=s then aa t else H.con m,H.sub⟩
def aW.ga(H:aW)(o:Nat)(v:Value):aW:=⟨λm=>if m=o then aa v else H.val m,H.con,H.sub⟩
def aW.kO(H:aW)(s:Nat)(S:Nat->Prop):aW:=⟨H.val,H.con,λm=>if m=s then S else H.sub m⟩
def aW.mS{H:aW}{s:Nat}{t:Th}(h:H.con s=ae):H.le (H.cU s t):=⟨λ_ _ h=>h,λm q hq=>by
 grind [aW.cU],λ_ _ _=>rfl⟩
def aW.Mw{H:aW}{s:Nat}{S:Nat->Prop}(h:H.con s=ae):H.le (H.kO s S):=⟨λ_ _ h=>h,λ_ _ h=>h,λm t hm=>by
 grind [aW.kO]⟩
def aW.wX{H:aW}{s:Nat}{t:Value}(h:H.val s=ae):H.le (H.ga s t):=⟨λm q hq=>by
 grind [aW.ga],λ_ _ h=>h,λ_ _ _=>rfl⟩
theorem jr{α:Type}{o o':Nat}{x y:α}(h:find [(o,x)] o'=aa y):o'=o/\y=x:=by
 rw[bA]at h;split at h
 .grind
 .cases h
def qG.Ki(hs:aX U H F w ob n){o s:Nat}{t t':Th}{v0:Value}(ho:ob o=aa (s,t))(hv:H.val o=aa v0)(hb:t'.base=t')(SV:∀k,fp (H.sub n) v0 t' k->fp (H.sub s) v0 t k){D:aN}{v:Value}
 (cP:Ext (fp (H.sub s) v0 t) w w')(sB:mJ (H.cU n t') F w' (H.sub n) v0 t')(hd:aO (H.cU n t') F w' D v):ph H F w ob n {dst:=D,eat:=[o],make:=[(o,(n,t'))]} v w':=by
 obtain⟨v1,wY,eJ⟩:=hs.obj _ _ _ ho;rw[hv]at wY;obtain rfl:=aqL wY
 have pn:∀k,fp (H.sub s) v0 t k->dH H ob [o] k:=λk hk=>⟨o,by simp,s,t,v0,ho,hv,hk⟩
 refine⟨H.cU n t',F,⟨aW.mS (hs.fresh n (aqS _) (by omega)).2,⟨cP.os,cP.tape,cP.output,cP.size,λk hk hn=>cP.block k hk λe=>hn (pn k e)⟩,λ_ h=>h,λ_ h=> .inl h,λb hb=>ars (hs.lt b hb) cP.size⟩,λm hm=>?_,hd,⟨λo' s' q hq=>?_,λo1 o2 s1 s2 q1 q2 u1 u2 dG h1 h2=>?_⟩,λo' h=>?_⟩
 .grind [aW.cU]
 .obtain⟨rfl,e⟩:=jr hq;obtain⟨rfl,rfl⟩:=Prod.mk.inj e;refine⟨v0,hv,eJ.one,by simp[aW.cU,hb],sB,λk hk=>⟨eJ.no k (SV k hk),ars (eJ.lt k (SV k hk)) cP.size, .inr (pn k (SV k hk))⟩⟩
 all_goals grind [jr,arA]
def qG.new(hs:aX U H F w ob n){eat:List Nat}{t:Th}{v0:Value}(hb:t.base=t)(h1:v0.oneCell'=af){D:aN}{v:Value}
 (cP:Ext (dH H ob eat) w w')(sB:mJ ((H.cU n t).ga n v0) F w' (H.sub n) v0 t)(SV:∀k,fp (H.sub n) v0 t k->¬F k/\k<w'.heap.size/\(w.heap.size<=k\/dH H ob eat k))
 (hd:aO ((H.cU n t).ga n v0) F w' D v):ph H F w ob n {dst:=D,eat:=eat,make:=[(n,(n,t))]} v w':=by
 have hf:=hs.fresh n (aqS _) (by omega);refine⟨(H.cU n t).ga n v0,F,⟨(aW.mS hf.2).trans (aW.wX (by simp[aW.cU,hf.1])),cP,λ_ h=>h,λ_ h=> .inl h,λb hb=>ars (hs.lt b hb) cP.size⟩,λm hm=>?_,hd,⟨λo' s' q hq=>?_,λo1 o2 s1 s2 q1 q2 u1 u2 dG h1 h2=>?_⟩,λo' h=>?_⟩
 .simp[aW.cU,aW.ga,show m≠n from by omega]
 .obtain⟨rfl,e⟩:=jr hq;obtain⟨rfl,rfl⟩:=Prod.mk.inj e;exact⟨v0,by simp[aW.ga],h1,by simp[aW.cU,aW.ga,hb],sB,SV⟩
 .grind [jr]
 .right
  obtain⟨y,hy⟩:=arA.1 h
  grind [jr]
def wZ(T:b7 P)(ob:Nat->Option (Nat×Th))(n:Nat)(t:TypeId)(D V:aN)(k:gY->Option R):Option R:=
 match find T.row t with
 |none=>ae
 |some rt=>match V with
  | .val _ u=>match D with
    | .ptr o p off=>match ob o with
      |some (_, .box T0 tr)=>match tr.get p with
       |some (s,fZ)=>bif aqU fZ off&&aqU rt.size s.size&&aqU u.size s.size then
         (match tr.put p u with
         |some tr'=>k {dst:= .dead,eat:=[o],make:=[(o,(n, .box T0 tr'))]}
         |none=>ae)else ae
       |none=>ae
      |_=>ae
    | .elem o s r i x p off=>match ob o with
      |some (s', .own T0 r' l)=>match Iv r' p with
       |some ⟨q,BW⟩=>bif aqU BW.off off&&aqU rt.size q.size&&aqU r'.size r.size then
         (match flat ob q u with
         |some y=>bif aqU s' s then
           (if h:r.beq r'=af then k {dst:= .dead,eat:=[o],make:=[(o,(n, .own T0 r' (bn l i (BW.set (lO (Row.eq_of_beq h) x) y))))]}else ae)
          else(idx l i).bind λx'=>k {dst:= .dead,eat:=[o],make:=[(o,(n, .own T0 r' (bn l i (BW.set x' y))))]}
         |none=>ae)else ae
       |none=>ae
      |_=>ae
    |_=>ae
  |_=>ae
def bB.cells{agg:Bool}{t:Tree}{v:Value}(h:bB H F w agg t v):∃cs,Holds H F w t cs/\v.cells.toList=cs:=by
 obtain⟨cs,h1,h2,h3⟩:=h;refine⟨cs,h1,?_⟩
 cases agg with
 |true=>rw[h2];rfl
 |false=>
  have e:=h3 rfl;have h1c:=h1.mw v (by rw[e];simp);rw[e]
  cases v<;>first|rfl|simp[ar2]at h1c
def zw(T:b7 P){t:TypeId}{rt:Row}(Kj:find T.row t=aa rt){x y:Operand}{o s':Nat}{T0:TypeId}{r q:Row}{i:Int}{x':r.den}{z:q.den}{l:List r.den}{p:Path r q}{off g o0 j m cap:Nat}{agg:Bool}{u:Tree}
 (hs:aX U H F w ob n)(gz:ob o=aa (s', .own T0 r l))(hv:H.val o=aa (.slice (aa ⟨g,o0,ae⟩) m cap))(hj:i=(j:Nat))(hi:idx l i=aa x')(hx:ev ρ x= .pointer (aa ⟨g,o0+j*r.size+off,ae⟩))(Tw:p.off=off)(hz:rt.size=q.size)
 (hf:flat ob q u=aa z)(hV:bB H F w agg u (ev ρ y)):
 eH P U H F w ρ ob n ⟨ae, .store t x y,ty,pos,aft,ae⟩ {dst:= .dead,eat:=[o],make:=[(o,(n, .own T0 r (bn l i (p.set x' z))))]}:=by
 obtain⟨ti,z0,h1,_,_,h4,_⟩:=T.row_ok _ _ Kj;obtain⟨cs,vC,Bj⟩:=hV.cells;have hr:=m5 hs hf vC;have iH:=hs.own gz hv;obtain⟨k',hk,aI,rfl⟩:=jX hi
 obtain rfl:k'=j:=by omega
 obtain⟨cur,hh,hle,cP,mh⟩:=iH.put rfl aI hs.lt p hr;subst Tw;refine ef.unit (rA h1 (h4.trans (hz.trans hr.length.symm)) hx rfl Bj hr.mw hh hle) ?_;refine qG.Ki (t':= .own T0 r (bn l i (p.set l[k'] z))) (D:= .dead) hs gz hv rfl (λ_ h=>h) cP ?_ trivial;have:mJ (H.cU n (.own T0 r (bn l i (p.set l[k'] z)))) F (w.setRow g (cur.toList.take (o0+k'*r.size+p.off)++cs++cur.toList.drop (o0+k'*r.size+p.off+cs.length)).toArray) (H.sub n) (.slice (aa ⟨g,o0,ae⟩) m cap) (.own T0 r (l.set k' (p.set l[k'] z))):=mh.2
 grind [bn,aqR]
def Mx(T:b7 P){t:TypeId}{D V:aN}{x y:Operand}{k:gY->Option R}{q:R}(h:wZ T ob n t D V k=aa q)(hs:aX U H F w ob n)(hx:aO H F w D (ev ρ x))(hy:aO H F w V (ev ρ y)):
 ∃e,k e=aa q/\eH P U H F w ρ ob n ⟨ae, .store t x y,ty,pos,aft,ae⟩ e:=by
 unfold wZ at h;split at h
 .cases h
 rename_i rt Kj;split at h
 case h_2=>cases h
 rename_i agg u;split at h
 .rename_i o p off;split at h
  case h_2=>cases h
  rename_i s0 T0 tr gz;split at h
  case h_2=>cases h
  rename_i s fZ hg;obtain⟨h1,h2⟩:=bz h;obtain⟨h1,HU⟩:=e8 h1;obtain⟨h1,SW⟩:=e8 h1;obtain rfl:=beq_true h1;have SW:=beq_true SW;have HU:=beq_true HU;split at h2
  case h_2=>cases h2
  rename_i tr' hp;obtain⟨b,hb,e⟩:=hx;obtain⟨es,hh,VO⟩:=hs.box gz hb;obtain⟨cs,vC,Bj⟩:=bB.cells hy;have hl:=vC.length;have hle:=(VO.get hg).2;have zq:=Holds.put vC hg hp HU.symm VO;obtain⟨ti,z0,g1,_,_,g4,_⟩:=T.row_ok _ _ Kj;refine⟨_,h2,ef.unit (rA g1 (by omega) e rfl Bj vC.mw hh (by simp;omega)) ?_⟩
  have Y3:¬F b:=by
   obtain⟨v1,wY,eJ⟩:=hs.obj _ _ _ gz;rw[hb]at wY;obtain rfl:=aqL wY;exact eJ.no b rfl
  have cP:Ext (fp (H.sub s0) (.pointer (aa ⟨b,0,ae⟩)) (.box T0 tr)) w (w.setRow b (es.toArray.toList.take fZ++cs++es.toArray.toList.drop (fZ+cs.length)).toArray):=
   ⟨rfl,rfl,rfl,by simp,λk _ hk=>setRow_other w b k _ λe=>hk (by simp[fp,e])⟩
  refine qG.Ki (t':= .box T0 tr') (D:= .dead) hs gz hb rfl (λk hk=>hk) cP ⟨b,_,rfl,setRow_heap w b _ _ T0 (0,0) hh,?_⟩ trivial
  have hk:=zq.keep (H':=H.cU n (.box T0 tr')) (aW.mS (hs.fresh n (aqS _) (by omega)).2) (Step.ext cP hs.lt λk hk=>by
   grind [fp])
  grind
 .rename_i o s r i x0 p off;split at h
  case h_2=>cases h
  rename_i s' T0 r' l gz;split at h
  case h_2=>cases h
  rename_i q' BW Dc;obtain⟨h1,h2⟩:=bz h;obtain⟨h1,HU⟩:=e8 h1;obtain⟨h1,SW⟩:=e8 h1;have h1:=beq_true h1;have SW:=beq_true SW;have HU:=beq_true HU;split at h2
  case h_2=>cases h2
  rename_i z hf;obtain⟨g,o0,qq,T',m,cap,l0,e1,e2,e3,e4,e5⟩:=hx;rw[<-HU]at e5
  cases rE:aqU s' s with
  |true=>
   rw[rE,cond_true]at h2;obtain rfl:=beq_true rE;split at h2
   case isFalse=>cases h2
   rename_i E3;obtain⟨v,hv,eJ⟩:=hs.obj _ _ _ gz;have hc:=eJ.con;rw[e3]at hc
   obtain⟨rfl,C9⟩:T'=T0/\(⟨r,l0⟩:(r:Row)×List r.den)=⟨r',l⟩:=by
    grind [Th.base]
   cases C9;exact⟨_,h2,zw T Kj hs gz e1 e2 e4 e5 h1 SW hf hy⟩
  |false=>
   rw[rE,cond_false]at h2;obtain⟨x',VN,h2⟩:=bind_some h2;exact⟨_,h2,zw T Kj hs gz e1 e2 VN e5 h1 SW hf hy⟩
 .cases h
def Py(hs:aX U H F w ob n){t:TypeId}{tr:Tree}{cs:List Value}(hh:Holds H F w tr cs):
 ph H F w ob n {dst:= .ptr n [] 0,make:=[(n,(n, .box t tr))]} (.pointer (aa ⟨w.heap.size,0,ae⟩)) (w.alloc (.cells cs.toArray t)):=by
 have cP:Ext (dH H ob []) w (w.alloc (.cells cs.toArray t)):=⟨rfl,rfl,rfl,by simp,λk hk _=>Below.heap_alloc w _ k hk⟩
 have hf:=hs.fresh n (aqS _) (by omega);refine qG.new (v0:= .pointer (aa ⟨w.heap.size,0,ae⟩)) hs rfl rfl cP ⟨_,cs,rfl,heap_alloc_new w _,?_⟩ (λk hk=>?_) ⟨w.heap.size,by simp[aW.ga],rfl⟩
 .exact hh.keep ((aW.mS hf.2).trans (aW.wX (by simp[aW.cU,hf.1]))) (Step.alloc hs.lt _)
 .simp only[fp,Value.pointer.injEq,aq1,Addr.mk.injEq,and_true]at hk;subst hk;exact⟨λe=>by have:=hs.lt _ e;omega,by simp, .inl (aqS _)⟩
def w4(T:b7 P)(n:Nat)(t:TypeId)(k:gY->Option R):Option R:=
 match find T.row t with
 |some r=>k {dst:= .ptr n [] 0,make:=[(n,(n, .box t r.E1))]}
 |none=>ae
def My(T:b7 P){t:TypeId}{k:gY->Option R}{q:R}(h:w4 T n t k=aa q)(hs:aX U H F w ob n):
 ∃e,k e=aa q/\eH P U H F w ρ ob n ⟨aa d, .alloc t,ty,pos,aft,ae⟩ e:=by
 unfold w4 at h;split at h
 case h_2=>cases h
 rename_i r hr;obtain⟨ti,z,h1,h2,h3,_,_⟩:=T.row_ok _ _ hr;refine⟨_,h,ef.val (Mg h1 h2) ?_⟩;have:=Py (t:=t) hs (Row.qg H F w r);rw[<-h3,arG]at this;exact this
def Mz(n:Nat)(t:TypeId)(V:aN)(k:gY->Option R):Option R:=
 match V with
 | .val _ u=>k {dst:= .ptr n [] 0,make:=[(n,(n, .box t u))]}
 |_=>ae
def Tx{t:TypeId}{V:aN}{x:Operand}{k:gY->Option R}{q:R}(h:Mz n t V k=aa q)(hs:aX U H F w ob n)(hx:aO H F w V (ev ρ x)):
 ∃e,k e=aa q/\eH P U H F w ρ ob n ⟨aa d, .box t x,ty,pos,aft,ae⟩ e:=by
 unfold Mz at h;split at h
 case h_2=>cases h
 rename_i agg u;obtain⟨cs,vC,Bj⟩:=bB.cells hx;refine⟨_,h,ef.val (Tj rfl) ?_⟩;have:=Py (t:=t) hs vC;rw[<-Bj,arG]at this;exact this
end
end Go.Proofs.YtfjgcenlllgonaaGreatDoor
end
namespace Go.Proofs.YtfjgcenlllgonaaGreatDoor
open Go Go.RowKit
set_option maxRecDepth 100000
set_option linter.unusedSimpArgs false
set_option linter.unusedVariables false
set_option linter.defProp false
section
section
variable {P:Program} {ρ:Nat->Value} {w w':World} {H H':aW} {F F':Nat->Prop} {U:Nat->Prop} {ob:Nat->Option (Nat×Th)} {n:Nat} {R:Type}
variable {op:Op} {ty:TypeId} {pos:String} {aft:Array Edge} {d:Nat}
def tQ{base:Nat}{T:TypeId}{r:Row}{v:Value}{l:List r.den}(h:qa base F w T r v l):v.oneCell'=af:=by
 obtain⟨A,cap,rfl,_⟩:=h.reads;rfl
def tR{H:aW}{o:Nat}{v:Value}(h:H.val o=aa v)(h1:v.oneCell'=af):aO H F w (.val ah (.own o)) v:=⟨[v],⟨v,h,h1,rfl⟩,rfl,λ_=>rfl⟩
def w5(hs:aX U H F w ob n){e:TypeId}{r:Row}{v:Value}{l:List r.den}{eat:List Nat}(cP:Ext (dH H ob eat) w w')(ho:qa 0 F w' e r v l)(hn:∀k,cF v k->dH H ob eat k\/w.heap.size<=k):
 ph H F w ob n {dst:= .val ah (.own n),eat:=eat,make:=[(n,(n, .own e r l))]} v w':=
 qG.new (v0:=v) hs rfl (tQ ho) cP ho.2 (λk hk=>⟨ho.1 k hk,ho.lt k hk,(hn k hk).symm⟩) (tR (by simp[aW.ga]) (tQ ho))
def BX{g:Nat->Prop}(o:Obj):Ext g w (w.alloc o):=⟨rfl,rfl,rfl,by simp,λk hk _=>Below.heap_alloc w _ k hk⟩
def mkC{α:Type}(a b:Int)(z:α):Option (List α):=if 0<=a/\a<=b/\b<=4294967296 then aa (aqO a.toNat z)else ae
def sK:Operand->Operand->Bool
 | .tmp a, .tmp b=>aqU a b
 | .const (.int _ a), .const (.int _ b)=>decide (a=b)
 |_,_=>ah
def BY{e t:TypeId}{r:Row}{a b:Int}(ht:P.underlying t=aa (.slice e))(uZ:TI P e r)(hs:aX U H F w ob n){ka kb:IntKind}{x y:Operand}(hx:ev ρ x= .int ka a)(hy:ev ρ y= .int kb b)(h0:0<=a)(h1:a<=b)(h2:b<=4294967296):
 ∃v w',(execOp (ev ρ) ⟨aa d, .makeSlice t x y,ty,pos,aft,ae⟩).run P w= .ok (.value v) w'/\(∀g,Ext g w w')/\qa 0 F w' e r v (aqO a.toNat r.zero)/\∀k,cF v k->w.heap.size<=k:=by
 obtain⟨ti,z,hi,hz,Zw,p9,Ot⟩:=uZ;obtain⟨ca,rfl⟩:=aqV h0;obtain⟨cb,rfl⟩:=aqV (Int.le_trans h0 h1)
 have hc:cb<=4294967296:=by omega
 have HT:ti.bytes*cb<=281474976710656:=Nat.le_trans (Nat.mul_le_mul Ot hc) (by omega)
 have sE:(ti.bytes:Int)*(cb:Int)<=281474976710656:=by
  have h:((ti.bytes*cb:Nat):Int)<=281474976710656:=by omega
  rwa [arx]at h
 have cO:=run_make (P:=P) w t e ti z ht hi hz ka kb ca cb (by omega) (by omega) sE (by omega)
 have hzl:z.cells=r.je.toArray:=by rw[<-Zw,arG]
 have hzn:r.je.length=r.size:=(eF.zero F w r).length;have oZ:=r.size_pos;simp only[aqR]at cO;refine⟨.slice (aa ⟨w.heap.size,0,ae⟩) ca cb,w.alloc (.cells (madeCells z.cells (cb*ti.size)) e),by simp[execOp,hx,hy,cO],λ_=>BX _,⟨λq hq=>?_,(madeCells z.cells (cb*ti.size)).toList.take (ca*r.size),?_,?_⟩,λq hq=>?_⟩
 .simp only[cF,ark,aq1]at hq;intro e;have:=hs.lt _ e;omega
 .have hle:ca*r.size<=cb*r.size:=aq4 _ (by omega);have adK:=size_madeCells z.cells (cb*ti.size);refine qd.of ⟨by grind, .inr ⟨w.heap.size,cb,madeCells z.cells (cb*ti.size),by simp,aq2 _,heap_alloc_new w _,by simp;omega,by simp[maxLen];omega,by rw[adK,p9],by simp⟩⟩
 .intro i aI;simp only[aqR,List.length_replicate]at aI;have hle:(i+1)*r.size<=ca*r.size:=aq4 _ aI
  grind [Pb,eF.zero,List.drop_take]
 .simp only[cF,ark,aq1]at hq;omega
def E4{e t:TypeId}{r:Row}{a b:Int}(ht:P.underlying t=aa (.slice e))(uZ:TI P e r)(hs:aX U H F w ob n){ka kb:IntKind}{x y:Operand}(hx:ev ρ x= .int ka a)(hy:ev ρ y= .int kb b)(h0:0<=a)(h1:a<=b)(h2:b<=4294967296):
 eH P U H F w ρ ob n ⟨aa d, .makeSlice t x y,ty,pos,aft,ae⟩ {dst:= .val ah (.own n),make:=[(n,(n, .own e r (aqO a.toNat r.zero)))]}:=by
 obtain⟨v,w',cO,cP,iH,Pz⟩:=BY (d:=d) (ty:=ty) (pos:=pos) (aft:=aft) ht uZ hs hx hy h0 h1 h2;exact ef.val cO (w5 hs (cP _) iH λq hq=> .inr (Pz q hq))
def zx(T:b7 P)(n:Nat)(t:TypeId)(same:Bool)(a b:Int)(k:gY->Option R):Option R:=
 match find T.und t with
 |some (.slice e)=>match find T.row e with
  |some r=>(bif same then ol a r.zero else mkC a b r.zero).bind λl=>k {dst:= .val ah (.own n),make:=[(n,(n, .own e r l))]}
  |none=>ae
 |_=>ae
def BZ{x y:Operand}(h:sK x y=af){a b:Int}{ka kb:IntKind}(hx:ev ρ x= .int ka a)(hy:ev ρ y= .int kb b):a=b:=by
 unfold sK at h
 grind [beq_true,ev]
def E5(T:b7 P){t:TypeId}{a b:Int}{ka kb:IntKind}{x y:Operand}{k:gY->Option R}{q:R}(h:zx T n t (sK x y) a b k=aa q)(hs:aX U H F w ob n)(hx:ev ρ x= .int ka a)(hy:ev ρ y= .int kb b):
 ∃e,k e=aa q/\eH P U H F w ρ ob n ⟨aa d, .makeSlice t x y,ty,pos,aft,ae⟩ e:=by
 unfold zx at h;split at h
 case h_2=>cases h
 rename_i e hu;split at h
 case h_2=>cases h
 rename_i r hr;obtain⟨l,hl,hk⟩:=bind_some h;have uZ:=T.row_ok _ _ hr;have ht:=T.und_ok _ _ hu
 cases lU:sK x y with
 |true=>
  rw[lU,cond_true]at hl;unfold ol at hl;split at hl
  case isFalse=>cases hl
  rename_i hc;obtain rfl:=aqL hl;obtain rfl:=BZ lU hx hy;exact⟨_,hk,E4 ht uZ hs hx hy hc.1 (arO _) hc.2⟩
 |false=>
  rw[lU,cond_false]at hl;unfold mkC at hl;split at hl
  case isFalse=>cases hl
  rename_i hc;obtain rfl:=aqL hl;exact⟨_,hk,E4 ht uZ hs hx hy hc.1 hc.2.1 hc.2.2⟩
def asL(ob:Nat->Option (Nat×Th))(r:Row)(D:aN):Option (List r.den):=
 match yA ob D with
 |some (.read s l)=>if h:s.beq r=af then aa (lO (r:= .slice s) (s:= .slice r) (ay Row.slice (Row.eq_of_beq h)) l)else ae
 |some (.own _ _ _ s l)=>if h:s.beq r=af then aa (lO (r:= .slice s) (s:= .slice r) (ay Row.slice (Row.eq_of_beq h)) l)else ae
 |some .nil=>aa []
 |some (.view ..)=>ae
 |some (.deep ..)=>ae
 |none=>ae
def WJ(hs:aX U H F w ob n){r:Row}{D:aN}{l:List r.den}{v:Value}(h:asL ob r D=aa l)(hd:aO H F w D v):Reads F w r v l:=by
 unfold asL at h;split at h
 .rename_i s m jq;split at h
  case isFalse=>cases h
  rename_i hb;obtain rfl:=Row.eq_of_beq hb;obtain rfl:=aqL h;exact eF.reads (lj hs jq hd)
 .rename_i o s0 T s m jq;split at h
  case isFalse=>cases h
  rename_i hb;obtain rfl:=Row.eq_of_beq hb;obtain rfl:=aqL h;exact(lj hs jq hd).2.2.reads
 .rename_i jq;obtain rfl:=aqL h;have:v=_:=lj hs jq hd;subst this;exact(eF.nil F w r).reads
 all_goals grind
def xT:Pv->Int
 | .read _ l=>(l.length:Int)
 | .own _ _ _ _ l=>(l.length:Int)
 | .nil=>0
 | .view _ _ _ l=>(l.length:Int)
 | .deep _ _ _ _ l _=>(l.length:Int)
def PA{v:Value}{k:Pv}(h:Tu U H F w ob v k):∃A m cap,v= .slice A m cap/\xT k=(m:Int):=by
 cases k with
 |read r l=>
  obtain⟨A,cap,e,_⟩:=eF.Ig h;exact⟨A,_,cap,e,rfl⟩
 |own o s T r l=>
  obtain⟨A,cap,e,_⟩:=h.2.2.reads;exact⟨A,_,cap,e,rfl⟩
 |nil=>exact⟨ae,0,0,h,rfl⟩
 |view o s r m=>
  obtain⟨A,cap,T,l,a,b,_,_,h3,h4,rfl,rfl⟩:=h;refine⟨_,_,_,rfl,?_⟩
  grind [xT]
 |deep o s T d l hh=>
  obtain⟨lh,_,⟨xs,Ts,_⟩,EK,_⟩:=h.2.2.ok
  rcases Ts.2 with⟨Pw,h0⟩|⟨g,o0,cap,cur,Mv,_,_,_⟩
  all_goals grind [xT]
def MA(T:b7 P)(ob:Nat->Option (Nat×Th))(t:TypeId)(D:aN):Option aN:=
 match find T.und t with
 |some (.slice _)=>match yA ob D with
  |some k=>aa (pP .i64 (xT k))
  |none=>ae
 |some .str=>match EW D with
  |some s=>aa (pP .i64 (s.size:Int))
  |none=>ae
 |_=>ae
def Kk(T:b7 P){t:TypeId}{D D':aN}{x:Operand}(h:MA T ob t D=aa D')(hs:aX U H F w ob n)(hx:aO H F w D (ev ρ x)):
 eH P U H F w ρ ob n ⟨aa d, .call {callee:= .builtin .len,args:= #[x],argTypes:= #[t]},ty,pos,aft,ae⟩ {dst:=D'}:=by
 unfold MA at h;split at h
 .rename_i e hu;split at h
  case h_2=>cases h
  rename_i k hk;obtain rfl:=aqL h;obtain⟨A,m,cap,e1,e2⟩:=PA (lj hs hk hx);rw[e2];exact bx hs (O8 rfl (T.und_ok _ _ hu) e1) (bB.mQ ..)
 .rename_i hu;split at h
  case h_2=>cases h
  rename_i s hk;obtain rfl:=aqL h;exact bx hs (Ma (T.und_ok _ _ hu) (zt hk hx)) (bB.mQ ..)
 .cases h
def tS(T:b7 P)(ob:Nat->Option (Nat×Th))(n:Nat)(t:TypeId)(X Y:aN)(k:gY->Option R):Option R:=
 match find T.und t with
 |some (.slice e)=>match find T.row e with
  |some r=>match asL ob r Y with
   |some m=>match yA ob X with
    |some .nil=>(cf ([]:List r.den) m).bind λl=>k {dst:= .val ah (.own n),make:=[(n,(n, .own e r l))]}
    |some (.own o _ T0 s l0)=>bif aqU T0 e then
      (if h:s.beq r=af then(cf (lO (r:= .slice s) (s:= .slice r) (ay Row.slice (Row.eq_of_beq h)) l0) m).bind λl=>k {dst:= .val ah (.own n),eat:=[o],make:=[(n,(n, .own e r l))]}else ae)else ae
    |_=>ae
   |none=>ae
  |none=>ae
 |_=>ae
def Iw(T:b7 P){t:TypeId}{X Y:aN}{x y:Operand}{k:gY->Option R}{q:R}(h:tS T ob n t X Y k=aa q)(hs:aX U H F w ob n)(hx:aO H F w X (ev ρ x))(hy:aO H F w Y (ev ρ y)):
 ∃e,k e=aa q/\eH P U H F w ρ ob n ⟨aa d, .call {callee:= .builtin .append,args:= #[x,y],argTypes:= #[t,t]},ty,pos,aft,ae⟩ e:=by
 unfold tS at h;split at h
 case h_2=>cases h
 rename_i e hu;split at h
 case h_2=>cases h
 rename_i r hr;obtain⟨ti,z,h1,h2,h3,h4,h5⟩:=T.row_ok _ _ hr;have ht:=T.und_ok _ _ hu;split at h
 case h_2=>cases h
 rename_i m hm;have kA:=WJ hs hm hy
 have key:∀{l out:List r.den},qa 0 F w e r (ev ρ x) l->cf l m=aa out->∃v' w',(execOp (ev ρ) ⟨aa d, .call {callee:= .builtin .append,args:= #[x,y],argTypes:= #[t,t]},ty,pos,aft,ae⟩).run P w= .ok (.value v') w'/\Ext (cF (ev ρ x)) w w'/\qa 0 F w' e r v' out/\(∀k,cF v' k->cF (ev ρ x) k\/w.heap.size<=k):=by
  intro l out ho ha;obtain⟨v',w',cO,he,oY,Ov⟩:=zi ty ht h1 h2 h3 h4 h5 ho kA ha hs.lt (aq2 _);refine⟨v',w',by simp[execOp,resolve,invoke,builtin,cO],he,oY,λk hk=>?_⟩
  rcases Ov with g|g
  .exact .inl (g▸hk)
  .simp_all
 split at h
 .rename_i jq;obtain⟨l,hl,hk⟩:=bind_some h;have hv:ev ρ x=_:=lj hs jq hx;obtain⟨v',w',cO,he,oY,hn⟩:=key (by rw[hv];exact qa.nil 0 F w e r) hl
  have no:∀k,¬cF (ev ρ x) k:=λk hk=>by rw[hv]at hk;simp[cF,ark]at hk
  exact⟨_,hk,ef.val cO (w5 hs ⟨he.os,he.tape,he.output,he.size,λk hk _=>he.block k hk (no k)⟩ oY (by grind))⟩
 .rename_i o s0 T0 s l0 jq;obtain⟨hb,h⟩:=bz h;obtain rfl:=beq_true hb;split at h
  case isFalse=>cases h
  rename_i E3;obtain rfl:=Row.eq_of_beq E3;obtain⟨l,hl,hk⟩:=bind_some h;obtain⟨hv,gz,iH⟩:=lj hs jq hx;obtain⟨v',w',cO,he,oY,hn⟩:=key iH hl
  have pn:∀k,cF (ev ρ x) k->dH H ob [o] k:=λk hk=>⟨o,by simp,_,_,_,gz,hv,hk⟩
  exact⟨_,hk,ef.val cO (w5 hs ⟨he.os,he.tape,he.output,he.size,λk hk BQ=>he.block k hk λhm=>BQ (pn k hm)⟩ oY λk hk=>(hn k hk).imp (pn k) id)⟩
 .cases h
def E6(ob:Nat->Option (Nat×Th))(r:Row):List aN->Option (List r.den)
 |[]=>aa []
 | .val _ u::l=>match flat ob r u with
   |some x=>match E6 ob r l with
    |some xs=>aa (x::xs)
    |none=>ae
   |none=>ae
 |_::_=>ae
def vJ(rd:Operand->Option aN):List Operand->Option (List aN)
 |[]=>aa []
 |x::xs=>match rd x with
  |some d=>match vJ rd xs with
   |some ds=>aa (d::ds)
   |none=>ae
  |none=>ae
def iL(H:aW)(F:Nat->Prop)(w:World):List aN->List Value->Prop
 |[],vs=>vs=[]
 |d::ds,vs=>∃v us,vs=v::us/\aO H F w d v/\iL H F w ds us
def qU{rd:Operand->Option aN}(h:∀x d,rd x=aa d->aO H F w d (ev ρ x)):{xs:List Operand}->{ds:List aN}->vJ rd xs=aa ds->iL H F w ds (xs.map (ev ρ))
 |[],ds,e=>by obtain rfl:=aqL e;rfl
 |x::xs,ds,e=>by
  unfold vJ at e
  cases h1:rd x with
  |none=>rw[h1]at e;cases e
  |some d=>
   cases h2:vJ rd xs with
   |none=>grind
   |some ds'=>
    simp only[h1,h2,aq1]at e;subst e;exact⟨_,_,rfl,h _ _ h1,qU h h2⟩
def E7(hs:aX U H F w ob n){r:Row}:{ds:List aN}->{l:List r.den}->{vs:List Value}->E6 ob r ds=aa l->iL H F w ds vs->zj F w r vs l
 |[],l,vs,e,h=>by
  obtain rfl:=aqL e;rw[show vs=[]from h];exact .nil
 | .val _ u::ds,l,vs,e,h=>by
   obtain⟨v,us,rfl,h1,h2⟩:=h;unfold E6 at e
   cases hf:flat ob r u with
   |none=>rw[hf]at e;cases e
   |some x=>
    cases hg:E6 ob r ds with
    |none=>grind
    |some xs=>
     simp only[hf,hg,aq1]at e;subst e;obtain⟨cs,vC,Bj⟩:=bB.cells h1;exact .cons Bj (m5 hs hf vC) (E7 hs hg h2)
 | .dead::_,_,_,e,_=>by cases e
 | .undef::_,_,_,e,_=>by cases e
 | .ptr .. ::_,_,_,e,_=>by cases e
 | .at .. ::_,_,_,e,_=>by cases e
 | .elem .. ::_,_,_,e,_=>by cases e
 | .tup _::_,_,_,e,_=>by cases e
 | .dlm .. ::_,_,_,e,_=>by cases e
def zy{e t:TypeId}{r:Row}{xs:List Operand}{l:List r.den}{parts:Array (Nat×Operand)}(ht:P.underlying t=aa (.slice e))(uZ:TI P e r)(fI:parts=((xs.zipIdx).map λp=>(p.2,p.1)).toArray)(lU:xs.length*r.size<=16777216)
 (hl:zj F w r (xs.map (ev ρ)) l)(hs:aX U H F w ob n):
 ∃v w',(execOp (ev ρ) ⟨aa d, .buildSlice t xs.length parts,ty,pos,aft,ae⟩).run P w= .ok (.value v) w'/\(∀g,Ext g w w')/\qa 0 F w' e r v l/\∀k,cF v k->w.heap.size<=k:=by
 obtain⟨ti,z,h1,h2,h3,h4,h5⟩:=uZ
 have MB:(xs.map (ev ρ)).length=xs.length:=by simp
 have EK:=hl.length;have oZ:=r.size_pos
 have Zv:z.cells.size=r.size:=by rw[<-(eF.zero F w r).length,<-h3];simp
 have ZF:(parts.map λ(i,q)=>(i,ev ρ q)).toList=((xs.map (ev ρ)).zipIdx).map λp=>(p.2,p.1):=by
  subst fI;simp[List.zipIdx_map,Function.comp_def]
 generalize hm:xs.length=m at*;generalize xs.map (ev ρ)=vs at*
 have key:∀zz:Array Value,zz.size=m*r.size->∃HV:List Value,Instr.fill (λi=>aa (i*r.size,r.size)) zz ((vs.zipIdx).map λp=>(p.2,p.1))=aa HV.toArray/\HV.length=l.length*r.size/\∀i(hi:i<l.length),eF F w r ((HV.drop (i*r.size)).take r.size) l[i]:=by
  intro zz ZG;obtain⟨HV,a1,a2,a3⟩:=hl.fill 0 [] zz.toList (by simp) (by rw[Array.length_toList,ZG,MB]);exact⟨HV,by simpa using a1,a2,a3⟩
 have cO:∃HV:List Value,(execOp (ev ρ) ⟨aa d, .buildSlice t m parts,ty,pos,aft,ae⟩).run P w= .ok (.value (.slice (aa ⟨w.heap.size,0,ae⟩) m m)) (w.alloc (.cells HV.toArray e))/\HV.length=l.length*r.size/\∀i(hi:i<l.length),eF F w r ((HV.drop (i*r.size)).take r.size) l[i]:=by
  by_cases h0:m*r.size=0
  .obtain⟨HV,a1,a2,a3⟩:=key #[] (by simp[h0]);refine⟨HV,?_,a2,a3⟩;simp only[execOp,Instr.buildSlice,arf,run_underlying ht,arN];rw[ZF]
   have Y4:Array.range 0=(#[]:Array Nat):=by rfl
   simp[sizeOf,typeInfo,h1,h4,h0,newRow,Y4,a1]
  .obtain⟨HV,a1,a2,a3⟩:=key ((Array.range (m*r.size)).map (z.cells[· %z.cells.size]!)) (by simp);refine⟨HV,?_,a2,a3⟩;simp only[execOp,Instr.buildSlice,arf,run_underlying ht,arN];rw[ZF];simp[sizeOf,typeInfo,h1,h4,h0,zeroValue,h2,newRow,a1,show¬(16777216<m*r.size)from by omega]
 obtain⟨HV,cO,a2,a3⟩:=cO
 have hml:m=l.length:=by omega
 have ak0:m<=16777216:=Nat.le_trans (Nat.le_mul_of_pos_right m oZ) lU;refine⟨_,_,cO,λg=>BX _,⟨λk hk=>?_,HV,?_,λi hi=>(a3 i hi).step (Step.alloc hs.lt _)⟩,λk hk=>?_⟩
 .simp only[cF,ark,aq1]at hk;intro e;have:=hs.lt _ e;omega
 .have:=World.ownsRow_lit (base:=0) (e:=e) (size:=r.size) w HV.toArray m (aq2 _) (by simp[maxLen];omega) (by simp[a2,hml]);rw[hml]at this⊢;simpa using qd.of this
 .simp only[cF,ark,aq1]at hk;omega
def run_build{e t:TypeId}{r:Row}{xs:List Operand}{l:List r.den}{parts:Array (Nat×Operand)}(ht:P.underlying t=aa (.slice e))(uZ:TI P e r)(fI:parts=((xs.zipIdx).map λp=>(p.2,p.1)).toArray)(lU:xs.length*r.size<=16777216)
 (hl:zj F w r (xs.map (ev ρ)) l)(hs:aX U H F w ob n):
 eH P U H F w ρ ob n ⟨aa d, .buildSlice t xs.length parts,ty,pos,aft,ae⟩ {dst:= .val ah (.own n),make:=[(n,(n, .own e r l))]}:=by
 obtain⟨v,w',h1,h2,h3,h4⟩:=zy (d:=d) (ty:=ty) (pos:=pos) (aft:=aft) ht uZ fI lU hl hs;exact ef.val h1 (w5 hs (h2 _) h3 λk hk=> .inr (h4 k hk))
def Kl:Nat->List (Nat×Operand)->Bool
 |_,[]=>af
 |k,p::l=>aqU p.1 k&&Kl (k+1) l
def zA:{k:Nat}->{l:List (Nat×Operand)}->Kl k l=af->l=((l.map (·.2)).zipIdx k).map λp=>(p.2,p.1)
 |_,[],_=>rfl
 |k,p::l,h=>by
  obtain⟨h1,h2⟩:=e8 h;have h1:=beq_true h1;have ih:=zA h2
  grind [List.zipIdx_cons]
def mT(T:b7 P)(rd:Operand->Option aN)(ob:Nat->Option (Nat×Th))(n:Nat)(t:TypeId)(m:Nat)(parts:Array (Nat×Operand))(k:gY->Option R):Option R:=
 match find T.und t with
 |some (.slice e)=>match find T.row e with
  |some r=>bif Kl 0 parts.toList&&aqU m parts.toList.length&&Nat.ble (m*r.size) 16777216 then
    (match vJ rd (parts.toList.map (·.2))with
    |some ds=>match E6 ob r ds with
     |some l=>k {dst:= .val ah (.own n),make:=[(n,(n, .own e r l))]}
     |none=>ae
    |none=>ae)else ae
  |none=>ae
 |_=>ae
def zB(T:b7 P){rd:Operand->Option aN}(kA:∀x d,rd x=aa d->aO H F w d (ev ρ x)){t:TypeId}{m:Nat}{parts:Array (Nat×Operand)}{k:gY->Option R}{q:R}(h:mT T rd ob n t m parts k=aa q)(hs:aX U H F w ob n):
 ∃e,k e=aa q/\eH P U H F w ρ ob n ⟨aa d, .buildSlice t m parts,ty,pos,aft,ae⟩ e:=by
 unfold mT at h;split at h
 case h_2=>cases h
 rename_i e hu;split at h
 case h_2=>cases h
 rename_i r hr;obtain⟨h1,h⟩:=bz h;obtain⟨h1,h3⟩:=e8 h1;obtain⟨h1,h2⟩:=e8 h1;have h2:=beq_true h2
 have h3:m*r.size<=16777216:=by simpa using h3
 split at h
 case h_2=>cases h
 rename_i ds Bk;split at h
 case h_2=>cases h
 rename_i l hl;have ZH:=E7 hs hl (qU kA Bk)
 have hp:parts=(((parts.toList.map (·.2)).zipIdx).map λp=>(p.2,p.1)).toArray:=by
  rw[<-zA h1,arG]
 have hm:m=(parts.toList.map (·.2)).length:=by simpa using h2
 refine⟨_,h,?_⟩;have:=run_build (d:=d) (ty:=ty) (pos:=pos) (aft:=aft) (T.und_ok _ _ hu) (T.row_ok _ _ hr) hp (by rw[<-hm];exact h3) ZH hs
 grind
def Km{P:Program}(T:b7 P)(fs:List (TypeId×Nat)):Tree->List (Nat×aN)->Option Tree
 |t,[]=>aa t
 |t,(f, .val _ u)::l=>match t.get (vH fs.length f)with
  |some (s,off)=>match fs[f]? with
   |some (ft,fZ)=>bif aqU off fZ&&aqU u.size s.size&&(match find T.row ft with|some r=>aqU r.size u.size|none=>ah)then
     (match t.put (vH fs.length f) u with
     |some t'=>Km T fs t' l
     |none=>ae)else ae
   |none=>ae
  |none=>ae
 |_,_::_=>ae
def yR(T:b7 P):List (TypeId×Nat)->Bool
 |[]=>af
 |p::fs=>(match find T.row p.1 with|some _=>af|none=>ah)&&yR T fs
def place(T:b7 P)(fs:List (TypeId×Nat))(i:Nat):Option (Nat×Nat):=
 match fs[i]? with
 |some (ft,off)=>match find T.row ft with
  |some r=>aa (off,r.size)
  |none=>ae
 |none=>ae
def zC(T:b7 P):{l:List Field}->{fs:List (TypeId×Nat)}->l.map (λf=>(f.type,f.offset))=fs->yR T fs=af->
 ∃pl:List (Nat×Nat),(l.mapM λ(f:Field)=>(do pure (f.offset,<-sizeOf f.type):Sem (Nat×Nat))).run P w= .ok pl w/\∀i,pl[i]? =place T fs i
 |[],fs,h,_=>by
  subst h;exact⟨[],by simp,λi=>by simp[place]⟩
 |f::l,fs,h,hz=>by
  subst h;obtain⟨h1,h2⟩:=e8 hz;obtain⟨pl,Kn,Tz⟩:=zC T (l:=l) rfl h2
  cases hr:find T.row f.type with
  |none=>rw[hr]at h1;cases h1
  |some r=>
   obtain⟨ti,z,g1,_,_,g4,_⟩:=T.row_ok _ _ hr;refine⟨(f.offset,r.size)::pl,?_,λi=>?_⟩
   .have SW:(sizeOf f.type).run P w= .ok r.size w:=by simp[sizeOf,typeInfo,g1,g4]
    simp_all
   grind [place]
end
end
section
section
variable {P:Program} {ρ:Nat->Value} {w w':World} {H H':aW} {F F':Nat->Prop} {U:Nat->Prop} {ob:Nat->Option (Nat×Th)} {n:Nat} {R:Type}
variable {op:Op} {ty:TypeId} {pos:String} {aft:Array Edge} {d:Nat}
def E8(T:b7 P){fs:List (TypeId×Nat)}{pl:List (Nat×Nat)}(hz:yR T fs=af)(rF:∀i,pl[i]? =place T fs i)(p9:∀ft off r,(ft,off)∈fs->find T.row ft=aa r->True):
 {parts:List (Nat×aN)}->{t t':Tree}->{cs:List Value}->{vs:List (Nat×Value)}->Km T fs t parts=aa t'->Holds H F w t cs->parts.map (·.1)=vs.map (·.1)->iL H F w (parts.map (·.2)) (vs.map (·.2))->
 ∃yw,Instr.fill (pl[·]?) cs.toArray vs=aa yw.toArray/\Holds H F w t' yw
 |[],t,t',cs,vs,h,hh,h1,h2=>by
  obtain rfl:=aqL h
  have:vs=[]:=by simpa using h1.symm
  subst this;exact⟨cs,by simp[Instr.fill],hh⟩
 |(f, .val agg u)::parts,t,t',cs,vs,h,hh,h1,h2=>by
  obtain⟨v,us,e,hv,h3⟩:=h2
  cases vs with
  |nil=>simp at e
  |cons fv vs=>
   obtain⟨f',v'⟩:=fv;simp only[List.map_cons,arE]at h1 e;obtain⟨rfl,h1⟩:=h1;obtain⟨rfl,rfl⟩:=e;unfold Km at h;split at h
   case h_2=>cases h
   rename_i s off hg;split at h
   case h_2=>cases h
   rename_i ft fZ hf;obtain⟨hb,h'⟩:=bz h;clear h;obtain⟨hb,hb3⟩:=e8 hb;obtain⟨Ko,Ix⟩:=e8 hb;have Ko:=beq_true Ko;subst Ko;have Ix:=beq_true Ix;split at h'
   case h_2=>cases h'
   rename_i tp hp;obtain⟨c1,Ow,Bj⟩:=bB.cells hv;have hl:=Ow.length;have hle:=(hh.get hg).2
   cases hr:find T.row ft with
   |none=>grind
   |some r=>
    simp only[hr]at hb3;have hb3:=beq_true hb3
    have WK:pl[f]? =aa (off,r.size):=by rw[rF];simp[place,hf,hr]
    rw[BR WK Bj (by omega) (by omega)];have zq:=Holds.put Ow hg hp Ix.symm hh;rw[show u.size=r.size from by omega]at zq;exact E8 T hz rF p9 h' zq h1 h3
 |(_, .dead)::_,_,_,_,_,h,_,_,_=>by cases h
 |(_, .undef)::_,_,_,_,_,h,_,_,_=>by cases h
 |(_, .ptr ..)::_,_,_,_,_,h,_,_,_=>by cases h
 |(_, .at ..)::_,_,_,_,_,h,_,_,_=>by cases h
 |(_, .elem ..)::_,_,_,_,_,h,_,_,_=>by cases h
 |(_, .tup _)::_,_,_,_,_,h,_,_,_=>by cases h
 |(_, .dlm ..)::_,_,_,_,_,h,_,_,_=>by cases h
def w6(T:b7 P)(rd:Operand->Option aN)(t:TypeId)(parts:Array (Nat×Operand))(k:gY->Option R):Option R:=
 match find T.und t with
 |some (.struct fs)=>match find T.row t with
  |some r=>bif yR T fs then
    (match vJ rd (parts.toList.map (·.2))with
    |some ds=>match Km T fs r.E1 ((parts.toList.map (·.1)).zip ds)with
     |some tr=>k {dst:= .val af tr}
     |none=>ae
    |none=>ae)else ae
  |none=>ae
 |_=>ae
def m6:{ds:List aN}->{vs:List Value}->iL H F w ds vs->ds.length=vs.length
 |[],_,h=>by rw[show _=[]from h];rfl
 |_::_,_,h=>by obtain⟨v,us,rfl,_,h2⟩:=h;simp[m6 h2]
def MC(T:b7 P){rd:Operand->Option aN}(kA:∀x d,rd x=aa d->aO H F w d (ev ρ x)){t:TypeId}{parts:Array (Nat×Operand)}{k:gY->Option R}{q:R}(h:w6 T rd t parts k=aa q)(hs:aX U H F w ob n):
 ∃e,k e=aa q/\eH P U H F w ρ ob n ⟨aa d, .build t parts,ty,pos,aft,ae⟩ e:=by
 unfold w6 at h;split at h
 case h_2=>cases h
 rename_i fs hu;obtain⟨arr,It,Tt⟩:=T.und_ok _ _ hu;split at h
 case h_2=>cases h
 rename_i r hr;obtain⟨ti,z,h1,h2,h3,h4,h5⟩:=T.row_ok _ _ hr;obtain⟨hz,h⟩:=bz h;split at h
 case h_2=>cases h
 rename_i ds Bk;split at h
 case h_2=>cases h
 rename_i tr ZI;have hd:=qU (w:=w) (H:=H) (F:=F) (ρ:=ρ) kA Bk;have hlen:=m6 hd;obtain⟨pl,Kn,Tz⟩:=zC (w:=w) T Tt hz
 have hn:∀(a:List Nat)(b:List aN),a.length=b.length->(a.zip b).map (·.1)=a/\(a.zip b).map (·.2)=b:=λa b yB=>⟨List.map_fst_zip (by omega),List.map_snd_zip (by omega)⟩
 have ak1:=hn (parts.toList.map (·.1)) ds (by simp at hlen⊢;omega);obtain⟨yw,hf,hh⟩:=E8 (w:=w) (H:=H) (F:=F) T hz Tz (λ_ _ _ _ _=>trivial) (vs:=parts.toList.map λ(i,q)=>(i,ev ρ q)) ZI (Row.qg H F w r) (by simp_all) (by grind [Function.comp_def]);refine⟨_,h,cZ hs (v:= .agg yw.toArray) ?_ ⟨yw,hh,rfl,by simp⟩⟩
 have hzc:z.cells=r.je.toArray:=by rw[<-h3,arG]
 have hpm:(arr.mapM λ(f:Field)=>(do pure (f.offset,<-sizeOf f.type):Sem (Nat×Nat))).run P w= .ok pl.toArray w:=by
  rw[<-arG (xs:=arr),List.mapM_toArray];simp only[Sem.run_map,Kn];rfl
 have hpp:(parts.map λ(i,q)=>(i,ev ρ q)).toList=parts.toList.map λ(i,q)=>(i,ev ρ q):=by simp
 have adP:(λ(x:Nat)=>pl.toArray[x]?)=λx=>pl[x]? :=by funext x;simp
 simp only[execOp,Instr.build,arf,zeroValue,typeInfo,h1,h2,run_program,Sem.run_pure,arN,run_underlying It,hzc,hpp,hpm,adP,hf]
def TA(rd:Operand->Option aN):Option Operand->Option (Option Int)
 |none=>aa ae
 |some x=>match rd x with
  |some d=>match asInt d with
   |some (_,i)=>aa (aa i)
   |none=>ae
  |none=>ae
def Kp{rd:Operand->Option aN}(kA:∀x d,rd x=aa d->aO H F w d (ev ρ x)){lo:Option Operand}{a:Option Int}(h:TA rd lo=aa a):WH ρ lo a:=by
 unfold TA at h;split at h
 .obtain rfl:=aqL h;exact .none
 .split at h
  .split at h
   .obtain rfl:=aqL h;rename_i hD _ _ _ hi;exact .some (kN hi (kA _ _ hD))
   .cases h
  .cases h
def w7(dr:Bool)(T:b7 P)(rd:Operand->Option aN)(ob:Nat->Option (Nat×Th))(n:Nat)(t:TypeId)(D:aN)(lo hi:Option Operand)(k:gY->Option R):Option R:=
 match find T.und t with
 |some (.slice e)=>match find T.row e with
  |some re=>match TA rd lo with
   |some a=>match TA rd hi with
    |some b=>match yA ob D with
     |some (.read r l)=>bif aqU r.size re.size then(gD l (a.getD 0) (b.getD (l.length:Int))).bind λm=>k {dst:= .val ah (.leaf (.slice r) m)}else ae
     |some .nil=>(gD ([]:List re.den) (a.getD 0) (b.getD 0)).bind λ_=>k {dst:= .val ah .nil}
     |some (.own o s T0 r l)=>bif aqU r.size re.size&&aqU T0 e&&(lo.isNone||dr)then(gD l (a.getD 0) (b.getD (l.length:Int))).bind λm=>k {dst:= .val ah (.own n),eat:=[o],make:=[(n,(n, .own T0 r m))]}
       else bif aqU r.size re.size then(gD l (a.getD 0) (b.getD (l.length:Int))).bind λm=>k {dst:= .val ah (.view o s r m)}else ae
     |_=>ae
    |none=>ae
   |none=>ae
  |none=>ae
 |_=>ae
def MD{e T0:TypeId}{ti:TypeInfo}{r:Row}{t:TypeId}{x:Operand}{lo hi:Option Operand}{a b:Option Int}{l m:List r.den}{o s:Nat}{v:Value}(ht:P.underlying t=aa (.slice e))(h1:P.info? e=aa ti)(h4:ti.size=r.size)(hx:ev ρ x=v)
 (hs:aX U H F w ob n)(gz:ob o=aa (s, .own T0 r l))(Iy:H.val o=aa v)(ha:WH ρ lo a)(hb:WH ρ hi b)(hm:gD l (a.getD 0) (b.getD l.length)=aa m):
 eH P U H F w ρ ob n ⟨aa d, .slice t x lo hi ae,ty,pos,aft,ae⟩ {dst:= .val ah (.own n),eat:=[o],make:=[(n,(n, .own T0 r m))]}:=by
 have hv:=hs.own gz Iy;obtain⟨p,q,ep,eq,ZJ,hq,rfl⟩:=wU hm;obtain⟨A,cap,rfl,hlen,hcm,_⟩:=hv.reads;have cO:=yP (P:=P) (w:=w) (d:=d) (ty:=ty) (pos:=pos) (aft:=aft) ht h1 hx ha hb (by omega) (by omega) (by omega) hlen;rw[ep,eq,aqR,aqR,h4]at cO;obtain⟨BQ,xs,⟨Ph,SX⟩,hr⟩:=hv
 have A9:((l.take q).drop p).length=q-p:=by simp;omega
 have hmul:q*r.size<=l.length*r.size:=aq4 _ hq;have ajo:p*r.size<=q*r.size:=aq4 _ ZJ;have ajp:(q-p)*r.size=q*r.size-p*r.size:=Nat.sub_mul ..
 have cP:Ext (dH H ob [o]) w w:=⟨rfl,rfl,rfl,aqS _,λ_ _ _=>rfl⟩
 rcases SX with⟨Pw,h0⟩|⟨g,o0,Pd,cur,jq,sE,hh,hn1,hn2,vC,VP⟩
 .simp only[ar8]at Pw;obtain⟨rfl,_,rfl⟩:=Pw
  have ZK:q=0:=by omega
  subst ZK
  obtain rfl:p=0:=by omega
  refine ef.val cO (w5 hs cP ?_ ?_)
  .simpa[sliced]using qa.nil 0 F w T0 r
  .intro k hk;simp[sliced,cF,ark]at hk
 .simp only[ar8,true_and]at jq;obtain⟨rfl,rfl⟩:=jq
  obtain⟨o1,yC,ho1,PB⟩:∃o1,sliced (aa ⟨g,o0,ae⟩) p q cap r.size= .slice (aa ⟨g,o1,ae⟩) (q-p) (cap-p)/\o1+(cap-p)*r.size<=cur.size/\(cur.toList.drop o1).take ((q-p)*r.size)=(xs.drop (p*r.size)).take ((q-p)*r.size):=by
   have hcp:p*r.size<=cap*r.size:=aq4 _ (by omega);have ak5:(cap-p)*r.size=cap*r.size-p*r.size:=Nat.sub_mul ..;unfold sliced;by_cases hc:cap=p
   .refine⟨o0,by rw[al hc],by omega,?_⟩
    have:q=p:=by omega
    subst this;simp
   .refine⟨o0+p*r.size,by rw[aj hc,Option.map_some,eG],by omega,?_⟩;rw[<-VP,List.drop_take,List.take_take,List.drop_drop]
    congr 1
    omega
  rw[yC]at cO
  have hmy:∀k,cF (.slice (aa ⟨g,o1,ae⟩) (q-p) (cap-p)) k->cF (.slice (aa ⟨g,o0,ae⟩) l.length cap) k:=λk hk=>by simpa[cF,ark]using hk
  refine ef.val cO (w5 hs cP ⟨λk hk=>BQ k (hmy k hk),(xs.drop (p*r.size)).take ((q-p)*r.size),⟨by rw[A9];simp;omega, .inr ⟨g,o1,cap-p,cur,by rw[A9],sE,hh,by omega,by omega,ho1,?_⟩⟩,λi hi=>?_⟩ λk hk=> .inl ⟨o,by simp,_,_,_,gz,Iy,hmy k hk⟩)
  .rw[A9];exact PB
  .have hi2:i<q-p:=by omega
   have hle:(i+1)*r.size<=(q-p)*r.size:=aq4 _ hi2;rw[aro]at hle;have:=hr (p+i) (by omega)
   have hg:((l.take q).drop p)[i]=l[p+i]'(by omega):=by simp
   rw[hg,List.drop_take,List.take_take,arF (by omega),List.drop_drop,show p*r.size+i*r.size=(p+i)*r.size from(aro ..).symm];exact this
def ME(dr:Bool)(T:b7 P){rd:Operand->Option aN}(kA:∀x d,rd x=aa d->aO H F w d (ev ρ x)){t:TypeId}{D:aN}{x:Operand}{lo hi:Option Operand}{k:gY->Option R}{q:R}(h:w7 dr T rd ob n t D lo hi k=aa q)(hs:aX U H F w ob n)(hx:aO H F w D (ev ρ x)):
 ∃e,k e=aa q/\eH P U H F w ρ ob n ⟨aa d, .slice t x lo hi ae,ty,pos,aft,ae⟩ e:=by
 unfold w7 at h;split at h
 case h_2=>cases h
 rename_i e hu;have ht:=T.und_ok _ _ hu;split at h
 case h_2=>cases h
 rename_i re hre;obtain⟨ti,z,h1,_,_,h4,_⟩:=T.row_ok _ _ hre;split at h
 case h_2=>cases h
 rename_i a ha;split at h
 case h_2=>cases h
 rename_i b hb;have TB:=Kp (w:=w) (H:=H) (F:=F) (ρ:=ρ) kA ha;have sE:=Kp (w:=w) (H:=H) (F:=F) (ρ:=ρ) kA hb
 have WL:∀{r:Row}{l m:List r.den},eF F w (.slice r) [ev ρ x] l->r.size=re.size->gD l (a.getD 0) (b.getD (l.length:Int))=aa m->eH P U H F w ρ ob n ⟨aa d, .slice t x lo hi ae,ty,pos,aft,ae⟩ {dst:= .val ah (.leaf (.slice r) m)}:=by
  intro r l m hv hz hm;obtain⟨p,q',ep,eq,ZJ,hq,rfl⟩:=wU hm;have gZ:=hv;obtain⟨A,cap,he,hc,WM,_⟩:=hv;simp only[arE,and_true]at he;have cO:=yP (P:=P) (w:=w) (d:=d) (ty:=ty) (pos:=pos) (aft:=aft) ht h1 he TB sE (by omega) (by omega) (by omega) hc;rw[ep,eq,aqR,aqR,h4,<-hz]at cO;rw[he]at gZ;exact cZ hs cO (bB.qf (gZ.cut ZJ hq))
 split at h
 .rename_i r l jq;obtain⟨hz,h⟩:=bz h;obtain⟨m,hm,hk⟩:=bind_some h;exact⟨_,hk,WL (lj hs jq hx) (beq_true hz) hm⟩
 .rename_i jq;obtain⟨m,hm,hk⟩:=bind_some h;have hv:ev ρ x=_:=lj hs jq hx;unfold gD at hm;split at hm
  case isFalse=>cases hm
  rename_i hc
  have ea:a.getD 0=0:=by have:=hc.2.1;have:=hc.2.2;simp at this;omega
  have eb:b.getD ((0:Nat):Int)=0:=by have:=hc.2.1;have:=hc.2.2;simp at this⊢;omega
  have cO:=yP (P:=P) (w:=w) (d:=d) (ty:=ty) (pos:=pos) (aft:=aft) ht h1 hv TB sE (by omega) (by omega) (by omega) (aqS _);rw[ea,eb]at cO;exact⟨_,hk,cZ hs cO ⟨_,rfl,rfl,λ_=>rfl⟩⟩
 .rename_i o s T0 r l jq;obtain⟨hv,gz,iH⟩:=lj hs jq hx
  cases hz0:(aqU r.size re.size&&aqU T0 e&&(lo.isNone||dr))with
  |true=>
   rw[hz0,cond_true]at h;obtain⟨SW,ZL⟩:=e8 hz0;obtain⟨HU,hT⟩:=e8 SW;have ZG:=beq_true HU;obtain⟨m,hm,hk⟩:=bind_some h;exact⟨_,hk,MD ht h1 (h4.trans ZG.symm) rfl hs gz hv TB sE hm⟩
  |false=>
   rw[hz0,cond_false]at h;obtain⟨HU,h'⟩:=bz h;clear h;have ZG:=beq_true HU;obtain⟨m,hm,hk⟩:=bind_some h';obtain⟨p,q',ep,eq,ZJ,hq,rfl⟩:=wU hm;obtain⟨A,cap,he,hc,WM,_⟩:=iH.reads;have cO:=yP (P:=P) (w:=w) (d:=d) (ty:=ty) (pos:=pos) (aft:=aft) ht h1 he TB sE (by omega) (by omega) (by omega) hc;rw[ep,eq,aqR,aqR,h4,<-ZG]at cO;obtain⟨v',gZ,eJ⟩:=hs.obj _ _ _ gz;refine⟨_,hk,cZ hs cO ⟨_,⟨_,rfl,A,cap,T0,l,p,q',by rw[hv,he],eJ.con,ZJ,hq,rfl,rfl⟩,rfl,λ_=>rfl⟩⟩
 .cases h
noncomputable def WN(T:b7 P)(ob:Nat->Option (Nat×Th))(o:BinOp)(t:TypeId)(X Y:aN):Option aN:=
 match X,Y with
 | .val ah (.leaf .bool a), .val ah (.leaf .bool b)=>match find T.und t with
   |some .bool=>match o with
    | .eql=>aa (fR (decide (a=b)))
    | .neq=>aa (fR (!decide (a=b)))
    |_=>ae
   |_=>ae
 | .val ah (.leaf .str a), .val ah (.leaf .str b)=>match o with
   | .eql=>aa (fR (decide (a=b)))
   | .neq=>aa (fR (!decide (a=b)))
   |_=>ae
 | .val af u, .val af v=>match find T.eqs t with
   |some r=>match flat ob r u with
    |some x=>match flat ob r v with
     |some y=>match o with
      | .eql=>aa (fR (o6 r x y))
      | .neq=>aa (fR (!(o6 r x y)))
      |_=>ae
     |none=>ae
    |none=>ae
   |none=>ae
 |_,_=>ae
theorem TC(T:b7 P){o:BinOp}{t u:TypeId}{X Y D:aN}{x y:Operand}(h:WN T ob o t X Y=aa D)(hs:aX U H F w ob n)(hx:aO H F w X (ev ρ x))(hy:aO H F w Y (ev ρ y)):
 eH P U H F w ρ ob n ⟨aa d, .binOp o t x y u,ty,pos,aft,ae⟩ {dst:=D}:=by
 unfold WN at h;split at h
 .rename_i a b;split at h
  case h_2=>cases h
  rename_i hu;have hu:=T.und_ok _ _ hu;have ha:ev ρ x= .bool a:=bB.bool hx;have hb:ev ρ y= .bool b:=bB.bool hy
  split at h<;>cases h
  .exact bx hs (L5 hu ha hb) (bB.kM ..)
  .exact bx hs (L6 hu ha hb) (bB.kM ..)
 .rename_i a b;have ha:ev ρ x= .string a:=bB.str hx;have hb:ev ρ y= .string b:=bB.str hy
  split at h<;>cases h
  .exact bx hs (L7 ha hb) (bB.kM ..)
  .exact bx hs (L8 ha hb) (bB.kM ..)
 .rename_i u v;split at h
  case h_2=>cases h
  rename_i r hr;obtain⟨K,dd,hE,hd,hg,hD⟩:=T.eqs_ok _ _ hr;split at h
  case h_2=>cases h
  rename_i a ha;split at h
  case h_2=>cases h
  rename_i b hb;obtain⟨c1,g1,e1,_⟩:=hx;obtain⟨c2,g2,e2,_⟩:=hy;have r1:=m5 hs ha g1;have r2:=m5 hs hb g2
  split at h<;>cases h
  .exact bx hs (Mk hE hd hg hD e1 e2 r1 r2) (bB.kM ..)
  .exact bx hs (Ml hE hd hg hD e1 e2 r1 r2) (bB.kM ..)
 .cases h
def WO(a b:ByteArray):Option ByteArray:=if a.size+b.size<=9223372036854775807 then aa (a++b)else ae
def Iz(o:BinOp)(X Y:aN):Option (ByteArray×ByteArray):=
 match o,X,Y with
 | .add, .val ah (.leaf .str a), .val ah (.leaf .str b)=>aa (a,b)
 |_,_,_=>ae
def WQ{t u:TypeId}{o:BinOp}{X Y:aN}{x y:Operand}{a b c:ByteArray}(h:Iz o X Y=aa (a,b))(hc:WO a b=aa c)(hs:aX U H F w ob n)(hx:aO H F w X (ev ρ x))(hy:aO H F w Y (ev ρ y)):
 eH P U H F w ρ ob n ⟨aa d, .binOp o t x y u,ty,pos,aft,ae⟩ {dst:= .val ah (.leaf .str c)}:=by
 unfold Iz at h
 split at h<;>cases h
 unfold WO at hc;split at hc
 case isFalse=>cases hc
 rename_i hle;obtain rfl:=aqL hc;have ha:ev ρ x= .string a:=bB.str hx;have hb:ev ρ y= .string b:=bB.str hy;refine cZ hs (v:= .string (a++b)) ?_ (bB.qf rfl)
 have:¬(9223372036854775807:Int)<(a.size:Int)+(b.size:Int):=by omega
 simp[execOp,eqGuard,binOp,Op.stringOp,ha,hb,IntKind.max,IntKind.signed,ase,this]
noncomputable def MF(T:b7 P)(ob:Nat->Option (Nat×Th))(o:BinOp)(t:TypeId)(lit:Bool)(X Y:aN)(k:gY->Option R):Option R:=
 match asInt X with
 |some (kx,a)=>match asInt Y with
  |some (ky,b)=>match o with
   | .shl=>bif lit then(bif !decide (b<0)then k {dst:=pP kx (yz kx a b)}else ae)else(Iq kx a b).bind λc=>k {dst:=pP kx c}
   | .shr=>bif lit then(bif !decide (b<0)then k {dst:=pP kx (iF kx a b)}else ae)else(EX kx a b).bind λc=>k {dst:=pP kx c}
   |o=>bif decide (kx=ky)then
    (match o with
    | .quo=>bif lit then(bif decide (b≠0)then k {dst:=pP kx (kx.wrap (aqW a b))}else ae)else(nU a b).bind λc=>k {dst:=pP kx (kx.wrap c)}
    | .rem=>bif lit then(bif decide (b≠0)then k {dst:=pP kx (aqY a b)}else ae)else(sJ a b).bind λc=>k {dst:=pP kx c}
    |_=>match arith o kx a b with
     |some D=>k {dst:=D}
     |none=>ae)else ae
  |none=>ae
 |none=>match Iz o X Y with
  |some (a,b)=>(WO a b).bind λc=>k {dst:= .val ah (.leaf .str c)}
  |none=>match WN T ob o t X Y with
   |some D=>k {dst:=D}
   |none=>ae
def TD(T:b7 P){o:BinOp}{t u:TypeId}{lit:Bool}{X Y:aN}{x y:Operand}{k:gY->Option R}{q:R}(h:MF T ob o t lit X Y k=aa q)(hs:aX U H F w ob n)(hx:aO H F w X (ev ρ x))(hy:aO H F w Y (ev ρ y)):
 ∃e,k e=aa q/\eH P U H F w ρ ob n ⟨aa d, .binOp o t x y u,ty,pos,aft,ae⟩ e:=by
 unfold MF at h;split at h
 .rename_i kx a hX;split at h
  case h_2=>cases h
  rename_i ky b hY;have ha:=kN hX hx;have hb:=kN hY hy;split at h
  .cases lit with
   |true=>
    rw[cond_true]at h;obtain⟨dG,h⟩:=bz h;exact⟨_,h,bx hs (EZ ha hb (by simpa using dG)) (bB.mQ ..)⟩
   |false=>
    rw[cond_false]at h;obtain⟨c,hc,h⟩:=bind_some h;unfold Iq at hc;split at hc
    .cases hc
    .rename_i dG;obtain rfl:=aqL hc;exact⟨_,h,bx hs (EZ ha hb dG) (bB.mQ ..)⟩
  .cases lit with
   |true=>
    rw[cond_true]at h;obtain⟨dG,h⟩:=bz h;exact⟨_,h,bx hs (E0 ha hb (by simpa using dG)) (bB.mQ ..)⟩
   |false=>
    rw[cond_false]at h;obtain⟨c,hc,h⟩:=bind_some h;unfold EX at hc;split at hc
    .cases hc
    .rename_i dG;obtain rfl:=aqL hc;exact⟨_,h,bx hs (E0 ha hb dG) (bB.mQ ..)⟩
  obtain⟨hk,h'⟩:=bz h;clear h;have hk:=ao hk;subst hk;revert h';intro h;split at h
  .cases lit with
   |true=>
    rw[cond_true]at h;obtain⟨dG,h⟩:=bz h
    grind [Pt]
   |false=>
    grind [nU,Pt]
  .cases lit with
   |true=>
    rw[cond_true]at h;obtain⟨dG,h⟩:=bz h
    grind [Pu]
   |false=>
    grind [sJ,Pu]
  grind [Ps]
 .split at h
  .rename_i a b yB;obtain⟨c,hc,h⟩:=bind_some h;exact⟨_,h,WQ yB hc hs hx hy⟩
  grind [TC]
def eUn(o:UnOp)(X:aN):Option aN:=
 match o with
 | .not=>match asBool X with
   |some b=>aa (fR (!b))
   |none=>ae
 | .neg=>match asInt X with
   |some (k,a)=>aa (pP k (k.wrap (0-a)))
   |none=>ae
 |_=>ae
theorem WR{o:UnOp}{t:TypeId}{X D:aN}{x:Operand}(h:eUn o X=aa D)(hs:aX U H F w ob n)(hx:aO H F w X (ev ρ x)):
 eH P U H F w ρ ob n ⟨aa d, .unOp o t x,ty,pos,aft,ae⟩ {dst:=D}:=by
 unfold eUn at h;split at h
 .split at h<;>cases h
  rename_i b hb;exact bx hs (O6 (qS hb hx)) (bB.kM ..)
 .split at h<;>cases h
  rename_i k a ha;exact bx hs (O7 (kN ha hx)) (bB.mQ ..)
 .cases h
def PC(T:b7 P)(s t:TypeId)(X:aN):Option aN:=
 match find T.und s with
 |some _=>match find T.und t with
  |some (.int k)=>match asInt X with
   |some (_,a)=>aa (pP k (k.wrap a))
   |none=>ae
  |some .str=>match EW X with
   |some a=>aa (adJ a)
   |none=>ae
  |_=>ae
 |none=>ae
def PD(T:b7 P){s t:TypeId}{X D:aN}{x:Operand}(h:PC T s t X=aa D)(hs:aX U H F w ob n)(hx:aO H F w X (ev ρ x)):
 eH P U H F w ρ ob n ⟨aa d, .convert s t x,ty,pos,aft,ae⟩ {dst:=D}:=by
 unfold PC at h;split at h
 case h_2=>cases h
 rename_i ks hsu;obtain⟨dd,xS,_⟩:=(T.und_ok _ _ hsu).agg;split at h
 .rename_i k htu
  split at h<;>cases h
  rename_i k' a ha;exact bx hs (L9 xS (T.und_ok _ _ htu) (kN ha hx)) (bB.mQ ..)
 .rename_i htu
  split at h<;>cases h
  rename_i a ha;have hv:=zt ha hx;have adU:P.underlying t=aa .string:=T.und_ok _ _ htu;refine cZ hs (v:= .string a) ?_ (bB.mkStr ..);simp[execOp,convert,run_underlying xS,run_underlying adU,hv]
 .cases h
def zD(D:aN)(i:Nat):Option aN:=
 match D with
 | .tup ds=>match ds[i]? with
   |some (a,t)=>aa (.val a t)
   |none=>ae
 |_=>ae
def vG.get:{ds:List (Bool×Tree)}->{vs:List Value}->{i:Nat}->{a:Bool}->{t:Tree}->vG H F w ds vs->ds[i]? =aa (a,t)->∃v,vs[i]? =aa v/\bB H F w a t v
 |[],_,_,_,_,_,h=>by cases h
 |d::ds,_,0,a,t,hh,h=>by
  obtain⟨v,us,rfl,h1,h2⟩:=hh
  grind
 |d::ds,_,i+1,a,t,hh,h=>by
  obtain⟨v,us,rfl,h1,h2⟩:=hh;obtain⟨v',e,hv⟩:=vG.get h2 (by simpa using h)
  grind
theorem E9{D D':aN}{i:Nat}{x:Operand}(h:zD D i=aa D')(hs:aX U H F w ob n)(hx:aO H F w D (ev ρ x)):
 eH P U H F w ρ ob n ⟨aa d, .extract x i,ty,pos,aft,ae⟩ {dst:=D'}:=by
 unfold zD at h;split at h
 case h_2=>cases h
 split at h<;>cases h
 rename_i ds a t hd;obtain⟨vs,e,ht⟩:=hx;obtain⟨v,hv,sB⟩:=ht.get hd;exact bx hs (C7 e (by simpa using hv)) sB
def yS(mx:Bool)(X Y:aN):Option aN:=
 match asInt X,asInt Y with
 |some (k,a),aa (k',b)=>bif decide (k=k')then aa (pP k (bif mx then(if a<b then b else a)else(if b<a then b else a)))else ae
 |_,_=>ae
theorem zE{mx:Bool}{t t':TypeId}{X Y D:aN}{x y:Operand}(h:yS mx X Y=aa D)(hs:aX U H F w ob n)(hx:aO H F w X (ev ρ x))(hy:aO H F w Y (ev ρ y)):
 eH P U H F w ρ ob n ⟨aa d, .call {callee:= .builtin (bif mx then .max else .min),args:= #[x,y],argTypes:= #[t,t']},ty,pos,aft,ae⟩ {dst:=D}:=by
 unfold yS at h;split at h
 case h_2=>cases h
 rename_i k a k' b ha hb;obtain⟨hk,h'⟩:=bz h;clear h;have hk:=ao hk;subst hk;obtain rfl:=aqL h';have ha:=kN ha hx;have hb:=kN hb hy
 cases mx with
 |true=>exact bx hs (Mc ha hb) (bB.mQ ..)
 |false=>exact bx hs (Md ha hb) (bB.mQ ..)
theorem MG{D:aN}{x:Operand}(hs:aX U H F w ob n)(hx:aO H F w D (ev ρ x)):eH P U H F w ρ ob n ⟨aa d, .move x,ty,pos,aft,ae⟩ {dst:=D}:=bx hs (L4 rfl) hx
theorem Fa{D:aN}{x:Operand}(hs:aX U H F w ob n)(hx:aO H F w D (ev ρ x)):eH P U H F w ρ ob n ⟨aa d, .assign x,ty,pos,aft,ae⟩ {dst:=D}:=bx hs (ER rfl) hx
def Dd(T:b7 P)(t:TypeId)(f:Nat)(X:aN):Option aN:=
 match find T.und t with
 |some (.struct fs)=>match fs[f]? with
  |some (ft,off)=>match find T.und ft with
   |some kk=>match X with
    | .val af u=>match u.get (vH fs.length f)with
      |some (s,fZ)=>bif aqU fZ off&&pR T ft kk s.size then aa (.val (pb kk) s)else ae
      |none=>ae
    |_=>ae
   |none=>ae
  |none=>ae
 |_=>ae
def IA(T:b7 P){t:TypeId}{f:Nat}{X D:aN}{x:Operand}(h:Dd T t f X=aa D)(hs:aX U H F w ob n)(hx:aO H F w X (ev ρ x)):
 eH P U H F w ρ ob n ⟨aa d, .field t x f,ty,pos,aft,ae⟩ {dst:=D}:=by
 unfold Dd at h;split at h
 case h_2=>cases h
 rename_i fs hu;obtain⟨arr,It,Tt⟩:=T.und_ok _ _ hu;split at h
 case h_2=>cases h
 rename_i ft off hf;obtain⟨fd,Y2,rfl,rfl⟩:=E2 Tt hf;split at h
 case h_2=>cases h
 rename_i kk hft;obtain⟨dd,xS,zk⟩:=(T.und_ok _ _ hft).agg;split at h
 case h_2=>cases h
 rename_i u;split at h
 case h_2=>cases h
 rename_i s fZ hg;obtain⟨hb,rfl⟩:=pQ h;obtain⟨Ko,Ix⟩:=e8 hb;obtain rfl:=beq_true Ko;have hz:=mR T Ix;obtain⟨cs,vC,e,_⟩:=hx;obtain⟨g1,g2⟩:=vC.get hg;have hl:=g1.length;have e':ev ρ x= .agg cs.toArray:=e
 have ZM:∃v,(part fd.type cs.toArray fd.offset).run P w= .ok v w/\bB H F w (pb kk) s v:=by
  cases ha:pb kk with
  |true=>
   rw[al ha]at hz;obtain⟨r,hr,OA⟩:=hz;obtain⟨ti,z,h1,_,_,h4,_⟩:=T.row_ok _ _ hr;refine⟨.agg ((cs.drop fd.offset).take s.size).toArray,?_,_,g1,rfl,by simp⟩;unfold part;rw[arf,iI xS,zk,ha];simp[sizeOf,typeInfo,h1,h4,OA]
  |false=>
   rw[aj (by simp[ha])]at hz
   have aI:fd.offset<cs.length:=by omega
   refine⟨cs[fd.offset],?_,_,g1,?_,λ_=>?_⟩
   .unfold part;rw[arf,iI xS,zk,ha];simp[aI]
   all_goals grind [List.take_one,List.head?_drop]
 obtain⟨v,hv,sB⟩:=ZM;refine cZ hs (v:=v) ?_ sB;simp[execOp,Instr.field,run_underlying It,Y2,e',asAgg,hv]
end
end
section
open Go Go.RowKit Go.MapKept
section
variable {P:Program} {ρ:Nat->Value} {w w':World} {H H':aW} {F F':Nat->Prop} {U:Nat->Prop} {ob:Nat->Option (Nat×Th)} {n:Nat} {R:Type}
variable {op:Op} {ty:TypeId} {pos:String} {aft:Array Edge} {d:Nat}
def Kq{K:Row}{agg:Bool}{V:Row}:{es:List MapEntry}->{l:List (K.den×V.den)}->uz H F w K agg V es l->es.length=l.length/\∀i(h:i<l.length),∃(e:MapEntry)(cs:List Value),es[i]? =aa e/\L1 K l[i].1=aa e.key/\eF F w V cs l[i].2/\e.val=(bif agg then .agg cs.toArray else cs.headD undef)/\(agg=ah->cs=[e.val])
 |[],l,h=>by obtain rfl:l=[]:=h;grind
 |e::es,l,h=>by
  obtain⟨k,x,l',rfl,h1,⟨cs,h2,h3,h4⟩,h5⟩:=h;obtain⟨g1,g2⟩:=Kq h5;refine⟨by simp[g1],λi hi=>?_⟩
  cases i with
  |zero=>exact⟨e,cs,rfl,h1,h2,h3,h4⟩
  |succ i=>
   obtain⟨e',yw,q1,q2,q3,q4⟩:=g2 i (by simpa using hi);exact⟨e',yw,by simpa only[List.getElem?_cons_succ]using q1,q2,q3,q4⟩
def lP(s:ByteArray)(i:Int):Option Int:=(if 0<=i then s[i.toNat]? else ae).map λb=>(b.toNat:Int)
def Fb{e:Row}:{m:Nat}->{r:Row}->{x:r.den}->{l:List e.den}->{cs:List Value}->pc m r x e=aa l->eF F w r cs x->l.length=m/\cs.length=m*e.size/\∀i(h:i<l.length),eF F w e ((cs.drop (i*e.size)).take e.size) l[i]
 |0,r,x,l,cs,h,_=>by unfold pc at h;cases h
 |1,r,x,l,cs,h,ha=>by
  unfold pc at h;split at h
  case isFalse=>cases h
  rename_i hb;obtain rfl:=Row.eq_of_beq hb;obtain rfl:=aqL h;have hl:=ha.length;refine⟨rfl,by simp[hl],λi hi=>?_⟩
  obtain rfl:i=0:=by simp at hi;omega
  rw[Nat.zero_mul,List.drop_zero,<-hl,ara];exact ha
 |m+2, .pair a b,x,l,cs,h,ha=>by
  unfold pc at h;split at h
  case isFalse=>cases h
  rename_i hb;obtain rfl:=Row.eq_of_beq hb;split at h
  case h_2=>cases h
  rename_i l' hl;obtain rfl:=aqL h;obtain⟨c1,c2,rfl,h1,h2⟩:=ha;have Y1:=h1.length;obtain⟨g1,g2,g3⟩:=Fb hl h2;refine⟨by simp[g1],by grind,λi hi=>?_⟩
  cases i with
  |zero=>
   rw[Nat.zero_mul,List.drop_zero,List.take_append_of_le_length (by omega),<-Y1,ara];exact h1
  |succ i=>
   grind [List.drop_drop,List.drop_left]
 |m+2, .int _,_,_,_,h,_=>by unfold pc at h;cases h
 |m+2, .bool,_,_,_,h,_=>by unfold pc at h;cases h
 |m+2, .str,_,_,_,h,_=>by unfold pc at h;cases h
 |m+2, .slice _,_,_,_,h,_=>by unfold pc at h;cases h
 |m+2, .mX,_,_,_,h,_=>by unfold pc at h;cases h
 |m+2, .nul _,_,_,_,h,_=>by unfold pc at h;cases h
 |m+2, .map ..,_,_,_,h,_=>by unfold pc at h;cases h
def tT(T:b7 P)(ob:Nat->Option (Nat×Th))(t:TypeId)(D:aN)(i:Int)(k:gY->Option R):Option R:=
 match find T.und t with
 |some .str=>match EW D with
  |some s=>(lP s i).bind λc=>k {dst:=pP .u8 c}
  |none=>ae
 |some (.array m e)=>match find T.row t with
  |some r=>match find T.row e with
   |some re=>match find T.und e with
    |some kk=>match D with
     | .val af tr=>match flat ob r tr with
       |some x=>match pc m r x re with
        |some l=>bif pb kk||aqU re.size 1 then(idx l i).bind λy=>k {dst:= .val (pb kk) (.leaf re y)}else ae
        |none=>ae
       |none=>ae
     |_=>ae
    |none=>ae
   |none=>ae
  |none=>ae
 |_=>ae
def IB(T:b7 P){t:TypeId}{D:aN}{x y:Operand}{kd:IntKind}{i:Int}{k:gY->Option R}{q:R}(h:tT T ob t D i k=aa q)(hs:aX U H F w ob n)(hx:aO H F w D (ev ρ x))(hy:ev ρ y= .int kd i):
 ∃e,k e=aa q/\eH P U H F w ρ ob n ⟨aa d, .index t x y,ty,pos,aft,ae⟩ e:=by
 unfold tT at h;split at h
 .rename_i hu;have hu:=T.und_ok _ _ hu;split at h
  case h_2=>cases h
  rename_i s hS;obtain⟨c,hc,hk⟩:=bind_some h;have hv:=zt hS hx;unfold lP at hc;obtain⟨b,hb,rfl⟩:=arH.1 hc;refine⟨_,hk,cZ hs (v:= .int .u8 b.toNat) ?_ (bB.mQ ..)⟩;have WS:P.underlying t=aa .string:=hu;simp[execOp,Instr.index,asIntOf,run_underlying WS,hv,hy,hb]
 .rename_i m e hu;have hu:P.underlying t=aa (.array m e):=T.und_ok _ _ hu;split at h
  case h_2=>cases h
  rename_i r hr;split at h
  case h_2=>cases h
  rename_i re hre;split at h
  case h_2=>cases h
  rename_i kk ZC;split at h
  case h_2=>cases h
  rename_i tr;split at h
  case h_2=>cases h
  rename_i z hz;split at h
  case h_2=>cases h
  rename_i l hl;obtain⟨hag,h'⟩:=bz h;clear h;obtain⟨a,ha,hk⟩:=bind_some h';obtain⟨cs,hh,hv,_⟩:=hx;rw[cond_true]at hv;obtain⟨g1,g2,g3⟩:=Fb hl (m5 hs hz hh);obtain⟨j,hj,aI,rfl⟩:=jX ha;obtain⟨ti,z0,h1,_,_,h4,_⟩:=T.row_ok _ _ hre;obtain⟨dd,xS,zk⟩:=(T.und_ok _ _ ZC).agg;have Bl:=g3 j aI
  have p9:(j+1)*re.size<=cs.length:=by rw[g2];exact aq4 _ (by omega)
  rw[aro]at p9;refine⟨_,hk,?_⟩
  cases PE:pb kk with
  |true=>
   refine cZ hs (v:= .agg ((cs.drop (j*re.size)).take re.size).toArray) ?_ ⟨_,Bl,rfl,by simp⟩;subst hj;simp[execOp,Instr.index,asIntOf,run_underlying hu,hv,hy,show j<m by omega,part,arf,iI xS,zk,PE,sizeOf,typeInfo,h1,h4,List.extract_eq_take_drop]
  |false=>
   rw[PE,Bool.false_or]at hag;have oF:=beq_true hag;have hlen:=Bl.length;rw[oF,Nat.mul_one]at Bl p9;rw[oF]at hlen
   obtain⟨v,Bj⟩:∃v,(cs.drop j).take 1=[v]:=by
    match hq:(cs.drop j).take 1,Fc:((cs.drop j).take 1).length with
    |[v],_=>exact⟨v,rfl⟩
    |[],_=>rw[Nat.mul_one,hq]at hlen;cases hlen
    |_::_::_,_=>rw[Nat.mul_one,hq]at hlen;cases hlen
   rw[Bj]at Bl
   have Tl:cs[j]? =aa v:=by
    have:(cs.drop j)[0]? =aa v:=by
     have h0:((cs.drop j).take 1)[0]? =aa v:=by rw[Bj];rfl
     rwa [List.getElem?_take_of_lt (by omega)]at h0
    simpa using this
   refine cZ hs (v:=v) ?_ (bB.qf Bl);subst hj;simp[execOp,Instr.index,asIntOf,run_underlying hu,hv,hy,show j<m by omega,part,arf,iI xS,zk,PE,sizeOf,typeInfo,h1,h4,oF,Tl]
 .cases h
end
end
section
def MH(T:TypeId):(e:DR)->List e.row.den->Th
 | .leaf r,y=> .own T r y
 | .sl T' e,y=> .deep T (.sl T' e) y ae
 | .pair a b,y=> .deep T (.pair a b) y ae
section
variable {P:Program} {ρ:Nat->Value} {w w':World} {H H':aW} {F F':Nat->Prop} {U:Nat->Prop} {ob:Nat->Option (Nat×Th)} {n:Nat} {R:Type}
variable {op:Op} {ty:TypeId} {pos:String} {aft:Array Edge} {d:Nat}
def zF(T:TypeId)(e:DR)(y:List e.row.den):(MH T e y).base=MH T e y:=by cases e<;>rfl
def w8{T:TypeId}{e:DR}{u:Value}{y:List e.row.den}{A:Nat->Prop}(h:mZ F w (.sl T e) u y A):mJ H F w A u (MH T e y)/\(∀k,fp A u (MH T e y) k->A k)/\u.oneCell'=af:=by
 obtain⟨lh,Ss,h1,h2,h3,h4⟩:=h;have oF:=h1.one
 cases e with
 |leaf r=>
  have hl:lh=y:=List.ext_getElem h2 λi a b=>(h3 i a b).1
  subst hl;exact⟨h1,λk hk=>h4.cF k hk,oF⟩
 |sl T' e=>exact⟨⟨lh,Ss,h1,h2,h3,h4⟩,λk hk=>hk,oF⟩
 |pair a b=>exact⟨⟨lh,Ss,h1,h2,h3,h4⟩,λk hk=>hk,oF⟩
def zG{T:TypeId}{e:DR}{u:Value}{y:List e.row.den}{A:Nat->Prop}(h:mJ H F w A u (MH T e y)):mZ F w (.sl T e) u y (λk=>fp A u (MH T e y) k):=by
 cases e with
 |leaf r=>
  have h':o7 F w T r u y:=h;refine⟨y,λ_ _=>False,h',rfl,λi a b=>⟨rfl,λ_ h=>h⟩,⟨λk=>?_,λ_ _ _ _ _ _ h=>h.elim,λ_ _ _ h=>h.elim⟩⟩
  show cF u k↔_
  simp
 |sl T' e=>exact h
 |pair a b=>exact h
def yT{d:DR}{r:Row}(q:jo d (.leaf r)){x':d.low.den}{x:d.row.den}{S:Nat->Prop}(h:mZ F w d x' x S):q.lo.get x'=q.hi.get x:=by
 obtain⟨A,B,h1,_⟩:=h.out q;exact h1.1
def zH:{d e:DR}->{T:TypeId}->{r:Row}->(p:jo d (.sl T e))->(q:jo d (.leaf r))->{x':d.low.den}->{x:d.row.den}->{S:Nat->Prop}->qF F w p x' x S->q.lo.get x'=q.hi.get x
 |_,_,_,_, .fst p, .fst q,_,_,_,h=>by obtain⟨A,B,h1,_⟩:=h;exact zH p q h1
 |_,_,_,_, .fst p, .snd q,_,_,_,h=>by obtain⟨A,B,_,h2,_⟩:=h;exact yT q h2
 |_,_,_,_, .snd p, .fst q,_,_,_,h=>by obtain⟨A,B,h1,_⟩:=h;exact yT q h1
 |_,_,_,_, .snd p, .snd q,_,_,_,h=>by obtain⟨A,B,_,h2,_⟩:=h;exact zH p q h2
def PF{d:DR}{h:Option zo}{i:Nat}{x':d.low.den}{x:d.row.den}{S:Nat->Prop}{r:Row}(q:jo d (.leaf r))(hr:rC H F w d h i x' x S):q.lo.get x'=q.hi.get x:=by
 cases h with
 |none=>exact yT q hr
 |some h=>
  by_cases hi:h.i=(i:Int)
  .obtain⟨T',e,p,_,h2,_⟩:=hr.2 hi;exact zH p q h2
  .exact yT q (hr.1 hi)
def vK{d:DR}{r:Row}(q:jo d (.leaf r)){x':d.low.den}{x:d.row.den}{S:Nat->Prop}(y:r.den)(h:mZ F w d x' x S):mZ F w d (q.lo.set x' y) (q.hi.set x y) S:=by
 obtain⟨A,B,h1,h2,h3⟩:=h.out q;exact h2.put q (y':=y) (A:=A) ⟨rfl,h1.2⟩ h3
theorem w9:{d e:DR}->{T:TypeId}->{r:Row}->(p:jo d (.sl T e))->(q:jo d (.leaf r))->{x':d.low.den}->{x:d.row.den}->{S:Nat->Prop}->(y:r.den)->qF F w p x' x S->qF F w p (q.lo.set x' y) (q.hi.set x y) S/\p.lo.get (q.lo.set x' y)=p.lo.get x'
 |_,_,_,_, .fst p, .fst q,_,_,_,y,h=>by
  obtain⟨A,B,h1,h2,h3⟩:=h;obtain⟨g1,g2⟩:=w9 p q y h1;exact⟨⟨A,B,g1,h2,h3⟩,g2⟩
 |_,_,_,_, .fst p, .snd q,_,_,_,y,h=>by
  obtain⟨A,B,h1,h2,h3⟩:=h;exact⟨⟨A,B,h1,vK q y h2,h3⟩,rfl⟩
 |_,_,_,_, .snd p, .fst q,_,_,_,y,h=>by
  obtain⟨A,B,h1,h2,h3⟩:=h;exact⟨⟨A,B,vK q y h1,h2,h3⟩,rfl⟩
 |_,_,_,_, .snd p, .snd q,_,_,_,y,h=>by
  obtain⟨A,B,h1,h2,h3⟩:=h;obtain⟨g1,g2⟩:=w9 p q y h2;exact⟨⟨A,B,h1,g1,h3⟩,g2⟩
def MI{d:DR}{h:Option zo}{i:Nat}{x':d.low.den}{x:d.row.den}{S:Nat->Prop}{r:Row}(q:jo d (.leaf r))(y:r.den)(hr:rC H F w d h i x' x S):rC H F w d h i (q.lo.set x' y) (q.hi.set x y) S:=by
 cases h with
 |none=>exact vK q y hr
 |some h=>
  refine⟨λhi=>vK q y (hr.1 hi),λhi=>?_⟩;obtain⟨T',e,p,h1,h2,h3⟩:=hr.2 hi
  grind [w9]
def aX.low(hs:aX U H F w ob n){o s:Nat}{T:TypeId}{dr:DR}{l:List dr.row.den}{h:Option zo}(ho:ob o=aa (s, .deep T dr l h)){v:Value}(hv:H.val o=aa v):
 ∃(lh:List dr.low.den)(Ss:Nat->Nat->Prop),qa 0 F w T dr.low v lh/\lh.length=l.length/\(∀i(h1:i<lh.length)(h2:i<l.length),rC H F w dr h i lh[i] l[i] (Ss i))/\qR Ss l.length (cF v) (H.sub s):=by
 obtain⟨v',gZ,eJ⟩:=hs.obj _ _ _ ho;rw[hv]at gZ;obtain rfl:=aqL gZ;obtain⟨lh,Ss,h1,h2,h3,h4⟩:=eJ.ok;exact⟨lh,Ss,⟨λk hk=>eJ.no k (h4.cF k hk),h1⟩,h2,h3,h4⟩
def Path.De:{r s:Row}->(p:Path r s)->(x:r.den)->(y:s.den)->p.get (p.set x y)=y
 |_,_, .here,_,_=>rfl
 |_,_, .fst p,x,y=>Path.De p x.1 y
 |_,_, .snd p,x,y=>Path.De p x.2 y
def qF.PG:{d e:DR}->(p:jo d e)->{x':d.low.den}->{x:d.row.den}->{S:Nat->Prop}->(y':e.low.den)->qF F w p x' x S->qF F w p (p.lo.set x' y') x S
 |_,_, .here,_,_,_,_,h=>h
 |_,_, .fst p,_,_,_,y',h=>by
  obtain⟨A,B,h1,h2,h3⟩:=h;exact⟨A,B,h1.PG p y',h2,h3⟩
 |_,_, .snd p,_,_,_,y',h=>by
  obtain⟨A,B,h1,h2,h3⟩:=h;exact⟨A,B,h1,h2.PG p y',h3⟩
def u7(m:Nat->Prop)(Ss:Nat->Nat->Prop)(c:Nat)(k:Nat):Prop:=m k\/∃i,i<c/\Ss i k
def qR.less{Ss:Nat->Nat->Prop}{c:Nat}{m S:Nat->Prop}(h:qR Ss c m S)(j:Nat){B:Nat->Prop}(hB:∀k,B k->Ss j k):qR (λi=>if i=j then B else Ss i) c m (u7 m (λi=>if i=j then B else Ss i) c):=by
 have sub:∀i k,(if i=j then B else Ss i) k->Ss i k:=by
  intro i k hk;by_cases e:i=j
  .grind
  .rwa [aj e]at hk
 exact⟨λk=>Iff.rfl,λi i' k h1 h2 dG h3 h4=>h.two i i' k h1 h2 dG (sub i k h3) (sub i' k h4),λi k h1 h2=>h.out i k h1 (sub i k h2)⟩
def qR.Fe{Ss:Nat->Nat->Prop}{c:Nat}{m S:Nat->Prop}(h:qR Ss c m S)(j:Nat){B:Nat->Prop}(hB:∀k,B k->Ss j k):∀k,u7 m (λi=>if i=j then B else Ss i) c k->S k:=by
 rintro k (hk|⟨i,hi,hk⟩)
 .exact h.cF k hk
 .by_cases e:i=j
  .subst e;rw[al rfl]at hk;exact h.part hi k (hB k hk)
  .rw[aj e]at hk;exact h.part hi k hk
def TE{α β:Type}{rel:Nat->α->β->(Nat->Prop)->Prop}{lh:List α}{l:List β}{Ss:Nat->Nat->Prop}{j:Nat}{x':α}{x:β}{B:Nat->Prop}(h:∀i(h1:i<lh.length)(h2:i<l.length),i≠j->rel i lh[i] l[i] (Ss i))(hj:rel j x' x B):
 ∀i(h1:i<(lh.set j x').length)(h2:i<(l.set j x).length),rel i (lh.set j x')[i] (l.set j x)[i] ((λi=>if i=j then B else Ss i) i):=by
 grind
def aW.Df{H:aW}{n:Nat}{S:Nat->Prop}{t:Th}(h:H.con n=ae):H.le ((H.kO n S).cU n t):=(aW.Mw h).trans (aW.mS h)
def qG.PH(hs:aX U H F w ob n){o s:Nat}{t t':Th}{v0:Value}(ho:ob o=aa (s,t))(hv:H.val o=aa v0)(hb:t'.base=t'){eat:List Nat}(hoe:o∈eat)(S':Nat->Prop)(SV:∀k,fp S' v0 t' k->dH H ob eat k){D:aN}{v:Value}
 (cP:Ext (dH H ob eat) w w')(sB:mJ ((H.kO n S').cU n t') F w' S' v0 t')(hd:aO ((H.kO n S').cU n t') F w' D v):ph H F w ob n {dst:=D,eat:=eat,make:=[(o,(n,t'))]} v w':=by
 obtain⟨v1,wY,eJ⟩:=hs.obj _ _ _ ho;rw[hv]at wY;obtain rfl:=aqL wY;have hf:=hs.fresh n (aqS _) (by omega)
 have kK:((H.kO n S').cU n t').sub n=S':=by simp[aW.cU,aW.kO]
 refine⟨(H.kO n S').cU n t',F,⟨aW.Df hf.2,cP,λ_ h=>h,λ_ h=> .inl h,λb hb=>ars (hs.lt b hb) cP.size⟩,λm hm=>?_,hd,⟨λo' s' q hq=>?_,λo1 o2 s1 s2 q1 q2 u1 u2 dG h1 h2=>?_⟩,λo' h=>?_⟩
 .refine⟨id,λh=>?_⟩;simp[aW.cU,aW.kO,show m≠n from by omega,h]
 .obtain⟨rfl,e⟩:=jr hq;obtain⟨rfl,rfl⟩:=Prod.mk.inj e;refine⟨v0,hv,eJ.one,by simp[aW.cU,hb],by rw[kK];exact sB,λk hk=>?_⟩;rw[kK]at hk;have:=SV k hk;exact⟨hs.kJ k this,ars (hs.zp k this) cP.size, .inr this⟩
 all_goals grind [jr,arA]
def u9(T:b7 P)(ob:Nat->Option (Nat×Th))(n:Nat)(t:TypeId)(D:aN)(k:gY->Option R):Option R:=
 match find T.und t with
 |none=>ae
 |some kk=>match D with
  | .dlm o d0 i p off=>match ob o with
    |some (_, .deep T0 dr l h)=>bif d0.beq dr then(match dr.path p with
     |some ⟨.leaf r,q⟩=>bif aqU q.lo.off off&&pR T t kk r.size then(idx l i).bind λx=>k {dst:= .val (pb kk) (.leaf r (q.hi.get x))}else ae
     |some ⟨.sl T' e',q⟩=>bif aqU q.lo.off off&&pR T t kk 1&& !pb kk then(match h with
       |none=>(idx l i).bind λx=>k {dst:= .val ah (.own n),eat:=[o],make:=[(o,(n, .deep T0 dr l (aa ⟨i,p,n,n+1⟩))),(n,(n+1,MH T' e' (q.hi.get x)))]}
       |some hh=>bif rD hh.p p then(if decide (hh.i=i)=af then(idx l i).bind λ_=>k {dst:= .val ah (.own hh.o)}else ae)else ae)else ae
     |_=>ae)else ae
    |_=>ae
  |_=>ae
def Ff(hs:aX U H F w ob n){o s:Nat}{T0 T':TypeId}{dr e':DR}{l:List dr.row.den}{i:Int}{p:List Bool}{q:jo dr (.sl T' e')}(hq:dr.path p=aa ⟨_,q⟩)(gz:ob o=aa (s, .deep T0 dr l ae)){v:Value}(hv:H.val o=aa v)
 {j:Nat}(ZN:i=(j:Nat))(hj:j<l.length){lh:List dr.low.den}{Ss:Nat->Nat->Prop}(hm:o7 F w T0 dr.low v lh)(hlen:lh.length=l.length)(Bm:∀i(h1:i<lh.length)(h2:i<l.length),rC H F w dr ae i lh[i] l[i] (Ss i))(fI:qR Ss l.length (cF v) (H.sub s)):
 ph H F w ob n {dst:= .val ah (.own n),eat:=[o],make:=[(o,(n, .deep T0 dr l (aa ⟨i,p,n,n+1⟩))),(n,(n+1,MH T' e' (q.hi.get l[j])))]} (q.lo.get (lh[j]'(by omega))) w:=by
 have EL:j<lh.length:=by omega
 obtain⟨v1,wY,eJ⟩:=hs.obj _ _ _ gz;rw[hv]at wY;obtain rfl:=aqL wY;obtain⟨A,B,hA,hB,h2⟩:=mZ.out q (Bm j EL hj);obtain⟨_,m2,m3⟩:=w8 (H:=H) hA;have hBs:∀k,B k->Ss j k:=h2.right;obtain⟨f1,f2⟩:=hs.fresh n (aqS _) (by omega);obtain⟨f3,f4⟩:=hs.fresh (n+1) (by omega) (by omega)
 have BQ:o≠n:=λe=>by grind
 generalize ht1:Th.deep T0 dr l (aa ⟨i,p,n,n+1⟩)=t1;generalize Y5:MH T' e' (q.hi.get l[j])=t2;generalize hu:q.lo.get lh[j]=u;generalize hSo:u7 (cF v) (λi=>if i=j then B else Ss i) l.length=So
 have adW:∀k,So k->H.sub s k:=by rw[<-hSo];exact fI.Fe j hBs
 have hAS:∀k,A k->H.sub s k:=λk hk=>fI.part hj k (h2.left k hk)
 have hAo:∀k,So k->¬A k:=by
  rw[<-hSo]
  rintro k (hk|⟨i',jn,hk⟩) ha
  .exact fI.out j k hj (h2.left k ha) hk
  .by_cases e:i'=j
   .subst e;rw[al rfl]at hk;exact h2.off k ha hk
   .rw[aj e]at hk;exact fI.two i' j k jn hj e hk (h2.left k ha)
 let H1:aW:=⟨λm=>if m=n then aa u else H.val m,λm=>if m=n then aa t1 else if m=n+1 then aa t2 else H.con m,λm=>if m=n then So else if m=n+1 then A else H.sub m⟩
 have hle:H.le H1:=by
  refine⟨λo v ho=>?_,λs t mf=>?_,λs t mf=>?_⟩
  .grind
  .grind
  .grind
 have hun:H1.val n=aa u:=by simp[H1]
 have pn:∀k,H.sub s k->dH H ob [o] k:=λk hk=>⟨o,by simp,s,_,v,gz,hv,hk⟩
 have oF:u.oneCell'=af:=by rw[<-hu];exact m3
 refine⟨H1,F,⟨hle,⟨rfl,rfl,rfl,aqS _,λ_ _ _=>rfl⟩,λ_ h=>h,λ_ h=> .inl h,hs.lt⟩,λm hm=>?_,tR hun oF,⟨λo' s' t hf=>?_,λo1 o2 s1 s2 q1 q2 u1 u2 dG g1 g2 e1 e2 k hk jh=>?_⟩,λo' oY=>?_⟩
 .grind
 .rw[bA]at hf;split at hf
  .rename_i e;subst e;simp only[aq1,Prod.mk.injEq]at hf;obtain⟨rfl,rfl⟩:=hf
   have WT:H1.sub n=So:=by simp[H1]
   refine⟨v,hle.val _ _ hv,eJ.one,?_,?_,λk hk=>?_⟩
   .rw[<-ht1];simp[H1,Th.base,ht1]
   .rw[WT,<-ht1,<-hSo];refine⟨lh,_,hm,hlen,λi' a b=>?_,fI.less j hBs⟩;have hr:mZ F w dr lh[i'] l[i'] (Ss i'):=Bm i' a b;refine⟨λhi=>?_,λhi=>?_⟩
    all_goals grind
   .rw[WT,<-ht1]at hk;have hk:So k:=hk;have:=adW k hk;exact⟨eJ.no k this,eJ.lt k this, .inr (pn k this)⟩
  .obtain⟨e0,e⟩:=jr hf;obtain⟨rfl,rfl⟩:=Prod.mk.inj e;rw[e0]
   have WT:H1.sub (n+1)=A:=by simp[H1]
   obtain⟨m1,m2',_⟩:=w8 (H:=H1) hA;rw[Y5,hu]at m1 m2';refine⟨u,hun,oF,?_,by rw[WT];exact m1,λk hk=>?_⟩
   .rw[<-Y5,zF,Y5];simp[H1]
   .rw[WT]at hk;have:=hAS k (m2' k hk);exact⟨eJ.no k this,eJ.lt k this, .inr (pn k this)⟩
 all_goals grind [fp,find,bA]
def Dg{α β:Type}{l:List α}{lh:List β}(h:lh.length=l.length){i:Int}{x:α}(hi:idx l i=aa x):∃j,i=(j:Nat)/\∃(h1:j<lh.length)(h2:j<l.length),x=l[j]/\idx lh i=aa lh[j]:=by
 grind [idx]
def MJ(T:b7 P){t:TypeId}{D:aN}{x:Operand}{k:gY->Option R}{q:R}(h:u9 T ob n t D k=aa q)(hs:aX U H F w ob n)(hx:aO H F w D (ev ρ x)):
 ∃e,k e=aa q/\eH P U H F w ρ ob n ⟨aa d, .load t x,ty,pos,aft,ae⟩ e:=by
 unfold u9 at h;split at h
 .cases h
 rename_i kk hu;split at h
 case h_2=>cases h
 rename_i o d0 i p off;split at h
 case h_2=>cases h
 rename_i s T0 dr l hh gz;obtain⟨hd,h'⟩:=bz h;clear h;obtain rfl:=DR.eq_of_beq hd;obtain⟨g,o0,qq,m,cap,e1,e2,e5⟩:=hx;obtain⟨lh,Ss,iH,hlen,Bm,fI⟩:=hs.low gz e1;split at h'
 .rename_i r BW Dc;obtain⟨h1,h2⟩:=bz h';obtain⟨h1,h3⟩:=e8 h1;obtain rfl:=beq_true h1;obtain⟨a,ha,hk⟩:=bind_some h2;obtain⟨j,hj,g1,g2,rfl,rB⟩:=Dg hlen ha;have vy:=(iH.at rfl e2 rB).path BW.lo _ rfl;rw[PF BW (Bm j g1 g2)]at vy;obtain⟨es,hl,Tv,hr⟩:=vy;exact⟨_,hk,qT T hu e5 hs (s:= .leaf r _) hr Tv (mR T h3)⟩
 .rename_i T' e' BW Dc;obtain⟨h1,h2⟩:=bz h';obtain⟨h1,h4⟩:=e8 h1;obtain⟨h1,h3⟩:=e8 h1;obtain rfl:=beq_true h1
  have PE:pb kk=ah:=by simpa using h4
  obtain⟨dd,xS,zk⟩:=(T.und_ok _ _ hu).agg
  have run:∀{j:Nat}(g1:j<lh.length),idx lh i=aa lh[j]->(execOp (ev ρ) ⟨aa d, .load t x,ty,pos,aft,ae⟩).run P w= .ok (.value (BW.lo.get lh[j])) w:=by
   intro j g1 rB;have vy:=(iH.at rfl e2 rB).path BW.lo _ rfl;obtain⟨es,hl,Tv,hr,_⟩:=vy;rw[hr]at Tv;exact BO xS (zk.trans PE) e5 (Tv 0 _ rfl)
  split at h2
  .obtain⟨a,ha,hk⟩:=bind_some h2;obtain⟨j,hj,g1,g2,rfl,rB⟩:=Dg hlen ha;exact⟨_,hk,ef.val (run g1 rB) (Ff hs Dc gz e1 hj g2 iH.2 hlen Bm fI)⟩
  .rename_i hh;obtain⟨hp,h3⟩:=bz h2;have hp:=uY hp;split at h3
   case isFalse=>cases h3
   rename_i hi;have hi:hh.i=i:=ao hi;obtain⟨a,ha,hk⟩:=bind_some h3;obtain⟨j,hj,g1,g2,rfl,rB⟩:=Dg hlen ha;obtain⟨T'',e'',q'',k1,_,k3⟩:=(Bm j g1 g2).2 (hi.trans hj);rw[hp,Dc]at k1;cases k1;refine⟨_,hk,cZ hs (run g1 rB) (tR k3 ?_)⟩;have vy:=(iH.at rfl e2 rB).path BW.lo _ rfl;obtain⟨es,_,_,_,A,m',c,WS⟩:=vy;rw[WS];rfl
 .cases h'
def ZO(T:TypeId):(e:DR)->Th->Option (List e.row.den)
 | .leaf r, .own T1 r1 y=>bif aqU T1 T then(if h:r1.beq r=af then aa (lO (r:= .slice r1) (s:= .slice r) (ay Row.slice (Row.eq_of_beq h)) y)else ae)else ae
 | .sl T2 e2, .deep T1 (.sl T3 e3) y ae=>bif aqU T1 T then(if h:(DR.sl T3 e3).beq (.sl T2 e2)=af then aa (DR.eq_of_beq h▸y)else ae)else ae
 | .pair a b, .deep T1 (.pair a1 b1) y ae=>bif aqU T1 T then(if h:(DR.pair a1 b1).beq (.pair a b)=af then aa (DR.eq_of_beq h▸y)else ae)else ae
 |_,_=>ae
def IC{T:TypeId}{e:DR}{t:Th}{y:List e.row.den}(h:ZO T e t=aa y):t=MH T e y:=by
 unfold ZO at h;split at h
 .obtain⟨h1,h2⟩:=bz h;split at h2
  .rename_i hb;obtain rfl:=Row.eq_of_beq hb;obtain rfl:=aqL h2;rw[beq_true h1];rfl
  .cases h2
 .obtain⟨h1,h2⟩:=bz h;split at h2
  .rename_i hb;cases DR.eq_of_beq hb;obtain rfl:=aqL h2;rw[beq_true h1];rfl
  .cases h2
 .obtain⟨h1,h2⟩:=bz h;split at h2
  .rename_i hb;cases DR.eq_of_beq hb;obtain rfl:=aqL h2;rw[beq_true h1];rfl
  .cases h2
 .cases h
def Dh(h:Option zo)(i:Int)(p:List Bool):Bool:=
 match h with
 |none=>af
 |some h=>rD h.p p&&decide (h.i=i)
def Fg{h:Option zo}{i:Int}{p:List Bool}(hh:Dh h i p=af){dr e:DR}{T:TypeId}{q:jo dr (.sl T e)}(hq:dr.path p=aa ⟨_,q⟩){j:Nat}(hj:i=(j:Nat)){x':dr.low.den}{x:dr.row.den}{S:Nat->Prop}(hr:rC H F w dr h j x' x S):
 ∃B,(∀k,B k->S k)/\qF F w q x' x B:=by
 cases h with
 |none=>
  obtain⟨A,B,_,h2,h3⟩:=mZ.out q (show mZ F w dr x' x S from hr);exact⟨B,h3.right,h2⟩
 |some h=>
  have h':(rD h.p p&&decide (h.i=i))=af:=hh;obtain⟨h1,h2⟩:=e8 h';obtain⟨T',e',q',k1,k2,_⟩:=hr.2 ((ao h2).trans hj)
  grind [uY]
def zI{h:Option zo}{i:Int}{p:List Bool}(hh:Dh h i p=af){dr:DR}{j:Nat}(hj:i≠(j:Nat)){x':dr.low.den}{x:dr.row.den}{S:Nat->Prop}(hr:rC H F w dr h j x' x S):mZ F w dr x' x S:=by
 cases h with
 |none=>exact hr
 |some h=>
  have h':(rD h.p p&&decide (h.i=i))=af:=hh;obtain⟨h1,h2⟩:=e8 h';exact hr.1 (by grind)
end
end
end Go.Proofs.YtfjgcenlllgonaaGreatDoor
section
open _root_.Option renaming none->ae,some->aa
open _root_.Bool renaming true->af
open _root_.Int renaming toNat_natCast->aqR
open _root_.Nat renaming beq->aqU,le_refl->aqS
open _root_.Option.some renaming inj->aqL
open _root_.Go.Value renaming ownBlock->ark
namespace Go.Proofs.YtfjgcenlllgonaaGreatDoor
open Go Go.RowKit
section
variable {P:Program} {ρ:Nat->Value} {w w':World} {H H':aW} {F F':Nat->Prop} {U:Nat->Prop} {ob:Nat->Option (Nat×Th)} {n:Nat} {R:Type}
variable {op:Op} {ty:TypeId} {pos:String} {aft:Array Edge} {d:Nat}
noncomputable def tU(T:b7 P)(ob:Nat->Option (Nat×Th))(n:Nat)(t:TypeId)(D V:aN)(k:gY->Option R):Option R:=
 match find T.row t with
 |none=>ae
 |some rt=>match V with
  | .val _ u=>match D with
    | .dlm o d0 i p off=>match ob o with
      |some (_, .deep T0 dr l h)=>bif d0.beq dr then(match dr.path p with
       |some ⟨.leaf r,q⟩=>bif aqU q.lo.off off&&aqU rt.size r.size then(match flat ob r u with
        |some y=>(idx l i).bind λx=>k {dst:= .dead,eat:=[o],make:=[(o,(n, .deep T0 dr (bn l i (q.hi.set x y)) h))]}
        |none=>ae)else ae
       |some ⟨.sl T' e',q⟩=>bif aqU q.lo.off off&&aqU rt.size 1 then(match u with
        | .own o1=>match ob o1 with
          |some (_,t1)=>match ZO T' e' t1 with
           |some _=>if Dh h i p=af then(idx l i).bind λ_=>k {dst:= .dead,eat:=[o],make:=[(o,(n, .deep T0 dr l (aa ⟨i,p,o1,n⟩)))]}else ae
           |none=>ae
          |none=>ae
        | .nil=>if Dh h i p=af then(idx l i).bind λx=>k {dst:= .dead,eat:=[o],make:=[(o,(n, .deep T0 dr (bn l i (q.hi.set x ([]:List e'.row.den))) ae))]}else ae
        |_=>ae)else ae
       |_=>ae)else ae
      |_=>ae
    |_=>ae
  |_=>ae
def va(T:b7 P){t:TypeId}{rt:Row}(Kj:find T.row t=aa rt){x y:Operand}{o s:Nat}{T0:TypeId}{dr e:DR}{i:Int}{l l':List dr.row.den}{h h':Option zo}{q:jo dr e}{g o0 qq m cap j:Nat}{u:e.low.den}{cs:List Value}{x1:dr.row.den}
 (hs:aX U H F w ob n)(gz:ob o=aa (s, .deep T0 dr l h))(hv:H.val o=aa (.slice (aa ⟨g,o0,ae⟩) m cap))(hj:i=(j:Nat))(xc:j<l.length)(hx:ev ρ x= .pointer (aa ⟨g,o0+qq*dr.low.size+q.lo.off,ae⟩))(hqq:i=(qq:Nat))(hz:rt.size=e.low.size)
 (hr:eF F w e.low cs u)(Bj:(ev ρ y).cells.toList=cs)(zJ:l'=l.set j x1)
 (Bm:∀{w':World}{H1:aW},H.le H1->Step F w F w'->∀{x':dr.low.den}{S:Nat->Prop},(∀k,S k->w'.heap[k]? =w.heap[k]?)->rC H F w dr h j x' l[j] S->∃B,(∀k,B k->S k)/\rC H1 F w' dr h' j (q.lo.set x' u) x1 B)
 (adX:∀{H1:aW}{w':World}{i':Nat}{x':dr.low.den}{x:dr.row.den}{S:Nat->Prop},i'≠j->rC H1 F w' dr h i' x' x S->rC H1 F w' dr h' i' x' x S):
 eH P U H F w ρ ob n ⟨ae, .store t x y,ty,pos,aft,ae⟩ {dst:= .dead,eat:=[o],make:=[(o,(n, .deep T0 dr l' h'))]}:=by
 obtain⟨ti,z0,h1,_,_,h4,_⟩:=T.row_ok _ _ Kj;obtain⟨lh,Ss,iH,hlen,VQ,fI⟩:=hs.low gz hv;obtain⟨v1,wY,eJ⟩:=hs.obj _ _ _ gz;rw[hv]at wY;obtain rfl:=aqL wY
 have hjh:j<lh.length:=by omega
 obtain rfl:qq=j:=by omega
 obtain⟨cur,hh,hle,cP,mh⟩:=iH.put rfl hjh hs.lt q.lo hr;generalize hw':w.setRow g (cur.toList.take (o0+qq*dr.low.size+q.lo.off)++cs++cur.toList.drop (o0+qq*dr.low.size+q.lo.off+cs.length)).toArray=w' at cP mh;refine ef.unit (w':=w') (by rw[<-hw'];exact rA h1 (h4.trans (hz.trans hr.length.symm)) hx rfl Bj hr.mw hh hle) ?_;have mf:Step F w F w':=Step.ext cP hs.lt iH.no
 have TF:∀i',i'<l.length->∀k,Ss i' k->w'.heap[k]? =w.heap[k]? :=λi' jn k hk=>cP.block k (eJ.lt k (fI.part jn k hk)) (fI.out i' k jn hk)
 have hf:=hs.fresh n (aqS _) (by omega)
 have pn:∀k,H.sub s k->dH H ob [o] k:=λk hk=>⟨o,by simp,s,_,_,gz,hv,hk⟩
 obtain⟨B0,ZP,_⟩:=Bm (w':=w') (H1:=H) (aW.le.refl H) mf (TF qq xc) (VQ qq hjh xc)
 have main:∀{H1:aW},H.le H1->∃B,(∀k,B k->Ss qq k)/\rC H1 F w' dr h' qq (q.lo.set lh[qq] u) x1 B:=(by grind)
 have ZQ:∃B,(∀k,B k->Ss qq k)/\∀{H1:aW},H.le H1->rC H1 F w' dr h' qq (q.lo.set lh[qq] u) x1 B:=by
  obtain⟨B,b1,b2⟩:=main (aW.le.refl H);exact⟨B,b1,λTG=>b2.keep TG (Step.refl F w') λ_ _=>rfl⟩
 obtain⟨B,b1,b2⟩:=ZQ;have hSs:∀k,u7 (cF (Value.slice (aa ⟨g,o0,ae⟩) m cap)) (λi=>if i=qq then B else Ss i) l.length k->H.sub s k:=fI.Fe qq b1;refine qG.PH (t':= .deep T0 dr l' h') hs gz hv rfl (by simp) (u7 (cF (Value.slice (aa ⟨g,o0,ae⟩) m cap)) (λi=>if i=qq then B else Ss i) l.length) (λk hk=>pn k (hSs k hk)) ⟨cP.os,cP.tape,cP.output,cP.size,λk hk hn=>cP.block k hk λe=>hn (pn k (fI.cF k e))⟩ ?_ trivial;have TG:=aW.Df (H:=H) (S:=u7 (cF (Value.slice (aa ⟨g,o0,ae⟩) m cap)) (λi=>if i=qq then B else Ss i) l.length) (t:= .deep T0 dr l' h') hf.2
 have Fc:l'.length=l.length:=by rw[zJ];simp
 refine⟨lh.set qq (q.lo.set lh[qq] u),(λi=>if i=qq then B else Ss i),mh.2,by grind,?_,?_⟩
 .intro i' a b
  have:=TE (rel:=rC ((H.kO n (u7 (cF (Value.slice (aa ⟨g,o0,ae⟩) m cap)) (λi=>if i=qq then B else Ss i) l.length)).cU n (.deep T0 dr l' h')) F w' dr h') (lh:=lh) (l:=l) (Ss:=Ss) (j:=qq) (x':=q.lo.set lh[qq] u) (x:=x1) (B:=B)
   (λi2 c1 c2 dG=>adX dG ((VQ i2 c1 c2).keep TG mf (TF i2 c2))) (b2 TG) i' a (by simpa[zJ]using b)
  grind
 .rw[Fc];exact fI.less qq b1
def ID(T:b7 P){t:TypeId}{D V:aN}{x y:Operand}{k:gY->Option R}{q:R}(h:tU T ob n t D V k=aa q)(hs:aX U H F w ob n)(hx:aO H F w D (ev ρ x))(hy:aO H F w V (ev ρ y)):
 ∃e,k e=aa q/\eH P U H F w ρ ob n ⟨ae, .store t x y,ty,pos,aft,ae⟩ e:=by
 unfold tU at h;split at h
 .cases h
 rename_i rt Kj;split at h
 case h_2=>cases h
 rename_i agg u;split at h
 case h_2=>cases h
 rename_i o d0 i p off;split at h
 case h_2=>cases h
 rename_i s T0 dr l hh gz;obtain⟨hd,h'⟩:=bz h;clear h;obtain rfl:=DR.eq_of_beq hd;obtain⟨g,o0,qq,m,cap,e1,e2,e5⟩:=hx;obtain⟨cs,vC,Bj⟩:=bB.cells hy;split at h'
 .rename_i r BW Dc;obtain⟨h1,h2⟩:=bz h';obtain⟨h1,h3⟩:=e8 h1;obtain rfl:=beq_true h1;split at h2
  case h_2=>cases h2
  rename_i z hz;obtain⟨a,ha,hk⟩:=bind_some h2;obtain⟨j,hj,xc,rfl⟩:=jX ha;refine⟨_,hk,va (l':=bn l i (BW.hi.set l[j] z)) (x1:=BW.hi.set l[j] z) (u:=z) T Kj hs gz e1 hj xc e5 e2 (beq_true h3) (m5 hs hz vC) Bj ?_ ?_ ?_⟩
  .unfold bn;rw[hj,aqR]
  .intro w' H1 hle mf x' S hb hr;exact⟨S,λ_ h=>h,MI BW z (hr.keep hle mf hb)⟩
  grind
 .rename_i T' e' BW Dc;obtain⟨h1,h2⟩:=bz h';obtain⟨h1,h3⟩:=e8 h1;obtain rfl:=beq_true h1;split at h2
  .rename_i o1;split at h2
   case h_2=>cases h2
   rename_i s1 t1 Di;split at h2
   case h_2=>cases h2
   rename_i y1 hD;split at h2
   case isFalse=>cases h2
   rename_i Fh;obtain⟨a,ha,hk⟩:=bind_some h2;obtain⟨j,hj,xc,rfl⟩:=jX ha;obtain⟨u1,It,rG⟩:=hs.obj _ _ _ Di;obtain⟨v,hv,oF,rfl⟩:=vC;rw[It]at hv;obtain rfl:=aqL hv
   have adZ:eF F w .mX [u1] u1:=by
    have:=rG.ok;rw[IC hD]at this;obtain⟨lh1,_,g1,_⟩:=zG this;obtain⟨xs,⟨_,hx⟩,_⟩:=g1
    rcases hx with⟨rfl,_⟩|⟨gg,o0,cp,cur,rfl,_⟩<;>exact⟨rfl,_,_,_,rfl⟩
   refine⟨_,hk,va (l':=l) (x1:=l[j]) (u:=u1) (e:= .sl T' e') T Kj hs gz e1 hj xc e5 e2 (beq_true h3) adZ Bj ?_ ?_ ?_⟩
   .simp_all
   .intro w' H1 hle mf x' S hb hr;obtain⟨B,b1,b2⟩:=Fg Fh Dc hj hr;refine⟨B,b1,λdG=>absurd hj dG,λ_=>⟨T',e',BW,Dc,(b2.keep mf λk hk=>hb k (b1 k hk)).PG BW u1,?_⟩⟩;rw[Path.De];exact hle.val _ _ It
   .intro H1 w' i' x' x S dG hr
    have TH:i≠(i':Int):=λe=>dG (by omega)
    exact⟨λ_=>zI Fh TH hr,λe=>absurd e TH⟩
  .split at h2
   case isFalse=>cases h2
   rename_i Fh;obtain⟨a,ha,hk⟩:=bind_some h2;obtain⟨j,hj,xc,rfl⟩:=jX ha;have ad0:cs=_:=vC;subst ad0;refine⟨_,hk,va (x1:=BW.hi.set l[j] ([]:List e'.row.den)) (u:=Value.slice ae 0 0) (e:= .sl T' e') T Kj hs gz e1 hj xc e5 e2 (beq_true h3) ⟨rfl,_,_,_,rfl⟩ Bj ?_ ?_ ?_⟩
   .unfold bn;rw[hj,aqR]
   .intro w' H1 hle mf x' S hb hr;obtain⟨B,b1,b2⟩:=Fg Fh Dc hj hr;refine⟨B,b1,?_⟩;refine qF.put (e:= .sl T' e') BW (b2.keep mf λk hk=>hb k (b1 k hk)) (A:=λ_=>False) ?_ ⟨λk=>by simp,λ_ h=>h.elim⟩;exact⟨[],λ_ _=>False,o7.nil F w' T' e'.low,rfl,λi h=>absurd h (by simp),⟨λk=>by simp[cF,ark],λ_ _ _ h=>absurd h (by simp),λ_ _ h=>absurd h (by simp)⟩⟩
   .intro H1 w' i' x' x S dG hr
    have TH:i≠(i':Int):=λe=>dG (by omega)
    exact zI Fh TH hr
  .cases h2
 .cases h'
end
end Go.Proofs.YtfjgcenlllgonaaGreatDoor
namespace Go.Proofs.YtfjgcenlllgonaaGreatDoor
open Go Go.RowKit
def vL{α:Type}(l:List α)(i:Int)(f:α->α):List α:=if 0<=i then l.modify i.toNat f else l
def kP{α:Type}(l:List α)(i:Int)(f:α->α):(vL l i f).length=l.length:=by unfold vL;split<;>simp
def yU{α:Type}{l:List α}{i:Int}{f:α->α}{j:Nat}(h:j<(vL l i f).length)(h':j<l.length):(vL l i f)[j]=if i=(j:Int)then f l[j]else l[j]:=by
 grind [vL]
def Path.Dj:{r s:Row}->(p:Path r s)->(x:r.den)->p.set x (p.get x)=x
 |_,_, .here,_=>rfl
 |_,_, .fst p,x=>by show(p.set x.1 (p.get x.1),x.2)=x;rw[Path.Dj p]
 |_,_, .snd p,x=>by show(x.1,p.set x.2 (p.get x.2))=x;rw[Path.Dj p]
section
variable {P:Program} {ρ:Nat->Value} {w w':World} {H H':aW} {F F':Nat->Prop} {U:Nat->Prop} {ob:Nat->Option (Nat×Th)} {n:Nat} {R:Type}
variable {op:Op} {ty:TypeId} {pos:String} {aft:Array Edge} {d:Nat}
def PI(ob:Nat->Option (Nat×Th))(n o:Nat):Option gY:=
 match ob o with
 |some (_, .deep T0 dr l (aa h))=>match dr.path h.p with
  |some ⟨.sl T' e',q⟩=>match ob h.o with
   |some (_,t1)=>bif aqU h.o o then ae else(match ZO T' e' t1 with
    |some y=>aa {dst:= .dead,eat:=[o,h.o],make:=[(o,(n, .deep T0 dr (vL l h.i λx=>q.hi.set x y) ae))]}
    |none=>ae)
   |none=>ae
  |_=>ae
 |_=>ae
def MK(hs:aX U H F w ob n){o:Nat}{e:gY}(h:PI ob n o=aa e):ph H F w ob n e undef w:=by
 unfold PI at h;split at h
 case h_2=>cases h
 rename_i s T0 dr l hh gz;split at h
 case h_2=>cases h
 rename_i T' e' q hq;split at h
 case h_2=>cases h
 rename_i s1 t1 Di
 cases dG:aqU hh.o o with
 |true=>rw[dG]at h;cases h
 |false=>
  rw[dG,cond_false]at h
  have dG:o≠hh.o:=λe=>by simp_all
  split at h
  case h_2=>cases h
  rename_i y hD;obtain rfl:=aqL h;have hD:=IC hD;subst hD;obtain⟨v,hv,eJ⟩:=hs.obj _ _ _ gz;obtain⟨u,hu,rG⟩:=hs.obj _ _ _ Di;obtain⟨lh,Ss,iH,hlen,Bm,fI⟩:=hs.low gz hv;have hA:=zG rG.ok;generalize hAA:(λk=>fp (H.sub s1) u (MH T' e' y) k)=A at hA
  have hAd:∀k,A k->¬H.sub s k:=λk hk=>by
   rw[<-hAA]at hk
   exact λh2=>hs.apart _ _ _ _ _ _ _ _ dG gz Di hv hu k h2 hk
  have hf:=hs.fresh n (aqS _) (by omega)
  let ZR:Nat->Nat->Prop:=λi k=>Ss i k\/(hh.i=(i:Int)/\A k)
  have pn:∀k,H.sub s k\/A k->dH H ob [o,hh.o] k:=by
   rintro k (hk|hk)
   .exact⟨o,by simp,s,_,v,gz,hv,hk⟩
   .rw[<-hAA]at hk;exact⟨hh.o,by simp,s1,_,u,Di,hu,hk⟩
  have hS:∀k,u7 (cF v) ZR l.length k->H.sub s k\/A k:=by
   rintro k (hk|⟨i,hi,hk|hk⟩)
   .exact .inl (fI.cF k hk)
   .exact .inl (fI.part hi k hk)
   .exact .inr hk.2
  refine qG.PH (t':= .deep T0 dr (vL l hh.i λx=>q.hi.set x y) ae) hs gz hv rfl (by simp) (u7 (cF v) ZR l.length) (λk hk=>pn k (hS k hk)) ⟨rfl,rfl,rfl,aqS _,λ_ _ _=>rfl⟩ ?_ trivial;have Fc:(vL l hh.i λx=>q.hi.set x y).length=l.length:=kP ..;refine⟨lh,ZR,iH.2,by rw[Fc];exact hlen,λi a b=>?_,?_⟩
  .have b':i<l.length:=by omega
   rw[yU b b'];have hr:=Bm i a b'
   by_cases hi:hh.i=(i:Int)
   .rw[al hi];obtain⟨T'',e'',q'',k1,k2,k3⟩:=hr.2 hi;rw[hq]at k1;cases k1;rw[hu]at k3;have k3:=aqL k3;have:mZ F w dr (q.lo.set lh[i] u) (q.hi.set l[i] y) (ZR i):=k2.put q hA ⟨(by grind),λk hk h2=>hAd k hk (fI.part b' k h2)⟩;rw[k3,Path.Dj]at this;exact this
   .rw[aj hi];have VT:=hr.1 hi
    have:ZR i=Ss i:=by
     funext k;exact(by grind)
    rw[this];exact VT
  .rw[Fc];refine⟨λk=>Iff.rfl,λi j k h1 h2 ZN h3 h4=>?_,λi k h1 h3 h4=>?_⟩
   .rcases h3 with h3|h3<;>rcases h4 with h4|h4
    .exact fI.two i j k h1 h2 ZN h3 h4
    .exact hAd k h4.2 (fI.part h1 k h3)
    .exact hAd k h3.2 (fI.part h2 k h4)
    grind
   .rcases h3 with h3|h3
    .exact fI.out i k h1 h3 h4
    .exact hAd k h3.2 (fI.cF k h4)
end
end Go.Proofs.YtfjgcenlllgonaaGreatDoor
end
namespace Go.Proofs.YtfjgcenlllgonaaGreatDoor
open Go Go.RowKit
set_option maxRecDepth 100000
set_option linter.unusedSimpArgs false
set_option linter.unusedVariables false
set_option linter.defProp false
section
def DR.je:(d:DR)->d.low.je=d.row.je
 | .leaf _=>rfl
 | .sl _ _=>rfl
 | .pair a b=>by show a.low.je++b.low.je=a.row.je++b.row.je;rw[a.je,b.je]
def TI.low{P:Program}{e:TypeId}{d:DR}(h:TI P e d.row):TI P e d.low:=by
 obtain⟨ti,z,h1,h2,h3,h4,h5⟩:=h;exact⟨ti,z,h1,h2,by rw[d.je];exact h3,by rw[d.size];exact h4,h5⟩
def IE:List Nat->Bool
 |[]=>af
 |o::l=> !l.any (aqU o)&&IE l
def B3:{l:List Nat}->IE l=af->l.Nodup
 |[],_=>List.nodup_nil
 |o::l,h=>by
  obtain⟨h1,h2⟩:=e8 h;refine List.nodup_cons.2 ⟨λhm=>?_,B3 h2⟩;rw[any_beq.2 hm]at h1;cases h1
def DR.mk2:DR->DR->DR
 | .leaf a, .leaf b=> .leaf (.pair a b)
 |a,b=> .pair a b
def WU(ob:Nat->Option (Nat×Th)):Row->Tree->DR
 | .slice e, .own o=>match ob o with
   |some (_, .own T r _)=> .sl T (.leaf r)
   |some (_, .deep T d _ ae)=> .sl T d
   |_=> .leaf (.slice e)
 | .pair a b,t=>match t.split with
   |some (x,y)=>DR.mk2 (WU ob a x) (WU ob b y)
   |none=> .leaf (.pair a b)
 |r,_=> .leaf r
def IF(ob:Nat->Option (Nat×Th)):(d:DR)->Tree->Option (d.row.den×List Nat)
 | .leaf r,t=>match flat ob r t with
   |some x=>aa (x,[])
   |none=>ae
 | .sl T e, .own o=>match ob o with
   |some (_,t1)=>match ZO T e t1 with
    |some y=>aa (y,[o])
    |none=>ae
   |none=>ae
 | .sl _ _, .nil=>aa ([],[])
 | .sl _ _,_=>ae
 | .pair a b,t=>match t.split with
   |some (x,y)=>match IF ob a x with
    |some (u,os)=>match IF ob b y with
     |some (v,TJ)=>aa ((u,v),os++TJ)
     |none=>ae
    |none=>ae
   |none=>ae
def Kr(ob:Nat->Option (Nat×Th))(d:DR):List aN->Option (List d.row.den×List Nat)
 |[]=>aa ([],[])
 | .val _ u::l=>match IF ob d u with
   |some (x,os)=>match Kr ob d l with
    |some (xs,TJ)=>aa (x::xs,os++TJ)
    |none=>ae
   |none=>ae
 |_::_=>ae
section
variable {P:Program} {ρ:Nat->Value} {w w':World} {H H':aW} {F F':Nat->Prop} {U:Nat->Prop} {ob:Nat->Option (Nat×Th)} {n:Nat} {R:Type}
variable {op:Op} {ty:TypeId} {pos:String} {aft:Array Edge} {d:Nat}
def xU(hs:aX U H F w ob n){os TJ:List Nat}(hd:∀o,o∈os->o∉TJ):∀k,dH H ob os k->¬dH H ob TJ k:=by
 rintro k ⟨o,ho,s,t,v,h1,h2,h3⟩ ⟨o',oY,s',t',v',g1,g2,g3⟩
 exact hs.apart o o' s s' t t' v v' (λe=>hd o ho (e▸oY)) h1 g1 h2 g2 k h3 g3
theorem tV{os TJ:List Nat}(h:∀o,o∈os->o∈TJ):∀k,dH H ob os k->dH H ob TJ k:=λ_ ⟨o,ho,rest⟩=>⟨o,h o ho,rest⟩
def Dk(hs:aX U H F w ob n):{d:DR}->{t:Tree}->{x:d.row.den}->{os:List Nat}->{cs:List Value}->IF ob d t=aa (x,os)->Holds H F w t cs->os.Nodup->∃x' S,eF F w d.low cs x'/\mZ F w d x' x S/\∀k,S k->dH H ob os k
 | .leaf r,t,x,os,cs,h,hh,TK=>by
   unfold IF at h
   split at h<;>cases h
   rename_i hf;exact⟨x,λ_=>False,m5 hs hf hh,⟨rfl,λ_ h=>h⟩,λ_ h=>h.elim⟩
 | .sl T e, .own o,x,os,cs,h,hh,TK=>by
   unfold IF at h;split at h
   case h_2=>cases h
   rename_i s1 t1 ho
   split at h<;>cases h
   rename_i hD;obtain⟨v,hv,_,rfl⟩:=hh;obtain⟨v',gZ,eJ⟩:=hs.obj _ _ _ ho;rw[hv]at gZ;obtain rfl:=aqL gZ;have hD:=IC hD;subst hD;have hb:=zG eJ.ok;refine⟨v,_,?_,hb,λk hk=>⟨o,by simp,s1,_,v,ho,hv,hk⟩⟩;obtain⟨lh1,_,⟨xs,⟨_,hx⟩,_⟩,_⟩:=hb
   rcases hx with⟨rfl,_⟩|⟨gg,o0,cp,cur,rfl,_⟩<;>exact⟨rfl,_,_,_,rfl⟩
 | .sl T e, .nil,x,os,cs,h,hh,_=>by
   cases h;have hh':cs=_:=hh;subst hh';exact⟨.slice ae 0 0,λ_=>False,⟨rfl,_,_,_,rfl⟩,⟨[],λ_ _=>False,o7.nil F w T e.low,rfl,λi h=>absurd h (by simp),⟨λk=>by simp[cF,ark],λ_ _ _ h=>absurd h (by simp),λ_ _ h=>absurd h (by simp)⟩⟩,λ_ h=>h.elim⟩
 | .pair a b,t,x,os,cs,h,hh,hn=>by
   unfold IF at h;split at h
   case h_2=>cases h
   rename_i t1 t2 wT;split at h
   case h_2=>cases h
   rename_i u os1 h1;split at h
   case h_2=>cases h
   rename_i v os2 h2;cases h;obtain⟨c1,c2,rfl,g1,g2,_⟩:=hh.split wT;obtain⟨n1,n2,n3⟩:=List.nodup_append.1 hn;obtain⟨x1,S1,r1,e1,s1⟩:=Dk hs h1 g1 n1;obtain⟨x2,S2,r2,e2,s2⟩:=Dk hs h2 g2 n2;refine⟨(x1,x2),λk=>S1 k\/S2 k,⟨c1,c2,rfl,r1,r2⟩,⟨S1,S2,e1,e2,λ_=>Iff.rfl,λk hk jh=>xU hs (λo ho oY=>n3 o ho o oY rfl) k (s1 k hk) (s2 k jh)⟩,λk hk=>hk.elim (λhk=>tV (λo ho=>by simp[ho]) k (s1 k hk)) λhk=>tV (λo ho=>by simp[ho]) k (s2 k hk)⟩
 | .sl _ _, .leaf _ _,_,_,_,h,_,_=>by cases h
 | .sl _ _, .pair _ _,_,_,_,h,_,_=>by cases h
 | .sl _ _, .view ..,_,_,_,h,_,_=>by cases h
def Fi(hs:aX U H F w ob n){d:DR}:{ds:List aN}->{l:List d.row.den}->{os:List Nat}->{vs:List Value}->Kr ob d ds=aa (l,os)->iL H F w ds vs->os.Nodup->
 ∃(lh:List d.low.den)(Ss:Nat->Nat->Prop),zj F w d.low vs lh/\lh.length=l.length/\(∀i(h1:i<lh.length)(h2:i<l.length),mZ F w d lh[i] l[i] (Ss i))/\(∀i k,i<l.length->Ss i k->dH H ob os k)/\∀i j k,i<l.length->j<l.length->i≠j->Ss i k->¬Ss j k
 |[],l,os,vs,h,hd,_=>by
  cases h;rw[show vs=[]from hd];exact⟨[],λ_ _=>False, .nil,rfl,λi h=>absurd h (by simp),λ_ _ h=>absurd h (by simp),λ_ _ _ h=>absurd h (by simp)⟩
 | .val _ u::ds,l,os,vs,h,hd,hn=>by
   obtain⟨v,us,rfl,h1,h2⟩:=hd;unfold Kr at h;split at h
   case h_2=>cases h
   rename_i x os1 hf;split at h
   case h_2=>cases h
   rename_i xs os2 hg;cases h;obtain⟨cs,vC,Bj⟩:=bB.cells h1;obtain⟨n1,n2,n3⟩:=List.nodup_append.1 hn;obtain⟨x',S,r1,e1,s1⟩:=Dk hs hf vC n1;obtain⟨lh,Ss,k1,k2,k3,k4,k5⟩:=Fi hs hg h2 n2
   have ap:∀i k,i<xs.length->S k->¬Ss i k:=λi k hi hk jh=>xU hs (λo ho oY=>n3 o ho o oY rfl) k (s1 k hk) (k4 i k hi jh)
   refine⟨x'::lh,λi=>match i with|0=>S|i+1=>Ss i, .cons Bj r1 k1,by simp[k2],λi a b=>?_,λi k hi hk=>?_,λi j k hi hj dG hk jh=>?_⟩
   .grind
   .cases i with
    |zero=>grind [tV]
    |succ i=>grind [tV]
   .cases i with
    |zero=>
     cases j<;>grind
    |succ i=>
     cases j<;>grind
 | .dead::_,_,_,_,h,_,_=>by cases h
 | .undef::_,_,_,_,h,_,_=>by cases h
 | .ptr .. ::_,_,_,_,h,_,_=>by cases h
 | .at .. ::_,_,_,_,h,_,_=>by cases h
 | .elem .. ::_,_,_,_,h,_,_=>by cases h
 | .tup _::_,_,_,_,h,_,_=>by cases h
 | .dlm .. ::_,_,_,_,h,_,_=>by cases h
 | .fn .. ::_,_,_,_,h,_,_=>by cases h
 | .ifc .. ::_,_,_,_,h,_,_=>by cases h
def qG.WV(hs:aX U H F w ob n){eat:List Nat}{t:Th}{v0:Value}{S:Nat->Prop}(hb:t.base=t)(h1:v0.oneCell'=af){D:aN}{v:Value}
 (cP:Ext (dH H ob eat) w w')(sB:mJ (((H.kO n S).cU n t).ga n v0) F w' S v0 t)(SV:∀k,fp S v0 t k->¬F k/\k<w'.heap.size/\(w.heap.size<=k\/dH H ob eat k))
 (hd:aO (((H.kO n S).cU n t).ga n v0) F w' D v):ph H F w ob n {dst:=D,eat:=eat,make:=[(n,(n,t))]} v w':=by
 have hf:=hs.fresh n (aqS _) (by omega)
 have kK:(((H.kO n S).cU n t).ga n v0).sub n=S:=by simp[aW.ga,aW.cU,aW.kO]
 refine⟨((H.kO n S).cU n t).ga n v0,F,⟨(aW.Df hf.2).trans (aW.wX (by simp[aW.cU,aW.kO,hf.1])),cP,λ_ h=>h,λ_ h=> .inl h,λb hb=>ars (hs.lt b hb) cP.size⟩,λm hm=>?_,hd,⟨λo' s' q hq=>?_,λo1 o2 s1 s2 q1 q2 u1 u2 dG h1 h2=>?_⟩,λo' h=>?_⟩
 .simp[aW.cU,aW.ga,aW.kO,show m≠n from by omega]
 .obtain⟨rfl,e⟩:=jr hq;obtain⟨rfl,rfl⟩:=Prod.mk.inj e;exact⟨v0,by simp[aW.ga],h1,by simp[aW.cU,aW.ga,hb],by rw[kK];exact sB,by grind⟩
 .grind [jr]
 .right
  obtain⟨y,hy⟩:=arA.1 h
  grind [jr]
def Dl(ob:Nat->Option (Nat×Th))(r:Row):List aN->DR
 | .val _ u::_=>WU ob r u
 |_=> .leaf r
def sL(e:TypeId)(dr:DR)(ob:Nat->Option (Nat×Th))(n:Nat)(ds:List aN)(k:gY->Option R):Option R:=
 match Kr ob dr ds with
 |some (l,os)=>bif IE os then k {dst:= .val ah (.own n),eat:=os,make:=[(n,(n,MH e dr l))]}else ae
 |none=>ae
def tW(T:b7 P)(rd:Operand->Option aN)(ob:Nat->Option (Nat×Th))(n:Nat)(t:TypeId)(m:Nat)(parts:Array (Nat×Operand))(k:gY->Option R):Option R:=
 match find T.und t with
 |some (.slice e)=>match find T.row e with
  |some r=>bif Kl 0 parts.toList&&aqU m parts.toList.length&&Nat.ble (m*r.size) 16777216 then
    (match vJ rd (parts.toList.map (·.2))with
    |some ds=>bif (Dl ob r ds).row.beq r then sL e (Dl ob r ds) ob n ds k else ae
    |none=>ae)else ae
  |none=>ae
 |_=>ae
def IG(T:b7 P){rd:Operand->Option aN}(kA:∀x d,rd x=aa d->aO H F w d (ev ρ x)){t:TypeId}{m:Nat}{parts:Array (Nat×Operand)}{k:gY->Option R}{q:R}(h:tW T rd ob n t m parts k=aa q)(hs:aX U H F w ob n):
 ∃e,k e=aa q/\eH P U H F w ρ ob n ⟨aa d, .buildSlice t m parts,ty,pos,aft,ae⟩ e:=by
 unfold tW at h;split at h
 case h_2=>cases h
 rename_i e hu;split at h
 case h_2=>cases h
 rename_i r hr;obtain⟨c0,h8⟩:=bz h;clear h;obtain⟨c1,c3⟩:=e8 c0;obtain⟨h1,c2⟩:=e8 c1;have h2:=beq_true c2
 have h3:m*r.size<=16777216:=by simpa using c3
 clear c0 c1 c2 c3;split at h8
 case h_2=>cases h8
 rename_i ds Bk;obtain⟨ZS,h⟩:=bz h8;clear h8;have mX:=Row.eq_of_beq ZS;clear ZS
 obtain⟨dr,TL⟩:∃dr,dr=Dl ob r ds:=⟨_,rfl⟩
 rw[<-TL]at h mX;clear TL;subst mX;unfold sL at h;split at h
 case h_2=>cases h
 rename_i l os hl;obtain⟨hn,hk⟩:=bz h;clear h;obtain⟨lh,Ss,k1,k2,k3,k4,k5⟩:=Fi hs hl (qU kA Bk) (B3 hn)
 have hp:parts=(((parts.toList.map (·.2)).zipIdx).map λp=>(p.2,p.1)).toArray:=by
  rw[<-zA h1,arG]
 have hm:m=(parts.toList.map (·.2)).length:=by simpa using h2
 obtain⟨v,w',cO,cP,iH,Pz⟩:=zy (d:=d) (ty:=ty) (pos:=pos) (aft:=aft) (T.und_ok _ _ hu) (TI.low (T.row_ok _ _ hr)) hp (by rw[<-hm,DR.size];exact h3) k1 hs;rw[<-hm]at cO;refine⟨_,hk,ef.val cO ?_⟩
 have aI:∀i k,i<l.length->Ss i k->k<w.heap.size:=λi k hi hk=>hs.zp k (k4 i k hi hk)
 have mf:Step F w F w':=λb hb=>⟨hb,(cP λ_=>False).block b (hs.lt b hb) λh=>h⟩
 have fI:qR Ss l.length (cF v) (u7 (cF v) Ss l.length):=⟨λ_=>Iff.rfl,k5,(by grind)⟩
 have wR:mZ F w' (.sl e dr) v l (u7 (cF v) Ss l.length):=⟨lh,Ss,iH.2,k2,λi a b=>(k3 i a b).keep mf λk hk=>(cP λ_=>False).block k (aI i k b hk) λh=>h,fI⟩
 have SV:∀k,u7 (cF v) Ss l.length k->¬F k/\k<w'.heap.size/\(w.heap.size<=k\/dH H ob os k):=by
  rintro k (hk|⟨i,hi,hk⟩)
  .exact⟨iH.1 k hk,iH.lt k hk, .inl (Pz k hk)⟩
  .have:=k4 i k hi hk;exact⟨hs.kJ k this,ars (hs.zp k this) (cP λ_=>False).size, .inr this⟩
 refine qG.WV (S:=u7 (cF v) Ss l.length) (v0:=v) hs (zF ..) (tQ iH) (cP _) (w8 wR).1 (λk hk=>SV k ((w8 (H:=H) wR).2.1 k hk)) (tR (by simp[aW.ga]) (tQ iH))
def Dm(T:b7 P)(n:Nat)(t:TypeId)(same:Bool)(a b:Int)(k:gY->Option R):Option R:=
 match find T.und t with
 |some (.slice e)=>match find T.row e with
  |some (.slice r)=>match find T.und e with
   |some (.slice e')=>(bif same then ol a ([]:List r.den)else mkC a b ([]:List r.den)).bind λl=>k {dst:= .val ah (.own n),make:=[(n,(n, .deep e (.sl e' (.leaf r)) l ae))]}
   |_=>ae
  |_=>zx T n t same a b k
 |_=>ae
def B4{e e' t:TypeId}{r:Row}{a b:Int}(ht:P.underlying t=aa (.slice e))(uZ:TI P e (.slice r))(hs:aX U H F w ob n){ka kb:IntKind}{x y:Operand}(hx:ev ρ x= .int ka a)(hy:ev ρ y= .int kb b)(h0:0<=a)(h1:a<=b)(h2:b<=4294967296):
 eH P U H F w ρ ob n ⟨aa d, .makeSlice t x y,ty,pos,aft,ae⟩ {dst:= .val ah (.own n),make:=[(n,(n, .deep e (.sl e' (.leaf r)) (aqO a.toNat ([]:List r.den)) ae))]}:=by
 obtain⟨v,w',cO,cP,iH,Pz⟩:=BY (d:=d) (ty:=ty) (pos:=pos) (aft:=aft) (r:= .mX) ht (TI.low (d:= .sl e' (.leaf r)) uZ) hs hx hy h0 h1 h2
 have wR:mZ F w' (.sl e (.sl e' (.leaf r))) v (aqO a.toNat ([]:List r.den)) (cF v):=by
  refine⟨aqO a.toNat (Value.slice ae 0 0),λ_ _=>False,iH.2,by simp,λi h1 h2=>?_,⟨λk=>by simp,λ_ _ _ _ _ _ h=>h.elim,λ_ _ _ h=>h.elim⟩⟩;simp only[List.getElem_replicate];exact⟨[],λ_ _=>False,o7.nil F w' e' r,rfl,λi h=>absurd h (by simp),⟨λk=>by simp[cF,ark],λ_ _ _ h=>absurd h (by simp),λ_ _ h=>absurd h (by simp)⟩⟩
 refine ef.val cO (qG.WV (S:=cF v) (v0:=v) (eat:=[]) (t:=MH e (.sl e' (.leaf r)) (aqO a.toNat ([]:List r.den))) hs (zF ..) (tQ iH) (cP _) (w8 wR).1 (λk hk=>?_) (tR (by simp[aW.ga]) (tQ iH)));have hk:=(w8 (H:=H) wR).2.1 k hk;exact⟨iH.1 k hk,iH.lt k hk, .inl (Pz k hk)⟩
def ML(T:b7 P){t:TypeId}{a b:Int}{ka kb:IntKind}{x y:Operand}{k:gY->Option R}{q:R}(h:Dm T n t (sK x y) a b k=aa q)(hs:aX U H F w ob n)(hx:ev ρ x= .int ka a)(hy:ev ρ y= .int kb b):
 ∃e,k e=aa q/\eH P U H F w ρ ob n ⟨aa d, .makeSlice t x y,ty,pos,aft,ae⟩ e:=by
 unfold Dm at h;split at h
 case h_2=>cases h
 rename_i e hu;split at h
 case h_2=>exact E5 T h hs hx hy
 rename_i r hr;split at h
 case h_2=>cases h
 rename_i e' WS;obtain⟨l,hl,hk⟩:=bind_some h;have uZ:=T.row_ok _ _ hr;have ht:=T.und_ok _ _ hu
 cases lU:sK x y with
 |true=>
  rw[lU,cond_true]at hl;unfold ol at hl;split at hl
  case isFalse=>cases hl
  rename_i hc;obtain rfl:=aqL hl;obtain rfl:=BZ lU hx hy;exact⟨_,hk,B4 ht uZ hs hx hy hc.1 (arO _) hc.2⟩
 |false=>
  rw[lU,cond_false]at hl;unfold mkC at hl;split at hl
  case isFalse=>cases hl
  rename_i hc;obtain rfl:=aqL hl;exact⟨_,hk,B4 ht uZ hs hx hy hc.1 hc.2.1 hc.2.2⟩
def zK(deep:Bool)(T:b7 P)(n:Nat)(t:TypeId)(same:Bool)(a b:Int)(k:gY->Option R):Option R:=
 match deep with
 |true=>Dm T n t same a b k
 |false=>zx T n t same a b k
def MM(deep:Bool)(T:b7 P){t:TypeId}{a b:Int}{ka kb:IntKind}{x y:Operand}{k:gY->Option R}{q:R}(h:zK deep T n t (sK x y) a b k=aa q)(hs:aX U H F w ob n)(hx:ev ρ x= .int ka a)(hy:ev ρ y= .int kb b):
 ∃e,k e=aa q/\eH P U H F w ρ ob n ⟨aa d, .makeSlice t x y,ty,pos,aft,ae⟩ e:=by
 cases deep with
 |true=>exact ML T h hs hx hy
 |false=>exact E5 T h hs hx hy
def sM(T:b7 P)(ob:Nat->Option (Nat×Th))(n:Nat)(t:TypeId)(D:aN)(k:gY->Option R):Option R:=
 match D with
 | .dlm .. =>u9 T ob n t D k
 |_=>BV T ob t D k
def MN(T:b7 P){t:TypeId}{D:aN}{x:Operand}{k:gY->Option R}{q:R}(h:sM T ob n t D k=aa q)(hs:aX U H F w ob n)(hx:aO H F w D (ev ρ x)):
 ∃e,k e=aa q/\eH P U H F w ρ ob n ⟨aa d, .load t x,ty,pos,aft,ae⟩ e:=by
 unfold sM at h;split at h
 .exact MJ T h hs hx
 .exact Px T h hs hx
noncomputable def tX(T:b7 P)(ob:Nat->Option (Nat×Th))(n:Nat)(t:TypeId)(D V:aN)(k:gY->Option R):Option R:=
 match D with
 | .dlm .. =>tU T ob n t D V k
 |_=>wZ T ob n t D V k
def IH(T:b7 P){t:TypeId}{D V:aN}{x y:Operand}{k:gY->Option R}{q:R}(h:tX T ob n t D V k=aa q)(hs:aX U H F w ob n)(hx:aO H F w D (ev ρ x))(hy:aO H F w V (ev ρ y)):
 ∃e,k e=aa q/\eH P U H F w ρ ob n ⟨ae, .store t x y,ty,pos,aft,ae⟩ e:=by
 unfold tX at h;split at h
 .exact ID T h hs hx hy
 .exact Mx T h hs hx hy
def yV(deep:Bool)(T:b7 P)(rd:Operand->Option aN)(ob:Nat->Option (Nat×Th))(n:Nat)(t:TypeId)(m:Nat)(parts:Array (Nat×Operand))(k:gY->Option R):Option R:=
 match deep with
 |true=>tW T rd ob n t m parts k
 |false=>mT T rd ob n t m parts k
def II(deep:Bool)(T:b7 P){rd:Operand->Option aN}(kA:∀x d,rd x=aa d->aO H F w d (ev ρ x)){t:TypeId}{m:Nat}{parts:Array (Nat×Operand)}{k:gY->Option R}{q:R}(h:yV deep T rd ob n t m parts k=aa q)(hs:aX U H F w ob n):
 ∃e,k e=aa q/\eH P U H F w ρ ob n ⟨aa d, .buildSlice t m parts,ty,pos,aft,ae⟩ e:=by
 cases deep with
 |true=>exact IG T kA h hs
 |false=>exact zB T kA h hs
end
end
section
open Go Go.RowKit Go.MapKept
section
variable {P:Program} {ρ:Nat->Value} {w w':World} {H H':aW} {F F':Nat->Prop} {U:Nat->Prop} {ob:Nat->Option (Nat×Th)} {n:Nat} {R:Type}
variable {op:Op} {ty:TypeId} {pos:String} {aft:Array Edge} {d:Nat}
variable {K:Row} {E:TypeId} {r:Row}
def Fj:{es:List MapEntry}->{l:List (K.den×List r.den)}->{S:Nat->Prop}->sf H F w K E r ae es l S->es.length=l.length/\∀i(h:i<l.length),∃(e:MapEntry)(A:Nat->Prop),es[i]? =aa e/\L1 K l[i].1=aa e.key/\Mp F w E r e.val l[i].2 A/\∀k,A k->S k
 |[],l,S,h=>by obtain⟨rfl,_⟩:=h;exact⟨rfl,λi h=>by simp at h⟩
 |e::es,l,S,h=>by
  obtain⟨k,y,l',A,B,rfl,h1,h2,h3,h4⟩:=h;obtain⟨g1,g2⟩:=Fj h3;refine⟨by simp[g1],λi hi=>?_⟩
  cases i with
  |zero=>exact⟨e,A,rfl,h1,h2,h4.left⟩
  |succ i=>
   obtain⟨e',A',q1,q2,q3,q4⟩:=g2 i (by simpa using hi);exact⟨e',A',by simpa only[List.getElem?_cons_succ]using q1,q2,q3,λk hk=>h4.right k (q4 k hk)⟩
def qV(deep:Bool)(T:b7 P)(n:Nat)(t:TypeId)(k:gY->Option R):Option R:=
 none
def Dn(deep:Bool)(T:b7 P){t:TypeId}{k:gY->Option R}{q:R}(h:qV deep T n t k=aa q)(hs:aX U H F w ob n):
 ∃e,k e=aa q/\eH P U H F w ρ ob n ⟨aa d, .makeMap t ae,ty,pos,aft,ae⟩ e:=by
 unfold qV at h;cases h
noncomputable def sN(T:b7 P)(ob:Nat->Option (Nat×Th))(n:Nat)(t:TypeId)(ok:Bool)(M X:aN)(k:gY->Option R):Option R:=
 none
def Fk(T:b7 P){t:TypeId}{ok:Bool}{M X:aN}{m x:Operand}{k:gY->Option R}{q:R}(h:sN T ob n t ok M X k=aa q)(hs:aX U H F w ob n)(hm:aO H F w M (ev ρ m))(hx:aO H F w X (ev ρ x)):
 ∃e,k e=aa q/\eH P U H F w ρ ob n ⟨aa d, .lookup t m x ok,ty,pos,aft,ae⟩ e:=by
 unfold sN at h;cases h
noncomputable def oH(T:b7 P)(ob:Nat->Option (Nat×Th))(n:Nat)(t:TypeId)(M X Y:aN)(k:gY->Option R):Option R:=
 none
def zL(T:b7 P){t:TypeId}{M X Y:aN}{m x y:Operand}{k:gY->Option R}{q:R}(h:oH T ob n t M X Y k=aa q)(hs:aX U H F w ob n)(hm:aO H F w M (ev ρ m))(hx:aO H F w X (ev ρ x))(hy:aO H F w Y (ev ρ y)):
 ∃e,k e=aa q/\eH P U H F w ρ ob n ⟨ae, .mapUpdate t m x y,ty,pos,aft,ae⟩ e:=by
 unfold oH at h;cases h
noncomputable def VU(ob:Nat->Option (Nat×Th))(n o:Nat):Option gY:=PI ob n o
def IJ(hs:aX U H F w ob n){o:Nat}{e:gY}(h:VU ob n o=aa e):ph H F w ob n e undef w:=MK hs h
def DR.xd:(d:DR)->d.low.je=d.row.je
 | .leaf _=>rfl
 | .sl _ _=>rfl
 | .pair a b=>by show a.low.je++b.low.je=a.row.je++b.row.je;rw[a.xd,b.xd]
def PJ{α β:Type}{l m out:List α}{lx ly:List β}(h:cf l m=aa out)(h1:lx.length=l.length)(h2:ly.length=m.length):cf lx ly=aa (lx++ly)/\out=l++m:=by
 unfold cf at h⊢;split at h
 case isFalse=>cases h
 rename_i hle;exact⟨by rw[al (by omega)],(aqL h).symm⟩
def xV(T:b7 P){t e:TypeId}{r:Row}(hu:find T.und t=aa (.slice e))(hr:find T.row e=aa r){dr:DR}(mX:dr.row=r){x y:Operand}{l m out:List dr.row.den}{Sx:Nat->Prop}{eat:List Nat}{o2 s2:Nat}
 (hs:aX U H F w ob n)(hx:Mo F w e dr.low (λ_=>mZ F w dr) (ev ρ x) l Sx)(hxF:∀k,Sx k->¬F k)(hxe:∀k,Sx k->dH H ob eat k)(Ph:∀k,Sx k->k<w.heap.size)
 (yD:ob o2=aa (s2, .deep e dr m ae))(Kb:H.val o2=aa (ev ρ y))(ho2:o2∈eat)(TM:∀k,Sx k->¬H.sub s2 k)(ha:cf l m=aa out):
 eH P U H F w ρ ob n ⟨aa d, .call {callee:= .builtin .append,args:= #[x,y],argTypes:= #[t,t]},ty,pos,aft,ae⟩ {dst:= .val ah (.own n),eat:=eat,make:=[(n,(n, .deep e dr out ae))]}:=by
 obtain⟨lx,Sx',WM,Zy,hrx,IK⟩:=hx;obtain⟨ly,Sy,hoy,hly,hry,WW⟩:=hs.low yD Kb;obtain⟨v2,Mj,TN⟩:=hs.obj _ _ _ yD;rw[Kb]at Mj;obtain rfl:=aqL Mj;obtain⟨IL,rfl⟩:=PJ ha Zy hly;obtain⟨ti,z,h1,h2,h3,h4,h5⟩:=T.row_ok _ _ hr;have ht:=T.und_ok _ _ hu;subst mX;obtain⟨v',w',cO,cP,mh,hm⟩:=zi ty ht h1 h2 (h3.trans dr.xd.symm) (h4.trans dr.size.symm) h5 (base:=0) (l:=lx) ⟨λk hk=>hxF k (IK.cF k hk),WM⟩ hoy.reads IL hs.lt (aq2 _)
 have mf:Step F w F w':=Step.ext cP hs.lt λk hk=>hxF k (IK.cF k hk)
 have hye:∀k,H.sub s2 k->dH H ob eat k:=λk hk=>⟨o2,ho2,s2,_,_,yD,Kb,hk⟩
 have ZT:∀i,i<l.length->∀k,Sx' i k->w'.heap[k]? =w.heap[k]? :=λi hi k hk=>cP.block k (Ph k (IK.part hi k hk)) (IK.out i k hi hk)
 have ZU:∀i,i<m.length->∀k,Sy i k->w'.heap[k]? =w.heap[k]? :=λi hi k hk=>cP.block k (TN.lt k (WW.part hi k hk)) λPK=>TM k (IK.cF k PK) (WW.part hi k hk)
 have hlen:(l++m).length=l.length+m.length:=aqT
 have hvb:∀k,cF v' k->(Sx k/\cF (ev ρ x) k)\/k=w.heap.size:=by
  intro k hk
  rcases hm with g|g
  .rw[g]at hk;exact .inl ⟨IK.cF k hk,hk⟩
  .rw[g]at hk;exact .inr hk.symm
 let SS:Nat->Nat->Prop:=λi=>if i<l.length then Sx' i else Sy (i-l.length)
 have Y6:∀i k,i<l.length->SS i k->Sx' i k:=λi k hi hk=>by simpa only[SS,al hi]using hk
 have Y7:∀i k,¬i<l.length->SS i k->Sy (i-l.length) k:=λi k hi hk=>by simpa only[SS,aj hi]using hk
 have hSS:∀i k,i<(l++m).length->SS i k->Sx k\/H.sub s2 k:=by
  intro i k hi hk;by_cases aI:i<l.length
  .exact .inl (IK.part aI k (Y6 i k aI hk))
  .exact .inr (WW.part (by omega) k (Y7 i k aI hk))
 have oF:v'.oneCell'=af:=o7.one (T:=e) (r:=dr.low) mh.2;refine ef.val (v:=v') (w':=w') (by simp[execOp,resolve,invoke,builtin,cO]) (qG.WV (t:= .deep e dr (l++m) ae) (S:=u7 (cF v') SS (l++m).length) hs rfl oF ⟨cP.os,cP.tape,cP.output,cP.size,λk hk hn=>cP.block k hk λWG=>hn (hxe k (IK.cF k WG))⟩ ?_ (λk hk=>?_) (tR (o:=n) (v:=v') (by simp[aW.ga]) oF))
 .refine⟨lx++ly,SS,mh.2,by simp[Zy,hly],λi a b=>?_,⟨λk=>Iff.rfl,λi j k hi hj dG hk jh=>?_,λi k hi hk WG=>?_⟩⟩
  .show mZ F w' dr (lx++ly)[i] (l++m)[i] (SS i)
   by_cases aI:i<l.length
   .have e1:(lx++ly)[i]=lx[i]'(by omega):=aqX (by omega);have e2:(l++m)[i]=l[i]:=aqX aI
    have e3:SS i=Sx' i:=by simp only[SS,al aI]
    rw[e1,e2,e3];exact mZ.keep mf (hrx i (by omega) aI) (ZT i aI)
   .have e1:(lx++ly)[i]=ly[i-l.length]'(by simp at a;omega):=by rw[are (by omega)];simp only[Zy]
    have e2:(l++m)[i]=m[i-l.length]'(by omega):=are (by omega)
    have e3:SS i=Sy (i-l.length):=by simp only[SS,aj aI]
    rw[e1,e2,e3];exact mZ.keep mf (hry (i-l.length) _ (by omega)) (ZU _ (by omega))
  .by_cases h1:i<l.length<;>by_cases h2:j<l.length
   .exact IK.two i j k h1 h2 dG (Y6 i k h1 hk) (Y6 j k h2 jh)
   .exact TM k (IK.part h1 k (Y6 i k h1 hk)) (WW.part (by omega) k (Y7 j k h2 jh))
   .exact TM k (IK.part h2 k (Y6 j k h2 jh)) (WW.part (by omega) k (Y7 i k h1 hk))
   .exact WW.two (i-l.length) (j-l.length) k (by omega) (by omega) (by omega) (Y7 i k h1 hk) (Y7 j k h2 jh)
  .rcases hvb k WG with⟨g1,g2⟩|g
   .by_cases h1:i<l.length
    .exact IK.out i k h1 (Y6 i k h1 hk) g2
    .exact TM k g1 (WW.part (by omega) k (Y7 i k h1 hk))
   .rcases hSS i k hi hk with h1|h1
    .have:=Ph k h1;omega
    .have:=TN.lt k h1;omega
 .have hk:u7 (cF v') SS (l++m).length k:=hk
  have fin:Sx k\/H.sub s2 k->¬F k/\k<w'.heap.size/\(w.heap.size<=k\/dH H ob eat k):=by
   rintro(h1|h1)
   .exact⟨hxF k h1,ars (Ph k h1) cP.size, .inr (hxe k h1)⟩
   .exact⟨TN.no k h1,ars (TN.lt k h1) cP.size, .inr (hye k h1)⟩
  rcases hk with hk|⟨i,hi,hk⟩
  .rcases hvb k hk with⟨g,_⟩|g
   .exact fin (.inl g)
   .exact⟨λe=>by have:=hs.lt k e;omega,mh.lt k hk, .inl (by omega)⟩
  .exact fin (hSS i k hi hk)
def vM(T:b7 P)(ob:Nat->Option (Nat×Th))(n:Nat)(t:TypeId)(X Y:aN)(k:gY->Option R):Option R:=
 match find T.und t with
 |some (.slice e)=>match find T.row e with
  |some r=>match Y with
   | .val ah (.own o2)=>match ob o2 with
     |some (_, .deep T2 d2 m ae)=>bif aqU T2 e&&d2.row.beq r then(match X with
      | .val ah .nil=>(cf ([]:List d2.row.den) m).bind λl=>k {dst:= .val ah (.own n),eat:=[o2],make:=[(n,(n, .deep e d2 l ae))]}
      | .val ah (.own o1)=>match ob o1 with
        |some (_, .deep T1 d1 l0 ae)=>bif aqU o1 o2 then ae else bif aqU T1 e then(if h:d1.beq d2=af then(cf (DR.eq_of_beq h▸l0) m).bind λl=>k {dst:= .val ah (.own n),eat:=[o1,o2],make:=[(n,(n, .deep e d2 l ae))]}else ae)else ae
        |_=>ae
      |_=>ae)else ae
     |_=>ae
   |_=>ae
  |none=>ae
 |_=>ae
def Fl(T:b7 P){t:TypeId}{X Y:aN}{x y:Operand}{k:gY->Option R}{q:R}(h:vM T ob n t X Y k=aa q)(hs:aX U H F w ob n)(hx:aO H F w X (ev ρ x))(hy:aO H F w Y (ev ρ y)):
 ∃e,k e=aa q/\eH P U H F w ρ ob n ⟨aa d, .call {callee:= .builtin .append,args:= #[x,y],argTypes:= #[t,t]},ty,pos,aft,ae⟩ e:=by
 unfold vM at h;split at h
 case h_2=>cases h
 rename_i e hu;split at h
 case h_2=>cases h
 rename_i r hr;split at h
 case h_2=>cases h
 rename_i o2;split at h
 case h_2=>cases h
 rename_i s2 T2 d2 m yD;obtain⟨hc,h'⟩:=bz h;clear h;obtain⟨Ow,C9⟩:=e8 hc;obtain rfl:=beq_true Ow;have mX:=Row.eq_of_beq C9;obtain⟨cs,⟨u,Tt,_,e2⟩,_,h3⟩:=hy;rw[h3 rfl]at e2
 obtain rfl:ev ρ y=u:=by simpa using e2
 split at h'
 .obtain⟨l,hl,hk⟩:=bind_some h';refine⟨_,hk,xV (Sx:=λ_=>False) T hu hr mX hs ?_ (λ_ h=>h.elim) (λ_ h=>h.elim) (λ_ h=>h.elim) yD Tt (by simp) (λ_ h=>h.elim) hl⟩;obtain⟨cs,h1,_,h4⟩:=hx;rw[h4 rfl]at h1;have Da:[ev ρ x]=[Value.slice ae 0 0]:=h1;rw[show ev ρ x= .slice ae 0 0 by simpa using Da];exact⟨[],λ_ _=>False,o7.nil F w T2 d2.low,rfl,λi h=>absurd h (by simp),⟨λk=>by simp[cF,ark],λ_ _ _ h=>absurd h (by simp),λ_ _ h=>absurd h (by simp)⟩⟩
 .rename_i o1;split at h'
  case h_2=>cases h'
  rename_i s1 T1 d1 l0 Di
  cases dG:aqU o1 o2 with
  |true=>rw[dG]at h';cases h'
  |false=>
   rw[dG,cond_false]at h'
   have dG:o1≠o2:=λe=>by rw[e]at dG;simp at dG
   obtain⟨hT,h⟩:=bz h';clear h';obtain rfl:=beq_true hT;split at h
   case isFalse=>cases h
   rename_i hb;obtain rfl:=DR.eq_of_beq hb;obtain⟨l,hl,hk⟩:=bind_some h;obtain⟨cs,⟨v,wY,_,e1⟩,_,h4⟩:=hx;rw[h4 rfl]at e1
   obtain rfl:ev ρ x=v:=by simpa using e1
   obtain⟨v',gZ,rG⟩:=hs.obj _ _ _ Di;rw[wY]at gZ;obtain rfl:=aqL gZ;exact⟨_,hk,xV (Sx:=H.sub s1) T hu hr mX hs rG.ok rG.no (λk hk=>⟨o1,by simp,s1,_,_,Di,wY,hk⟩) rG.lt yD Tt (by simp) (λk hk=>hs.apart _ _ _ _ _ _ _ _ dG Di yD wY Tt k hk) hl⟩
 .cases h'
def PL(ob:Nat->Option (Nat×Th)):aN->Bool
 | .val ah (.own o)=>match ob o with
   |some (_, .deep ..)=>af
   |_=>ah
 |_=>ah
def qW(T:b7 P)(ob:Nat->Option (Nat×Th))(n:Nat)(t:TypeId)(X Y:aN)(k:gY->Option R):Option R:=
 bif PL ob Y then vM T ob n t X Y k else tS T ob n t X Y k
def Fp(T:b7 P){t:TypeId}{X Y:aN}{x y:Operand}{k:gY->Option R}{q:R}(h:qW T ob n t X Y k=aa q)(hs:aX U H F w ob n)(hx:aO H F w X (ev ρ x))(hy:aO H F w Y (ev ρ y)):
 ∃e,k e=aa q/\eH P U H F w ρ ob n ⟨aa d, .call {callee:= .builtin .append,args:= #[x,y],argTypes:= #[t,t]},ty,pos,aft,ae⟩ e:=by
 unfold qW at h
 cases hb:PL ob Y with
 |true=>rw[hb,cond_true]at h;exact Fl T h hs hx hy
 |false=>rw[hb,cond_false]at h;exact Iw T h hs hx hy
end
end
end Go.Proofs.YtfjgcenlllgonaaGreatDoor
