/- Joined texts: Effs2 Effs3 Effs4 Effs5 Effs6 Effs8 Effs9. -/
import Derived.Test.YtleifhfeahnocaaGreatDoorU1
import Derived.Lib.AppendZerosOnto
import Derived.Carry
set_option linter.defProp false
open _root_.Bool renaming false->ag,true->af
open _root_.Option renaming none->ae,some->aa,isSome_iff_exists->ai8
open _root_.Array renaming toArray_toList->ajq,getElem?_eq_some_iff->aja
open _root_.Go.RowKit.Below renaming heap_alloc->ajG
open _root_.Int renaming eq_ofNat_of_zero_le->aiI,le_refl->ajs,toNat_natCast->aiL,tdiv->aiQ,tmod->ajd
open _root_.List renaming replicate->aiN,map_cons->ai2,take_length->aiS
open _root_.Nat renaming add_mul->ajW,beq->aiK,le_trans->aiY,mul_le_mul_right->aiV,zero_add->ajh,zero_le->ai6,le_refl->aiM,min_eq_left->ajV,lt_of_lt_of_le->ai4
open _root_.Option.some renaming inj->aiF,injEq->aiO
open _root_.Go.Result renaming andThen_ok->ajC,andThen->ai3
open _root_.Go.Sem renaming run_bind->ai1
open _root_.Go.Value renaming ownBlock->aiT,int->ajm
open _root_.List.cons renaming injEq->ajw
open _root_.Go.Value.slice renaming injEq->ajS
open _root_.Go.Instr renaming findNow->ajM,mapUpdate->akh
open _root_.Go.MapKept renaming run_checkKey->ajX,run_findKey->aj2,run_getObj_map->aj0
open _root_.Prod.mk renaming inj->aj5
section
open _root_.Bool renaming false->ag,true->af
open _root_.Option renaming none->ae,some->aa,isSome_iff_exists->ai8
open _root_.Array renaming toArray_toList->ajq
open _root_.Go.RowKit.Below renaming heap_alloc->ajG
open _root_.Int renaming toNat_natCast->aiL
open _root_.Nat renaming add_zero->ajO,beq->aiK,blt->ajg,le_refl->aiM,lt_of_lt_of_le->ai4
open _root_.Option.some renaming inj->aiF,injEq->aiO
open _root_.Prod.mk renaming inj->aj5
open _root_.Go.Value renaming oneCell'->ajZ
namespace Go.Proofs.YtleifhfeahnocaaGreatDoor
open Go Go.RowKit
section
variable {P:Program} {ρ:Nat->Value} {w w':World} {H H':aK} {F F':Nat->Prop} {U:Nat->Prop} {ob:Nat->Option (Nat×Th)} {n:Nat} {R:Type}
variable {op:Op} {ty:TypeId} {pos:String} {aft:Array Edge} {d:Nat}
def aL.box(hs:aL U H F w ob n){o s:Nat}{T:TypeId}{t:Tree}(ho:ob o=aa (s, .box T t)){b:Nat}(hb:H.val o=aa (.pointer (aa ⟨b,0,ae⟩))):
 ∃es,w.heap[b]? =aa (.cells es.toArray T (0,0))/\Holds H F w t es:=by
 obtain⟨v,hv,hi⟩:=hs.obj _ _ _ ho;rw[hb]at hv;obtain rfl:=aiF hv;obtain⟨b',es,e,h1,h2⟩:=hi.ok
 grind
def aL.own(hs:aL U H F w ob n){o s:Nat}{T:TypeId}{r:Row}{l:List r.den}(ho:ob o=aa (s, .own T r l)){v:Value}(hv:H.val o=aa v):Own 0 F w T r v l:=by
 obtain⟨v',dZ,hi⟩:=hs.obj _ _ _ ho;rw[hv]at dZ;obtain rfl:=aiF dZ;exact⟨hi.no,hi.ok⟩
def BZ{fs:List (TypeId×Nat)}{arr:Array Field}(ha:arr.toList.map (λf=>(f.type,f.offset))=fs){f:Nat}{ft:TypeId}{off:Nat}(hf:fs[f]? =aa (ft,off)):∃fd,arr[f]? =aa fd/\fd.type=ft/\fd.offset=off:=by
 grind
def sub(r:Row)(x:r.den)(p:List Bool):Option ((s:Row)×s.den×Nat):=
 match Tree.get (.leaf r x) p with
 |some (.leaf s y,off)=>aa ⟨s,y,off⟩
 |_=>ae
def Et{r s:Row}{x:r.den}{y:s.den}{p:List Bool}{off b k:Nat}(h:sub r x p=aa ⟨s,y,off⟩)(ha:At F w r b k x):At F w s b (k+off) y:=by
 unfold sub at h;split at h
 .rename_i s' y' eC hg;simp only[aiO,Sigma.mk.injEq]at h;obtain⟨rfl,h⟩:=h;obtain⟨rfl,rfl⟩:=aj5 (eq_of_heq h);obtain⟨es,hl,hc,hr⟩:=ha;obtain⟨g1,g2⟩:=Holds.get (H:=⟨λ_=>ae,λ_=>ae,λ_ _=>False⟩) (F:=F) (w:=w) (cs:=es) hg hr;have T6:cG F w s' ((es.drop eC).take s'.size) y':=g1;refine⟨_,T6.length,λj u hu=>?_,T6⟩
  grind
 .cases h
def Eu(T:bk P)(t:TypeId)(f:Nat)(D:aI):Option aI:=
 match find T.und t with
 |some (.struct fs)=>match fs[f]? with
  |some (ft,off)=>match find T.row ft with
   |some _=>match D with
    | .ptr o p k=>aa (.ptr o (p++sv fs.length f) (k+off))
    | .at r x=>match sub r x (sv fs.length f)with
      |some ⟨s,y,eC⟩=>bif aiK eC off then aa (.at s y)else ae
      |none=>ae
    | .elem o s r i x p k=>aa (.elem o s r i x (p++sv fs.length f) (k+off))
    | .dlm o d i p k=>aa (.dlm o d i (p++sv fs.length f) (k+off))
    |_=>ae
   |none=>ae
  |none=>ae
 |_=>ae
theorem beq_true{m k:Nat}(h:aiK m k=af):m=k:=Nat.eq_of_beq_eq_true h
def sx{α:Type}{b:Bool}{x:α}{y:α}(h:(bif b then aa x else ae)=aa y):b=af/\x=y:=by
 grind
def Il(T:bk P){t:TypeId}{f:Nat}{D D':aI}{x:Operand}(h:Eu T t f D=aa D')(hs:aL U H F w ob n)(hx:aG H F w D (ev ρ x)):
 cK P U H F w ρ ob n ⟨aa d, .fieldAddr t x f,ty,pos,aft,ae⟩ {dst:=D'}:=by
 unfold Eu at h;split at h
 case h_2=>cases h
 rename_i fs hu;obtain⟨arr,D9,NJ⟩:=T.und_ok _ _ hu;split at h
 case h_2=>cases h
 rename_i ft off hf;obtain⟨fd,Tr,rfl,rfl⟩:=BZ NJ hf;split at h
 case h_2=>cases h
 rename_i r' Nn;have xO:=T.row_ok _ _ Nn;split at h
 .obtain rfl:=aiF h;obtain⟨b,h1,h2⟩:=hx;exact bc hs (nO (r:=r') fd.offset D9 Tr xO rfl h2) ⟨b,h1,rfl⟩
 .split at h
  .rename_i s y eC iA;obtain⟨h1,rfl⟩:=sx h;obtain rfl:=beq_true h1;obtain⟨b,k,h2,h3,h4⟩:=hx;exact bc hs (nO (r:=r') fd.offset D9 Tr xO rfl h2) ⟨b,_,rfl,h3,Et iA h4⟩
  .cases h
 .obtain rfl:=aiF h;obtain⟨g,o0,q,T',m,cap,l,h1,h2,h3,h4,h5⟩:=hx;exact bc hs (nO (r:=r') fd.offset D9 Tr xO rfl h5) ⟨g,o0,q,T',m,cap,l,h1,h2,h3,h4,by rw[Nat.add_assoc]⟩
 .obtain rfl:=aiF h;obtain⟨g,o0,q,m,cap,h1,h2,h5⟩:=hx;exact bc hs (nO (r:=r') fd.offset D9 Tr xO rfl h5) ⟨g,o0,q,m,cap,h1,h2,by rw[Nat.add_assoc]⟩
 .cases h
def cG.elemAt{r:Row}{v:Value}{l:List r.den}(h:cG F w (.slice r) [v] l){i:Int}{y:r.den}(hi:idx l i=aa y):
 ∃b off cap k,v= .slice (aa ⟨b,off,ae⟩) l.length cap/\i=(k:Nat)/\k<l.length/\F b/\At F w r b (off+k*r.size) y:=by
 obtain⟨A,cap,hv,_,_,h4⟩:=h;obtain⟨k,hk,aH,rfl⟩:=iz hi;obtain⟨b,off,es,rfl,hF,vd,hc,hr⟩:=h4 k aH;exact⟨b,off,cap,k,by simpa using hv,hk,aH,hF,es,vd,hc,hr⟩
inductive KY where
 |read (r:Row) (l:List r.den)
 |own (o s:Nat) (T:TypeId) (r:Row) (l:List r.den)
 |nil
 |view (o s:Nat) (r:Row) (l:List r.den)
 |deep (o s:Nat) (T:TypeId) (d:DR) (l:List d.row.den) (h:Option vP)
def sy(ob:Nat->Option (Nat×Th)):aI->Option KY
 | .val ag (.leaf (.slice r) l)=>aa (.read r l)
 | .val ag .nil=>aa .nil
 | .val ag (.own o)=>match ob o with
   |some (s, .own T r l)=>aa (.own o s T r l)
   |some (_, .vh _ r l)=>aa (.read r l)
   |some (_, .fdeep _ d l)=>aa (.read d.row l)
   |some (s, .deep T d l h)=>aa (.deep o s T d l h)
   |_=>ae
 | .val ag (.view o s r m)=>match ob o with
   |some (s', .vh ..)=>bif aiK s' s then aa (.read r m)else aa (.view o s r m)
   |_=>aa (.view o s r m)
 |_=>ae
def NK(U:Nat->Prop)(H:aK)(F:Nat->Prop)(w:World)(ob:Nat->Option (Nat×Th))(v:Value):KY->Prop
 | .read r l=>cG F w (.slice r) [v] l
 | .own o s T r l=>H.val o=aa v/\ob o=aa (s, .own T r l)/\Own 0 F w T r v l
 | .nil=>v= .slice ae 0 0
 | .view o s r m=>mO H o s r m v
 | .deep o s T d l h=>H.val o=aa v/\ob o=aa (s, .deep T d l h)/\Ih U H F w v s (.deep T d l h)
def gT(hs:aL U H F w ob n){D:aI}{k:KY}{v:Value}(h:sy ob D=aa k)(hd:aG H F w D v):NK U H F w ob v k:=by
 unfold sy at h;split at h
 .cases h;exact aW.inv hd
 .cases h;obtain⟨cs,h1,_,h3⟩:=hd;have Aa:cs=_:=h1
  grind [NK]
 .rename_i o;obtain⟨cs,⟨u,hu,D9,e⟩,_,h3⟩:=hd;rw[h3 rfl]at e
  obtain rfl:v=u:=by simpa using e
  split at h
  .rename_i s T r l xW;cases h;exact⟨hu,xW,hs.own xW hu⟩
  .rename_i s T r l xW;cases h;obtain⟨v',dZ,hi⟩:=hs.obj _ _ _ xW;rw[hu]at dZ;obtain rfl:=aiF dZ;exact hi.ok
  .rename_i s T d l xW;cases h;obtain⟨v',dZ,hi⟩:=hs.obj _ _ _ xW;rw[hu]at dZ;obtain rfl:=aiF dZ;exact hi.ok
  .rename_i s T d l h' xW;cases h;obtain⟨v',dZ,hi⟩:=hs.obj _ _ _ xW;rw[hu]at dZ;obtain rfl:=aiF dZ;exact⟨hu,xW,hi⟩
  .cases h
 .rename_i o s r m;obtain⟨cs,⟨u,e,hu⟩,_,h3⟩:=hd;rw[h3 rfl]at e
  obtain rfl:v=u:=by simpa using e
  split at h
  .rename_i s' T r' l' xW
   cases hb:aiK s' s with
   |false=>rw[hb]at h;cases h;exact hu
   |true=>
    rw[hb]at h;obtain rfl:=Nat.eq_of_beq_eq_true hb;cases h;exact yD hs xW hu
  .cases h;exact hu
 .cases h
def mR:Nat->(r:Row)->r.den->(e:Row)->Option (List e.den)
 |1,r,x,e=>if h:r.beq e=af then aa [jT (Row.eq_of_beq h) x]else ae
 |m+2, .pair a b,x,e=>if h:a.beq e=af then(match mR (m+1) b x.2 e with
  |some l=>aa (jT (Row.eq_of_beq h) x.1::l)
  |none=>ae)else ae
 |_,_,_,_=>ae
def Gx{e:Row}{b:Nat}:{m:Nat}->{r:Row}->{x:r.den}->{l:List e.den}->{off:Nat}->mR m r x e=aa l->At F w r b off x->l.length=m/\∀i(h:i<l.length),At F w e b (off+i*e.size) l[i]
 |0,r,x,l,off,h,_=>by unfold mR at h;cases h
 |1,r,x,l,off,h,ha=>by
  unfold mR at h;split at h
  case isFalse=>cases h
  rename_i hb;obtain rfl:=Row.eq_of_beq hb;obtain rfl:=aiF h;refine⟨rfl,λi hi=>?_⟩
  obtain rfl:i=0:=by simp at hi;omega
  rw[Nat.zero_mul,ajO];exact ha
 |m+2, .pair a b',x,l,off,h,ha=>by
  unfold mR at h;split at h
  case isFalse=>cases h
  rename_i hb;obtain rfl:=Row.eq_of_beq hb;split at h
  case h_2=>cases h
  rename_i l' hl;obtain rfl:=aiF h;obtain⟨g1,g2⟩:=Gx hl (ha.snd _ rfl);refine⟨by simp[g1],λi hi=>?_⟩
  cases i with
  |zero=>
   rw[Nat.zero_mul,ajO];exact ha.fst
  |succ i=>
   grind
 |m+2, .int _,_,_,_,h,_=>by unfold mR at h;cases h
 |m+2, .bool,_,_,_,h,_=>by unfold mR at h;cases h
 |m+2, .str,_,_,_,h,_=>by unfold mR at h;cases h
 |m+2, .slice _,_,_,_,h,_=>by unfold mR at h;cases h
 |m+2, .lS,_,_,_,h,_=>by unfold mR at h;cases h
 |m+2, .nul _,_,_,_,h,_=>by unfold mR at h;cases h
 |m+2, .map ..,_,_,_,h,_=>by unfold mR at h;cases h
def rj{t e:TypeId}{x y:Operand}{kd:IntKind}{a:Int}{ti:TypeInfo}{m ny off i:Nat}(size:Nat)(ht:P.underlying t=aa (.array m e))(hi:P.info? e=aa ti)(kP:ti.size=size)
 (hx:ev ρ x= .pointer (aa ⟨ny,off,ae⟩))(hy:ev ρ y= .int kd a)(ha:a=(i:Int))(aH:i<m):
 Pure P ρ ⟨aa d, .indexAddr t x y,ty,pos,aft,ae⟩ (.pointer (aa ⟨ny,off+i*size,ae⟩)):=λw=>by
 subst kP;subst ha;simp[execOp,Instr.indexAt,Instr.sureAddr,asIntOf,run_underlying ht,sizeOf,typeInfo,hi,hx,hy,aH,dg]
def Gy{α:Type}{b:Bool}{x:Option α}{y:α}(h:(bif b then x else ae)=aa y):b=af/\x=aa y:=by
 cases b with
 |true=>exact⟨rfl,h⟩
 |false=>cases h
def qE(T:bk P)(m:Nat)(e:TypeId)(D:aI)(i:Int)(k:eB->Option R):Option R:=
 match find T.row e with
 |some re=>match D with
  | .at r x=>match mR m r x re with
    |some l=>(idx l i).bind λy=>k {dst:= .at re y}
    |none=>ae
  | .ptr o p off=>match i with
    | .ofNat j=>bif ajg j m then k {dst:= .ptr o (p++sv m j) (off+j*re.size)}else ae
    | .negSucc _=>ae
  |_=>ae
 |none=>ae
def Ev(T:bk P){t:TypeId}{m:Nat}{e:TypeId}(hu:P.underlying t=aa (.array m e)){D:aI}{x y:Operand}{kd:IntKind}{i:Int}{k:eB->Option R}{q:R}(h:qE T m e D i k=aa q)(hs:aL U H F w ob n)(hx:aG H F w D (ev ρ x))(hy:ev ρ y= .int kd i):
 ∃e,k e=aa q/\cK P U H F w ρ ob n ⟨aa d, .indexAddr t x y,ty,pos,aft,ae⟩ e:=by
 unfold qE at h;split at h
 case h_2=>cases h
 rename_i re hr;obtain⟨ti,z,h1,_,_,h4,_⟩:=T.row_ok _ _ hr;split at h
 case h_3=>cases h
 case h_2=>
  split at h
  case h_2=>cases h
  rename_i o p off _ j;obtain⟨aH,hk⟩:=Gy h
  have aH:j<m:=by simpa using aH
  obtain⟨b,hb,hv⟩:=hx;exact⟨_,hk,bc hs (rj re.size hu h1 h4 hv hy rfl aH) ⟨b,hb,rfl⟩⟩
 rename_i r v;split at h
 case h_2=>cases h
 rename_i l hl;obtain⟨a,ha,hk⟩:=bind_some h;obtain⟨b,off,hv,hF,xS⟩:=hx;obtain⟨g1,g2⟩:=Gx hl xS;obtain⟨j,hj,aH,rfl⟩:=iz ha;exact⟨_,hk,bc hs (rj re.size hu h1 h4 hv hy hj (by omega)) ⟨b,_,rfl,hF,g2 j aH⟩⟩
def tF(T:bk P)(ob:Nat->Option (Nat×Th))(t:TypeId)(D:aI)(i:Int)(k:eB->Option R):Option R:=
 match find T.und t with
 |some (.slice e)=>match find T.row e with
  |some re=>match sy ob D with
   |some (.read r l)=>bif aiK r.size re.size then(idx l i).bind λx=>k {dst:= .at r x}else ae
   |some (.own o s _ r l)=>bif aiK r.size re.size then(idx l i).bind λx=>k {dst:= .elem o s r i x [] 0}else ae
   |some (.deep o _ _ d l _)=>bif aiK d.low.size re.size then(idx l i).bind λ_=>k {dst:= .dlm o d i [] 0}else ae
   |_=>ae
  |none=>ae
 |some (.array m e)=>qE T m e D i k
 |_=>ae
def Im(T:bk P){t:TypeId}{D:aI}{x y:Operand}{kd:IntKind}{i:Int}{k:eB->Option R}{q:R}(h:tF T ob t D i k=aa q)(hs:aL U H F w ob n)(hx:aG H F w D (ev ρ x))(hy:ev ρ y= .int kd i):
 ∃e,k e=aa q/\cK P U H F w ρ ob n ⟨aa d, .indexAddr t x y,ty,pos,aft,ae⟩ e:=by
 unfold tF at h;split at h
 case h_3=>cases h
 case h_2=>rename_i m e hu;exact Ev T (T.und_ok _ _ hu) h hs hx hy
 rename_i e hu;have hu:=T.und_ok _ _ hu;split at h
 case h_2=>cases h
 rename_i re hr;obtain⟨ti,z,h1,_,_,h4,_⟩:=T.row_ok _ _ hr;split at h
 .rename_i r l gN
  cases hz:aiK r.size re.size with
  |false=>rw[hz]at h;cases h
  |true=>
   rw[hz,cond_true]at h;have hz:=beq_true hz;obtain⟨a,ha,hk⟩:=bind_some h;have gN:=gT hs gN hx;obtain⟨b,off,cap,j,hv,hj,aH,hF,xS⟩:=cG.elemAt gN ha;refine⟨_,hk,bc hs (nz r.size hu h1 (h4.trans hz.symm) hv hy hj aH) ⟨b,_,rfl,hF,xS⟩⟩
 .rename_i o s T' r l gN
  cases hz:aiK r.size re.size with
  |false=>rw[hz]at h;cases h
  |true=>
   rw[hz,cond_true]at h;have hz:=beq_true hz;obtain⟨a,ha,hk⟩:=bind_some h;obtain⟨hv,cH,ed⟩:=gT hs gN hx;obtain⟨v',dZ,cP⟩:=hs.obj _ _ _ cH;obtain⟨j,hj,aH,hja⟩:=iz ha;obtain⟨_,xs,Gw,_⟩:=ed
   rcases Gw.2 with⟨KZ,h0⟩|⟨g,o0,cap,cur,Io,_,_,_⟩
   .omega
   .have hp:=nz (P:=P) (d:=aa d) (ty:=ty) (pos:=pos) (aft:=aft) r.size hu h1 (h4.trans hz.symm) Io hy hj aH;refine⟨_,hk,bc hs hp ⟨g,o0,j,T',l.length,cap,l,?_,hj,cP.con,ha,rfl⟩⟩
    grind
 .rename_i o s T' d' l hh gN;obtain⟨hz,h⟩:=Gy h;have hz:=beq_true hz;obtain⟨a,ha,hk⟩:=bind_some h;obtain⟨hv,cH,cP⟩:=gT hs gN hx;obtain⟨j,hj,aH,hja⟩:=iz ha;obtain⟨lh,_,⟨xs,Gw,_⟩,Tq,_⟩:=cP.ok
  rcases Gw.2 with⟨KZ,h0⟩|⟨g,o0,cap,cur,Io,_,_,_⟩
  .omega
  .have hp:=nz (P:=P) (d:=aa d) (ty:=ty) (pos:=pos) (aft:=aft) d'.low.size hu h1 (h4.trans hz.symm) Io hy hj (by omega);refine⟨_,hk,bc hs hp ⟨g,o0,j,lh.length,cap,?_,hj,rfl⟩⟩
   grind
 .cases h
theorem vU{b:Nat}{T:TypeId}{es:List Value}(hh:w.heap[b]? =aa (.cells es.toArray T (0,0)))(j:Nat):w.cell? ⟨b,j,ae⟩=es[j]? :=by
 rw[cell_of_row w b j _ T (0,0) hh];simp
theorem oG(T:bk P){t:TypeId}{kk:J7}(hu:find T.und t=aa kk){x:Operand}{b off:Nat}{s:Tree}{cs:List Value}(hx:ev ρ x= .pointer (aa ⟨b,off,ae⟩))(hs:aL U H F w ob n)
 (hh:Holds H F w s cs)(hc:∀j u,cs[j]? =aa u->w.cell? ⟨b,off+j,ae⟩=aa u)
 (hz:if l4 kk=af then∃r,find T.row t=aa r/\r.size=s.size else s.size=1):
 cK P U H F w ρ ob n ⟨aa d, .load t x,ty,pos,aft,ae⟩ {dst:= .val (l4 kk) s}:=by
 obtain⟨dd,xK,xL⟩:=(T.und_ok _ _ hu).agg;have hl:=hh.length
 cases ha:l4 kk with
 |true=>
  rw[aj ha]at hz;obtain⟨r,hr,No⟩:=hz;obtain⟨ti,z,h1,_,_,h4,_⟩:=T.row_ok _ _ hr;exact cq hs (HV xK (xL.trans ha) h1 (by omega) hx hc) ⟨cs,hh,rfl,by simp⟩
 |false=>
  rw[ai (by simp[ha])]at hz
  obtain⟨v,rfl⟩:∃v,cs=[v]:=by
   match cs,hl.trans hz with
   |[v],_=>exact⟨v,rfl⟩
  exact cq hs (yy xK (xL.trans ha) hx (hc 0 v rfl)) ⟨[v],hh,rfl,λ_=>rfl⟩
def nB(T:bk P)(t:TypeId)(kk:J7)(m:Nat):Bool:=
 bif l4 kk then(match find T.row t with|some r=>aiK r.size m|none=>ag)else aiK m 1
theorem la(T:bk P){t:TypeId}{kk:J7}{m:Nat}(h:nB T t kk m=af):if l4 kk=af then∃r,find T.row t=aa r/\r.size=m else m=1:=by
 grind [nB,beq_true]
def yE(T:bk P)(ob:Nat->Option (Nat×Th))(t:TypeId)(D:aI)(k:eB->Option R):Option R:=
 match find T.und t with
 |none=>ae
 |some kk=>match D with
  | .at r x=>bif nB T t kk r.size then k {dst:= .val (l4 kk) (.leaf r x)}else ae
  | .ptr o p off=>match ob o with
    |some (_, .box _ tr)=>match tr.get p with
     |some (s,eC)=>bif aiK eC off&&nB T t kk s.size then k {dst:= .val (l4 kk) s}else ae
     |none=>ae
    |_=>ae
  | .elem o s r i x p off=>match ob o with
    |some (s', .own _ r' l)=>bif aiK s' s then
      (match sub r x p with
      |some ⟨q,y,eC⟩=>bif aiK eC off&&nB T t kk q.size then k {dst:= .val (l4 kk) (.leaf q y)}else ae
      |none=>ae)
     else(idx l i).bind λx'=>match sub r' x' p with
      |some ⟨q,y,eC⟩=>bif aiK eC off&&nB T t kk q.size&&aiK r'.size r.size then k {dst:= .val (l4 kk) (.leaf q y)}else ae
      |none=>ae
    |_=>ae
  |_=>ae
def bf{α:Type}{b:Bool}{x:Option α}{y:α}(h:(bif b then x else ae)=aa y):b=af/\x=aa y:=by
 cases b with
 |true=>exact⟨rfl,h⟩
 |false=>cases h
def dc{a b:Bool}(h:(a&&b)=af):a=af/\b=af:=by simpa using h
def Gz(hs:aL U H F w ob n){o s':Nat}{T':TypeId}{r':Row}{i:Int}{x':r'.den}{l:List r'.den}{g o0 q m cap:Nat}(cH:ob o=aa (s', .own T' r' l))(hv:H.val o=aa (.slice (aa ⟨g,o0,ae⟩) m cap))(hq:i=(q:Nat))(hi:idx l i=aa x'):
 At F w r' g (o0+q*r'.size) x':=(hs.own cH hv).at rfl hq hi
def K0(T:bk P){t:TypeId}{D:aI}{x:Operand}{k:eB->Option R}{q:R}(h:yE T ob t D k=aa q)(hs:aL U H F w ob n)(hx:aG H F w D (ev ρ x)):
 ∃e,k e=aa q/\cK P U H F w ρ ob n ⟨aa d, .load t x,ty,pos,aft,ae⟩ e:=by
 unfold yE at h;split at h
 .cases h
 rename_i kk hu;split at h
 .rename_i r y;obtain⟨h1,h2⟩:=bf h;obtain⟨b,off,e,hF,es,hl,hc,hr⟩:=hx;exact⟨_,h2,oG T hu e hs (s:= .leaf r y) hr hc (la T h1)⟩
 .rename_i o p off;split at h
  .rename_i st0 T0 tr cH;split at h
   .rename_i s eC hg;obtain⟨h1,h2⟩:=bf h;obtain⟨h1,h3⟩:=dc h1;obtain rfl:=beq_true h1;obtain⟨b,hb,e⟩:=hx;obtain⟨es,hh,PK⟩:=hs.box cH hb;obtain⟨g1,g2⟩:=PK.get hg
    grind [oG,la,vU]
   .cases h
  .cases h
 .rename_i o s r i y p off;split at h
  .rename_i s' T0 r' l cH;obtain⟨g,o0,qq,T',m,cap,l0,e1,e2,e3,e4,e5⟩:=hx
   cases yF:aiK s' s with
   |true=>
    rw[yF,cond_true]at h;obtain rfl:=beq_true yF;obtain⟨v,hv,cP⟩:=hs.obj _ _ _ cH;have hc:=cP.con;rw[e3]at hc
    obtain⟨rfl,xJ⟩:T'=T0/\(⟨r,l0⟩:(r:Row)×List r.den)=⟨r',l⟩:=by
     grind [Th.base]
    cases xJ;split at h
    .rename_i q' y' eC iA;obtain⟨h1,h2⟩:=bf h;obtain⟨h1,h3⟩:=dc h1;obtain rfl:=beq_true h1;obtain⟨es,hl,NL,hr⟩:=Et iA (Gz hs cH e1 e2 e4);exact⟨_,h2,oG T hu e5 hs (s:= .leaf q' y') hr NL (la T h3)⟩
    .cases h
   |false=>
    rw[yF,cond_false]at h;obtain⟨x',QK,h⟩:=bind_some h;split at h
    .rename_i q' y' eC iA;obtain⟨h1,h2⟩:=bf h;obtain⟨h1,h4⟩:=dc h1;obtain⟨h1,h3⟩:=dc h1;obtain rfl:=beq_true h1;have h4:=beq_true h4;obtain⟨es,hl,NL,hr⟩:=Et iA (Gz hs cH e1 e2 QK);rw[h4]at NL;exact⟨_,h2,oG T hu e5 hs (s:= .leaf q' y') hr NL (la T h3)⟩
    .cases h
  .cases h
 .cases h
end
end Go.Proofs.YtleifhfeahnocaaGreatDoor
namespace Go.Proofs.YtleifhfeahnocaaGreatDoor
open Go Go.RowKit
def Ew:(r:Row)->List Bool->Option ((s:Row)×Path r s)
 |r,[]=>aa ⟨r, .here⟩
 | .pair a b,d::p=>match d with
   |false=>match Ew a p with
    |some ⟨s,q⟩=>aa ⟨s, .fst q⟩
    |none=>ae
   |true=>match Ew b p with
    |some ⟨s,q⟩=>aa ⟨s, .snd q⟩
    |none=>ae
 |_,_::_=>ae
section
variable {P:Program} {ρ:Nat->Value} {w w':World} {H H':aK} {F F':Nat->Prop} {U:Nat->Prop} {ob:Nat->Option (Nat×Th)} {n:Nat} {R:Type}
variable {op:Op} {ty:TypeId} {pos:String} {aft:Array Edge} {d:Nat}
def aK.bR(H:aK)(s:Nat)(t:Th):aK:=⟨H.val,λm=>if m=s then aa t else H.con m,H.sub⟩
def aK.cE(H:aK)(o:Nat)(v:Value):aK:=⟨λm=>if m=o then aa v else H.val m,H.con,H.sub⟩
def aK.fB(H:aK)(s:Nat)(S:Nat->Prop):aK:=⟨H.val,H.con,λm=>if m=s then S else H.sub m⟩
def aK.gD{H:aK}{s:Nat}{t:Th}(h:H.con s=ae):H.le (H.bR s t):=⟨λ_ _ h=>h,λm q hq=>by
 grind [aK.bR],λ_ _ _=>rfl⟩
def aK.Ip{H:aK}{s:Nat}{S:Nat->Prop}(h:H.con s=ae):H.le (H.fB s S):=⟨λ_ _ h=>h,λ_ _ h=>h,λm t hm=>by
 grind [aK.fB]⟩
def aK.qF{H:aK}{s:Nat}{t:Value}(h:H.val s=ae):H.le (H.cE s t):=⟨λm q hq=>by
 grind [aK.cE],λ_ _ h=>h,λ_ _ _=>rfl⟩
theorem dX{α:Type}{o o':Nat}{x y:α}(h:find [(o,x)] o'=aa y):o'=o/\y=x:=by
 rw[ba]at h;split at h
 .grind
 .cases h
def mP.Ad(hs:aL U H F w ob n){o s:Nat}{t t':Th}{v0:Value}(ho:ob o=aa (s,t))(hv:H.val o=aa v0)(hb:t'.base=t')(Np:∀k,fp (H.sub n) v0 t' k->fp (H.sub s) v0 t k){D:aI}{v:Value}
 (bW:Ext (fp (H.sub s) v0 t) w w')(sq:jV (H.bR n t') F w' (H.sub n) v0 t')(hd:aG (H.bR n t') F w' D v):lV H F w ob n {dst:=D,eat:=[o],make:=[(o,(n,t'))]} v w':=by
 obtain⟨v1,vj,cP⟩:=hs.obj _ _ _ ho;rw[hv]at vj;obtain rfl:=aiF vj
 have l5:∀k,fp (H.sub s) v0 t k->cC H ob [o] k:=λk hk=>⟨o,by simp,s,t,v0,ho,hv,hk⟩
 refine⟨H.bR n t',F,⟨aK.gD (hs.fresh n (aiM _) (by omega)).2,⟨bW.os,bW.tape,bW.output,bW.size,λk hk hn=>bW.block k hk λe=>hn (l5 k e)⟩,λ_ h=>h,λ_ h=> .inl h,λb hb=>ai4 (hs.lt b hb) bW.size⟩,λm hm=>?_,hd,⟨λo' s' q hq=>?_,λo1 o2 s1 s2 q1 q2 u1 u2 du h1 h2=>?_⟩,λo' h=>?_⟩
 .grind [aK.bR]
 .obtain⟨rfl,e⟩:=dX hq;obtain⟨rfl,rfl⟩:=aj5 e;refine⟨v0,hv,cP.one,by simp[aK.bR,hb],sq,λk hk=>⟨cP.no k (Np k hk),ai4 (cP.lt k (Np k hk)) bW.size, .inr (l5 k (Np k hk))⟩⟩
 all_goals grind [dX,ai8]
def mP.new(hs:aL U H F w ob n){eat:List Nat}{t:Th}{v0:Value}(hb:t.base=t)(h1:v0.oneCell'=af){D:aI}{v:Value}
 (bW:Ext (cC H ob eat) w w')(sq:jV ((H.bR n t).cE n v0) F w' (H.sub n) v0 t)(Np:∀k,fp (H.sub n) v0 t k->¬F k/\k<w'.heap.size/\(w.heap.size<=k\/cC H ob eat k))
 (hd:aG ((H.bR n t).cE n v0) F w' D v):lV H F w ob n {dst:=D,eat:=eat,make:=[(n,(n,t))]} v w':=by
 have hf:=hs.fresh n (aiM _) (by omega);refine⟨(H.bR n t).cE n v0,F,⟨(aK.gD hf.2).trans (aK.qF (by simp[aK.bR,hf.1])),bW,λ_ h=>h,λ_ h=> .inl h,λb hb=>ai4 (hs.lt b hb) bW.size⟩,λm hm=>?_,hd,⟨λo' s' q hq=>?_,λo1 o2 s1 s2 q1 q2 u1 u2 du h1 h2=>?_⟩,λo' h=>?_⟩
 .simp[aK.bR,aK.cE,show m≠n from by omega]
 .obtain⟨rfl,e⟩:=dX hq;obtain⟨rfl,rfl⟩:=aj5 e;exact⟨v0,by simp[aK.cE],h1,by simp[aK.bR,aK.cE,hb],sq,Np⟩
 .grind [dX]
 .right
  obtain⟨y,hy⟩:=ai8.1 h
  grind [dX]
def tG(T:bk P)(ob:Nat->Option (Nat×Th))(n:Nat)(t:TypeId)(D V:aI)(k:eB->Option R):Option R:=
 match find T.row t with
 |none=>ae
 |some rt=>match V with
  | .val _ u=>match D with
    | .ptr o p off=>match ob o with
      |some (_, .box T0 tr)=>match tr.get p with
       |some (s,eC)=>bif aiK eC off&&aiK rt.size s.size&&aiK u.size s.size then
         (match tr.put p u with
         |some Xf=>k {dst:= .dead,eat:=[o],make:=[(o,(n, .box T0 Xf))]}
         |none=>ae)else ae
       |none=>ae
      |_=>ae
    | .elem o s r i x p off=>match ob o with
      |some (s', .own T0 r' l)=>match Ew r' p with
       |some ⟨q,yG⟩=>bif aiK yG.off off&&aiK rt.size q.size&&aiK r'.size r.size then
         (match flat ob q u with
         |some y=>bif aiK s' s then
           (if h:r.beq r'=af then k {dst:= .dead,eat:=[o],make:=[(o,(n, .own T0 r' (b8 l i (yG.set (jT (Row.eq_of_beq h) x) y))))]}else ae)
          else(idx l i).bind λx'=>k {dst:= .dead,eat:=[o],make:=[(o,(n, .own T0 r' (b8 l i (yG.set x' y))))]}
         |none=>ae)else ae
       |none=>ae
      |_=>ae
    |_=>ae
  |_=>ae
def aW.cells{agg:Bool}{t:Tree}{v:Value}(h:aW H F w agg t v):∃cs,Holds H F w t cs/\v.cells.toList=cs:=by
 obtain⟨cs,h1,h2,h3⟩:=h;refine⟨cs,h1,?_⟩
 cases agg with
 |true=>rw[h2];rfl
 |false=>
  have e:=h3 rfl;have h1c:=h1.kw v (by rw[e];simp);rw[e]
  cases v<;>first|rfl|simp[ajZ]at h1c
def vV(T:bk P){t:TypeId}{rt:Row}(K2:find T.row t=aa rt){x y:Operand}{o s':Nat}{T0:TypeId}{r q:Row}{i:Int}{x':r.den}{z:q.den}{l:List r.den}{p:Path r q}{off g o0 j m cap:Nat}{agg:Bool}{u:Tree}
 (hs:aL U H F w ob n)(cH:ob o=aa (s', .own T0 r l))(hv:H.val o=aa (.slice (aa ⟨g,o0,ae⟩) m cap))(hj:i=(j:Nat))(hi:idx l i=aa x')(hx:ev ρ x= .pointer (aa ⟨g,o0+j*r.size+off,ae⟩))(NM:p.off=off)(hz:rt.size=q.size)
 (hf:flat ob q u=aa z)(hV:aW H F w agg u (ev ρ y)):
 cK P U H F w ρ ob n ⟨ae, .store t x y,ty,pos,aft,ae⟩ {dst:= .dead,eat:=[o],make:=[(o,(n, .own T0 r (b8 l i (p.set x' z))))]}:=by
 obtain⟨ti,z0,h1,_,_,h4,_⟩:=T.row_ok _ _ K2;obtain⟨cs,rB,yH⟩:=hV.cells;have hr:=jF hs hf rB;have ed:=hs.own cH hv;obtain⟨k',hk,aH,rfl⟩:=iz hi
 obtain rfl:k'=j:=by omega
 obtain⟨cur,hh,hle,bW,gP⟩:=ed.put rfl aH hs.lt p hr;subst NM;refine cz.unit (pc h1 (h4.trans (hz.trans hr.length.symm)) hx rfl yH hr.kw hh hle) ?_;refine mP.Ad (t':= .own T0 r (b8 l i (p.set l[k'] z))) (D:= .dead) hs cH hv rfl (λ_ h=>h) bW ?_ trivial;have:jV (H.bR n (.own T0 r (b8 l i (p.set l[k'] z)))) F (w.setRow g (cur.toList.take (o0+k'*r.size+p.off)++cs++cur.toList.drop (o0+k'*r.size+p.off+cs.length)).toArray) (H.sub n) (.slice (aa ⟨g,o0,ae⟩) m cap) (.own T0 r (l.set k' (p.set l[k'] z))):=gP.2
 grind [b8,aiL]
def Iq(T:bk P){t:TypeId}{D V:aI}{x y:Operand}{k:eB->Option R}{q:R}(h:tG T ob n t D V k=aa q)(hs:aL U H F w ob n)(hx:aG H F w D (ev ρ x))(hy:aG H F w V (ev ρ y)):
 ∃e,k e=aa q/\cK P U H F w ρ ob n ⟨ae, .store t x y,ty,pos,aft,ae⟩ e:=by
 unfold tG at h;split at h
 .cases h
 rename_i rt K2;split at h
 case h_2=>cases h
 rename_i agg u;split at h
 .rename_i o p off;split at h
  case h_2=>cases h
  rename_i s0 T0 tr cH;split at h
  case h_2=>cases h
  rename_i s eC hg;obtain⟨h1,h2⟩:=bf h;obtain⟨h1,GA⟩:=dc h1;obtain⟨h1,vW⟩:=dc h1;obtain rfl:=beq_true h1;have vW:=beq_true vW;have GA:=beq_true GA;split at h2
  case h_2=>cases h2
  rename_i Xf hp;obtain⟨b,hb,e⟩:=hx;obtain⟨es,hh,PK⟩:=hs.box cH hb;obtain⟨cs,rB,yH⟩:=aW.cells hy;have hl:=rB.length;have hle:=(PK.get hg).2;have vR:=Holds.put rB hg hp GA.symm PK;obtain⟨ti,z0,g1,_,_,g4,_⟩:=T.row_ok _ _ K2;refine⟨_,h2,cz.unit (pc g1 (by omega) e rfl yH rB.kw hh (by simp;omega)) ?_⟩
  have Ts:¬F b:=by
   obtain⟨v1,vj,cP⟩:=hs.obj _ _ _ cH;rw[hb]at vj;obtain rfl:=aiF vj;exact cP.no b rfl
  have bW:Ext (fp (H.sub s0) (.pointer (aa ⟨b,0,ae⟩)) (.box T0 tr)) w (w.setRow b (es.toArray.toList.take eC++cs++es.toArray.toList.drop (eC+cs.length)).toArray):=
   ⟨rfl,rfl,rfl,by simp,λk _ hk=>setRow_other w b k _ λe=>hk (by simp[fp,e])⟩
  refine mP.Ad (t':= .box T0 Xf) (D:= .dead) hs cH hb rfl (λk hk=>hk) bW ⟨b,_,rfl,setRow_heap w b _ _ T0 (0,0) hh,?_⟩ trivial
  have hk:=vR.keep (H':=H.bR n (.box T0 Xf)) (aK.gD (hs.fresh n (aiM _) (by omega)).2) (Step.ext bW hs.lt λk hk=>by
   grind [fp])
  grind
 .rename_i o s r i x0 p off;split at h
  case h_2=>cases h
  rename_i s' T0 r' l cH;split at h
  case h_2=>cases h
  rename_i q' yG Ae;obtain⟨h1,h2⟩:=bf h;obtain⟨h1,GA⟩:=dc h1;obtain⟨h1,vW⟩:=dc h1;have h1:=beq_true h1;have vW:=beq_true vW;have GA:=beq_true GA;split at h2
  case h_2=>cases h2
  rename_i z hf;obtain⟨g,o0,qq,T',m,cap,l0,e1,e2,e3,e4,e5⟩:=hx;rw[<-GA]at e5
  cases yF:aiK s' s with
  |true=>
   rw[yF,cond_true]at h2;obtain rfl:=beq_true yF;split at h2
   case isFalse=>cases h2
   rename_i B3;obtain⟨v,hv,cP⟩:=hs.obj _ _ _ cH;have hc:=cP.con;rw[e3]at hc
   obtain⟨rfl,xJ⟩:T'=T0/\(⟨r,l0⟩:(r:Row)×List r.den)=⟨r',l⟩:=by
    grind [Th.base]
   cases xJ;exact⟨_,h2,vV T K2 hs cH e1 e2 e4 e5 h1 vW hf hy⟩
  |false=>
   rw[yF,cond_false]at h2;obtain⟨x',QK,h2⟩:=bind_some h2;exact⟨_,h2,vV T K2 hs cH e1 e2 QK e5 h1 vW hf hy⟩
 .cases h
def K3(hs:aL U H F w ob n){t:TypeId}{tr:Tree}{cs:List Value}(hh:Holds H F w tr cs):
 lV H F w ob n {dst:= .ptr n [] 0,make:=[(n,(n, .box t tr))]} (.pointer (aa ⟨w.heap.size,0,ae⟩)) (w.alloc (.cells cs.toArray t)):=by
 have bW:Ext (cC H ob []) w (w.alloc (.cells cs.toArray t)):=⟨rfl,rfl,rfl,by simp,λk hk _=>ajG w _ k hk⟩
 have hf:=hs.fresh n (aiM _) (by omega);refine mP.new (v0:= .pointer (aa ⟨w.heap.size,0,ae⟩)) hs rfl rfl bW ⟨_,cs,rfl,heap_alloc_new w _,?_⟩ (λk hk=>?_) ⟨w.heap.size,by simp[aK.cE],rfl⟩
 .exact hh.keep ((aK.gD hf.2).trans (aK.qF (by simp[aK.bR,hf.1]))) (Step.alloc hs.lt _)
 .simp only[fp,Value.pointer.injEq,aiO,Addr.mk.injEq,and_true]at hk;subst hk;exact⟨λe=>by have:=hs.lt _ e;omega,by simp, .inl (aiM _)⟩
def tH(T:bk P)(n:Nat)(t:TypeId)(k:eB->Option R):Option R:=
 match find T.row t with
 |some r=>k {dst:= .ptr n [] 0,make:=[(n,(n, .box t r.BY))]}
 |none=>ae
def Ir(T:bk P){t:TypeId}{k:eB->Option R}{q:R}(h:tH T n t k=aa q)(hs:aL U H F w ob n):
 ∃e,k e=aa q/\cK P U H F w ρ ob n ⟨aa d, .alloc t,ty,pos,aft,ae⟩ e:=by
 unfold tH at h;split at h
 case h_2=>cases h
 rename_i r hr;obtain⟨ti,z,h1,h2,h3,_,_⟩:=T.row_ok _ _ hr;refine⟨_,h,cz.val (HX h1 h2) ?_⟩;have:=K3 (t:=t) hs (Row.nQ H F w r);rw[<-h3,ajq]at this;exact this
def Is(n:Nat)(t:TypeId)(V:aI)(k:eB->Option R):Option R:=
 match V with
 | .val _ u=>k {dst:= .ptr n [] 0,make:=[(n,(n, .box t u))]}
 |_=>ae
def NN{t:TypeId}{V:aI}{x:Operand}{k:eB->Option R}{q:R}(h:Is n t V k=aa q)(hs:aL U H F w ob n)(hx:aG H F w V (ev ρ x)):
 ∃e,k e=aa q/\cK P U H F w ρ ob n ⟨aa d, .box t x,ty,pos,aft,ae⟩ e:=by
 unfold Is at h;split at h
 case h_2=>cases h
 rename_i agg u;obtain⟨cs,rB,yH⟩:=aW.cells hx;refine⟨_,h,cz.val (NF rfl) ?_⟩;have:=K3 (t:=t) hs rB;rw[<-yH,ajq]at this;exact this
end
end Go.Proofs.YtleifhfeahnocaaGreatDoor
end
namespace Go.Proofs.YtleifhfeahnocaaGreatDoor
open Go Go.RowKit
set_option maxRecDepth 100000
set_option linter.unusedSimpArgs false
set_option linter.unusedVariables false
set_option linter.defProp false
section
section
variable {P:Program} {ρ:Nat->Value} {w w':World} {H H':aK} {F F':Nat->Prop} {U:Nat->Prop} {ob:Nat->Option (Nat×Th)} {n:Nat} {R:Type}
variable {op:Op} {ty:TypeId} {pos:String} {aft:Array Edge} {d:Nat}
def qG{base:Nat}{T:TypeId}{r:Row}{v:Value}{l:List r.den}(h:Own base F w T r v l):v.oneCell'=af:=by
 obtain⟨A,cap,rfl,_⟩:=h.reads;rfl
def nR{H:aK}{o:Nat}{v:Value}(h:H.val o=aa v)(h1:v.oneCell'=af):aG H F w (.val ag (.own o)) v:=⟨[v],⟨v,h,h1,rfl⟩,rfl,λ_=>rfl⟩
def rG(hs:aL U H F w ob n){e:TypeId}{r:Row}{v:Value}{l:List r.den}{eat:List Nat}(bW:Ext (cC H ob eat) w w')(ho:Own 0 F w' e r v l)(hn:∀k,bF v k->cC H ob eat k\/w.heap.size<=k):
 lV H F w ob n {dst:= .val ag (.own n),eat:=eat,make:=[(n,(n, .own e r l))]} v w':=
 mP.new (v0:=v) hs rfl (qG ho) bW ho.2 (λk hk=>⟨ho.1 k hk,ho.lt k hk,(hn k hk).symm⟩) (nR (by simp[aK.cE]) (qG ho))
def qH{g:Nat->Prop}(o:Obj):Ext g w (w.alloc o):=⟨rfl,rfl,rfl,by simp,λk hk _=>ajG w _ k hk⟩
def Tt{α:Type}(a b:Int)(z:α):Option (List α):=if 0<=a/\a<=b/\b<=4294967296 then aa (aiN a.toNat z)else ae
def p5:Operand->Operand->Bool
 | .tmp a, .tmp b=>aiK a b
 | .const (.int _ a), .const (.int _ b)=>decide (a=b)
 |_,_=>ag
def yI{e t:TypeId}{r:Row}{a b:Int}(ht:P.underlying t=aa (.slice e))(xO:TI P e r)(hs:aL U H F w ob n){ka kb:IntKind}{x y:Operand}(hx:ev ρ x= .int ka a)(hy:ev ρ y= .int kb b)(h0:0<=a)(h1:a<=b)(h2:b<=4294967296):
 ∃v w',(execOp (ev ρ) ⟨aa d, .makeSlice t x y,ty,pos,aft,ae⟩).run P w= .ok (.value v) w'/\(∀g,Ext g w w')/\Own 0 F w' e r v (aiN a.toNat r.zero)/\∀k,bF v k->w.heap.size<=k:=by
 obtain⟨ti,z,hi,hz,QF,kP,PF⟩:=xO;obtain⟨ca,rfl⟩:=aiI h0;obtain⟨cb,rfl⟩:=aiI (Int.le_trans h0 h1)
 have hc:cb<=4294967296:=by omega
 have HI:ti.bytes*cb<=281474976710656:=aiY (Nat.mul_le_mul PF hc) (by omega)
 have pX:(ti.bytes:Int)*(cb:Int)<=281474976710656:=by
  have h:((ti.bytes*cb:Nat):Int)<=281474976710656:=by omega
  rwa [Int.natCast_mul]at h
 have bG:=run_make (P:=P) w t e ti z ht hi hz ka kb ca cb (by omega) (by omega) pX (by omega)
 have hzl:z.cells=r.dF.toArray:=by rw[<-QF,ajq]
 have X3:r.dF.length=r.size:=(cG.zero F w r).length;have pW:=r.size_pos;simp only[aiL]at bG;refine⟨.slice (aa ⟨w.heap.size,0,ae⟩) ca cb,w.alloc (.cells (madeCells z.cells (cb*ti.size)) e),by simp[execOp,hx,hy,bG],λ_=>qH _,⟨λq hq=>?_,(madeCells z.cells (cb*ti.size)).toList.take (ca*r.size),?_,?_⟩,λq hq=>?_⟩
 .simp only[bF,aiT,aiO]at hq;intro e;have:=hs.lt _ e;omega
 .have hle:ca*r.size<=cb*r.size:=aiV _ (by omega);have X4:=size_madeCells z.cells (cb*ti.size);refine nN.of ⟨by grind, .inr ⟨w.heap.size,cb,madeCells z.cells (cb*ti.size),by simp,ai6 _,heap_alloc_new w _,by simp;omega,by simp[maxLen];omega,by rw[X4,kP],by simp⟩⟩
 .intro i aH;simp only[aiL,List.length_replicate]at aH;have hle:(i+1)*r.size<=ca*r.size:=aiV _ aH
  grind [BQ,cG.zero,List.drop_take]
 .simp only[bF,aiT,aiO]at hq;omega
def B4{e t:TypeId}{r:Row}{a b:Int}(ht:P.underlying t=aa (.slice e))(xO:TI P e r)(hs:aL U H F w ob n){ka kb:IntKind}{x y:Operand}(hx:ev ρ x= .int ka a)(hy:ev ρ y= .int kb b)(h0:0<=a)(h1:a<=b)(h2:b<=4294967296):
 cK P U H F w ρ ob n ⟨aa d, .makeSlice t x y,ty,pos,aft,ae⟩ {dst:= .val ag (.own n),make:=[(n,(n, .own e r (aiN a.toNat r.zero)))]}:=by
 obtain⟨v,w',bG,bW,ed,Ey⟩:=yI (d:=d) (ty:=ty) (pos:=pos) (aft:=aft) ht xO hs hx hy h0 h1 h2;exact cz.val bG (rG hs (bW _) ed λq hq=> .inr (Ey q hq))
def vX(T:bk P)(n:Nat)(t:TypeId)(same:Bool)(a b:Int)(k:eB->Option R):Option R:=
 match find T.und t with
 |some (.slice e)=>match find T.row e with
  |some r=>(bif same then pT a r.zero else Tt a b r.zero).bind λl=>k {dst:= .val ag (.own n),make:=[(n,(n, .own e r l))]}
  |none=>ae
 |_=>ae
def yJ{x y:Operand}(h:p5 x y=af){a b:Int}{ka kb:IntKind}(hx:ev ρ x= .int ka a)(hy:ev ρ y= .int kb b):a=b:=by
 unfold p5 at h
 grind [beq_true,ev]
def B5(T:bk P){t:TypeId}{a b:Int}{ka kb:IntKind}{x y:Operand}{k:eB->Option R}{q:R}(h:vX T n t (p5 x y) a b k=aa q)(hs:aL U H F w ob n)(hx:ev ρ x= .int ka a)(hy:ev ρ y= .int kb b):
 ∃e,k e=aa q/\cK P U H F w ρ ob n ⟨aa d, .makeSlice t x y,ty,pos,aft,ae⟩ e:=by
 unfold vX at h;split at h
 case h_2=>cases h
 rename_i e hu;split at h
 case h_2=>cases h
 rename_i r hr;obtain⟨l,hl,hk⟩:=bind_some h;have xO:=T.row_ok _ _ hr;have ht:=T.und_ok _ _ hu
 cases gv:p5 x y with
 |true=>
  rw[gv,cond_true]at hl;unfold pT at hl;split at hl
  case isFalse=>cases hl
  rename_i hc;obtain rfl:=aiF hl;obtain rfl:=yJ gv hx hy;exact⟨_,hk,B4 ht xO hs hx hy hc.1 (ajs _) hc.2⟩
 |false=>
  rw[gv,cond_false]at hl;unfold Tt at hl;split at hl
  case isFalse=>cases hl
  rename_i hc;obtain rfl:=aiF hl;exact⟨_,hk,B4 ht xO hs hx hy hc.1 hc.2.1 hc.2.2⟩
def X5(ob:Nat->Option (Nat×Th))(r:Row)(D:aI):Option (List r.den):=
 match sy ob D with
 |some (.read s l)=>if h:s.beq r=af then aa (jT (r:= .slice s) (s:= .slice r) (ay Row.slice (Row.eq_of_beq h)) l)else ae
 |some (.own _ _ _ s l)=>if h:s.beq r=af then aa (jT (r:= .slice s) (s:= .slice r) (ay Row.slice (Row.eq_of_beq h)) l)else ae
 |some .nil=>aa []
 |some (.view ..)=>ae
 |some (.deep ..)=>ae
 |none=>ae
def QL(hs:aL U H F w ob n){r:Row}{D:aI}{l:List r.den}{v:Value}(h:X5 ob r D=aa l)(hd:aG H F w D v):Reads F w r v l:=by
 unfold X5 at h;split at h
 .rename_i s m gN;split at h
  case isFalse=>cases h
  rename_i hb;obtain rfl:=Row.eq_of_beq hb;obtain rfl:=aiF h;exact cG.reads (gT hs gN hd)
 .rename_i o s0 T s m gN;split at h
  case isFalse=>cases h
  rename_i hb;obtain rfl:=Row.eq_of_beq hb;obtain rfl:=aiF h;exact(gT hs gN hd).2.2.reads
 .rename_i gN;obtain rfl:=aiF h;have:v=_:=gT hs gN hd;subst this;exact(cG.nil F w r).reads
 all_goals grind
def uE:KY->Int
 | .read _ l=>(l.length:Int)
 | .own _ _ _ _ l=>(l.length:Int)
 | .nil=>0
 | .view _ _ _ l=>(l.length:Int)
 | .deep _ _ _ _ l _=>(l.length:Int)
def K4{v:Value}{k:KY}(h:NK U H F w ob v k):∃A m cap,v= .slice A m cap/\uE k=(m:Int):=by
 cases k with
 |read r l=>
  obtain⟨A,cap,e,_⟩:=cG.Ef h;exact⟨A,_,cap,e,rfl⟩
 |own o s T r l=>
  obtain⟨A,cap,e,_⟩:=h.2.2.reads;exact⟨A,_,cap,e,rfl⟩
 |nil=>exact⟨ae,0,0,h,rfl⟩
 |view o s r m=>
  obtain⟨A,cap,T,l,a,b,_,_,h3,h4,rfl,rfl⟩:=h;refine⟨_,_,_,rfl,?_⟩
  grind [uE]
 |deep o s T d l hh=>
  obtain⟨lh,_,⟨xs,Gw,_⟩,Tq,_⟩:=h.2.2.ok
  rcases Gw.2 with⟨KZ,h0⟩|⟨g,o0,cap,cur,Io,_,_,_⟩
  all_goals grind [uE]
def It(T:bk P)(ob:Nat->Option (Nat×Th))(t:TypeId)(D:aI):Option aI:=
 match find T.und t with
 |some (.slice _)=>match sy ob D with
  |some k=>aa (mZ .i64 (uE k))
  |none=>ae
 |some .str=>match BT D with
  |some s=>aa (mZ .i64 (s.size:Int))
  |none=>ae
 |_=>ae
def GB(T:bk P){t:TypeId}{D D':aI}{x:Operand}(h:It T ob t D=aa D')(hs:aL U H F w ob n)(hx:aG H F w D (ev ρ x)):
 cK P U H F w ρ ob n ⟨aa d, .call {callee:= .builtin .len,args:= #[x],argTypes:= #[t]},ty,pos,aft,ae⟩ {dst:=D'}:=by
 unfold It at h;split at h
 .rename_i e hu;split at h
  case h_2=>cases h
  rename_i k hk;obtain rfl:=aiF h;obtain⟨A,m,cap,e1,e2⟩:=K4 (gT hs hk hx);rw[e2];exact bc hs (KH rfl (T.und_ok _ _ hu) e1) (aW.kh ..)
 .rename_i hu;split at h
  case h_2=>cases h
  rename_i s hk;obtain rfl:=aiF h;exact bc hs (HQ (T.und_ok _ _ hu) (vT hk hx)) (aW.kh ..)
 .cases h
def QM(T:bk P)(t:TypeId)(D:aI):Option aI:=
 match find T.und t with
 |some (.slice _)=>match D with
  | .val ag .nil=>aa (mZ .i64 0)
  |_=>ae
 |_=>ae
def NO(T:bk P){t:TypeId}{D D':aI}{x:Operand}(h:QM T t D=aa D')(hs:aL U H F w ob n)(hx:aG H F w D (ev ρ x)):
 cK P U H F w ρ ob n ⟨aa d, .call {callee:= .builtin .cap,args:= #[x],argTypes:= #[t]},ty,pos,aft,ae⟩ {dst:=D'}:=by
 unfold QM at h;split at h
 .rename_i e hu;split at h
  .obtain rfl:=aiF h;obtain⟨cs,h1,_,h3⟩:=hx;have Aa:cs=_:=h1;exact bc hs (HS (T.und_ok _ _ hu) (by grind)) (aW.kh ..)
  .cases h
 .cases h
def Xg{α:Type}(m:Int)(z:α):Option (List α):=if 1<=m/\m<=4294967296 then aa (aiN m.toNat z)else ae
def Iu{e t t':TypeId}{kn:IntKind}{r:Row}{m:Int}(ht:P.underlying t=aa (.slice e))(BH:P.underlying t'=aa (.int kn))(xO:TI P e r)(hs:aL U H F w ob n){ka:IntKind}{x y:Operand}(hx:ev ρ x= .slice ae 0 0)(hy:ev ρ y= .int ka m)(h0:1<=m)(h1:m<=4294967296):
 ∃v w',(execOp (ev ρ) ⟨aa d, .call {callee:= .builtin .append,args:= #[x,y],argTypes:= #[t,t']},ty,pos,aft,ae⟩).run P w= .ok (.value v) w'/\(∀g,Ext g w w')/\Own 0 F w' e r v (aiN m.toNat r.zero)/\∀k,bF v k->w.heap.size<=k:=by
 obtain⟨ti,z,hi,hz,QF,kP,PF⟩:=xO;obtain⟨c,rfl⟩:=aiI (show 0<=m by omega)
 have hc:c<=4294967296:=by omega
 have hb:c*ti.bytes<=140737488355328:=aiY (Nat.mul_le_mul hc PF) (by omega);have pW:=r.size_pos;have bG:=Lib.run_append_grow_zeros (P:=P) w t t' ty e ti z ka kn ht BH hi hz ae 0 0 [] (run_firstCells_none _ _ _ _ _) c (by omega) (by omega) (by omega) (by omega) (by omega) (growslice_fits (by omega) (by rw[ajh];omega))
 have hzl:z.cells=r.dF.toArray:=by rw[<-QF,ajq]
 have X3:r.dF.length=r.size:=(cG.zero F w r).length;have hge:=grownCap_ge w (0+c) 0 e;have TU:=grownCap_le_maxLen w (0+c) 0 e (by simp only[maxLen];omega)
 have vW:∀q,Builtin.zeroCells z.cells q=madeCells r.dF.toArray (q*r.dF.length):=λq=>by rw[hzl];rfl
 rw[vW,vW,X3]at bG;generalize grownCap w (0+c) 0 e=G at*;have Nl:(madeCells r.dF.toArray (c*r.size)).size=c*r.size:=size_madeCells _ _;have hl2:(madeCells r.dF.toArray ((G-c)*r.size)).size=(G-c)*r.size:=size_madeCells _ _;simp only[aiL];refine⟨.slice (aa ⟨w.heap.size,0,ae⟩) (0+c) G,w.drew.alloc (.cells (([]:List Value).toArray++madeCells r.dF.toArray (c*r.size)++madeCells r.dF.toArray ((G-(0+c))*r.size)) e),by simp[execOp,resolve,invoke,builtin,hx,hy,bG],λg=>⟨rfl,rfl,rfl,by simp,λk hk _=>heap_alloc_old w.drew _ hk⟩,⟨λq hq=>?_,(madeCells r.dF.toArray (c*r.size)).toList,?_,?_⟩,λq hq=>?_⟩
 .simp only[bF,aiT,aiO]at hq;intro e;have:=hs.lt _ e;omega
 .have e1:G*r.size=c*r.size+(G-c)*r.size:=by rw[<-ajW];congr 1;omega
  refine .of ⟨by simp[Nl], .inr ⟨w.heap.size,G,_,by simp,ai6 _,heap_alloc_new w.drew _,by simp;omega,TU,?_,?_⟩⟩
  .simp[Nl,hl2];omega
  .simp[Nl]
 .intro i aH;simp only[List.length_replicate]at aH;have:=BQ r.dF c i (by omega) aH;rw[X3]at this;rw[this,List.getElem_replicate];exact cG.zero F _ r
 .simp only[bF,aiT,aiO]at hq;omega
def oH(T:bk P)(ob:Nat->Option (Nat×Th))(n:Nat)(t t':TypeId)(X Y:aI)(k:eB->Option R):Option R:=
 match find T.und t,find T.und t' with
 |some (.slice e),aa (.int _)=>match find T.row e,sy ob X,asInt Y with
  |some r,aa .nil,aa (_,m)=>(Xg m r.zero).bind λl=>k {dst:= .val ag (.own n),make:=[(n,(n, .own e r l))]}
  |_,_,_=>ae
 |_,_=>ae
def B6(T:bk P){t t':TypeId}{X Y:aI}{x y:Operand}{k:eB->Option R}{q:R}(h:oH T ob n t t' X Y k=aa q)(hs:aL U H F w ob n)(hx:aG H F w X (ev ρ x))(hy:aG H F w Y (ev ρ y)):
 ∃e,k e=aa q/\cK P U H F w ρ ob n ⟨aa d, .call {callee:= .builtin .append,args:= #[x,y],argTypes:= #[t,t']},ty,pos,aft,ae⟩ e:=by
 unfold oH at h;split at h
 case h_2=>cases h
 rename_i e kn hu Af;split at h
 case h_2=>cases h
 rename_i r kq m hr hX hY;obtain⟨l,hl,hk⟩:=bind_some h;unfold Xg at hl;split at hl
 case isFalse=>cases hl
 rename_i hc;obtain rfl:=aiF hl;obtain⟨v,w',bG,bW,ed,Ey⟩:=Iu (d:=d) (ty:=ty) (pos:=pos) (aft:=aft) (T.und_ok _ _ hu) (T.und_ok _ _ Af) (T.row_ok _ _ hr) hs (gT hs hX hx) (fK hY hy) hc.1 hc.2;exact⟨_,hk,cz.val bG (rG hs (bW _) ed λq hq=> .inr (Ey q hq))⟩
def qI(T:bk P)(ob:Nat->Option (Nat×Th))(n:Nat)(t:TypeId)(X Y:aI)(k:eB->Option R):Option R:=
 match find T.und t with
 |some (.slice e)=>match find T.row e with
  |some r=>match X5 ob r Y with
   |some m=>match sy ob X with
    |some .nil=>(cA ([]:List r.den) m).bind λl=>k {dst:= .val ag (.own n),make:=[(n,(n, .own e r l))]}
    |some (.own o _ T0 s l0)=>bif aiK T0 e then
      (if h:s.beq r=af then(cA (jT (r:= .slice s) (s:= .slice r) (ay Row.slice (Row.eq_of_beq h)) l0) m).bind λl=>k {dst:= .val ag (.own n),eat:=[o],make:=[(n,(n, .own e r l))]}else ae)else ae
    |_=>ae
   |none=>ae
  |none=>ae
 |_=>ae
def Ez(T:bk P){t:TypeId}{X Y:aI}{x y:Operand}{k:eB->Option R}{q:R}(h:qI T ob n t X Y k=aa q)(hs:aL U H F w ob n)(hx:aG H F w X (ev ρ x))(hy:aG H F w Y (ev ρ y)):
 ∃e,k e=aa q/\cK P U H F w ρ ob n ⟨aa d, .call {callee:= .builtin .append,args:= #[x,y],argTypes:= #[t,t]},ty,pos,aft,ae⟩ e:=by
 unfold qI at h;split at h
 case h_2=>cases h
 rename_i e hu;split at h
 case h_2=>cases h
 rename_i r hr;obtain⟨ti,z,h1,h2,h3,h4,h5⟩:=T.row_ok _ _ hr;have ht:=T.und_ok _ _ hu;split at h
 case h_2=>cases h
 rename_i m hm;have gE:=QL hs hm hy
 have key:∀{l out:List r.den},Own 0 F w e r (ev ρ x) l->cA l m=aa out->∃v' w',(execOp (ev ρ) ⟨aa d, .call {callee:= .builtin .append,args:= #[x,y],argTypes:= #[t,t]},ty,pos,aft,ae⟩).run P w= .ok (.value v') w'/\Ext (bF (ev ρ x)) w w'/\Own 0 F w' e r v' out/\(∀k,bF v' k->bF (ev ρ x) k\/w.heap.size<=k):=by
  intro l out ho ha;obtain⟨v',w',bG,he,jS,QJ⟩:=vM ty ht h1 h2 h3 h4 h5 ho gE ha hs.lt (ai6 _);refine⟨v',w',by simp[execOp,resolve,invoke,builtin,bG],he,jS,λk hk=>?_⟩
  rcases QJ with g|g
  .exact .inl (g▸hk)
  .simp_all
 split at h
 .rename_i gN;obtain⟨l,hl,hk⟩:=bind_some h;have hv:ev ρ x=_:=gT hs gN hx;obtain⟨v',w',bG,he,jS,hn⟩:=key (by rw[hv];exact Own.nil 0 F w e r) hl
  have no:∀k,¬bF (ev ρ x) k:=λk hk=>by rw[hv]at hk;simp[bF,aiT]at hk
  exact⟨_,hk,cz.val bG (rG hs ⟨he.os,he.tape,he.output,he.size,λk hk _=>he.block k hk (no k)⟩ jS (by grind))⟩
 .rename_i o s0 T0 s l0 gN;obtain⟨hb,h⟩:=bf h;obtain rfl:=beq_true hb;split at h
  case isFalse=>cases h
  rename_i B3;obtain rfl:=Row.eq_of_beq B3;obtain⟨l,hl,hk⟩:=bind_some h;obtain⟨hv,cH,ed⟩:=gT hs gN hx;obtain⟨v',w',bG,he,jS,hn⟩:=key ed hl
  have l5:∀k,bF (ev ρ x) k->cC H ob [o] k:=λk hk=>⟨o,by simp,_,_,_,cH,hv,hk⟩
  exact⟨_,hk,cz.val bG (rG hs ⟨he.os,he.tape,he.output,he.size,λk hk Ni=>he.block k hk λhm=>Ni (l5 k hm)⟩ jS λk hk=>(hn k hk).imp (l5 k) id)⟩
 .cases h
def B7(ob:Nat->Option (Nat×Th))(r:Row):List aI->Option (List r.den)
 |[]=>aa []
 | .val _ u::l=>match flat ob r u with
   |some x=>match B7 ob r l with
    |some xs=>aa (x::xs)
    |none=>ae
   |none=>ae
 |_::_=>ae
def sz(rd:Operand->Option aI):List Operand->Option (List aI)
 |[]=>aa []
 |x::xs=>match rd x with
  |some d=>match sz rd xs with
   |some ds=>aa (d::ds)
   |none=>ae
  |none=>ae
def fL(H:aK)(F:Nat->Prop)(w:World):List aI->List Value->Prop
 |[],vs=>vs=[]
 |d::ds,vs=>∃v us,vs=v::us/\aG H F w d v/\fL H F w ds us
def oI{rd:Operand->Option aI}(h:∀x d,rd x=aa d->aG H F w d (ev ρ x)):{xs:List Operand}->{ds:List aI}->sz rd xs=aa ds->fL H F w ds (xs.map (ev ρ))
 |[],ds,e=>by obtain rfl:=aiF e;rfl
 |x::xs,ds,e=>by
  unfold sz at e
  cases h1:rd x with
  |none=>rw[h1]at e;cases e
  |some d=>
   cases h2:sz rd xs with
   |none=>grind
   |some X6=>
    simp only[h1,h2,aiO]at e;subst e;exact⟨_,_,rfl,h _ _ h1,oI h h2⟩
def B8(hs:aL U H F w ob n){r:Row}:{ds:List aI}->{l:List r.den}->{vs:List Value}->B7 ob r ds=aa l->fL H F w ds vs->vO F w r vs l
 |[],l,vs,e,h=>by
  obtain rfl:=aiF e;rw[show vs=[]from h];exact .nil
 | .val _ u::ds,l,vs,e,h=>by
   obtain⟨v,us,rfl,h1,h2⟩:=h;unfold B7 at e
   cases hf:flat ob r u with
   |none=>rw[hf]at e;cases e
   |some x=>
    cases hg:B7 ob r ds with
    |none=>grind
    |some xs=>
     simp only[hf,hg,aiO]at e;subst e;obtain⟨cs,rB,yH⟩:=aW.cells h1;exact .cons yH (jF hs hf rB) (B8 hs hg h2)
 | .dead::_,_,_,e,_=>by cases e
 | .undef::_,_,_,e,_=>by cases e
 | .ptr .. ::_,_,_,e,_=>by cases e
 | .at .. ::_,_,_,e,_=>by cases e
 | .elem .. ::_,_,_,e,_=>by cases e
 | .tup _::_,_,_,e,_=>by cases e
 | .dlm .. ::_,_,_,e,_=>by cases e
def vY{e t:TypeId}{r:Row}{xs:List Operand}{l:List r.den}{parts:Array (Nat×Operand)}(ht:P.underlying t=aa (.slice e))(xO:TI P e r)(dW:parts=((xs.zipIdx).map λp=>(p.2,p.1)).toArray)(gv:xs.length*r.size<=16777216)
 (hl:vO F w r (xs.map (ev ρ)) l)(hs:aL U H F w ob n):
 ∃v w',(execOp (ev ρ) ⟨aa d, .buildSlice t xs.length parts,ty,pos,aft,ae⟩).run P w= .ok (.value v) w'/\(∀g,Ext g w w')/\Own 0 F w' e r v l/\∀k,bF v k->w.heap.size<=k:=by
 obtain⟨ti,z,h1,h2,h3,h4,h5⟩:=xO
 have X7:(xs.map (ev ρ)).length=xs.length:=by simp
 have Tq:=hl.length;have pW:=r.size_pos
 have TT:z.cells.size=r.size:=by rw[<-(cG.zero F w r).length,<-h3];simp
 have Iv:(parts.map λ(i,q)=>(i,ev ρ q)).toList=((xs.map (ev ρ)).zipIdx).map λp=>(p.2,p.1):=by
  subst dW;simp[List.zipIdx_map,Function.comp_def]
 generalize hm:xs.length=m at*;generalize xs.map (ev ρ)=vs at*
 have key:∀zz:Array Value,zz.size=m*r.size->∃Ea:List Value,Instr.fill (λi=>aa (i*r.size,r.size)) zz ((vs.zipIdx).map λp=>(p.2,p.1))=aa Ea.toArray/\Ea.length=l.length*r.size/\∀i(hi:i<l.length),cG F w r ((Ea.drop (i*r.size)).take r.size) l[i]:=by
  intro zz T7;obtain⟨Ea,a1,a2,a3⟩:=hl.fill 0 [] zz.toList (by simp) (by rw[Array.length_toList,T7,X7]);exact⟨Ea,by simpa using a1,a2,a3⟩
 have bG:∃Ea:List Value,(execOp (ev ρ) ⟨aa d, .buildSlice t m parts,ty,pos,aft,ae⟩).run P w= .ok (.value (.slice (aa ⟨w.heap.size,0,ae⟩) m m)) (w.alloc (.cells Ea.toArray e))/\Ea.length=l.length*r.size/\∀i(hi:i<l.length),cG F w r ((Ea.drop (i*r.size)).take r.size) l[i]:=by
  by_cases h0:m*r.size=0
  .obtain⟨Ea,a1,a2,a3⟩:=key #[] (by simp[h0]);refine⟨Ea,?_,a2,a3⟩;simp only[execOp,Instr.buildSlice,ai1,run_underlying ht,ajC];rw[Iv]
   have X8:Array.range 0=(#[]:Array Nat):=by rfl
   simp[sizeOf,typeInfo,h1,h4,h0,newRow,X8,a1]
  .obtain⟨Ea,a1,a2,a3⟩:=key ((Array.range (m*r.size)).map (z.cells[· %z.cells.size]!)) (by simp);refine⟨Ea,?_,a2,a3⟩;simp only[execOp,Instr.buildSlice,ai1,run_underlying ht,ajC];rw[Iv];simp[sizeOf,typeInfo,h1,h4,h0,zeroValue,h2,newRow,a1,show¬(16777216<m*r.size)from by omega]
 obtain⟨Ea,bG,a2,a3⟩:=bG
 have NP:m=l.length:=by omega
 have ady:m<=16777216:=aiY (Nat.le_mul_of_pos_right m pW) gv;refine⟨_,_,bG,λg=>qH _,⟨λk hk=>?_,Ea,?_,λi hi=>(a3 i hi).step (Step.alloc hs.lt _)⟩,λk hk=>?_⟩
 .simp only[bF,aiT,aiO]at hk;intro e;have:=hs.lt _ e;omega
 .have:=World.ownsRow_lit (base:=0) (e:=e) (size:=r.size) w Ea.toArray m (ai6 _) (by simp[maxLen];omega) (by simp[a2,NP]);rw[NP]at this⊢;simpa using nN.of this
 .simp only[bF,aiT,aiO]at hk;omega
def run_build{e t:TypeId}{r:Row}{xs:List Operand}{l:List r.den}{parts:Array (Nat×Operand)}(ht:P.underlying t=aa (.slice e))(xO:TI P e r)(dW:parts=((xs.zipIdx).map λp=>(p.2,p.1)).toArray)(gv:xs.length*r.size<=16777216)
 (hl:vO F w r (xs.map (ev ρ)) l)(hs:aL U H F w ob n):
 cK P U H F w ρ ob n ⟨aa d, .buildSlice t xs.length parts,ty,pos,aft,ae⟩ {dst:= .val ag (.own n),make:=[(n,(n, .own e r l))]}:=by
 obtain⟨v,w',h1,h2,h3,h4⟩:=vY (d:=d) (ty:=ty) (pos:=pos) (aft:=aft) ht xO dW gv hl hs;exact cz.val h1 (rG hs (h2 _) h3 λk hk=> .inr (h4 k hk))
def GC:Nat->List (Nat×Operand)->Bool
 |_,[]=>af
 |k,p::l=>aiK p.1 k&&GC (k+1) l
def vZ:{k:Nat}->{l:List (Nat×Operand)}->GC k l=af->l=((l.map (·.2)).zipIdx k).map λp=>(p.2,p.1)
 |_,[],_=>rfl
 |k,p::l,h=>by
  obtain⟨h1,h2⟩:=dc h;have h1:=beq_true h1;have ih:=vZ h2
  grind [List.zipIdx_cons]
def lc(T:bk P)(rd:Operand->Option aI)(ob:Nat->Option (Nat×Th))(n:Nat)(t:TypeId)(m:Nat)(parts:Array (Nat×Operand))(k:eB->Option R):Option R:=
 match find T.und t with
 |some (.slice e)=>match find T.row e with
  |some r=>bif GC 0 parts.toList&&aiK m parts.toList.length&&Nat.ble (m*r.size) 16777216 then
    (match sz rd (parts.toList.map (·.2))with
    |some ds=>match B7 ob r ds with
     |some l=>k {dst:= .val ag (.own n),make:=[(n,(n, .own e r l))]}
     |none=>ae
    |none=>ae)else ae
  |none=>ae
 |_=>ae
def v7(T:bk P){rd:Operand->Option aI}(gE:∀x d,rd x=aa d->aG H F w d (ev ρ x)){t:TypeId}{m:Nat}{parts:Array (Nat×Operand)}{k:eB->Option R}{q:R}(h:lc T rd ob n t m parts k=aa q)(hs:aL U H F w ob n):
 ∃e,k e=aa q/\cK P U H F w ρ ob n ⟨aa d, .buildSlice t m parts,ty,pos,aft,ae⟩ e:=by
 unfold lc at h;split at h
 case h_2=>cases h
 rename_i e hu;split at h
 case h_2=>cases h
 rename_i r hr;obtain⟨h1,h⟩:=bf h;obtain⟨h1,h3⟩:=dc h1;obtain⟨h1,h2⟩:=dc h1;have h2:=beq_true h2
 have h3:m*r.size<=16777216:=by simpa using h3
 split at h
 case h_2=>cases h
 rename_i ds xX;split at h
 case h_2=>cases h
 rename_i l hl;have T8:=B8 hs hl (oI gE xX)
 have hp:parts=(((parts.toList.map (·.2)).zipIdx).map λp=>(p.2,p.1)).toArray:=by
  rw[<-vZ h1,ajq]
 have hm:m=(parts.toList.map (·.2)).length:=by simpa using h2
 refine⟨_,h,?_⟩;have:=run_build (d:=d) (ty:=ty) (pos:=pos) (aft:=aft) (T.und_ok _ _ hu) (T.row_ok _ _ hr) hp (by rw[<-hm];exact h3) T8 hs
 grind
def GD{P:Program}(T:bk P)(fs:List (TypeId×Nat)):Tree->List (Nat×aI)->Option Tree
 |t,[]=>aa t
 |t,(f, .val _ u)::l=>match t.get (sv fs.length f)with
  |some (s,off)=>match fs[f]? with
   |some (ft,eC)=>bif aiK off eC&&aiK u.size s.size&&(match find T.row ft with|some r=>aiK r.size u.size|none=>ag)then
     (match t.put (sv fs.length f) u with
     |some t'=>GD T fs t' l
     |none=>ae)else ae
   |none=>ae
  |none=>ae
 |_,_::_=>ae
def vx(T:bk P):List (TypeId×Nat)->Bool
 |[]=>af
 |p::fs=>(match find T.row p.1 with|some _=>af|none=>ag)&&vx T fs
def place(T:bk P)(fs:List (TypeId×Nat))(i:Nat):Option (Nat×Nat):=
 match fs[i]? with
 |some (ft,off)=>match find T.row ft with
  |some r=>aa (off,r.size)
  |none=>ae
 |none=>ae
def v8(T:bk P):{l:List Field}->{fs:List (TypeId×Nat)}->l.map (λf=>(f.type,f.offset))=fs->vx T fs=af->
 ∃pl:List (Nat×Nat),(l.mapM λ(f:Field)=>(do pure (f.offset,<-sizeOf f.type):Sem (Nat×Nat))).run P w= .ok pl w/\∀i,pl[i]? =place T fs i
 |[],fs,h,_=>by
  subst h;exact⟨[],by simp,λi=>by simp[place]⟩
 |f::l,fs,h,hz=>by
  subst h;obtain⟨h1,h2⟩:=dc hz;obtain⟨pl,Xh,Xi⟩:=v8 T (l:=l) rfl h2
  cases hr:find T.row f.type with
  |none=>rw[hr]at h1;cases h1
  |some r=>
   obtain⟨ti,z,g1,_,_,g4,_⟩:=T.row_ok _ _ hr;refine⟨(f.offset,r.size)::pl,?_,λi=>?_⟩
   .have vW:(sizeOf f.type).run P w= .ok r.size w:=by simp[sizeOf,typeInfo,g1,g4]
    simp_all
   grind [place]
end
end
section
section
variable {P:Program} {ρ:Nat->Value} {w w':World} {H H':aK} {F F':Nat->Prop} {U:Nat->Prop} {ob:Nat->Option (Nat×Th)} {n:Nat} {R:Type}
variable {op:Op} {ty:TypeId} {pos:String} {aft:Array Edge} {d:Nat}
def B9(T:bk P){fs:List (TypeId×Nat)}{pl:List (Nat×Nat)}(hz:vx T fs=af)(EA:∀i,pl[i]? =place T fs i)(kP:∀ft off r,(ft,off)∈fs->find T.row ft=aa r->True):
 {parts:List (Nat×aI)}->{t t':Tree}->{cs:List Value}->{vs:List (Nat×Value)}->GD T fs t parts=aa t'->Holds H F w t cs->parts.map (·.1)=vs.map (·.1)->fL H F w (parts.map (·.2)) (vs.map (·.2))->
 ∃ra,Instr.fill (pl[·]?) cs.toArray vs=aa ra.toArray/\Holds H F w t' ra
 |[],t,t',cs,vs,h,hh,h1,h2=>by
  obtain rfl:=aiF h
  have:vs=[]:=by simpa using h1.symm
  subst this;exact⟨cs,by simp[Instr.fill],hh⟩
 |(f, .val agg u)::parts,t,t',cs,vs,h,hh,h1,h2=>by
  obtain⟨v,us,e,hv,h3⟩:=h2
  cases vs with
  |nil=>simp at e
  |cons fv vs=>
   obtain⟨f',v'⟩:=fv;simp only[ai2,ajw]at h1 e;obtain⟨rfl,h1⟩:=h1;obtain⟨rfl,rfl⟩:=e;unfold GD at h;split at h
   case h_2=>cases h
   rename_i s off hg;split at h
   case h_2=>cases h
   rename_i ft eC hf;obtain⟨hb,h'⟩:=bf h;clear h;obtain⟨hb,Xj⟩:=dc hb;obtain⟨J9,Ka⟩:=dc hb;have J9:=beq_true J9;subst J9;have Ka:=beq_true Ka;split at h'
   case h_2=>cases h'
   rename_i tp hp;obtain⟨c1,yB,yH⟩:=aW.cells hv;have hl:=yB.length;have hle:=(hh.get hg).2
   cases hr:find T.row ft with
   |none=>grind
   |some r=>
    simp only[hr]at Xj;have Xj:=beq_true Xj
    have QN:pl[f]? =aa (off,r.size):=by rw[EA];simp[place,hf,hr]
    rw[yz QN yH (by omega) (by omega)];have vR:=Holds.put yB hg hp Ka.symm hh;rw[show u.size=r.size from by omega]at vR;exact B9 T hz EA kP h' vR h1 h3
 |(_, .dead)::_,_,_,_,_,h,_,_,_=>by cases h
 |(_, .undef)::_,_,_,_,_,h,_,_,_=>by cases h
 |(_, .ptr ..)::_,_,_,_,_,h,_,_,_=>by cases h
 |(_, .at ..)::_,_,_,_,_,h,_,_,_=>by cases h
 |(_, .elem ..)::_,_,_,_,_,h,_,_,_=>by cases h
 |(_, .tup _)::_,_,_,_,_,h,_,_,_=>by cases h
 |(_, .dlm ..)::_,_,_,_,_,h,_,_,_=>by cases h
def tI(T:bk P)(rd:Operand->Option aI)(t:TypeId)(parts:Array (Nat×Operand))(k:eB->Option R):Option R:=
 match find T.und t with
 |some (.struct fs)=>match find T.row t with
  |some r=>bif vx T fs then
    (match sz rd (parts.toList.map (·.2))with
    |some ds=>match GD T fs r.BY ((parts.toList.map (·.1)).zip ds)with
     |some tr=>k {dst:= .val af tr}
     |none=>ae
    |none=>ae)else ae
  |none=>ae
 |_=>ae
def ll:{ds:List aI}->{vs:List Value}->fL H F w ds vs->ds.length=vs.length
 |[],_,h=>by rw[show _=[]from h];rfl
 |_::_,_,h=>by obtain⟨v,us,rfl,_,h2⟩:=h;simp[ll h2]
def Iw(T:bk P){rd:Operand->Option aI}(gE:∀x d,rd x=aa d->aG H F w d (ev ρ x)){t:TypeId}{parts:Array (Nat×Operand)}{k:eB->Option R}{q:R}(h:tI T rd t parts k=aa q)(hs:aL U H F w ob n):
 ∃e,k e=aa q/\cK P U H F w ρ ob n ⟨aa d, .build t parts,ty,pos,aft,ae⟩ e:=by
 unfold tI at h;split at h
 case h_2=>cases h
 rename_i fs hu;obtain⟨arr,D9,NJ⟩:=T.und_ok _ _ hu;split at h
 case h_2=>cases h
 rename_i r hr;obtain⟨ti,z,h1,h2,h3,h4,h5⟩:=T.row_ok _ _ hr;obtain⟨hz,h⟩:=bf h;split at h
 case h_2=>cases h
 rename_i ds xX;split at h
 case h_2=>cases h
 rename_i tr T9;have hd:=oI (w:=w) (H:=H) (F:=F) (ρ:=ρ) gE xX;have hlen:=ll hd;obtain⟨pl,Xh,Xi⟩:=v8 (w:=w) T NJ hz
 have hn:∀(a:List Nat)(b:List aI),a.length=b.length->(a.zip b).map (·.1)=a/\(a.zip b).map (·.2)=b:=λa b Tu=>⟨List.map_fst_zip (by omega),List.map_snd_zip (by omega)⟩
 have adz:=hn (parts.toList.map (·.1)) ds (by simp at hlen⊢;omega);obtain⟨ra,hf,hh⟩:=B9 (w:=w) (H:=H) (F:=F) T hz Xi (λ_ _ _ _ _=>trivial) (vs:=parts.toList.map λ(i,q)=>(i,ev ρ q)) T9 (Row.nQ H F w r) (by simp_all) (by grind [Function.comp_def]);refine⟨_,h,cq hs (v:= .agg ra.toArray) ?_ ⟨ra,hh,rfl,by simp⟩⟩
 have hzc:z.cells=r.dF.toArray:=by rw[<-h3,ajq]
 have X9:(arr.mapM λ(f:Field)=>(do pure (f.offset,<-sizeOf f.type):Sem (Nat×Nat))).run P w= .ok pl.toArray w:=by
  rw[<-ajq (xs:=arr),List.mapM_toArray];simp only[Sem.run_map,Xh];rfl
 have hpp:(parts.map λ(i,q)=>(i,ev ρ q)).toList=parts.toList.map λ(i,q)=>(i,ev ρ q):=by simp
 have Ya:(λ(x:Nat)=>pl.toArray[x]?)=λx=>pl[x]? :=by funext x;simp
 simp only[execOp,Instr.build,ai1,zeroValue,typeInfo,h1,h2,run_program,Sem.run_pure,ajC,run_underlying D9,hzc,hpp,X9,Ya,hf]
def K5(rd:Operand->Option aI):Option Operand->Option (Option Int)
 |none=>aa ae
 |some x=>match rd x with
  |some d=>match asInt d with
   |some (_,i)=>aa (aa i)
   |none=>ae
  |none=>ae
def Ag{rd:Operand->Option aI}(gE:∀x d,rd x=aa d->aG H F w d (ev ρ x)){lo:Option Operand}{a:Option Int}(h:K5 rd lo=aa a):PI ρ lo a:=by
 unfold K5 at h;split at h
 .obtain rfl:=aiF h;exact .none
 .split at h
  .split at h
   .obtain rfl:=aiF h;rename_i hD _ _ _ hi;exact .some (fK hi (gE _ _ hD))
   .cases h
  .cases h
def tJ(dr:Bool)(T:bk P)(rd:Operand->Option aI)(ob:Nat->Option (Nat×Th))(n:Nat)(t:TypeId)(D:aI)(lo hi:Option Operand)(k:eB->Option R):Option R:=
 match find T.und t with
 |some (.slice e)=>match find T.row e with
  |some re=>match K5 rd lo with
   |some a=>match K5 rd hi with
    |some b=>match sy ob D with
     |some (.read r l)=>bif aiK r.size re.size then(fX l (a.getD 0) (b.getD (l.length:Int))).bind λm=>k {dst:= .val ag (.leaf (.slice r) m)}else ae
     |some .nil=>(fX ([]:List re.den) (a.getD 0) (b.getD 0)).bind λ_=>k {dst:= .val ag .nil}
     |some (.own o s T0 r l)=>bif aiK r.size re.size&&aiK T0 e&&(lo.isNone||dr)then(fX l (a.getD 0) (b.getD (l.length:Int))).bind λm=>k {dst:= .val ag (.own n),eat:=[o],make:=[(n,(n, .own T0 r m))]}
       else bif aiK r.size re.size then(fX l (a.getD 0) (b.getD (l.length:Int))).bind λm=>k {dst:= .val ag (.view o s r m)}else ae
     |_=>ae
    |none=>ae
   |none=>ae
  |none=>ae
 |_=>ae
def Ix{e T0:TypeId}{ti:TypeInfo}{r:Row}{t:TypeId}{x:Operand}{lo hi:Option Operand}{a b:Option Int}{l m:List r.den}{o s:Nat}{v:Value}(ht:P.underlying t=aa (.slice e))(h1:P.info? e=aa ti)(h4:ti.size=r.size)(hx:ev ρ x=v)
 (hs:aL U H F w ob n)(cH:ob o=aa (s, .own T0 r l))(QO:H.val o=aa v)(ha:PI ρ lo a)(hb:PI ρ hi b)(hm:fX l (a.getD 0) (b.getD l.length)=aa m):
 cK P U H F w ρ ob n ⟨aa d, .slice t x lo hi ae,ty,pos,aft,ae⟩ {dst:= .val ag (.own n),eat:=[o],make:=[(n,(n, .own T0 r m))]}:=by
 have hv:=hs.own cH QO;obtain⟨p,q,ep,eq,QP,hq,rfl⟩:=qD hm;obtain⟨A,cap,rfl,hlen,TU,_⟩:=hv.reads;have bG:=vw (P:=P) (w:=w) (d:=d) (ty:=ty) (pos:=pos) (aft:=aft) ht h1 hx ha hb (by omega) (by omega) (by omega) hlen;rw[ep,eq,aiL,aiL,h4]at bG;obtain⟨Ni,xs,⟨KM,Ua⟩,hr⟩:=hv
 have Yb:((l.take q).drop p).length=q-p:=by simp;omega
 have hmul:q*r.size<=l.length*r.size:=aiV _ hq;have ab0:p*r.size<=q*r.size:=aiV _ QP;have ab1:(q-p)*r.size=q*r.size-p*r.size:=Nat.sub_mul ..
 have bW:Ext (cC H ob [o]) w w:=⟨rfl,rfl,rfl,aiM _,λ_ _ _=>rfl⟩
 rcases Ua with⟨KZ,h0⟩|⟨g,o0,Ei,cur,gN,pX,hh,Tv,Tw,rB,QR⟩
 .simp only[ajS]at KZ;obtain⟨rfl,_,rfl⟩:=KZ
  have NQ:q=0:=by omega
  subst NQ
  obtain rfl:p=0:=by omega
  refine cz.val bG (rG hs bW ?_ ?_)
  .simpa[sliced]using Own.nil 0 F w T0 r
  .intro k hk;simp[sliced,bF,aiT]at hk
 .simp only[ajS,true_and]at gN;obtain⟨rfl,rfl⟩:=gN
  obtain⟨o1,q6,ho1,Ub⟩:∃o1,sliced (aa ⟨g,o0,ae⟩) p q cap r.size= .slice (aa ⟨g,o1,ae⟩) (q-p) (cap-p)/\o1+(cap-p)*r.size<=cur.size/\(cur.toList.drop o1).take ((q-p)*r.size)=(xs.drop (p*r.size)).take ((q-p)*r.size):=by
   have hcp:p*r.size<=cap*r.size:=aiV _ (by omega);have adC:(cap-p)*r.size=cap*r.size-p*r.size:=Nat.sub_mul ..;unfold sliced;by_cases hc:cap=p
   .refine⟨o0,by rw[aj hc],by omega,?_⟩
    have:q=p:=by omega
    subst this;simp
   .refine⟨o0+p*r.size,by rw[ai hc,Option.map_some,dg],by omega,?_⟩;rw[<-QR,List.drop_take,List.take_take,List.drop_drop]
    congr 1
    omega
  rw[q6]at bG
  have hmy:∀k,bF (.slice (aa ⟨g,o1,ae⟩) (q-p) (cap-p)) k->bF (.slice (aa ⟨g,o0,ae⟩) l.length cap) k:=λk hk=>by simpa[bF,aiT]using hk
  refine cz.val bG (rG hs bW ⟨λk hk=>Ni k (hmy k hk),(xs.drop (p*r.size)).take ((q-p)*r.size),⟨by rw[Yb];simp;omega, .inr ⟨g,o1,cap-p,cur,by rw[Yb],pX,hh,by omega,by omega,ho1,?_⟩⟩,λi hi=>?_⟩ λk hk=> .inl ⟨o,by simp,_,_,_,cH,QO,hmy k hk⟩)
  .rw[Yb];exact Ub
  .have hi2:i<q-p:=by omega
   have hle:(i+1)*r.size<=(q-p)*r.size:=aiV _ hi2;rw[ajW]at hle;have:=hr (p+i) (by omega)
   have hg:((l.take q).drop p)[i]=l[p+i]'(by omega):=by simp
   rw[hg,List.drop_take,List.take_take,ajV (by omega),List.drop_drop,show p*r.size+i*r.size=(p+i)*r.size from(ajW ..).symm];exact this
def Iy(dr:Bool)(T:bk P){rd:Operand->Option aI}(gE:∀x d,rd x=aa d->aG H F w d (ev ρ x)){t:TypeId}{D:aI}{x:Operand}{lo hi:Option Operand}{k:eB->Option R}{q:R}(h:tJ dr T rd ob n t D lo hi k=aa q)(hs:aL U H F w ob n)(hx:aG H F w D (ev ρ x)):
 ∃e,k e=aa q/\cK P U H F w ρ ob n ⟨aa d, .slice t x lo hi ae,ty,pos,aft,ae⟩ e:=by
 unfold tJ at h;split at h
 case h_2=>cases h
 rename_i e hu;have ht:=T.und_ok _ _ hu;split at h
 case h_2=>cases h
 rename_i re Uc;obtain⟨ti,z,h1,_,_,h4,_⟩:=T.row_ok _ _ Uc;split at h
 case h_2=>cases h
 rename_i a ha;split at h
 case h_2=>cases h
 rename_i b hb;have Xk:=Ag (w:=w) (H:=H) (F:=F) (ρ:=ρ) gE ha;have pX:=Ag (w:=w) (H:=H) (F:=F) (ρ:=ρ) gE hb
 have QS:∀{r:Row}{l m:List r.den},cG F w (.slice r) [ev ρ x] l->r.size=re.size->fX l (a.getD 0) (b.getD (l.length:Int))=aa m->cK P U H F w ρ ob n ⟨aa d, .slice t x lo hi ae,ty,pos,aft,ae⟩ {dst:= .val ag (.leaf (.slice r) m)}:=by
  intro r l m hv hz hm;obtain⟨p,q',ep,eq,QP,hq,rfl⟩:=qD hm;have dZ:=hv;obtain⟨A,cap,he,hc,Nq,_⟩:=hv;simp only[ajw,and_true]at he;have bG:=vw (P:=P) (w:=w) (d:=d) (ty:=ty) (pos:=pos) (aft:=aft) ht h1 he Xk pX (by omega) (by omega) (by omega) hc;rw[ep,eq,aiL,aiL,h4,<-hz]at bG;rw[he]at dZ;exact cq hs bG (aW.mD (dZ.cut QP hq))
 split at h
 .rename_i r l gN;obtain⟨hz,h⟩:=bf h;obtain⟨m,hm,hk⟩:=bind_some h;exact⟨_,hk,QS (gT hs gN hx) (beq_true hz) hm⟩
 .rename_i gN;obtain⟨m,hm,hk⟩:=bind_some h;have hv:ev ρ x=_:=gT hs gN hx;unfold fX at hm;split at hm
  case isFalse=>cases hm
  rename_i hc
  have ea:a.getD 0=0:=by have:=hc.2.1;have:=hc.2.2;simp at this;omega
  have eb:b.getD ((0:Nat):Int)=0:=by have:=hc.2.1;have:=hc.2.2;simp at this⊢;omega
  have bG:=vw (P:=P) (w:=w) (d:=d) (ty:=ty) (pos:=pos) (aft:=aft) ht h1 hv Xk pX (by omega) (by omega) (by omega) (aiM _);rw[ea,eb]at bG;exact⟨_,hk,cq hs bG ⟨_,rfl,rfl,λ_=>rfl⟩⟩
 .rename_i o s T0 r l gN;obtain⟨hv,cH,ed⟩:=gT hs gN hx
  cases Yc:(aiK r.size re.size&&aiK T0 e&&(lo.isNone||dr))with
  |true=>
   rw[Yc,cond_true]at h;obtain⟨vW,hlo⟩:=dc Yc;obtain⟨GA,hT⟩:=dc vW;have T7:=beq_true GA;obtain⟨m,hm,hk⟩:=bind_some h;exact⟨_,hk,Ix ht h1 (h4.trans T7.symm) rfl hs cH hv Xk pX hm⟩
  |false=>
   rw[Yc,cond_false]at h;obtain⟨GA,h'⟩:=bf h;clear h;have T7:=beq_true GA;obtain⟨m,hm,hk⟩:=bind_some h';obtain⟨p,q',ep,eq,QP,hq,rfl⟩:=qD hm;obtain⟨A,cap,he,hc,Nq,_⟩:=ed.reads;have bG:=vw (P:=P) (w:=w) (d:=d) (ty:=ty) (pos:=pos) (aft:=aft) ht h1 he Xk pX (by omega) (by omega) (by omega) hc;rw[ep,eq,aiL,aiL,h4,<-T7]at bG;obtain⟨v',dZ,cP⟩:=hs.obj _ _ _ cH;refine⟨_,hk,cq hs bG ⟨_,⟨_,rfl,A,cap,T0,l,p,q',by rw[hv,he],cP.con,QP,hq,rfl,rfl⟩,rfl,λ_=>rfl⟩⟩
 .cases h
def qJ(T:bk P)(rd:Operand->Option aI)(ob:Nat->Option (Nat×Th))(t:TypeId)(D:aI)(lo:Option Operand)(hi mx:Operand)(k:eB->Option R):Option R:=
 match find T.und t with
 |some (.slice e)=>match find T.row e with
  |some re=>match K5 rd lo with
   |some a=>match rd hi with
    |some B=>match asInt B with
     |some (_,b)=>match rd mx with
      |some C=>match asInt C with
       |some (_,c)=>match sy ob D with
        |some (.read r l)=>bif aiK r.size re.size then(vN l (a.getD 0) b c).bind λm=>k {dst:= .val ag (.leaf (.slice r) m)}else ae
        |_=>ae
       |none=>ae
      |none=>ae
     |none=>ae
    |none=>ae
   |none=>ae
  |none=>ae
 |_=>ae
def EB(T:bk P){rd:Operand->Option aI}(gE:∀x d,rd x=aa d->aG H F w d (ev ρ x)){t:TypeId}{D:aI}{x hi mx:Operand}{lo:Option Operand}{k:eB->Option R}{q:R}(h:qJ T rd ob t D lo hi mx k=aa q)(hs:aL U H F w ob n)(hx:aG H F w D (ev ρ x)):
 ∃e,k e=aa q/\cK P U H F w ρ ob n ⟨aa d, .slice t x lo (aa hi) (aa mx),ty,pos,aft,ae⟩ e:=by
 unfold qJ at h;split at h
 case h_2=>cases h
 rename_i e hu;have ht:=T.und_ok _ _ hu;split at h
 case h_2=>cases h
 rename_i re Uc;obtain⟨ti,z,h1,_,_,h4,_⟩:=T.row_ok _ _ Uc;split at h
 case h_2=>cases h
 rename_i a ha;split at h
 case h_2=>cases h
 rename_i B hB;split at h
 case h_2=>cases h
 rename_i kb b hb;split at h
 case h_2=>cases h
 rename_i C hC;split at h
 case h_2=>cases h
 rename_i kc c hc;split at h
 case h_2=>cases h
 rename_i r l gN;obtain⟨hz,h⟩:=bf h;obtain⟨m,hm,hk⟩:=bind_some h;refine⟨_,hk,?_⟩;have hv:cG F w (.slice r) [ev ρ x] l:=gT hs gN hx;have dZ:=hv;unfold vN at hm;split at hm
 case isFalse=>cases hm
 rename_i QT;obtain⟨p,q',ep,eq,QP,hq,rfl⟩:=qD hm;obtain⟨A,cap,he,K6,Nq,_⟩:=hv;simp only[ajw,and_true]at he;have bG:=KQ (P:=P) (w:=w) (d:=d) (ty:=ty) (pos:=pos) (aft:=aft) ht h1 he (Ag gE ha) (fK hb (gE _ _ hB)) (fK hc (gE _ _ hC)) (by omega) (by omega) (by omega) (by omega);rw[ep,eq,QT,aiL,aiL,aiL,h4,<-beq_true hz]at bG;rw[he]at dZ;exact cq hs bG (aW.mD (dZ.tight.cut QP hq))
noncomputable def QU(T:bk P)(ob:Nat->Option (Nat×Th))(o:BinOp)(t:TypeId)(X Y:aI):Option aI:=
 match X,Y with
 | .val ag (.leaf .bool a), .val ag (.leaf .bool b)=>match find T.und t with
   |some .bool=>match o with
    | .eql=>aa (ey (decide (a=b)))
    | .neq=>aa (ey (!decide (a=b)))
    |_=>ae
   |_=>ae
 | .val ag (.leaf .str a), .val ag (.leaf .str b)=>match o with
   | .eql=>aa (ey (decide (a=b)))
   | .neq=>aa (ey (!decide (a=b)))
   |_=>ae
 | .val af u, .val af v=>match find T.eqs t with
   |some r=>match flat ob r u with
    |some x=>match flat ob r v with
     |some y=>match o with
      | .eql=>aa (ey (oo r x y))
      | .neq=>aa (ey (!(oo r x y)))
      |_=>ae
     |none=>ae
    |none=>ae
   |none=>ae
 |_,_=>ae
theorem NR(T:bk P){o:BinOp}{t u:TypeId}{X Y D:aI}{x y:Operand}(h:QU T ob o t X Y=aa D)(hs:aL U H F w ob n)(hx:aG H F w X (ev ρ x))(hy:aG H F w Y (ev ρ y)):
 cK P U H F w ρ ob n ⟨aa d, .binOp o t x y u,ty,pos,aft,ae⟩ {dst:=D}:=by
 unfold QU at h;split at h
 .rename_i a b;split at h
  case h_2=>cases h
  rename_i hu;have hu:=T.und_ok _ _ hu;have ha:ev ρ x= .bool a:=aW.bool hx;have hb:ev ρ y= .bool b:=aW.bool hy
  split at h<;>cases h
  .exact bc hs (HL hu ha hb) (aW.gS ..)
  .exact bc hs (HM hu ha hb) (aW.gS ..)
 .rename_i a b;have ha:ev ρ x= .string a:=aW.str hx;have hb:ev ρ y= .string b:=aW.str hy
  split at h<;>cases h
  .exact bc hs (HN ha hb) (aW.gS ..)
  .exact bc hs (HO ha hb) (aW.gS ..)
 .rename_i u v;split at h
  case h_2=>cases h
  rename_i r hr;obtain⟨K,dd,hE,hd,hg,hD⟩:=T.eqs_ok _ _ hr;split at h
  case h_2=>cases h
  rename_i a ha;split at h
  case h_2=>cases h
  rename_i b hb;obtain⟨c1,g1,e1,_⟩:=hx;obtain⟨c2,g2,e2,_⟩:=hy;have r1:=jF hs ha g1;have r2:=jF hs hb g2
  split at h<;>cases h
  .exact bc hs (Ib hE hd hg hD e1 e2 r1 r2) (aW.gS ..)
  .exact bc hs (Ic hE hd hg hD e1 e2 r1 r2) (aW.gS ..)
 .cases h
def QV(a b:ByteArray):Option ByteArray:=if a.size+b.size<=9223372036854775807 then aa (a++b)else ae
def EC(o:BinOp)(X Y:aI):Option (ByteArray×ByteArray):=
 match o,X,Y with
 | .add, .val ag (.leaf .str a), .val ag (.leaf .str b)=>aa (a,b)
 |_,_,_=>ae
def QW{t u:TypeId}{o:BinOp}{X Y:aI}{x y:Operand}{a b c:ByteArray}(h:EC o X Y=aa (a,b))(hc:QV a b=aa c)(hs:aL U H F w ob n)(hx:aG H F w X (ev ρ x))(hy:aG H F w Y (ev ρ y)):
 cK P U H F w ρ ob n ⟨aa d, .binOp o t x y u,ty,pos,aft,ae⟩ {dst:= .val ag (.leaf .str c)}:=by
 unfold EC at h
 split at h<;>cases h
 unfold QV at hc;split at hc
 case isFalse=>cases hc
 rename_i hle;obtain rfl:=aiF hc;have ha:ev ρ x= .string a:=aW.str hx;have hb:ev ρ y= .string b:=aW.str hy;refine cq hs (v:= .string (a++b)) ?_ (aW.mD rfl)
 have:¬(9223372036854775807:Int)<(a.size:Int)+(b.size:Int):=by omega
 simp[execOp,eqGuard,binOp,Op.stringOp,ha,hb,IntKind.max,IntKind.signed,IntKind.bits,this]
noncomputable def Iz(T:bk P)(ob:Nat->Option (Nat×Th))(o:BinOp)(t:TypeId)(lit:Bool)(X Y:aI)(k:eB->Option R):Option R:=
 match asInt X with
 |some (kx,a)=>match asInt Y with
  |some (ky,b)=>match o with
   | .shl=>bif lit then(bif !decide (b<0)then k {dst:=mZ kx (Ac kx a b)}else ae)else(Ij kx a b).bind λc=>k {dst:=mZ kx c}
   | .shr=>bif lit then(bif !decide (b<0)then k {dst:=mZ kx (gu kx a b)}else ae)else(BU kx a b).bind λc=>k {dst:=mZ kx c}
   |o=>bif decide (kx=ky)then
    (match o with
    | .quo=>bif lit then(bif decide (b≠0)then k {dst:=mZ kx (kx.wrap (aiQ a b))}else ae)else(xV a b).bind λc=>k {dst:=mZ kx (kx.wrap c)}
    | .rem=>bif lit then(bif decide (b≠0)then k {dst:=mZ kx (ajd a b)}else ae)else(Er a b).bind λc=>k {dst:=mZ kx c}
    |_=>match arith o kx a b with
     |some D=>k {dst:=D}
     |none=>ae)else ae
  |none=>ae
 |none=>match EC o X Y with
  |some (a,b)=>(QV a b).bind λc=>k {dst:= .val ag (.leaf .str c)}
  |none=>match QU T ob o t X Y with
   |some D=>k {dst:=D}
   |none=>ae
def NS(T:bk P){o:BinOp}{t u:TypeId}{lit:Bool}{X Y:aI}{x y:Operand}{k:eB->Option R}{q:R}(h:Iz T ob o t lit X Y k=aa q)(hs:aL U H F w ob n)(hx:aG H F w X (ev ρ x))(hy:aG H F w Y (ev ρ y)):
 ∃e,k e=aa q/\cK P U H F w ρ ob n ⟨aa d, .binOp o t x y u,ty,pos,aft,ae⟩ e:=by
 unfold Iz at h;split at h
 .rename_i kx a hX;split at h
  case h_2=>cases h
  rename_i ky b hY;have ha:=fK hX hx;have hb:=fK hY hy;split at h
  .cases lit with
   |true=>
    rw[cond_true]at h;obtain⟨du,h⟩:=bf h;exact⟨_,h,bc hs (BW ha hb (by simpa using du)) (aW.kh ..)⟩
   |false=>
    rw[cond_false]at h;obtain⟨c,hc,h⟩:=bind_some h;unfold Ij at hc;split at hc
    .cases hc
    .rename_i du;obtain rfl:=aiF hc;exact⟨_,h,bc hs (BW ha hb du) (aW.kh ..)⟩
  .cases lit with
   |true=>
    rw[cond_true]at h;obtain⟨du,h⟩:=bf h;exact⟨_,h,bc hs (BX ha hb (by simpa using du)) (aW.kh ..)⟩
   |false=>
    rw[cond_false]at h;obtain⟨c,hc,h⟩:=bind_some h;unfold BU at hc;split at hc
    .cases hc
    .rename_i du;obtain rfl:=aiF hc;exact⟨_,h,bc hs (BX ha hb du) (aW.kh ..)⟩
  obtain⟨hk,h'⟩:=bf h;clear h;have hk:=an hk;subst hk;revert h';intro h;split at h
  .cases lit with
   |true=>
    rw[cond_true]at h;obtain⟨du,h⟩:=bf h
    grind [KW]
   |false=>
    grind [xV,KW]
  .cases lit with
   |true=>
    rw[cond_true]at h;obtain⟨du,h⟩:=bf h
    grind [KX]
   |false=>
    grind [Er,KX]
  grind [KV]
 .split at h
  .rename_i a b Tu;obtain⟨c,hc,h⟩:=bind_some h;exact⟨_,h,QW Tu hc hs hx hy⟩
  grind [NR]
def Yd(o:UnOp)(X:aI):Option aI:=
 match o with
 | .not=>match asBool X with
   |some b=>aa (ey (!b))
   |none=>ae
 | .neg=>match asInt X with
   |some (k,a)=>aa (mZ k (k.wrap (0-a)))
   |none=>ae
 |_=>ae
theorem QX{o:UnOp}{t:TypeId}{X D:aI}{x:Operand}(h:Yd o X=aa D)(hs:aL U H F w ob n)(hx:aG H F w X (ev ρ x)):
 cK P U H F w ρ ob n ⟨aa d, .unOp o t x,ty,pos,aft,ae⟩ {dst:=D}:=by
 unfold Yd at h;split at h
 .split at h<;>cases h
  rename_i b hb;exact bc hs (KF (oF hb hx)) (aW.gS ..)
 .split at h<;>cases h
  rename_i k a ha;exact bc hs (KG (fK ha hx)) (aW.kh ..)
 .cases h
def K7(T:bk P)(s t:TypeId)(X:aI):Option aI:=
 match find T.und s with
 |some _=>match find T.und t with
  |some (.int k)=>match asInt X with
   |some (_,a)=>aa (mZ k (k.wrap a))
   |none=>ae
  |some .str=>match BT X with
   |some a=>aa (X2 a)
   |none=>ae
  |_=>ae
 |none=>ae
def K8(T:bk P){s t:TypeId}{X D:aI}{x:Operand}(h:K7 T s t X=aa D)(hs:aL U H F w ob n)(hx:aG H F w X (ev ρ x)):
 cK P U H F w ρ ob n ⟨aa d, .convert s t x,ty,pos,aft,ae⟩ {dst:=D}:=by
 unfold K7 at h;split at h
 case h_2=>cases h
 rename_i ks hsu;obtain⟨dd,xK,_⟩:=(T.und_ok _ _ hsu).agg;split at h
 .rename_i k Ye
  split at h<;>cases h
  rename_i k' a ha;exact bc hs (HP xK (T.und_ok _ _ Ye) (fK ha hx)) (aW.kh ..)
 .rename_i Ye
  split at h<;>cases h
  rename_i a ha;have hv:=vT ha hx;have Yf:P.underlying t=aa .string:=T.und_ok _ _ Ye;refine cq hs (v:= .string a) ?_ (aW.mkStr ..);simp[execOp,convert,run_underlying xK,run_underlying Yf,hv]
 .cases h
def wa(D:aI)(i:Nat):Option aI:=
 match D with
 | .tup ds=>match ds[i]? with
   |some (a,t)=>aa (.val a t)
   |none=>ae
 |_=>ae
def sr.get:{ds:List (Bool×Tree)}->{vs:List Value}->{i:Nat}->{a:Bool}->{t:Tree}->sr H F w ds vs->ds[i]? =aa (a,t)->∃v,vs[i]? =aa v/\aW H F w a t v
 |[],_,_,_,_,_,h=>by cases h
 |d::ds,_,0,a,t,hh,h=>by
  obtain⟨v,us,rfl,h1,h2⟩:=hh
  grind
 |d::ds,_,i+1,a,t,hh,h=>by
  obtain⟨v,us,rfl,h1,h2⟩:=hh;obtain⟨v',e,hv⟩:=sr.get h2 (by simpa using h)
  grind
theorem Ca{D D':aI}{i:Nat}{x:Operand}(h:wa D i=aa D')(hs:aL U H F w ob n)(hx:aG H F w D (ev ρ x)):
 cK P U H F w ρ ob n ⟨aa d, .extract x i,ty,pos,aft,ae⟩ {dst:=D'}:=by
 unfold wa at h;split at h
 case h_2=>cases h
 split at h<;>cases h
 rename_i ds a t hd;obtain⟨vs,e,ht⟩:=hx;obtain⟨v,hv,sq⟩:=ht.get hd;exact bc hs (z6 e (by simpa using hv)) sq
def vy(mx:Bool)(X Y:aI):Option aI:=
 match asInt X,asInt Y with
 |some (k,a),aa (k',b)=>bif decide (k=k')then aa (mZ k (bif mx then(if a<b then b else a)else(if b<a then b else a)))else ae
 |_,_=>ae
theorem wb{mx:Bool}{t t':TypeId}{X Y D:aI}{x y:Operand}(h:vy mx X Y=aa D)(hs:aL U H F w ob n)(hx:aG H F w X (ev ρ x))(hy:aG H F w Y (ev ρ y)):
 cK P U H F w ρ ob n ⟨aa d, .call {callee:= .builtin (bif mx then .max else .min),args:= #[x,y],argTypes:= #[t,t']},ty,pos,aft,ae⟩ {dst:=D}:=by
 unfold vy at h;split at h
 case h_2=>cases h
 rename_i k a k' b ha hb;obtain⟨hk,h'⟩:=bf h;clear h;have hk:=an hk;subst hk;obtain rfl:=aiF h';have ha:=fK ha hx;have hb:=fK hb hy
 cases mx with
 |true=>exact bc hs (HT ha hb) (aW.kh ..)
 |false=>exact bc hs (HU ha hb) (aW.kh ..)
theorem IA{D:aI}{x:Operand}(hs:aL U H F w ob n)(hx:aG H F w D (ev ρ x)):cK P U H F w ρ ob n ⟨aa d, .move x,ty,pos,aft,ae⟩ {dst:=D}:=bc hs (HK rfl) hx
theorem Cb{D:aI}{x:Operand}(hs:aL U H F w ob n)(hx:aG H F w D (ev ρ x)):cK P U H F w ρ ob n ⟨aa d, .assign x,ty,pos,aft,ae⟩ {dst:=D}:=bc hs (BP rfl) hx
def Ah(T:bk P)(t:TypeId)(f:Nat)(X:aI):Option aI:=
 match find T.und t with
 |some (.struct fs)=>match fs[f]? with
  |some (ft,off)=>match find T.und ft with
   |some kk=>match X with
    | .val af u=>match u.get (sv fs.length f)with
      |some (s,eC)=>bif aiK eC off&&nB T ft kk s.size then aa (.val (l4 kk) s)else ae
      |none=>ae
    |_=>ae
   |none=>ae
  |none=>ae
 |_=>ae
def ED(T:bk P){t:TypeId}{f:Nat}{X D:aI}{x:Operand}(h:Ah T t f X=aa D)(hs:aL U H F w ob n)(hx:aG H F w X (ev ρ x)):
 cK P U H F w ρ ob n ⟨aa d, .field t x f,ty,pos,aft,ae⟩ {dst:=D}:=by
 unfold Ah at h;split at h
 case h_2=>cases h
 rename_i fs hu;obtain⟨arr,D9,NJ⟩:=T.und_ok _ _ hu;split at h
 case h_2=>cases h
 rename_i ft off hf;obtain⟨fd,Tr,rfl,rfl⟩:=BZ NJ hf;split at h
 case h_2=>cases h
 rename_i kk Yg;obtain⟨dd,xK,xL⟩:=(T.und_ok _ _ Yg).agg;split at h
 case h_2=>cases h
 rename_i u;split at h
 case h_2=>cases h
 rename_i s eC hg;obtain⟨hb,rfl⟩:=sx h;obtain⟨J9,Ka⟩:=dc hb;obtain rfl:=beq_true J9;have hz:=la T Ka;obtain⟨cs,rB,e,_⟩:=hx;obtain⟨g1,g2⟩:=rB.get hg;have hl:=g1.length;have e':ev ρ x= .agg cs.toArray:=e
 have Ud:∃v,(part fd.type cs.toArray fd.offset).run P w= .ok v w/\aW H F w (l4 kk) s v:=by
  cases ha:l4 kk with
  |true=>
   rw[aj ha]at hz;obtain⟨r,hr,No⟩:=hz;obtain⟨ti,z,h1,_,_,h4,_⟩:=T.row_ok _ _ hr;refine⟨.agg ((cs.drop fd.offset).take s.size).toArray,?_,_,g1,rfl,by simp⟩;unfold part;rw[ai1,fF xK,xL,ha];simp[sizeOf,typeInfo,h1,h4,No]
  |false=>
   rw[ai (by simp[ha])]at hz
   have aH:fd.offset<cs.length:=by omega
   refine⟨cs[fd.offset],?_,_,g1,?_,λ_=>?_⟩
   .unfold part;rw[ai1,fF xK,xL,ha];simp[aH]
   all_goals grind [List.take_one,List.head?_drop]
 obtain⟨v,hv,sq⟩:=Ud;refine cq hs (v:=v) ?_ sq;simp[execOp,Instr.field,run_underlying D9,Tr,e',asAgg,hv]
end
end
section
open Go Go.RowKit Go.MapKept
noncomputable def bo{α:Type}(K:Row):List (K.den×α)->K.den->Option α
 |[],_=>ae
 |p::l,k=>if cZ K p.1 k=af then aa p.2 else bo K l k
noncomputable def fC{α:Type}(K:Row):List (K.den×α)->K.den->α->List (K.den×α)
 |[],k,v=>[(k,v)]
 |p::l,k,v=>if cZ K p.1 k=af then(p.1,v)::l else p::fC K l k v
def yK{K:Row}{a b:K.den}{u v:Value}(ha:pS K a=aa u)(hb:pS K b=aa v):cZ K a b=af↔u=v:=by
 unfold pS at ha
 split at ha<;>first|cases ha|skip
 all_goals grind [pS,cZ]
def wc{P:Program}(T:bk P)(kt:TypeId):Row->Bool
 | .int k=>match find T.und kt with
   |some (.int k')=>decide (k=k')
   |_=>ag
 | .bool=>match find T.und kt with
   |some .bool=>af
   |_=>ag
 | .str=>match find T.und kt with
   |some .str=>af
   |_=>ag
 |_=>ag
section
variable {P:Program} {ρ:Nat->Value} {w w':World} {H H':aK} {F F':Nat->Prop} {U:Nat->Prop} {ob:Nat->Option (Nat×Th)} {n:Nat} {R:Type}
variable {op:Op} {ty:TypeId} {pos:String} {aft:Array Edge} {d:Nat}
def sA(T:bk P){kt:TypeId}{K:Row}(h:wc T kt K=af):∃d,P.underlying kt=aa d/\(∀x v,pS K x=aa v->IsKey d v)/\(∀x v,cG F w K [v] x->pS K x=aa v):=by
 unfold wc at h;split at h
 .split at h
  .rename_i k _ k' hu;obtain rfl:=an h;refine⟨_,T.und_ok _ _ hu,λx v hx=>?_,λx v hr=>?_⟩
   .obtain rfl:=aiF hx;rfl
   .have Nn:[v]=[ajm k x]:=hr;simp only[ajw,and_true]at Nn;rw[Nn];rfl
  .cases h
 .split at h
  .rename_i hu;refine⟨_,T.und_ok _ _ hu,λx v hx=>?_,λx v hr=>?_⟩
   .obtain rfl:=aiF hx;trivial
   .have Nn:[v]=[Value.bool x]:=hr;simp only[ajw,and_true]at Nn;rw[Nn];rfl
  .cases h
 .split at h
  .rename_i hu;refine⟨_,T.und_ok _ _ hu,λx v hx=>?_,λx v hr=>?_⟩
   .obtain rfl:=aiF hx;trivial
   .have Nn:[v]=[Value.string x]:=hr;simp only[ajw,and_true]at Nn;rw[Nn];rfl
  .cases h
 .cases h
def tK{K:Row}{agg:Bool}{V:Row}{dd:TypeDesc}{x:K.den}{kv:Value}(hK:∀x v,pS K x=aa v->IsKey dd v)(hx:pS K x=aa kv):{es:List MapEntry}->{l:List (K.den×V.den)}->(i:Nat)->mY H F w K agg V es l->
 (ajM dd kv es i=aa ae/\bo K l x=ae/\(∀e∈es,e.key≠kv)/\∀H' F' w' y(e:MapEntry),e.key=kv->H.le H'->Step F w F' w'->aW H' F' w' agg (.leaf V y) e.val->mY H' F' w' K agg V (es++[e]) (fC K l x y))\/
 ∃j e y,ajM dd kv es i=aa (aa (i+j,e.val))/\es[j]? =aa e/\e.key=kv/\bo K l x=aa y/\aW H F w agg (.leaf V y) e.val/\
  ∀H' F' w' y(f:MapEntry->MapEntry),(f e).key=kv->H.le H'->Step F w F' w'->aW H' F' w' agg (.leaf V y) (f e).val->mY H' F' w' K agg V (es.modify j f) (fC K l x y)
 |[],l,i,h=>by
  obtain rfl:l=[]:=h;refine .inl ⟨rfl,rfl,by simp,λH' F' w' y e he hH hs hv=>⟨x,y,[],rfl,by rw[he];exact hx,hv,rfl⟩⟩
 |e::es,l,i,h=>by
  obtain⟨k,y,l',rfl,h1,h2,h3⟩:=h;obtain⟨r,hr,NT⟩:=sameNow_of_keys (hK x kv hx) (hK k _ h1);have KT:=yK h1 hx
  cases r with
  |true=>
   have Tx:kv=e.key:=NT.1 rfl;have hq:cZ K k x=af:=KT.2 Tx.symm;refine .inr ⟨0,e,y,by simp[ajM,hr],rfl,Tx.symm,by simp[bo,hq],h2,λH' F' w' y' f hf hH hs hv=>?_⟩;refine⟨k,y',l',by simp[fC,hq],?_,hv,h3.keep hH hs⟩
   grind
  |false=>
   have du:¬e.key=kv:=(by grind)
   have hq:¬cZ K k x=af:=λq=>du (KT.1 q)
   rcases tK hK hx (i+1) h3 with⟨a1,a2,a3,a4⟩|⟨j,e',z,a1,a2,a3,a4,a5,a6⟩
   .refine .inl ⟨by simp[ajM,hr,a1],by simp[bo,hq,a2],λe' he'=>?_,λH' F' w' y' e' he' hH hs hv=>?_⟩
    .grind
    .exact⟨k,y,_,by simp[fC,hq],h1,h2.keep hH hs,a4 H' F' w' y' e' he' hH hs hv⟩
   .refine .inr ⟨j+1,e',z,by simp[ajM,hr,a1];omega,by simpa using a2,a3,by simp[bo,hq,a4],a5,λH' F' w' y' f hf hH hs hv=>?_⟩;refine⟨k,y,_,by simp[fC,hq],?_,?_,a6 H' F' w' y' f hf hH hs hv⟩
    .exact h1
    .exact h2.keep hH hs
noncomputable def asKey(ob:Nat->Option (Nat×Th))(K:Row):aI->Option K.den
 | .val ag t=>flat ob K t
 |_=>ae
def sB(hs:aL U H F w ob n){K:Row}{D:aI}{x:K.den}{v:Value}(h:asKey ob K D=aa x)(hd:aG H F w D v):cG F w K [v] x:=by
 unfold asKey at h;split at h
 .obtain⟨cs,h1,_,h3⟩:=hd
  grind [jF]
 .cases h
def K9(ob:Nat->Option (Nat×Th)):aI->Option (Nat×Nat×Th)
 | .val ag (.own o)=>match ob o with
   |some (s, .map T K agg V l)=>aa (o,s, .map T K agg V l)
   |_=>ae
 |_=>ae
def La(hs:aL U H F w ob n){D:aI}{o s:Nat}{t:Th}{v:Value}(h:K9 ob D=aa (o,s,t))(hd:aG H F w D v):∃T K agg V l b es clock,t= .map T K agg V l/\ob o=aa (s,t)/\H.val o=aa v/\v= .map (aa b)/\
 w.heap[b]? =aa (.map es clock)/\Stamped es clock/\mY H F w K agg V es.toList l:=by
 unfold K9 at h;split at h
 .rename_i o';split at h
  .rename_i s' T K agg V l cH;simp only[aiO,Prod.mk.injEq]at h;obtain⟨rfl,rfl,rfl⟩:=h;obtain⟨cs,⟨u,hu,_,e⟩,_,h3⟩:=hd;rw[h3 rfl]at e
   obtain rfl:v=u:=by simpa using e
   obtain⟨v',dZ,cP⟩:=hs.obj _ _ _ cH;rw[hu]at dZ;obtain rfl:=aiF dZ;obtain⟨b,es,clock,e,h1,h2,h3⟩:=cP.ok
   grind
  .cases h
 .cases h
def oJ(T:bk P)(n:Nat)(t:TypeId)(k:eB->Option R):Option R:=
 match find T.und t with
 |some (.map kt vt)=>match find T.row kt with
  |some K=>match find T.row vt with
   |some V=>match find T.und vt with
    |some kk=>k {dst:= .val ag (.own n),make:=[(n,(n, .map t K (l4 kk) V []))]}
    |none=>ae
   |none=>ae
  |none=>ae
 |_=>ae
def Cc(T:bk P){t:TypeId}{k:eB->Option R}{q:R}(h:oJ T n t k=aa q)(hs:aL U H F w ob n):
 ∃e,k e=aa q/\cK P U H F w ρ ob n ⟨aa d, .makeMap t ae,ty,pos,aft,ae⟩ e:=by
 unfold oJ at h;split at h
 case h_2=>cases h
 split at h
 case h_2=>cases h
 rename_i K _;split at h
 case h_2=>cases h
 rename_i V _;split at h
 case h_2=>cases h
 rename_i kk _
 have bG:(execOp (ev ρ) ⟨aa d, .makeMap t ae,ty,pos,aft,ae⟩).run P w= .ok (.value (.map (aa w.heap.size))) (w.alloc (.map #[] 0)):=by
  simp[execOp,Instr.makeMap,ai3]
 refine⟨_,h,cz.val bG ?_⟩
 have hv:((H.bR n (.map t K (l4 kk) V [])).cE n (.map (aa w.heap.size))).val n=aa (.map (aa w.heap.size)):=by simp[aK.cE]
 refine mP.new (v0:= .map (aa w.heap.size)) hs rfl rfl (qH _) ⟨_, #[],0,rfl,(heap_alloc w _).1,stamped_empty 0,rfl⟩ (λk hk=>?_) (nR hv rfl);simp only[fp,Value.map.injEq,aiO]at hk;subst hk;exact⟨λe=>by have:=hs.lt _ e;omega,by simp, .inl (aiM _)⟩
noncomputable def kR(T:bk P)(ob:Nat->Option (Nat×Th))(n:Nat)(t:TypeId)(M X Y:aI)(k:eB->Option R):Option R:=
 match find T.und t with
 |some (.map kt _)=>match K9 ob M with
  |some (o,_, .map T0 K agg V l)=>bif wc T kt K then(match asKey ob K X with
   |some x=>match Y with
    | .val mE tr=>bif (bif agg then mE else !mE)then(match flat ob V tr with
      |some y=>k {dst:= .dead,eat:=[o],make:=[(o,(n, .map T0 K agg V (fC K l x y)))]}
      |none=>ae)else ae
    |_=>ae
   |none=>ae)else ae
  |_=>ae
 |_=>ae
def oK{Yh kt et:TypeId}{dd:TypeDesc}{b clock:Nat}{es:Array MapEntry}{key val:Value}(hm:P.underlying Yh=aa (.map kt et))(hd:P.underlying kt=aa dd)(hb:w.heap[b]? =aa (.map es clock))(hk:IsKey dd key):
 (ajM dd key es.toList 0=aa ae->(akh Yh (.map (aa b)) key val).run P w= .ok () {w with heap:=w.heap.setIfInBounds b (.map (es.push {key,val,born:=clock}) (clock+1))})/\
 (∀j e,ajM dd key es.toList 0=aa (aa (j,e))->((es[j]?).map (·.key)).getD key=key->(akh Yh (.map (aa b)) key val).run P w= .ok () {w with heap:=w.heap.setIfInBounds b (.map (es.modify j λe=>{e with key,val}) clock)}):=by
 refine⟨λh1=>?_,λj e h1 h2=>?_⟩
 .simp[akh,run_underlying hm,aj0 hb,ajX hd hk,aj2 hd h1,MapKept.run_setObj_map _ hb,ai3]
 .simp[akh,run_underlying hm,aj0 hb,ajX hd hk,aj2 hd h1,h2,run_keyThatStays hk,MapKept.run_setObj_map _ hb,ai3]
def rk(T:bk P){t:TypeId}{M X Y:aI}{m x y:Operand}{k:eB->Option R}{q:R}(h:kR T ob n t M X Y k=aa q)(hs:aL U H F w ob n)(hm:aG H F w M (ev ρ m))(hx:aG H F w X (ev ρ x))(hy:aG H F w Y (ev ρ y)):
 ∃e,k e=aa q/\cK P U H F w ρ ob n ⟨ae, .mapUpdate t m x y,ty,pos,aft,ae⟩ e:=by
 unfold kR at h;split at h
 case h_2=>cases h
 rename_i kt vt hu;split at h
 case h_2=>cases h
 rename_i o s T0 K agg V l Iv;obtain⟨hk,h'⟩:=bf h;clear h;split at h'
 case h_2=>cases h'
 rename_i a ha;split at h'
 case h_2=>cases h'
 rename_i mE tr;obtain⟨xY,h⟩:=bf h';clear h'
 have xY:agg=mE:=by cases agg<;>cases mE<;>simp_all
 subst xY;split at h
 case h_2=>cases h
 rename_i b hb;refine⟨_,h,?_⟩;obtain⟨dd,hd,hK,hR⟩:=sA (F:=F) (w:=w) T hk;obtain⟨T1,K1,adF,V1,l1,r,es,clock,e0,cH,hv,si,hh,gq,IB⟩:=La hs Iv hm;cases e0;have tL:=hR _ _ (sB hs ha hx)
 have q6:aW H F w agg (.leaf V b) (ev ρ y):=by
  obtain⟨cs,h1,h2⟩:=hy;exact⟨cs,jF hs hb h1,h2⟩
 have adG:r<w.heap.size:=(aja.1 hh).1
 have fin:∀o',(akh t (.map (aa r)) (ev ρ x) (ev ρ y)).run P w= .ok () {w with heap:=w.heap.setIfInBounds r o'}->
  (∀w',(∀k,k≠r->w'.heap[k]? =w.heap[k]?)->∃oD ou,o'= .map oD ou/\Stamped oD ou/\mY (H.bR n (.map T0 K agg V (fC K l a b))) F w' K agg V oD.toList (fC K l a b))->
  cK P U H F w ρ ob n ⟨ae, .mapUpdate t m x y,ty,pos,aft,ae⟩ {dst:= .dead,eat:=[o],make:=[(o,(n, .map T0 K agg V (fC K l a b)))]}:=by
  intro o' bG QY;refine cz.unit (w':={w with heap:=w.heap.setIfInBounds r o'}) ?_ ?_
  .simp[execOp,si,bG,ai3]
  .have tM:∀k,k≠r->(w.heap.setIfInBounds r o')[k]? =w.heap[k]? :=(heap_set hh).2;obtain⟨oD,ou,rfl,g1,g2⟩:=QY {w with heap:=w.heap.setIfInBounds r o'} tM;refine mP.Ad (t':= .map T0 K agg V (fC K l a b)) (w':={w with heap:=w.heap.setIfInBounds r (.map oD ou)}) hs cH hv rfl (λk hk=>hk) ⟨rfl,rfl,rfl,by simp,λk hk hn=>tM k λe=>hn (by subst e;exact si)⟩ ⟨r,oD,ou,si,(heap_set hh).1,g1,g2⟩ trivial
 have NU:H.le (H.bR n (.map T0 K agg V (fC K l a b))):=aK.gD (hs.fresh n (aiM _) (by omega)).2
 have mU:∀w':World,(∀k,k≠r->w'.heap[k]? =w.heap[k]?)->Step F w F w':=by
  intro w' hw b hb;refine⟨hb,hw b λe=>?_⟩;subst e;obtain⟨v',dZ,cP⟩:=hs.obj _ _ _ cH;rw[hv]at dZ;obtain rfl:=aiF dZ;exact cP.no b si hb
 obtain⟨r1,r2⟩:=oK (val:=ev ρ y) (T.und_ok _ _ hu) hd hh (hK _ _ tL)
 rcases tK hK tL 0 IB with⟨a1,a2,a3,a4⟩|⟨j,e,z,a1,a2,a3,a4,a5,a6⟩
 .refine fin _ (r1 a1) λw' hw=>⟨_,_,rfl,stamped_push gq a3,?_⟩
  rw[Array.toList_push];exact a4 _ F w' b _ rfl NU (mU w' hw) (q6.keep NU (mU w' hw))
 .rw[ajh]at a1
  have hj:es[j]? =aa e:=by simpa using a2
  refine fin _ (r2 j _ a1 (by rw[hj];exact a3)) λw' hw=>⟨_,_,rfl,stamped_modify gq _ _ (λ_ _=>rfl) (λe' _ he'=>?_),?_⟩
  .grind
  .rw[Array.toList_modify];exact a6 _ F w' b _ rfl NU (mU w' hw) (q6.keep NU (mU w' hw))
def Lb{t:TypeId}{agg:Bool}{V:Row}(h:Ab P t agg V)(h1:agg=ag->V.size=1):∃z,(zeroValue t).run P w= .ok z w/\aW H F w agg (.leaf V V.zero) z:=by
 obtain⟨z,hz,e⟩:=h
 cases hi:P.info? t with
 |none=>rw[hi]at hz;cases hz
 |some ti=>
  rw[hi]at hz;refine⟨z,?_,V.dF,cG.zero F w V,e,λha=>?_⟩
  .have Yi:ti.zero=aa z:=hz;simp[zeroValue,typeInfo,hi,Yi,ai3]
  .have hl:V.dF.length=V.size:=(cG.zero F w V).length;rw[h1 ha]at hl;subst ha;rw[cond_false]at e
   match hv:V.dF,hl with
   |[u],_=>grind
theorem GF{K:Row}{agg:Bool}{V:Row}:{es:List MapEntry}->{l:List (K.den×V.den)}->es.length=l.length->(∀i(h:i<l.length),∃(e:MapEntry)(cs:List Value),es[i]? =aa e/\pS K l[i].1=aa e.key/\cG F w V cs l[i].2/\e.val=(bif agg then .agg cs.toArray else cs.headD undef)/\(agg=ag->cs=[e.val]))->mY H F w K agg V es l
 |[],[],_,_=>rfl
 |[],_::_,h,_=>by cases h
 |_::_,[],h,_=>by cases h
 |e::es,(k,x)::l,hl,h=>by
  obtain⟨e',cs,h1,h2,h3,h4,h5⟩:=h 0 (by simp)
  obtain rfl:e=e':=by simpa using h1
  exact⟨k,x,l,rfl,h2,⟨cs,h3,h4,h5⟩,GF (by simpa using hl) λi hi=>by
   obtain⟨e',ra,q1,q2,q3,q4⟩:=h (i+1) (by simpa using hi)
   exact⟨e',ra,by simpa only[List.getElem?_cons_succ]using q1,q2,q3,q4⟩⟩
def GG{K:Row}{agg:Bool}{V:Row}:{es:List MapEntry}->{l:List (K.den×V.den)}->mY H F w K agg V es l->es.length=l.length/\∀i(h:i<l.length),∃(e:MapEntry)(cs:List Value),es[i]? =aa e/\pS K l[i].1=aa e.key/\cG F w V cs l[i].2/\e.val=(bif agg then .agg cs.toArray else cs.headD undef)/\(agg=ag->cs=[e.val])
 |[],l,h=>by obtain rfl:l=[]:=h;grind
 |e::es,l,h=>by
  obtain⟨k,x,l',rfl,h1,⟨cs,h2,h3,h4⟩,h5⟩:=h;obtain⟨g1,g2⟩:=GG h5;refine⟨by simp[g1],λi hi=>?_⟩
  cases i with
  |zero=>exact⟨e,cs,rfl,h1,h2,h3,h4⟩
  |succ i=>
   obtain⟨e',ra,q1,q2,q3,q4⟩:=g2 i (by simpa using hi);exact⟨e',ra,by simpa only[List.getElem?_cons_succ]using q1,q2,q3,q4⟩
structure Ue where
 K:Row
 agg:Bool
 V:Row
 l:List (K.den×V.den)
def EE(ob:Nat->Option (Nat×Th)):aI->Option Ue
 | .val ag (.leaf (.map K agg V) l)=>aa ⟨K,agg,V,l⟩
 | .val ag (.own o)=>match ob o with
   |some (_, .map _ K agg V l)=>aa ⟨K,agg,V,l⟩
   |some (_, .fmap _ K agg V l)=>aa ⟨K,agg,V,l⟩
   |some (_, .fdmap _ K _ r l)=>aa ⟨K,ag, .slice r,l⟩
   |_=>ae
 |_=>ae
def Ai{K:Row}{agg:Bool}{V:Row}{l:List (K.den×V.den)}{v:Value}(h:cG F w (.map K agg V) [v] l):(v= .map ae/\l=[])\/∃b es clock,v= .map (aa b)/\w.heap[b]? =aa (.map es clock)/\Stamped es clock/\mY H F w K agg V es.toList l:=by
 obtain⟨u,e,h⟩:=h
 grind [GF]
def IC(hs:aL U H F w ob n){D:aI}{m:Ue}{v:Value}(h:EE ob D=aa m)(hd:aG H F w D v):(v= .map ae/\m.l=[])\/∃b es clock,v= .map (aa b)/\w.heap[b]? =aa (.map es clock)/\Stamped es clock/\mY H F w m.K m.agg m.V es.toList m.l:=by
 unfold EE at h;split at h
 .cases h;exact Ai hd.inv
 .rename_i o;obtain⟨cs,⟨u,hu,_,e⟩,_,h3⟩:=hd;rw[h3 rfl]at e
  obtain rfl:v=u:=by simpa using e
  split at h
  .rename_i s T K agg V l cH;cases h;obtain⟨v',dZ,cP⟩:=hs.obj _ _ _ cH;rw[hu]at dZ;obtain rfl:=aiF dZ;obtain⟨b,es,clock,e,h1,h2,h3⟩:=cP.ok
   grind
  .rename_i s T K agg V l cH;cases h;obtain⟨v',dZ,cP⟩:=hs.obj _ _ _ cH;rw[hu]at dZ;obtain rfl:=aiF dZ;exact Ai cP.ok
  .rename_i s T K E r l cH;cases h;obtain⟨v',dZ,cP⟩:=hs.obj _ _ _ cH;rw[hu]at dZ;obtain rfl:=aiF dZ;exact Ai (K:=K) (agg:=ag) (V:= .slice r) cP.ok
  .cases h
 .cases h
noncomputable def pf(T:bk P)(ob:Nat->Option (Nat×Th))(t:TypeId)(ok:Bool)(M X:aI)(k:eB->Option R):Option R:=
 match find T.und t with
 |some (.map kt vt)=>match EE ob M with
  |some ⟨K,agg,V,l⟩=>match find T.zer vt with
   |some (mE,V')=>bif wc T kt K&&(bif agg then mE else !mE)&&V'.beq V&&(agg||aiK V.size 1)then(match asKey ob K X with
    |some x=>bif ok then k {dst:= .tup [(agg, .leaf V ((bo K l x).getD V.zero)),(ag, .leaf .bool (bo K l x).isSome)]}
     else k {dst:= .val agg (.leaf V ((bo K l x).getD V.zero))}
    |none=>ae)else ae
   |none=>ae
  |none=>ae
 |_=>ae
def we(T:bk P){t:TypeId}{ok:Bool}{M X:aI}{m x:Operand}{k:eB->Option R}{q:R}(h:pf T ob t ok M X k=aa q)(hs:aL U H F w ob n)(hm:aG H F w M (ev ρ m))(hx:aG H F w X (ev ρ x)):
 ∃e,k e=aa q/\cK P U H F w ρ ob n ⟨aa d, .lookup t m x ok,ty,pos,aft,ae⟩ e:=by
 unfold pf at h;split at h
 case h_2=>cases h
 rename_i kt vt hu;split at h
 case h_2=>cases h
 rename_i K agg V l Iv;split at h
 case h_2=>cases h
 rename_i mE V' hz;obtain⟨hc,h'⟩:=bf h;clear h;obtain⟨hc,Uf⟩:=dc hc;obtain⟨hc,NV⟩:=dc hc;obtain⟨yB,xJ⟩:=dc hc
 have xY:agg=mE:=by cases agg<;>cases mE<;>simp_all
 subst xY;obtain rfl:=Row.eq_of_beq NV;split at h'
 case h_2=>cases h'
 rename_i a ha;obtain⟨dd,hd,hK,hR⟩:=sA (F:=F) (w:=w) T yB;have tL:=hR _ _ (sB hs ha hx)
 have kP:agg=ag->V'.size=1:=λe=>by simp_all
 obtain⟨z,vW,GA⟩:=Lb (w:=w) (H:=H) (F:=F) (T.zer_ok _ _ _ hz) kP
 have main:∃v,(Instr.lookup t (ev ρ m) (ev ρ x) ok).run P w= .ok (if ok then .tuple #[v, .bool (bo K l a).isSome]else v) w/\aW H F w agg (.leaf V' ((bo K l a).getD V'.zero)) v:=by
  have Tz:=hK _ _ tL;have Af:=T.und_ok _ _ hu
  rcases IC hs Iv hm with⟨si,hl⟩|⟨r,es,clock,si,hh,gq,IB⟩
  .dsimp only at hl;subst hl;refine⟨z,?_,GA⟩;rw[si];have hf:=aj2 (w:=w) hd (show ajM dd (ev ρ x) [] 0=aa ae from rfl)
   cases ok<;>simp[Instr.lookup,run_underlying Af,ajX hd Tz,hf,vW,bo,ai3]
  .dsimp only at IB
   rcases tK hK tL 0 IB with⟨a1,a2,_⟩|⟨j,e,y,a1,_,_,a4,a5,_⟩
   .refine⟨z,?_,by rw[a2];exact GA⟩;rw[si,a2];simp[Instr.lookup,run_underlying Af,aj0 hh,ajX hd Tz,aj2 hd a1,vW,ai3]
   .refine⟨e.val,?_,by rw[a4];exact a5⟩;rw[si,a4];simp[Instr.lookup,run_underlying Af,aj0 hh,ajX hd Tz,aj2 hd a1,ai3]
 obtain⟨v,bG,sq⟩:=main
 cases ok with
 |true=>
  refine⟨_,h',cq hs (v:= .tuple #[v, .bool (bo K l a).isSome]) (by simp[execOp,bG,ai3]) ⟨[v, .bool (bo K l a).isSome],rfl,_,_,rfl,sq,_,_,rfl,aW.gS ..,rfl⟩⟩
 |false=>exact⟨_,h',cq hs (v:=v) (by simp[execOp,bG,ai3]) sq⟩
def lW(s:ByteArray)(i:Int):Option Int:=(if 0<=i then s[i.toNat]? else ae).map λb=>(b.toNat:Int)
def Cg{e:Row}:{m:Nat}->{r:Row}->{x:r.den}->{l:List e.den}->{cs:List Value}->mR m r x e=aa l->cG F w r cs x->l.length=m/\cs.length=m*e.size/\∀i(h:i<l.length),cG F w e ((cs.drop (i*e.size)).take e.size) l[i]
 |0,r,x,l,cs,h,_=>by unfold mR at h;cases h
 |1,r,x,l,cs,h,ha=>by
  unfold mR at h;split at h
  case isFalse=>cases h
  rename_i hb;obtain rfl:=Row.eq_of_beq hb;obtain rfl:=aiF h;have hl:=ha.length;refine⟨rfl,by simp[hl],λi hi=>?_⟩
  obtain rfl:i=0:=by simp at hi;omega
  rw[Nat.zero_mul,List.drop_zero,<-hl,aiS];exact ha
 |m+2, .pair a b,x,l,cs,h,ha=>by
  unfold mR at h;split at h
  case isFalse=>cases h
  rename_i hb;obtain rfl:=Row.eq_of_beq hb;split at h
  case h_2=>cases h
  rename_i l' hl;obtain rfl:=aiF h;obtain⟨c1,c2,rfl,h1,h2⟩:=ha;have Nl:=h1.length;obtain⟨g1,g2,g3⟩:=Cg hl h2;refine⟨by simp[g1],by grind,λi hi=>?_⟩
  cases i with
  |zero=>
   rw[Nat.zero_mul,List.drop_zero,List.take_append_of_le_length (by omega),<-Nl,aiS];exact h1
  |succ i=>
   grind [List.drop_drop,List.drop_left]
 |m+2, .int _,_,_,_,h,_=>by unfold mR at h;cases h
 |m+2, .bool,_,_,_,h,_=>by unfold mR at h;cases h
 |m+2, .str,_,_,_,h,_=>by unfold mR at h;cases h
 |m+2, .slice _,_,_,_,h,_=>by unfold mR at h;cases h
 |m+2, .lS,_,_,_,h,_=>by unfold mR at h;cases h
 |m+2, .nul _,_,_,_,h,_=>by unfold mR at h;cases h
 |m+2, .map ..,_,_,_,h,_=>by unfold mR at h;cases h
def qK(T:bk P)(ob:Nat->Option (Nat×Th))(t:TypeId)(D:aI)(i:Int)(k:eB->Option R):Option R:=
 match find T.und t with
 |some .str=>match BT D with
  |some s=>(lW s i).bind λc=>k {dst:=mZ .u8 c}
  |none=>ae
 |some (.array m e)=>match find T.row t with
  |some r=>match find T.row e with
   |some re=>match find T.und e with
    |some kk=>match D with
     | .val af tr=>match flat ob r tr with
       |some x=>match mR m r x re with
        |some l=>bif l4 kk||aiK re.size 1 then(idx l i).bind λy=>k {dst:= .val (l4 kk) (.leaf re y)}else ae
        |none=>ae
       |none=>ae
     |_=>ae
    |none=>ae
   |none=>ae
  |none=>ae
 |_=>ae
def EF(T:bk P){t:TypeId}{D:aI}{x y:Operand}{kd:IntKind}{i:Int}{k:eB->Option R}{q:R}(h:qK T ob t D i k=aa q)(hs:aL U H F w ob n)(hx:aG H F w D (ev ρ x))(hy:ev ρ y= .int kd i):
 ∃e,k e=aa q/\cK P U H F w ρ ob n ⟨aa d, .index t x y,ty,pos,aft,ae⟩ e:=by
 unfold qK at h;split at h
 .rename_i hu;have hu:=T.und_ok _ _ hu;split at h
  case h_2=>cases h
  rename_i s hS;obtain⟨c,hc,hk⟩:=bind_some h;have hv:=vT hS hx;unfold lW at hc;obtain⟨b,hb,rfl⟩:=Option.map_eq_some_iff.1 hc;refine⟨_,hk,cq hs (v:= .int .u8 b.toNat) ?_ (aW.kh ..)⟩;have Af:P.underlying t=aa .string:=hu;simp[execOp,Instr.index,asIntOf,run_underlying Af,hv,hy,hb]
 .rename_i m e hu;have hu:P.underlying t=aa (.array m e):=T.und_ok _ _ hu;split at h
  case h_2=>cases h
  rename_i r hr;split at h
  case h_2=>cases h
  rename_i re Uc;split at h
  case h_2=>cases h
  rename_i kk KT;split at h
  case h_2=>cases h
  rename_i tr;split at h
  case h_2=>cases h
  rename_i z hz;split at h
  case h_2=>cases h
  rename_i l hl;obtain⟨hag,h'⟩:=bf h;clear h;obtain⟨a,ha,hk⟩:=bind_some h';obtain⟨cs,hh,hv,_⟩:=hx;rw[cond_true]at hv;obtain⟨g1,g2,g3⟩:=Cg hl (jF hs hz hh);obtain⟨j,hj,aH,rfl⟩:=iz ha;obtain⟨ti,z0,h1,_,_,h4,_⟩:=T.row_ok _ _ Uc;obtain⟨dd,xK,xL⟩:=(T.und_ok _ _ KT).agg;have xZ:=g3 j aH
  have kP:(j+1)*re.size<=cs.length:=by rw[g2];exact aiV _ (by omega)
  rw[ajW]at kP;refine⟨_,hk,?_⟩
  cases xY:l4 kk with
  |true=>
   refine cq hs (v:= .agg ((cs.drop (j*re.size)).take re.size).toArray) ?_ ⟨_,xZ,rfl,by simp⟩;subst hj;simp[execOp,Instr.index,asIntOf,run_underlying hu,hv,hy,show j<m by omega,part,ai1,fF xK,xL,xY,sizeOf,typeInfo,h1,h4,List.extract_eq_take_drop]
  |false=>
   rw[xY,Bool.false_or]at hag;have lT:=beq_true hag;have hlen:=xZ.length;rw[lT,Nat.mul_one]at xZ kP;rw[lT]at hlen
   obtain⟨v,yH⟩:∃v,(cs.drop j).take 1=[v]:=by
    match hq:(cs.drop j).take 1,wg:((cs.drop j).take 1).length with
    |[v],_=>exact⟨v,rfl⟩
    |[],_=>rw[Nat.mul_one,hq]at hlen;cases hlen
    |_::_::_,_=>rw[Nat.mul_one,hq]at hlen;cases hlen
   rw[yH]at xZ
   have NG:cs[j]? =aa v:=by
    have:(cs.drop j)[0]? =aa v:=by
     have h0:((cs.drop j).take 1)[0]? =aa v:=by rw[yH];rfl
     rwa [List.getElem?_take_of_lt (by omega)]at h0
    simpa using this
   refine cq hs (v:=v) ?_ (aW.mD xZ);subst hj;simp[execOp,Instr.index,asIntOf,run_underlying hu,hv,hy,show j<m by omega,part,ai1,fF xK,xL,xY,sizeOf,typeInfo,h1,h4,lT,NG]
 .cases h
end
end
section
def ID(T:TypeId):(e:DR)->List e.row.den->Th
 | .leaf r,y=> .own T r y
 | .sl T' e,y=> .deep T (.sl T' e) y ae
 | .pair a b,y=> .deep T (.pair a b) y ae
section
variable {P:Program} {ρ:Nat->Value} {w w':World} {H H':aK} {F F':Nat->Prop} {U:Nat->Prop} {ob:Nat->Option (Nat×Th)} {n:Nat} {R:Type}
variable {op:Op} {ty:TypeId} {pos:String} {aft:Array Edge} {d:Nat}
def wh(T:TypeId)(e:DR)(y:List e.row.den):(ID T e y).base=ID T e y:=by cases e<;>rfl
def tN{T:TypeId}{e:DR}{u:Value}{y:List e.row.den}{A:Nat->Prop}(h:lk F w (.sl T e) u y A):jV H F w A u (ID T e y)/\(∀k,fp A u (ID T e y) k->A k)/\u.oneCell'=af:=by
 obtain⟨lh,Ss,h1,h2,h3,h4⟩:=h;have lT:=h1.one
 cases e with
 |leaf r=>
  have hl:lh=y:=List.ext_getElem h2 λi a b=>(h3 i a b).1
  subst hl;exact⟨h1,λk hk=>h4.bF k hk,lT⟩
 |sl T' e=>exact⟨⟨lh,Ss,h1,h2,h3,h4⟩,λk hk=>hk,lT⟩
 |pair a b=>exact⟨⟨lh,Ss,h1,h2,h3,h4⟩,λk hk=>hk,lT⟩
def wi{T:TypeId}{e:DR}{u:Value}{y:List e.row.den}{A:Nat->Prop}(h:jV H F w A u (ID T e y)):lk F w (.sl T e) u y (λk=>fp A u (ID T e y) k):=by
 cases e with
 |leaf r=>
  have h':lU F w T r u y:=h;refine⟨y,λ_ _=>False,h',rfl,λi a b=>⟨rfl,λ_ h=>h⟩,⟨λk=>?_,λ_ _ _ _ _ _ h=>h.elim,λ_ _ _ h=>h.elim⟩⟩
  show bF u k↔_
  simp
 |sl T' e=>exact h
 |pair a b=>exact h
def vz{d:DR}{r:Row}(q:gB d (.leaf r)){x':d.low.den}{x:d.row.den}{S:Nat->Prop}(h:lk F w d x' x S):q.lo.get x'=q.hi.get x:=by
 obtain⟨A,B,h1,_⟩:=h.out q;exact h1.1
def wj:{d e:DR}->{T:TypeId}->{r:Row}->(p:gB d (.sl T e))->(q:gB d (.leaf r))->{x':d.low.den}->{x:d.row.den}->{S:Nat->Prop}->ot F w p x' x S->q.lo.get x'=q.hi.get x
 |_,_,_,_, .fst p, .fst q,_,_,_,h=>by obtain⟨A,B,h1,_⟩:=h;exact wj p q h1
 |_,_,_,_, .fst p, .snd q,_,_,_,h=>by obtain⟨A,B,_,h2,_⟩:=h;exact vz q h2
 |_,_,_,_, .snd p, .fst q,_,_,_,h=>by obtain⟨A,B,h1,_⟩:=h;exact vz q h1
 |_,_,_,_, .snd p, .snd q,_,_,_,h=>by obtain⟨A,B,_,h2,_⟩:=h;exact wj p q h2
def Lc{d:DR}{h:Option vP}{i:Nat}{x':d.low.den}{x:d.row.den}{S:Nat->Prop}{r:Row}(q:gB d (.leaf r))(hr:pd H F w d h i x' x S):q.lo.get x'=q.hi.get x:=by
 cases h with
 |none=>exact vz q hr
 |some h=>
  by_cases hi:h.i=(i:Int)
  .obtain⟨T',e,p,_,h2,_⟩:=hr.2 hi;exact wj p q h2
  .exact vz q (hr.1 hi)
def sC{d:DR}{r:Row}(q:gB d (.leaf r)){x':d.low.den}{x:d.row.den}{S:Nat->Prop}(y:r.den)(h:lk F w d x' x S):lk F w d (q.lo.set x' y) (q.hi.set x y) S:=by
 obtain⟨A,B,h1,h2,h3⟩:=h.out q;exact h2.put q (y':=y) (A:=A) ⟨rfl,h1.2⟩ h3
theorem tO:{d e:DR}->{T:TypeId}->{r:Row}->(p:gB d (.sl T e))->(q:gB d (.leaf r))->{x':d.low.den}->{x:d.row.den}->{S:Nat->Prop}->(y:r.den)->ot F w p x' x S->ot F w p (q.lo.set x' y) (q.hi.set x y) S/\p.lo.get (q.lo.set x' y)=p.lo.get x'
 |_,_,_,_, .fst p, .fst q,_,_,_,y,h=>by
  obtain⟨A,B,h1,h2,h3⟩:=h;obtain⟨g1,g2⟩:=tO p q y h1;exact⟨⟨A,B,g1,h2,h3⟩,g2⟩
 |_,_,_,_, .fst p, .snd q,_,_,_,y,h=>by
  obtain⟨A,B,h1,h2,h3⟩:=h;exact⟨⟨A,B,h1,sC q y h2,h3⟩,rfl⟩
 |_,_,_,_, .snd p, .fst q,_,_,_,y,h=>by
  obtain⟨A,B,h1,h2,h3⟩:=h;exact⟨⟨A,B,sC q y h1,h2,h3⟩,rfl⟩
 |_,_,_,_, .snd p, .snd q,_,_,_,y,h=>by
  obtain⟨A,B,h1,h2,h3⟩:=h;obtain⟨g1,g2⟩:=tO p q y h2;exact⟨⟨A,B,h1,g1,h3⟩,g2⟩
def IE{d:DR}{h:Option vP}{i:Nat}{x':d.low.den}{x:d.row.den}{S:Nat->Prop}{r:Row}(q:gB d (.leaf r))(y:r.den)(hr:pd H F w d h i x' x S):pd H F w d h i (q.lo.set x' y) (q.hi.set x y) S:=by
 cases h with
 |none=>exact sC q y hr
 |some h=>
  refine⟨λhi=>sC q y (hr.1 hi),λhi=>?_⟩;obtain⟨T',e,p,h1,h2,h3⟩:=hr.2 hi
  grind [tO]
def aL.low(hs:aL U H F w ob n){o s:Nat}{T:TypeId}{dr:DR}{l:List dr.row.den}{h:Option vP}(ho:ob o=aa (s, .deep T dr l h)){v:Value}(hv:H.val o=aa v):
 ∃(lh:List dr.low.den)(Ss:Nat->Nat->Prop),Own 0 F w T dr.low v lh/\lh.length=l.length/\(∀i(h1:i<lh.length)(h2:i<l.length),pd H F w dr h i lh[i] l[i] (Ss i))/\oE Ss l.length (bF v) (H.sub s):=by
 obtain⟨v',dZ,cP⟩:=hs.obj _ _ _ ho;rw[hv]at dZ;obtain rfl:=aiF dZ;obtain⟨lh,Ss,h1,h2,h3,h4⟩:=cP.ok;exact⟨lh,Ss,⟨λk hk=>cP.no k (h4.bF k hk),h1⟩,h2,h3,h4⟩
def Path.Aj:{r s:Row}->(p:Path r s)->(x:r.den)->(y:s.den)->p.get (p.set x y)=y
 |_,_, .here,_,_=>rfl
 |_,_, .fst p,x,y=>Path.Aj p x.1 y
 |_,_, .snd p,x,y=>Path.Aj p x.2 y
def ot.Ld:{d e:DR}->(p:gB d e)->{x':d.low.den}->{x:d.row.den}->{S:Nat->Prop}->(y':e.low.den)->ot F w p x' x S->ot F w p (p.lo.set x' y') x S
 |_,_, .here,_,_,_,_,h=>h
 |_,_, .fst p,_,_,_,y',h=>by
  obtain⟨A,B,h1,h2,h3⟩:=h;exact⟨A,B,h1.Ld p y',h2,h3⟩
 |_,_, .snd p,_,_,_,y',h=>by
  obtain⟨A,B,h1,h2,h3⟩:=h;exact⟨A,B,h1,h2.Ld p y',h3⟩
def rH(m:Nat->Prop)(Ss:Nat->Nat->Prop)(c:Nat)(k:Nat):Prop:=m k\/∃i,i<c/\Ss i k
def oE.less{Ss:Nat->Nat->Prop}{c:Nat}{m S:Nat->Prop}(h:oE Ss c m S)(j:Nat){B:Nat->Prop}(hB:∀k,B k->Ss j k):oE (λi=>if i=j then B else Ss i) c m (rH m (λi=>if i=j then B else Ss i) c):=by
 have sub:∀i k,(if i=j then B else Ss i) k->Ss i k:=by
  intro i k hk;by_cases e:i=j
  .grind
  .rwa [ai e]at hk
 exact⟨λk=>Iff.rfl,λi i' k h1 h2 du h3 h4=>h.two i i' k h1 h2 du (sub i k h3) (sub i' k h4),λi k h1 h2=>h.out i k h1 (sub i k h2)⟩
def oE.Ci{Ss:Nat->Nat->Prop}{c:Nat}{m S:Nat->Prop}(h:oE Ss c m S)(j:Nat){B:Nat->Prop}(hB:∀k,B k->Ss j k):∀k,rH m (λi=>if i=j then B else Ss i) c k->S k:=by
 rintro k (hk|⟨i,hi,hk⟩)
 .exact h.bF k hk
 .by_cases e:i=j
  .subst e;rw[aj rfl]at hk;exact h.part hi k (hB k hk)
  .rw[ai e]at hk;exact h.part hi k hk
def NW{α β:Type}{rel:Nat->α->β->(Nat->Prop)->Prop}{lh:List α}{l:List β}{Ss:Nat->Nat->Prop}{j:Nat}{x':α}{x:β}{B:Nat->Prop}(h:∀i(h1:i<lh.length)(h2:i<l.length),i≠j->rel i lh[i] l[i] (Ss i))(hj:rel j x' x B):
 ∀i(h1:i<(lh.set j x').length)(h2:i<(l.set j x).length),rel i (lh.set j x')[i] (l.set j x)[i] ((λi=>if i=j then B else Ss i) i):=by
 grind
def aK.vA{H:aK}{n:Nat}{S:Nat->Prop}{t:Th}(h:H.con n=ae):H.le ((H.fB n S).bR n t):=(aK.Ip h).trans (aK.gD h)
def mP.Ak(hs:aL U H F w ob n){o s:Nat}{t t':Th}{v0:Value}(ho:ob o=aa (s,t))(hv:H.val o=aa v0)(hb:t'.base=t'){eat:List Nat}(hoe:o∈eat)(S':Nat->Prop)(Np:∀k,fp S' v0 t' k->cC H ob eat k){D:aI}{v:Value}
 (bW:Ext (cC H ob eat) w w')(sq:jV ((H.fB n S').bR n t') F w' S' v0 t')(hd:aG ((H.fB n S').bR n t') F w' D v):lV H F w ob n {dst:=D,eat:=eat,make:=[(o,(n,t'))]} v w':=by
 obtain⟨v1,vj,cP⟩:=hs.obj _ _ _ ho;rw[hv]at vj;obtain rfl:=aiF vj;have hf:=hs.fresh n (aiM _) (by omega)
 have iA:((H.fB n S').bR n t').sub n=S':=by simp[aK.bR,aK.fB]
 refine⟨(H.fB n S').bR n t',F,⟨aK.vA hf.2,bW,λ_ h=>h,λ_ h=> .inl h,λb hb=>ai4 (hs.lt b hb) bW.size⟩,λm hm=>?_,hd,⟨λo' s' q hq=>?_,λo1 o2 s1 s2 q1 q2 u1 u2 du h1 h2=>?_⟩,λo' h=>?_⟩
 .refine⟨id,λh=>?_⟩;simp[aK.bR,aK.fB,show m≠n from by omega,h]
 .obtain⟨rfl,e⟩:=dX hq;obtain⟨rfl,rfl⟩:=aj5 e;refine⟨v0,hv,cP.one,by simp[aK.bR,hb],by rw[iA];exact sq,λk hk=>?_⟩;rw[iA]at hk;have:=Np k hk;exact⟨hs.je k this,ai4 (hs.vQ k this) bW.size, .inr this⟩
 all_goals grind [dX,ai8]
def rI(T:bk P)(ob:Nat->Option (Nat×Th))(n:Nat)(t:TypeId)(D:aI)(k:eB->Option R):Option R:=
 match find T.und t with
 |none=>ae
 |some kk=>match D with
  | .dlm o d0 i p off=>match ob o with
    |some (_, .deep T0 dr l h)=>bif d0.beq dr then(match dr.path p with
     |some ⟨.leaf r,q⟩=>bif aiK q.lo.off off&&nB T t kk r.size then(idx l i).bind λx=>k {dst:= .val (l4 kk) (.leaf r (q.hi.get x))}else ae
     |some ⟨.sl T' e',q⟩=>bif aiK q.lo.off off&&nB T t kk 1&& !l4 kk then(match h with
       |none=>(idx l i).bind λx=>k {dst:= .val ag (.own n),eat:=[o],make:=[(o,(n, .deep T0 dr l (aa ⟨i,p,n,n+1⟩))),(n,(n+1,ID T' e' (q.hi.get x)))]}
       |some hh=>bif pe hh.p p then(if decide (hh.i=i)=af then(idx l i).bind λ_=>k {dst:= .val ag (.own hh.o)}else ae)else ae)else ae
     |_=>ae)else ae
    |_=>ae
  |_=>ae
def Cj(hs:aL U H F w ob n){o s:Nat}{T0 T':TypeId}{dr e':DR}{l:List dr.row.den}{i:Int}{p:List Bool}{q:gB dr (.sl T' e')}(hq:dr.path p=aa ⟨_,q⟩)(cH:ob o=aa (s, .deep T0 dr l ae)){v:Value}(hv:H.val o=aa v)
 {j:Nat}(TA:i=(j:Nat))(hj:j<l.length){lh:List dr.low.den}{Ss:Nat->Nat->Prop}(hm:lU F w T0 dr.low v lh)(hlen:lh.length=l.length)(wk:∀i(h1:i<lh.length)(h2:i<l.length),pd H F w dr ae i lh[i] l[i] (Ss i))(dW:oE Ss l.length (bF v) (H.sub s)):
 lV H F w ob n {dst:= .val ag (.own n),eat:=[o],make:=[(o,(n, .deep T0 dr l (aa ⟨i,p,n,n+1⟩))),(n,(n+1,ID T' e' (q.hi.get l[j])))]} (q.lo.get (lh[j]'(by omega))) w:=by
 have PL:j<lh.length:=by omega
 obtain⟨v1,vj,cP⟩:=hs.obj _ _ _ cH;rw[hv]at vj;obtain rfl:=aiF vj;obtain⟨A,B,hA,hB,h2⟩:=lk.out q (wk j PL hj);obtain⟨_,m2,m3⟩:=tN (H:=H) hA;have TB:∀k,B k->Ss j k:=h2.right;obtain⟨f1,f2⟩:=hs.fresh n (aiM _) (by omega);obtain⟨f3,f4⟩:=hs.fresh (n+1) (by omega) (by omega)
 have Ni:o≠n:=λe=>by grind
 generalize Xl:Th.deep T0 dr l (aa ⟨i,p,n,n+1⟩)=t1;generalize Ug:ID T' e' (q.hi.get l[j])=t2;generalize hu:q.lo.get lh[j]=u;generalize Yj:rH (bF v) (λi=>if i=j then B else Ss i) l.length=So
 have Yk:∀k,So k->H.sub s k:=by rw[<-Yj];exact dW.Ci j TB
 have NX:∀k,A k->H.sub s k:=λk hk=>dW.part hj k (h2.left k hk)
 have hAo:∀k,So k->¬A k:=by
  rw[<-Yj]
  rintro k (hk|⟨i',pJ,hk⟩) ha
  .exact dW.out j k hj (h2.left k ha) hk
  .by_cases e:i'=j
   .subst e;rw[aj rfl]at hk;exact h2.off k ha hk
   .rw[ai e]at hk;exact dW.two i' j k pJ hj e hk (h2.left k ha)
 let H1:aK:=⟨λm=>if m=n then aa u else H.val m,λm=>if m=n then aa t1 else if m=n+1 then aa t2 else H.con m,λm=>if m=n then So else if m=n+1 then A else H.sub m⟩
 have hle:H.le H1:=by
  refine⟨λo v ho=>?_,λs t gq=>?_,λs t gq=>?_⟩
  .grind
  .grind
  .grind
 have Al:H1.val n=aa u:=by simp[H1]
 have l5:∀k,H.sub s k->cC H ob [o] k:=λk hk=>⟨o,by simp,s,_,v,cH,hv,hk⟩
 have lT:u.oneCell'=af:=by rw[<-hu];exact m3
 refine⟨H1,F,⟨hle,⟨rfl,rfl,rfl,aiM _,λ_ _ _=>rfl⟩,λ_ h=>h,λ_ h=> .inl h,hs.lt⟩,λm hm=>?_,nR Al lT,⟨λo' s' t hf=>?_,λo1 o2 s1 s2 q1 q2 u1 u2 du g1 g2 e1 e2 k hk iK=>?_⟩,λo' jS=>?_⟩
 .grind
 .rw[ba]at hf;split at hf
  .rename_i e;subst e;simp only[aiO,Prod.mk.injEq]at hf;obtain⟨rfl,rfl⟩:=hf
   have Eb:H1.sub n=So:=by simp[H1]
   refine⟨v,hle.val _ _ hv,cP.one,?_,?_,λk hk=>?_⟩
   .rw[<-Xl];simp[H1,Th.base,Xl]
   .rw[Eb,<-Xl,<-Yj];refine⟨lh,_,hm,hlen,λi' a b=>?_,dW.less j TB⟩;have hr:lk F w dr lh[i'] l[i'] (Ss i'):=wk i' a b;refine⟨λhi=>?_,λhi=>?_⟩
    all_goals grind
   .rw[Eb,<-Xl]at hk;have hk:So k:=hk;have:=Yk k hk;exact⟨cP.no k this,cP.lt k this, .inr (l5 k this)⟩
  .obtain⟨e0,e⟩:=dX hf;obtain⟨rfl,rfl⟩:=aj5 e;rw[e0]
   have Eb:H1.sub (n+1)=A:=by simp[H1]
   obtain⟨m1,m2',_⟩:=tN (H:=H1) hA;rw[Ug,hu]at m1 m2';refine⟨u,Al,lT,?_,by rw[Eb];exact m1,λk hk=>?_⟩
   .rw[<-Ug,wh,Ug];simp[H1]
   .rw[Eb]at hk;have:=NX k (m2' k hk);exact⟨cP.no k this,cP.lt k this, .inr (l5 k this)⟩
 all_goals grind [fp,find,ba]
def Am{α β:Type}{l:List α}{lh:List β}(h:lh.length=l.length){i:Int}{x:α}(hi:idx l i=aa x):∃j,i=(j:Nat)/\∃(h1:j<lh.length)(h2:j<l.length),x=l[j]/\idx lh i=aa lh[j]:=by
 grind [idx]
def IF(T:bk P){t:TypeId}{D:aI}{x:Operand}{k:eB->Option R}{q:R}(h:rI T ob n t D k=aa q)(hs:aL U H F w ob n)(hx:aG H F w D (ev ρ x)):
 ∃e,k e=aa q/\cK P U H F w ρ ob n ⟨aa d, .load t x,ty,pos,aft,ae⟩ e:=by
 unfold rI at h;split at h
 .cases h
 rename_i kk hu;split at h
 case h_2=>cases h
 rename_i o d0 i p off;split at h
 case h_2=>cases h
 rename_i s T0 dr l hh cH;obtain⟨hd,h'⟩:=bf h;clear h;obtain rfl:=DR.eq_of_beq hd;obtain⟨g,o0,qq,m,cap,e1,e2,e5⟩:=hx;obtain⟨lh,Ss,ed,hlen,wk,dW⟩:=hs.low cH e1;split at h'
 .rename_i r yG Ae;obtain⟨h1,h2⟩:=bf h';obtain⟨h1,h3⟩:=dc h1;obtain rfl:=beq_true h1;obtain⟨a,ha,hk⟩:=bind_some h2;obtain⟨j,hj,g1,g2,rfl,pY⟩:=Am hlen ha;have xS:=(ed.at rfl e2 pY).path yG.lo _ rfl;rw[Lc yG (wk j g1 g2)]at xS;obtain⟨es,hl,NL,hr⟩:=xS;exact⟨_,hk,oG T hu e5 hs (s:= .leaf r _) hr NL (la T h3)⟩
 .rename_i T' e' yG Ae;obtain⟨h1,h2⟩:=bf h';obtain⟨h1,h4⟩:=dc h1;obtain⟨h1,h3⟩:=dc h1;obtain rfl:=beq_true h1
  have xY:l4 kk=ag:=by simpa using h4
  obtain⟨dd,xK,xL⟩:=(T.und_ok _ _ hu).agg
  have run:∀{j:Nat}(g1:j<lh.length),idx lh i=aa lh[j]->(execOp (ev ρ) ⟨aa d, .load t x,ty,pos,aft,ae⟩).run P w= .ok (.value (yG.lo.get lh[j])) w:=by
   intro j g1 pY;have xS:=(ed.at rfl e2 pY).path yG.lo _ rfl;obtain⟨es,hl,NL,hr,_⟩:=xS;rw[hr]at NL;exact yy xK (xL.trans xY) e5 (NL 0 _ rfl)
  split at h2
  .obtain⟨a,ha,hk⟩:=bind_some h2;obtain⟨j,hj,g1,g2,rfl,pY⟩:=Am hlen ha;exact⟨_,hk,cz.val (run g1 pY) (Cj hs Ae cH e1 hj g2 ed.2 hlen wk dW)⟩
  .rename_i hh;obtain⟨hp,h3⟩:=bf h2;have hp:=rF hp;split at h3
   case isFalse=>cases h3
   rename_i hi;have hi:hh.i=i:=an hi;obtain⟨a,ha,hk⟩:=bind_some h3;obtain⟨j,hj,g1,g2,rfl,pY⟩:=Am hlen ha;obtain⟨T'',e'',q'',k1,_,k3⟩:=(wk j g1 g2).2 (hi.trans hj);rw[hp,Ae]at k1;cases k1;refine⟨_,hk,cq hs (run g1 pY) (nR k3 ?_)⟩;have xS:=(ed.at rfl e2 pY).path yG.lo _ rfl;obtain⟨es,_,_,_,A,m',c,Af⟩:=xS;rw[Af];rfl
 .cases h'
def QZ(T:TypeId):(e:DR)->Th->Option (List e.row.den)
 | .leaf r, .own T1 r1 y=>bif aiK T1 T then(if h:r1.beq r=af then aa (jT (r:= .slice r1) (s:= .slice r) (ay Row.slice (Row.eq_of_beq h)) y)else ae)else ae
 | .sl T2 e2, .deep T1 (.sl T3 e3) y ae=>bif aiK T1 T then(if h:(DR.sl T3 e3).beq (.sl T2 e2)=af then aa (DR.eq_of_beq h▸y)else ae)else ae
 | .pair a b, .deep T1 (.pair a1 b1) y ae=>bif aiK T1 T then(if h:(DR.pair a1 b1).beq (.pair a b)=af then aa (DR.eq_of_beq h▸y)else ae)else ae
 |_,_=>ae
def wm{T:TypeId}{e:DR}{t:Th}{y:List e.row.den}(h:QZ T e t=aa y):t=ID T e y:=by
 unfold QZ at h;split at h
 .obtain⟨h1,h2⟩:=bf h;split at h2
  .rename_i hb;obtain rfl:=Row.eq_of_beq hb;obtain rfl:=aiF h2;rw[beq_true h1];rfl
  .cases h2
 .obtain⟨h1,h2⟩:=bf h;split at h2
  .rename_i hb;cases DR.eq_of_beq hb;obtain rfl:=aiF h2;rw[beq_true h1];rfl
  .cases h2
 .obtain⟨h1,h2⟩:=bf h;split at h2
  .rename_i hb;cases DR.eq_of_beq hb;obtain rfl:=aiF h2;rw[beq_true h1];rfl
  .cases h2
 .cases h
def An(h:Option vP)(i:Int)(p:List Bool):Bool:=
 match h with
 |none=>af
 |some h=>pe h.p p&&decide (h.i=i)
def Ck{h:Option vP}{i:Int}{p:List Bool}(hh:An h i p=af){dr e:DR}{T:TypeId}{q:gB dr (.sl T e)}(hq:dr.path p=aa ⟨_,q⟩){j:Nat}(hj:i=(j:Nat)){x':dr.low.den}{x:dr.row.den}{S:Nat->Prop}(hr:pd H F w dr h j x' x S):
 ∃B,(∀k,B k->S k)/\ot F w q x' x B:=by
 cases h with
 |none=>
  obtain⟨A,B,_,h2,h3⟩:=lk.out q (show lk F w dr x' x S from hr);exact⟨B,h3.right,h2⟩
 |some h=>
  have h':(pe h.p p&&decide (h.i=i))=af:=hh;obtain⟨h1,h2⟩:=dc h';obtain⟨T',e',q',k1,k2,_⟩:=hr.2 ((an h2).trans hj)
  grind [rF]
def wo{h:Option vP}{i:Int}{p:List Bool}(hh:An h i p=af){dr:DR}{j:Nat}(hj:i≠(j:Nat)){x':dr.low.den}{x:dr.row.den}{S:Nat->Prop}(hr:pd H F w dr h j x' x S):lk F w dr x' x S:=by
 cases h with
 |none=>exact hr
 |some h=>
  have h':(pe h.p p&&decide (h.i=i))=af:=hh;obtain⟨h1,h2⟩:=dc h';exact hr.1 (by grind)
end
end
end Go.Proofs.YtleifhfeahnocaaGreatDoor
section
open _root_.Option renaming none->ae,some->aa
open _root_.Bool renaming true->af
open _root_.Int renaming toNat_natCast->aiL
open _root_.Nat renaming beq->aiK,le_refl->aiM
open _root_.Option.some renaming inj->aiF
open _root_.Go.Value renaming ownBlock->aiT
namespace Go.Proofs.YtleifhfeahnocaaGreatDoor
open Go Go.RowKit
section
variable {P:Program} {ρ:Nat->Value} {w w':World} {H H':aK} {F F':Nat->Prop} {U:Nat->Prop} {ob:Nat->Option (Nat×Th)} {n:Nat} {R:Type}
variable {op:Op} {ty:TypeId} {pos:String} {aft:Array Edge} {d:Nat}
noncomputable def qL(T:bk P)(ob:Nat->Option (Nat×Th))(n:Nat)(t:TypeId)(D V:aI)(k:eB->Option R):Option R:=
 match find T.row t with
 |none=>ae
 |some rt=>match V with
  | .val _ u=>match D with
    | .dlm o d0 i p off=>match ob o with
      |some (_, .deep T0 dr l h)=>bif d0.beq dr then(match dr.path p with
       |some ⟨.leaf r,q⟩=>bif aiK q.lo.off off&&aiK rt.size r.size then(match flat ob r u with
        |some y=>(idx l i).bind λx=>k {dst:= .dead,eat:=[o],make:=[(o,(n, .deep T0 dr (b8 l i (q.hi.set x y)) h))]}
        |none=>ae)else ae
       |some ⟨.sl T' e',q⟩=>bif aiK q.lo.off off&&aiK rt.size 1 then(match u with
        | .own o1=>match ob o1 with
          |some (_,t1)=>match QZ T' e' t1 with
           |some _=>if An h i p=af then(idx l i).bind λ_=>k {dst:= .dead,eat:=[o],make:=[(o,(n, .deep T0 dr l (aa ⟨i,p,o1,n⟩)))]}else ae
           |none=>ae
          |none=>ae
        | .nil=>if An h i p=af then(idx l i).bind λx=>k {dst:= .dead,eat:=[o],make:=[(o,(n, .deep T0 dr (b8 l i (q.hi.set x ([]:List e'.row.den))) ae))]}else ae
        |_=>ae)else ae
       |_=>ae)else ae
      |_=>ae
    |_=>ae
  |_=>ae
def rJ(T:bk P){t:TypeId}{rt:Row}(K2:find T.row t=aa rt){x y:Operand}{o s:Nat}{T0:TypeId}{dr e:DR}{i:Int}{l l':List dr.row.den}{h h':Option vP}{q:gB dr e}{g o0 qq m cap j:Nat}{u:e.low.den}{cs:List Value}{x1:dr.row.den}
 (hs:aL U H F w ob n)(cH:ob o=aa (s, .deep T0 dr l h))(hv:H.val o=aa (.slice (aa ⟨g,o0,ae⟩) m cap))(hj:i=(j:Nat))(EG:j<l.length)(hx:ev ρ x= .pointer (aa ⟨g,o0+qq*dr.low.size+q.lo.off,ae⟩))(hqq:i=(qq:Nat))(hz:rt.size=e.low.size)
 (hr:cG F w e.low cs u)(yH:(ev ρ y).cells.toList=cs)(hl':l'=l.set j x1)
 (wk:∀{w':World}{H1:aK},H.le H1->Step F w F w'->∀{x':dr.low.den}{S:Nat->Prop},(∀k,S k->w'.heap[k]? =w.heap[k]?)->pd H F w dr h j x' l[j] S->∃B,(∀k,B k->S k)/\pd H1 F w' dr h' j (q.lo.set x' u) x1 B)
 (NY:∀{H1:aK}{w':World}{i':Nat}{x':dr.low.den}{x:dr.row.den}{S:Nat->Prop},i'≠j->pd H1 F w' dr h i' x' x S->pd H1 F w' dr h' i' x' x S):
 cK P U H F w ρ ob n ⟨ae, .store t x y,ty,pos,aft,ae⟩ {dst:= .dead,eat:=[o],make:=[(o,(n, .deep T0 dr l' h'))]}:=by
 obtain⟨ti,z0,h1,_,_,h4,_⟩:=T.row_ok _ _ K2;obtain⟨lh,Ss,ed,hlen,PM,dW⟩:=hs.low cH hv;obtain⟨v1,vj,cP⟩:=hs.obj _ _ _ cH;rw[hv]at vj;obtain rfl:=aiF vj
 have hjh:j<lh.length:=by omega
 obtain rfl:qq=j:=by omega
 obtain⟨cur,hh,hle,bW,gP⟩:=ed.put rfl hjh hs.lt q.lo hr;generalize Yl:w.setRow g (cur.toList.take (o0+qq*dr.low.size+q.lo.off)++cs++cur.toList.drop (o0+qq*dr.low.size+q.lo.off+cs.length)).toArray=w' at bW gP;refine cz.unit (w':=w') (by rw[<-Yl];exact pc h1 (h4.trans (hz.trans hr.length.symm)) hx rfl yH hr.kw hh hle) ?_;have gq:Step F w F w':=Step.ext bW hs.lt ed.no
 have NZ:∀i',i'<l.length->∀k,Ss i' k->w'.heap[k]? =w.heap[k]? :=λi' pJ k hk=>bW.block k (cP.lt k (dW.part pJ k hk)) (dW.out i' k pJ hk)
 have hf:=hs.fresh n (aiM _) (by omega)
 have l5:∀k,H.sub s k->cC H ob [o] k:=λk hk=>⟨o,by simp,s,_,_,cH,hv,hk⟩
 obtain⟨B0,Kb,_⟩:=wk (w':=w') (H1:=H) (aK.le.refl H) gq (NZ qq EG) (PM qq hjh EG)
 have main:∀{H1:aK},H.le H1->∃B,(∀k,B k->Ss qq k)/\pd H1 F w' dr h' qq (q.lo.set lh[qq] u) x1 B:=(by grind)
 have Uh:∃B,(∀k,B k->Ss qq k)/\∀{H1:aK},H.le H1->pd H1 F w' dr h' qq (q.lo.set lh[qq] u) x1 B:=by
  obtain⟨B,b1,b2⟩:=main (aK.le.refl H);exact⟨B,b1,λN0=>b2.keep N0 (Step.refl F w') λ_ _=>rfl⟩
 obtain⟨B,b1,b2⟩:=Uh;have hSs:∀k,rH (bF (Value.slice (aa ⟨g,o0,ae⟩) m cap)) (λi=>if i=qq then B else Ss i) l.length k->H.sub s k:=dW.Ci qq b1;refine mP.Ak (t':= .deep T0 dr l' h') hs cH hv rfl (by simp) (rH (bF (Value.slice (aa ⟨g,o0,ae⟩) m cap)) (λi=>if i=qq then B else Ss i) l.length) (λk hk=>l5 k (hSs k hk)) ⟨bW.os,bW.tape,bW.output,bW.size,λk hk hn=>bW.block k hk λe=>hn (l5 k (dW.bF k e))⟩ ?_ trivial;have N0:=aK.vA (H:=H) (S:=rH (bF (Value.slice (aa ⟨g,o0,ae⟩) m cap)) (λi=>if i=qq then B else Ss i) l.length) (t:= .deep T0 dr l' h') hf.2
 have wg:l'.length=l.length:=by rw[hl'];simp
 refine⟨lh.set qq (q.lo.set lh[qq] u),(λi=>if i=qq then B else Ss i),gP.2,by grind,?_,?_⟩
 .intro i' a b
  have:=NW (rel:=pd ((H.fB n (rH (bF (Value.slice (aa ⟨g,o0,ae⟩) m cap)) (λi=>if i=qq then B else Ss i) l.length)).bR n (.deep T0 dr l' h')) F w' dr h') (lh:=lh) (l:=l) (Ss:=Ss) (j:=qq) (x':=q.lo.set lh[qq] u) (x:=x1) (B:=B)
   (λi2 c1 c2 du=>NY du ((PM i2 c1 c2).keep N0 gq (NZ i2 c2))) (b2 N0) i' a (by simpa[hl']using b)
  grind
 .rw[wg];exact dW.less qq b1
def EH(T:bk P){t:TypeId}{D V:aI}{x y:Operand}{k:eB->Option R}{q:R}(h:qL T ob n t D V k=aa q)(hs:aL U H F w ob n)(hx:aG H F w D (ev ρ x))(hy:aG H F w V (ev ρ y)):
 ∃e,k e=aa q/\cK P U H F w ρ ob n ⟨ae, .store t x y,ty,pos,aft,ae⟩ e:=by
 unfold qL at h;split at h
 .cases h
 rename_i rt K2;split at h
 case h_2=>cases h
 rename_i agg u;split at h
 case h_2=>cases h
 rename_i o d0 i p off;split at h
 case h_2=>cases h
 rename_i s T0 dr l hh cH;obtain⟨hd,h'⟩:=bf h;clear h;obtain rfl:=DR.eq_of_beq hd;obtain⟨g,o0,qq,m,cap,e1,e2,e5⟩:=hx;obtain⟨cs,rB,yH⟩:=aW.cells hy;split at h'
 .rename_i r yG Ae;obtain⟨h1,h2⟩:=bf h';obtain⟨h1,h3⟩:=dc h1;obtain rfl:=beq_true h1;split at h2
  case h_2=>cases h2
  rename_i z hz;obtain⟨a,ha,hk⟩:=bind_some h2;obtain⟨j,hj,EG,rfl⟩:=iz ha;refine⟨_,hk,rJ (l':=b8 l i (yG.hi.set l[j] z)) (x1:=yG.hi.set l[j] z) (u:=z) T K2 hs cH e1 hj EG e5 e2 (beq_true h3) (jF hs hz rB) yH ?_ ?_ ?_⟩
  .unfold b8;rw[hj,aiL]
  .intro w' H1 hle gq x' S hb hr;exact⟨S,λ_ h=>h,IE yG z (hr.keep hle gq hb)⟩
  grind
 .rename_i T' e' yG Ae;obtain⟨h1,h2⟩:=bf h';obtain⟨h1,h3⟩:=dc h1;obtain rfl:=beq_true h1;split at h2
  .rename_i o1;split at h2
   case h_2=>cases h2
   rename_i s1 t1 p6;split at h2
   case h_2=>cases h2
   rename_i y1 hD;split at h2
   case isFalse=>cases h2
   rename_i uF;obtain⟨a,ha,hk⟩:=bind_some h2;obtain⟨j,hj,EG,rfl⟩:=iz ha;obtain⟨u1,D9,nC⟩:=hs.obj _ _ _ p6;obtain⟨v,hv,lT,rfl⟩:=rB;rw[D9]at hv;obtain rfl:=aiF hv
   have Ym:cG F w .lS [u1] u1:=by
    have:=nC.ok;rw[wm hD]at this;obtain⟨lh1,_,g1,_⟩:=wi this;obtain⟨xs,⟨_,hx⟩,_⟩:=g1
    rcases hx with⟨rfl,_⟩|⟨gg,o0,cp,cur,rfl,_⟩<;>exact⟨rfl,_,_,_,rfl⟩
   refine⟨_,hk,rJ (l':=l) (x1:=l[j]) (u:=u1) (e:= .sl T' e') T K2 hs cH e1 hj EG e5 e2 (beq_true h3) Ym yH ?_ ?_ ?_⟩
   .simp_all
   .intro w' H1 hle gq x' S hb hr;obtain⟨B,b1,b2⟩:=Ck uF Ae hj hr;refine⟨B,b1,λdu=>absurd hj du,λ_=>⟨T',e',yG,Ae,(b2.keep gq λk hk=>hb k (b1 k hk)).Ld yG u1,?_⟩⟩;rw[Path.Aj];exact hle.val _ _ D9
   .intro H1 w' i' x' x S du hr
    have Le:i≠(i':Int):=λe=>du (by omega)
    exact⟨λ_=>wo uF Le hr,λe=>absurd e Le⟩
  .split at h2
   case isFalse=>cases h2
   rename_i uF;obtain⟨a,ha,hk⟩:=bind_some h2;obtain⟨j,hj,EG,rfl⟩:=iz ha;have Yn:cs=_:=rB;subst Yn;refine⟨_,hk,rJ (x1:=yG.hi.set l[j] ([]:List e'.row.den)) (u:=Value.slice ae 0 0) (e:= .sl T' e') T K2 hs cH e1 hj EG e5 e2 (beq_true h3) ⟨rfl,_,_,_,rfl⟩ yH ?_ ?_ ?_⟩
   .unfold b8;rw[hj,aiL]
   .intro w' H1 hle gq x' S hb hr;obtain⟨B,b1,b2⟩:=Ck uF Ae hj hr;refine⟨B,b1,?_⟩;refine ot.put (e:= .sl T' e') yG (b2.keep gq λk hk=>hb k (b1 k hk)) (A:=λ_=>False) ?_ ⟨λk=>by simp,λ_ h=>h.elim⟩;exact⟨[],λ_ _=>False,lU.nil F w' T' e'.low,rfl,λi h=>absurd h (by simp),⟨λk=>by simp[bF,aiT],λ_ _ _ h=>absurd h (by simp),λ_ _ h=>absurd h (by simp)⟩⟩
   .intro H1 w' i' x' x S du hr
    have Le:i≠(i':Int):=λe=>du (by omega)
    exact wo uF Le hr
  .cases h2
 .cases h'
end
end Go.Proofs.YtleifhfeahnocaaGreatDoor
namespace Go.Proofs.YtleifhfeahnocaaGreatDoor
open Go Go.RowKit
def sD{α:Type}(l:List α)(i:Int)(f:α->α):List α:=if 0<=i then l.modify i.toNat f else l
def jh{α:Type}(l:List α)(i:Int)(f:α->α):(sD l i f).length=l.length:=by unfold sD;split<;>simp
def vB{α:Type}{l:List α}{i:Int}{f:α->α}{j:Nat}(h:j<(sD l i f).length)(h':j<l.length):(sD l i f)[j]=if i=(j:Int)then f l[j]else l[j]:=by
 grind [sD]
def Path.Ao:{r s:Row}->(p:Path r s)->(x:r.den)->p.set x (p.get x)=x
 |_,_, .here,_=>rfl
 |_,_, .fst p,x=>by show(p.set x.1 (p.get x.1),x.2)=x;rw[Path.Ao p]
 |_,_, .snd p,x=>by show(x.1,p.set x.2 (p.get x.2))=x;rw[Path.Ao p]
section
variable {P:Program} {ρ:Nat->Value} {w w':World} {H H':aK} {F F':Nat->Prop} {U:Nat->Prop} {ob:Nat->Option (Nat×Th)} {n:Nat} {R:Type}
variable {op:Op} {ty:TypeId} {pos:String} {aft:Array Edge} {d:Nat}
def Lf(ob:Nat->Option (Nat×Th))(n o:Nat):Option eB:=
 match ob o with
 |some (_, .deep T0 dr l (aa h))=>match dr.path h.p with
  |some ⟨.sl T' e',q⟩=>match ob h.o with
   |some (_,t1)=>bif aiK h.o o then ae else(match QZ T' e' t1 with
    |some y=>aa {dst:= .dead,eat:=[o,h.o],make:=[(o,(n, .deep T0 dr (sD l h.i λx=>q.hi.set x y) ae))]}
    |none=>ae)
   |none=>ae
  |_=>ae
 |_=>ae
def IG(hs:aL U H F w ob n){o:Nat}{e:eB}(h:Lf ob n o=aa e):lV H F w ob n e undef w:=by
 unfold Lf at h;split at h
 case h_2=>cases h
 rename_i s T0 dr l hh cH;split at h
 case h_2=>cases h
 rename_i T' e' q hq;split at h
 case h_2=>cases h
 rename_i s1 t1 p6
 cases du:aiK hh.o o with
 |true=>rw[du]at h;cases h
 |false=>
  rw[du,cond_false]at h
  have du:o≠hh.o:=λe=>by simp_all
  split at h
  case h_2=>cases h
  rename_i y hD;obtain rfl:=aiF h;have hD:=wm hD;subst hD;obtain⟨v,hv,cP⟩:=hs.obj _ _ _ cH;obtain⟨u,hu,nC⟩:=hs.obj _ _ _ p6;obtain⟨lh,Ss,ed,hlen,wk,dW⟩:=hs.low cH hv;have hA:=wi nC.ok;generalize hAA:(λk=>fp (H.sub s1) u (ID T' e' y) k)=A at hA
  have Xm:∀k,A k->¬H.sub s k:=λk hk=>by
   rw[<-hAA]at hk
   exact λh2=>hs.apart _ _ _ _ _ _ _ _ du cH p6 hv hu k h2 hk
  have hf:=hs.fresh n (aiM _) (by omega)
  let Ui:Nat->Nat->Prop:=λi k=>Ss i k\/(hh.i=(i:Int)/\A k)
  have l5:∀k,H.sub s k\/A k->cC H ob [o,hh.o] k:=by
   rintro k (hk|hk)
   .exact⟨o,by simp,s,_,v,cH,hv,hk⟩
   .rw[<-hAA]at hk;exact⟨hh.o,by simp,s1,_,u,p6,hu,hk⟩
  have hS:∀k,rH (bF v) Ui l.length k->H.sub s k\/A k:=by
   rintro k (hk|⟨i,hi,hk|hk⟩)
   .exact .inl (dW.bF k hk)
   .exact .inl (dW.part hi k hk)
   .exact .inr hk.2
  refine mP.Ak (t':= .deep T0 dr (sD l hh.i λx=>q.hi.set x y) ae) hs cH hv rfl (by simp) (rH (bF v) Ui l.length) (λk hk=>l5 k (hS k hk)) ⟨rfl,rfl,rfl,aiM _,λ_ _ _=>rfl⟩ ?_ trivial;have wg:(sD l hh.i λx=>q.hi.set x y).length=l.length:=jh ..;refine⟨lh,Ui,ed.2,by rw[wg];exact hlen,λi a b=>?_,?_⟩
  .have b':i<l.length:=by omega
   rw[vB b b'];have hr:=wk i a b'
   by_cases hi:hh.i=(i:Int)
   .rw[aj hi];obtain⟨T'',e'',q'',k1,k2,k3⟩:=hr.2 hi;rw[hq]at k1;cases k1;rw[hu]at k3;have k3:=aiF k3;have:lk F w dr (q.lo.set lh[i] u) (q.hi.set l[i] y) (Ui i):=k2.put q hA ⟨(by grind),λk hk h2=>Xm k hk (dW.part b' k h2)⟩;rw[k3,Path.Ao]at this;exact this
   .rw[ai hi];have Yo:=hr.1 hi
    have:Ui i=Ss i:=by
     funext k;exact(by grind)
    rw[this];exact Yo
  .rw[wg];refine⟨λk=>Iff.rfl,λi j k h1 h2 TA h3 h4=>?_,λi k h1 h3 h4=>?_⟩
   .rcases h3 with h3|h3<;>rcases h4 with h4|h4
    .exact dW.two i j k h1 h2 TA h3 h4
    .exact Xm k h4.2 (dW.part h1 k h3)
    .exact Xm k h3.2 (dW.part h2 k h4)
    grind
   .rcases h3 with h3|h3
    .exact dW.out i k h1 h3 h4
    .exact Xm k h3.2 (dW.bF k h4)
end
end Go.Proofs.YtleifhfeahnocaaGreatDoor
end
namespace Go.Proofs.YtleifhfeahnocaaGreatDoor
open Go Go.RowKit
set_option maxRecDepth 100000
set_option linter.unusedSimpArgs false
set_option linter.unusedVariables false
set_option linter.defProp false
section
def DR.dF:(d:DR)->d.low.dF=d.row.dF
 | .leaf _=>rfl
 | .sl _ _=>rfl
 | .pair a b=>by show a.low.dF++b.low.dF=a.row.dF++b.row.dF;rw[a.dF,b.dF]
def TI.low{P:Program}{e:TypeId}{d:DR}(h:TI P e d.row):TI P e d.low:=by
 obtain⟨ti,z,h1,h2,h3,h4,h5⟩:=h;exact⟨ti,z,h1,h2,by rw[d.dF];exact h3,by rw[d.size];exact h4,h5⟩
def EI:List Nat->Bool
 |[]=>af
 |o::l=> !l.any (aiK o)&&EI l
def yL:{l:List Nat}->EI l=af->l.Nodup
 |[],_=>List.nodup_nil
 |o::l,h=>by
  obtain⟨h1,h2⟩:=dc h;refine List.nodup_cons.2 ⟨λhm=>?_,yL h2⟩;rw[any_beq.2 hm]at h1;cases h1
def DR.mk2:DR->DR->DR
 | .leaf a, .leaf b=> .leaf (.pair a b)
 |a,b=> .pair a b
def Q0(ob:Nat->Option (Nat×Th)):Row->Tree->DR
 | .slice e, .own o=>match ob o with
   |some (_, .own T r _)=> .sl T (.leaf r)
   |some (_, .deep T d _ ae)=> .sl T d
   |_=> .leaf (.slice e)
 | .pair a b,t=>match t.split with
   |some (x,y)=>DR.mk2 (Q0 ob a x) (Q0 ob b y)
   |none=> .leaf (.pair a b)
 |r,_=> .leaf r
def EJ(ob:Nat->Option (Nat×Th)):(d:DR)->Tree->Option (d.row.den×List Nat)
 | .leaf r,t=>match flat ob r t with
   |some x=>aa (x,[])
   |none=>ae
 | .sl T e, .own o=>match ob o with
   |some (_,t1)=>match QZ T e t1 with
    |some y=>aa (y,[o])
    |none=>ae
   |none=>ae
 | .sl _ _, .nil=>aa ([],[])
 | .sl _ _,_=>ae
 | .pair a b,t=>match t.split with
   |some (x,y)=>match EJ ob a x with
    |some (u,os)=>match EJ ob b y with
     |some (v,N1)=>aa ((u,v),os++N1)
     |none=>ae
    |none=>ae
   |none=>ae
def GH(ob:Nat->Option (Nat×Th))(d:DR):List aI->Option (List d.row.den×List Nat)
 |[]=>aa ([],[])
 | .val _ u::l=>match EJ ob d u with
   |some (x,os)=>match GH ob d l with
    |some (xs,N1)=>aa (x::xs,os++N1)
    |none=>ae
   |none=>ae
 |_::_=>ae
section
variable {P:Program} {ρ:Nat->Value} {w w':World} {H H':aK} {F F':Nat->Prop} {U:Nat->Prop} {ob:Nat->Option (Nat×Th)} {n:Nat} {R:Type}
variable {op:Op} {ty:TypeId} {pos:String} {aft:Array Edge} {d:Nat}
def uG(hs:aL U H F w ob n){os N1:List Nat}(hd:∀o,o∈os->o∉N1):∀k,cC H ob os k->¬cC H ob N1 k:=by
 rintro k ⟨o,ho,s,t,v,h1,h2,h3⟩ ⟨o',jS,s',t',v',g1,g2,g3⟩
 exact hs.apart o o' s s' t t' v v' (λe=>hd o ho (e▸jS)) h1 g1 h2 g2 k h3 g3
theorem qM{os N1:List Nat}(h:∀o,o∈os->o∈N1):∀k,cC H ob os k->cC H ob N1 k:=λ_ ⟨o,ho,rest⟩=>⟨o,h o ho,rest⟩
def Aq(hs:aL U H F w ob n):{d:DR}->{t:Tree}->{x:d.row.den}->{os:List Nat}->{cs:List Value}->EJ ob d t=aa (x,os)->Holds H F w t cs->os.Nodup->∃x' S,cG F w d.low cs x'/\lk F w d x' x S/\∀k,S k->cC H ob os k
 | .leaf r,t,x,os,cs,h,hh,N2=>by
   unfold EJ at h
   split at h<;>cases h
   rename_i hf;exact⟨x,λ_=>False,jF hs hf hh,⟨rfl,λ_ h=>h⟩,λ_ h=>h.elim⟩
 | .sl T e, .own o,x,os,cs,h,hh,N2=>by
   unfold EJ at h;split at h
   case h_2=>cases h
   rename_i s1 t1 ho
   split at h<;>cases h
   rename_i hD;obtain⟨v,hv,_,rfl⟩:=hh;obtain⟨v',dZ,cP⟩:=hs.obj _ _ _ ho;rw[hv]at dZ;obtain rfl:=aiF dZ;have hD:=wm hD;subst hD;have hb:=wi cP.ok;refine⟨v,_,?_,hb,λk hk=>⟨o,by simp,s1,_,v,ho,hv,hk⟩⟩;obtain⟨lh1,_,⟨xs,⟨_,hx⟩,_⟩,_⟩:=hb
   rcases hx with⟨rfl,_⟩|⟨gg,o0,cp,cur,rfl,_⟩<;>exact⟨rfl,_,_,_,rfl⟩
 | .sl T e, .nil,x,os,cs,h,hh,_=>by
   cases h;have Xn:cs=_:=hh;subst Xn;exact⟨.slice ae 0 0,λ_=>False,⟨rfl,_,_,_,rfl⟩,⟨[],λ_ _=>False,lU.nil F w T e.low,rfl,λi h=>absurd h (by simp),⟨λk=>by simp[bF,aiT],λ_ _ _ h=>absurd h (by simp),λ_ _ h=>absurd h (by simp)⟩⟩,λ_ h=>h.elim⟩
 | .pair a b,t,x,os,cs,h,hh,hn=>by
   unfold EJ at h;split at h
   case h_2=>cases h
   rename_i t1 t2 tE;split at h
   case h_2=>cases h
   rename_i u os1 h1;split at h
   case h_2=>cases h
   rename_i v os2 h2;cases h;obtain⟨c1,c2,rfl,g1,g2,_⟩:=hh.split tE;obtain⟨n1,n2,n3⟩:=List.nodup_append.1 hn;obtain⟨x1,S1,r1,e1,s1⟩:=Aq hs h1 g1 n1;obtain⟨x2,S2,r2,e2,s2⟩:=Aq hs h2 g2 n2;refine⟨(x1,x2),λk=>S1 k\/S2 k,⟨c1,c2,rfl,r1,r2⟩,⟨S1,S2,e1,e2,λ_=>Iff.rfl,λk hk iK=>uG hs (λo ho jS=>n3 o ho o jS rfl) k (s1 k hk) (s2 k iK)⟩,λk hk=>hk.elim (λhk=>qM (λo ho=>by simp[ho]) k (s1 k hk)) λhk=>qM (λo ho=>by simp[ho]) k (s2 k hk)⟩
 | .sl _ _, .leaf _ _,_,_,_,h,_,_=>by cases h
 | .sl _ _, .pair _ _,_,_,_,h,_,_=>by cases h
 | .sl _ _, .view ..,_,_,_,h,_,_=>by cases h
def Cl(hs:aL U H F w ob n){d:DR}:{ds:List aI}->{l:List d.row.den}->{os:List Nat}->{vs:List Value}->GH ob d ds=aa (l,os)->fL H F w ds vs->os.Nodup->
 ∃(lh:List d.low.den)(Ss:Nat->Nat->Prop),vO F w d.low vs lh/\lh.length=l.length/\(∀i(h1:i<lh.length)(h2:i<l.length),lk F w d lh[i] l[i] (Ss i))/\(∀i k,i<l.length->Ss i k->cC H ob os k)/\∀i j k,i<l.length->j<l.length->i≠j->Ss i k->¬Ss j k
 |[],l,os,vs,h,hd,_=>by
  cases h;rw[show vs=[]from hd];exact⟨[],λ_ _=>False, .nil,rfl,λi h=>absurd h (by simp),λ_ _ h=>absurd h (by simp),λ_ _ _ h=>absurd h (by simp)⟩
 | .val _ u::ds,l,os,vs,h,hd,hn=>by
   obtain⟨v,us,rfl,h1,h2⟩:=hd;unfold GH at h;split at h
   case h_2=>cases h
   rename_i x os1 hf;split at h
   case h_2=>cases h
   rename_i xs os2 hg;cases h;obtain⟨cs,rB,yH⟩:=aW.cells h1;obtain⟨n1,n2,n3⟩:=List.nodup_append.1 hn;obtain⟨x',S,r1,e1,s1⟩:=Aq hs hf rB n1;obtain⟨lh,Ss,k1,k2,k3,k4,k5⟩:=Cl hs hg h2 n2
   have ap:∀i k,i<xs.length->S k->¬Ss i k:=λi k hi hk iK=>uG hs (λo ho jS=>n3 o ho o jS rfl) k (s1 k hk) (k4 i k hi iK)
   refine⟨x'::lh,λi=>match i with|0=>S|i+1=>Ss i, .cons yH r1 k1,by simp[k2],λi a b=>?_,λi k hi hk=>?_,λi j k hi hj du hk iK=>?_⟩
   .grind
   .cases i with
    |zero=>grind [qM]
    |succ i=>grind [qM]
   .cases i with
    |zero=>
     cases j<;>grind
    |succ i=>
     cases j<;>grind
 | .dead::_,_,_,_,h,_,_=>by cases h
 | .undef::_,_,_,_,h,_,_=>by cases h
 | .ptr .. ::_,_,_,_,h,_,_=>by cases h
 | .at .. ::_,_,_,_,h,_,_=>by cases h
 | .elem .. ::_,_,_,_,h,_,_=>by cases h
 | .tup _::_,_,_,_,h,_,_=>by cases h
 | .dlm .. ::_,_,_,_,h,_,_=>by cases h
 | .fn .. ::_,_,_,_,h,_,_=>by cases h
 | .ifc .. ::_,_,_,_,h,_,_=>by cases h
def mP.Q1(hs:aL U H F w ob n){eat:List Nat}{t:Th}{v0:Value}{S:Nat->Prop}(hb:t.base=t)(h1:v0.oneCell'=af){D:aI}{v:Value}
 (bW:Ext (cC H ob eat) w w')(sq:jV (((H.fB n S).bR n t).cE n v0) F w' S v0 t)(Np:∀k,fp S v0 t k->¬F k/\k<w'.heap.size/\(w.heap.size<=k\/cC H ob eat k))
 (hd:aG (((H.fB n S).bR n t).cE n v0) F w' D v):lV H F w ob n {dst:=D,eat:=eat,make:=[(n,(n,t))]} v w':=by
 have hf:=hs.fresh n (aiM _) (by omega)
 have iA:(((H.fB n S).bR n t).cE n v0).sub n=S:=by simp[aK.cE,aK.bR,aK.fB]
 refine⟨((H.fB n S).bR n t).cE n v0,F,⟨(aK.vA hf.2).trans (aK.qF (by simp[aK.bR,aK.fB,hf.1])),bW,λ_ h=>h,λ_ h=> .inl h,λb hb=>ai4 (hs.lt b hb) bW.size⟩,λm hm=>?_,hd,⟨λo' s' q hq=>?_,λo1 o2 s1 s2 q1 q2 u1 u2 du h1 h2=>?_⟩,λo' h=>?_⟩
 .simp[aK.bR,aK.cE,aK.fB,show m≠n from by omega]
 .obtain⟨rfl,e⟩:=dX hq;obtain⟨rfl,rfl⟩:=aj5 e;exact⟨v0,by simp[aK.cE],h1,by simp[aK.bR,aK.cE,hb],by rw[iA];exact sq,by grind⟩
 .grind [dX]
 .right
  obtain⟨y,hy⟩:=ai8.1 h
  grind [dX]
def Ar(ob:Nat->Option (Nat×Th))(r:Row):List aI->DR
 | .val _ u::_=>Q0 ob r u
 |_=> .leaf r
def p7(e:TypeId)(dr:DR)(ob:Nat->Option (Nat×Th))(n:Nat)(ds:List aI)(k:eB->Option R):Option R:=
 match GH ob dr ds with
 |some (l,os)=>bif EI os then k {dst:= .val ag (.own n),eat:=os,make:=[(n,(n,ID e dr l))]}else ae
 |none=>ae
def qN(T:bk P)(rd:Operand->Option aI)(ob:Nat->Option (Nat×Th))(n:Nat)(t:TypeId)(m:Nat)(parts:Array (Nat×Operand))(k:eB->Option R):Option R:=
 match find T.und t with
 |some (.slice e)=>match find T.row e with
  |some r=>bif GC 0 parts.toList&&aiK m parts.toList.length&&Nat.ble (m*r.size) 16777216 then
    (match sz rd (parts.toList.map (·.2))with
    |some ds=>bif (Ar ob r ds).row.beq r then p7 e (Ar ob r ds) ob n ds k else ae
    |none=>ae)else ae
  |none=>ae
 |_=>ae
def EK(T:bk P){rd:Operand->Option aI}(gE:∀x d,rd x=aa d->aG H F w d (ev ρ x)){t:TypeId}{m:Nat}{parts:Array (Nat×Operand)}{k:eB->Option R}{q:R}(h:qN T rd ob n t m parts k=aa q)(hs:aL U H F w ob n):
 ∃e,k e=aa q/\cK P U H F w ρ ob n ⟨aa d, .buildSlice t m parts,ty,pos,aft,ae⟩ e:=by
 unfold qN at h;split at h
 case h_2=>cases h
 rename_i e hu;split at h
 case h_2=>cases h
 rename_i r hr;obtain⟨c0,h8⟩:=bf h;clear h;obtain⟨c1,c3⟩:=dc c0;obtain⟨h1,c2⟩:=dc c1;have h2:=beq_true c2
 have h3:m*r.size<=16777216:=by simpa using c3
 clear c0 c1 c2 c3;split at h8
 case h_2=>cases h8
 rename_i ds xX;obtain⟨Uj,h⟩:=bf h8;clear h8;have lS:=Row.eq_of_beq Uj;clear Uj
 obtain⟨dr,PN⟩:∃dr,dr=Ar ob r ds:=⟨_,rfl⟩
 rw[<-PN]at h lS;clear PN;subst lS;unfold p7 at h;split at h
 case h_2=>cases h
 rename_i l os hl;obtain⟨hn,hk⟩:=bf h;clear h;obtain⟨lh,Ss,k1,k2,k3,k4,k5⟩:=Cl hs hl (oI gE xX) (yL hn)
 have hp:parts=(((parts.toList.map (·.2)).zipIdx).map λp=>(p.2,p.1)).toArray:=by
  rw[<-vZ h1,ajq]
 have hm:m=(parts.toList.map (·.2)).length:=by simpa using h2
 obtain⟨v,w',bG,bW,ed,Ey⟩:=vY (d:=d) (ty:=ty) (pos:=pos) (aft:=aft) (T.und_ok _ _ hu) (TI.low (T.row_ok _ _ hr)) hp (by rw[<-hm,DR.size];exact h3) k1 hs;rw[<-hm]at bG;refine⟨_,hk,cz.val bG ?_⟩
 have aH:∀i k,i<l.length->Ss i k->k<w.heap.size:=λi k hi hk=>hs.vQ k (k4 i k hi hk)
 have gq:Step F w F w':=λb hb=>⟨hb,(bW λ_=>False).block b (hs.lt b hb) λh=>h⟩
 have dW:oE Ss l.length (bF v) (rH (bF v) Ss l.length):=⟨λ_=>Iff.rfl,k5,(by grind)⟩
 have vd:lk F w' (.sl e dr) v l (rH (bF v) Ss l.length):=⟨lh,Ss,ed.2,k2,λi a b=>(k3 i a b).keep gq λk hk=>(bW λ_=>False).block k (aH i k b hk) λh=>h,dW⟩
 have Np:∀k,rH (bF v) Ss l.length k->¬F k/\k<w'.heap.size/\(w.heap.size<=k\/cC H ob os k):=by
  rintro k (hk|⟨i,hi,hk⟩)
  .exact⟨ed.1 k hk,ed.lt k hk, .inl (Ey k hk)⟩
  .have:=k4 i k hi hk;exact⟨hs.je k this,ai4 (hs.vQ k this) (bW λ_=>False).size, .inr this⟩
 refine mP.Q1 (S:=rH (bF v) Ss l.length) (v0:=v) hs (wh ..) (qG ed) (bW _) (tN vd).1 (λk hk=>Np k ((tN (H:=H) vd).2.1 k hk)) (nR (by simp[aK.cE]) (qG ed))
def As(T:bk P)(n:Nat)(t:TypeId)(same:Bool)(a b:Int)(k:eB->Option R):Option R:=
 match find T.und t with
 |some (.slice e)=>match find T.row e with
  |some (.slice r)=>match find T.und e with
   |some (.slice e')=>(bif same then pT a ([]:List r.den)else Tt a b ([]:List r.den)).bind λl=>k {dst:= .val ag (.own n),make:=[(n,(n, .deep e (.sl e' (.leaf r)) l ae))]}
   |_=>ae
  |_=>vX T n t same a b k
 |_=>ae
def yM{e e' t:TypeId}{r:Row}{a b:Int}(ht:P.underlying t=aa (.slice e))(xO:TI P e (.slice r))(hs:aL U H F w ob n){ka kb:IntKind}{x y:Operand}(hx:ev ρ x= .int ka a)(hy:ev ρ y= .int kb b)(h0:0<=a)(h1:a<=b)(h2:b<=4294967296):
 cK P U H F w ρ ob n ⟨aa d, .makeSlice t x y,ty,pos,aft,ae⟩ {dst:= .val ag (.own n),make:=[(n,(n, .deep e (.sl e' (.leaf r)) (aiN a.toNat ([]:List r.den)) ae))]}:=by
 obtain⟨v,w',bG,bW,ed,Ey⟩:=yI (d:=d) (ty:=ty) (pos:=pos) (aft:=aft) (r:= .lS) ht (TI.low (d:= .sl e' (.leaf r)) xO) hs hx hy h0 h1 h2
 have vd:lk F w' (.sl e (.sl e' (.leaf r))) v (aiN a.toNat ([]:List r.den)) (bF v):=by
  refine⟨aiN a.toNat (Value.slice ae 0 0),λ_ _=>False,ed.2,by simp,λi h1 h2=>?_,⟨λk=>by simp,λ_ _ _ _ _ _ h=>h.elim,λ_ _ _ h=>h.elim⟩⟩;simp only[List.getElem_replicate];exact⟨[],λ_ _=>False,lU.nil F w' e' r,rfl,λi h=>absurd h (by simp),⟨λk=>by simp[bF,aiT],λ_ _ _ h=>absurd h (by simp),λ_ _ h=>absurd h (by simp)⟩⟩
 refine cz.val bG (mP.Q1 (S:=bF v) (v0:=v) (eat:=[]) (t:=ID e (.sl e' (.leaf r)) (aiN a.toNat ([]:List r.den))) hs (wh ..) (qG ed) (bW _) (tN vd).1 (λk hk=>?_) (nR (by simp[aK.cE]) (qG ed)));have hk:=(tN (H:=H) vd).2.1 k hk;exact⟨ed.1 k hk,ed.lt k hk, .inl (Ey k hk)⟩
def IH(T:bk P){t:TypeId}{a b:Int}{ka kb:IntKind}{x y:Operand}{k:eB->Option R}{q:R}(h:As T n t (p5 x y) a b k=aa q)(hs:aL U H F w ob n)(hx:ev ρ x= .int ka a)(hy:ev ρ y= .int kb b):
 ∃e,k e=aa q/\cK P U H F w ρ ob n ⟨aa d, .makeSlice t x y,ty,pos,aft,ae⟩ e:=by
 unfold As at h;split at h
 case h_2=>cases h
 rename_i e hu;split at h
 case h_2=>exact B5 T h hs hx hy
 rename_i r hr;split at h
 case h_2=>cases h
 rename_i e' Af;obtain⟨l,hl,hk⟩:=bind_some h;have xO:=T.row_ok _ _ hr;have ht:=T.und_ok _ _ hu
 cases gv:p5 x y with
 |true=>
  rw[gv,cond_true]at hl;unfold pT at hl;split at hl
  case isFalse=>cases hl
  rename_i hc;obtain rfl:=aiF hl;obtain rfl:=yJ gv hx hy;exact⟨_,hk,yM ht xO hs hx hy hc.1 (ajs _) hc.2⟩
 |false=>
  rw[gv,cond_false]at hl;unfold Tt at hl;split at hl
  case isFalse=>cases hl
  rename_i hc;obtain rfl:=aiF hl;exact⟨_,hk,yM ht xO hs hx hy hc.1 hc.2.1 hc.2.2⟩
def wq(deep:Bool)(T:bk P)(n:Nat)(t:TypeId)(same:Bool)(a b:Int)(k:eB->Option R):Option R:=
 match deep with
 |true=>As T n t same a b k
 |false=>vX T n t same a b k
def II(deep:Bool)(T:bk P){t:TypeId}{a b:Int}{ka kb:IntKind}{x y:Operand}{k:eB->Option R}{q:R}(h:wq deep T n t (p5 x y) a b k=aa q)(hs:aL U H F w ob n)(hx:ev ρ x= .int ka a)(hy:ev ρ y= .int kb b):
 ∃e,k e=aa q/\cK P U H F w ρ ob n ⟨aa d, .makeSlice t x y,ty,pos,aft,ae⟩ e:=by
 cases deep with
 |true=>exact IH T h hs hx hy
 |false=>exact B5 T h hs hx hy
def p8(T:bk P)(ob:Nat->Option (Nat×Th))(n:Nat)(t:TypeId)(D:aI)(k:eB->Option R):Option R:=
 match D with
 | .dlm .. =>rI T ob n t D k
 |_=>yE T ob t D k
def IJ(T:bk P){t:TypeId}{D:aI}{x:Operand}{k:eB->Option R}{q:R}(h:p8 T ob n t D k=aa q)(hs:aL U H F w ob n)(hx:aG H F w D (ev ρ x)):
 ∃e,k e=aa q/\cK P U H F w ρ ob n ⟨aa d, .load t x,ty,pos,aft,ae⟩ e:=by
 unfold p8 at h;split at h
 .exact IF T h hs hx
 .exact K0 T h hs hx
noncomputable def qO(T:bk P)(ob:Nat->Option (Nat×Th))(n:Nat)(t:TypeId)(D V:aI)(k:eB->Option R):Option R:=
 match D with
 | .dlm .. =>qL T ob n t D V k
 |_=>tG T ob n t D V k
def EL(T:bk P){t:TypeId}{D V:aI}{x y:Operand}{k:eB->Option R}{q:R}(h:qO T ob n t D V k=aa q)(hs:aL U H F w ob n)(hx:aG H F w D (ev ρ x))(hy:aG H F w V (ev ρ y)):
 ∃e,k e=aa q/\cK P U H F w ρ ob n ⟨ae, .store t x y,ty,pos,aft,ae⟩ e:=by
 unfold qO at h;split at h
 .exact EH T h hs hx hy
 .exact Iq T h hs hx hy
def vC(deep:Bool)(T:bk P)(rd:Operand->Option aI)(ob:Nat->Option (Nat×Th))(n:Nat)(t:TypeId)(m:Nat)(parts:Array (Nat×Operand))(k:eB->Option R):Option R:=
 match deep with
 |true=>qN T rd ob n t m parts k
 |false=>lc T rd ob n t m parts k
def EM(deep:Bool)(T:bk P){rd:Operand->Option aI}(gE:∀x d,rd x=aa d->aG H F w d (ev ρ x)){t:TypeId}{m:Nat}{parts:Array (Nat×Operand)}{k:eB->Option R}{q:R}(h:vC deep T rd ob n t m parts k=aa q)(hs:aL U H F w ob n):
 ∃e,k e=aa q/\cK P U H F w ρ ob n ⟨aa d, .buildSlice t m parts,ty,pos,aft,ae⟩ e:=by
 cases deep with
 |true=>exact EK T gE h hs
 |false=>exact v7 T gE h hs
end
end
end Go.Proofs.YtleifhfeahnocaaGreatDoor
