/- Joined texts: Effs2 Effs3 Effs4 Effs5 Effs6 Effs8 Effs9. -/
import Derived.Test.YtfeahmiobbjklaaGreatDoorU1
import Derived.Carry
set_option linter.defProp false
open _root_.Bool renaming false->ag,true->af
open _root_.Option renaming none->ae,some->aa,isSome_iff_exists->ag5
open _root_.Array renaming toArray_toList->ahj,getElem?_eq_some_iff->ag6
open _root_.Int renaming eq_ofNat_of_zero_le->agF,le_refl->ahq,toNat_natCast->agD,tdiv->agN,tmod->aha
open _root_.List renaming replicate->agE
open _root_.Nat renaming beq->agC,le_refl->agB,le_trans->agW,mul_le_mul_right->agM,add_mul->ahy,min_eq_left->ahw,zero_add->ag8,lt_of_lt_of_le->agV
open _root_.Option.some renaming inj->agx,injEq->agH
open _root_.Go.Result renaming andThen_ok->aho,andThen->agI
open _root_.Go.Sem renaming run_bind->agU
open _root_.Go.Value renaming ownBlock->agR,int->ahg
open _root_.List.cons renaming injEq->aht
open _root_.Go.Value.slice renaming injEq->ahJ
open _root_.Go.Instr renaming findNow->ahl,lookup->ahW,mapUpdate->ahx
open _root_.Go.MapKept renaming run_checkKey->ahz,run_findKey->ahF,run_getObj_map->ahc,run_setObj_map->ahE
section
open _root_.Bool renaming false->ag,true->af
open _root_.Option renaming none->ae,some->aa,isSome_iff_exists->ag5
open _root_.Array renaming toArray_toList->ahj
open _root_.Int renaming toNat_natCast->agD
open _root_.Nat renaming beq->agC,blt->ag4,le_refl->agB,lt_of_lt_of_le->agV
open _root_.Option.some renaming inj->agx,injEq->agH
open _root_.Go.Value renaming oneCell'->ahD
namespace Go.Proofs.YtfeahmiobbjklaaGreatDoor
open Go Go.RowKit
section
variable {P:Program} {ρ:Nat->Value} {w w':World} {H H':aI} {F F':Nat->Prop} {U:Nat->Prop} {ob:Nat->Option (Nat×Th)} {n:Nat} {R:Type}
variable {op:Op} {ty:TypeId} {pos:String} {aft:Array Edge} {d:Nat}
def aJ.box(hs:aJ U H F w ob n){o s:Nat}{T:TypeId}{t:Tree}(ho:ob o=aa (s, .box T t)){b:Nat}(hb:H.val o=aa (.pointer (aa ⟨b,0,ae⟩))):
 ∃es,w.heap[b]? =aa (.cells es.toArray T (0,0))/\Holds H F w t es:=by
 obtain⟨v,hv,hi⟩:=hs.obj _ _ _ ho;rw[hb]at hv;obtain rfl:=agx hv;obtain⟨b',es,e,h1,h2⟩:=hi.ok
 grind
def aJ.own(hs:aJ U H F w ob n){o s:Nat}{T:TypeId}{r:Row}{l:List r.den}(ho:ob o=aa (s, .own T r l)){v:Value}(hv:H.val o=aa v):lO 0 F w T r v l:=by
 obtain⟨v',ey,hi⟩:=hs.obj _ _ _ ho;rw[hv]at ey;obtain rfl:=agx ey;exact⟨hi.no,hi.ok⟩
def AV{fs:List (TypeId×Nat)}{arr:Array Field}(ha:arr.toList.map (λf=>(f.type,f.offset))=fs){f:Nat}{ft:TypeId}{off:Nat}(hf:fs[f]? =aa (ft,off)):∃fd,arr[f]? =aa fd/\fd.type=ft/\fd.offset=off:=by
 grind
def sub(r:Row)(x:r.den)(p:List Bool):Option ((s:Row)×s.den×Nat):=
 match Tree.get (.leaf r x) p with
 |some (.leaf s y,off)=>aa ⟨s,y,off⟩
 |_=>ae
def DF{r s:Row}{x:r.den}{y:s.den}{p:List Bool}{off b k:Nat}(h:sub r x p=aa ⟨s,y,off⟩)(ha:At F w r b k x):At F w s b (k+off) y:=by
 unfold sub at h;split at h
 .rename_i s' y' dN hg;simp only[agH,Sigma.mk.injEq]at h;obtain⟨rfl,h⟩:=h;obtain⟨rfl,rfl⟩:=Prod.mk.inj (eq_of_heq h);obtain⟨es,hl,hc,hr⟩:=ha;obtain⟨g1,g2⟩:=Holds.get (H:=⟨λ_=>ae,λ_=>ae,λ_ _=>False⟩) (F:=F) (w:=w) (cs:=es) hg hr;have Sz:cD F w s' ((es.drop dN).take s'.size) y':=g1;refine⟨_,Sz.length,λj u hu=>?_,Sz⟩
  grind
 .cases h
def DG(T:be P)(t:TypeId)(f:Nat)(D:aD):Option aD:=
 match find T.und t with
 |some (.struct fs)=>match fs[f]? with
  |some (ft,off)=>match find T.row ft with
   |some _=>match D with
    | .ptr o p k=>aa (.ptr o (p++rF fs.length f) (k+off))
    | .at r x=>match sub r x (rF fs.length f)with
      |some ⟨s,y,dN⟩=>bif agC dN off then aa (.at s y)else ae
      |none=>ae
    | .elem o s r i x p k=>aa (.elem o s r i x (p++rF fs.length f) (k+off))
    | .dlm o d i p k=>aa (.dlm o d i (p++rF fs.length f) (k+off))
    |_=>ae
   |none=>ae
  |none=>ae
 |_=>ae
theorem beq_true{m k:Nat}(h:agC m k=af):m=k:=Nat.eq_of_beq_eq_true h
def rG{α:Type}{b:Bool}{x:α}{y:α}(h:(bif b then aa x else ae)=aa y):b=af/\x=y:=by
 grind
def G7(T:be P){t:TypeId}{f:Nat}{D D':aD}{x:Operand}(h:DG T t f D=aa D')(hs:aJ U H F w ob n)(hx:aC H F w D (ev ρ x)):
 cr P U H F w ρ ob n ⟨aa d, .fieldAddr t x f,ty,pos,aft,ae⟩ {dst:=D'}:=by
 unfold DG at h;split at h
 case h_2=>cases h
 rename_i fs hu;obtain⟨arr,Je,MY⟩:=T.und_ok _ _ hu;split at h
 case h_2=>cases h
 rename_i ft off hf;obtain⟨fd,R1,rfl,rfl⟩:=AV MY hf;split at h
 case h_2=>cases h
 rename_i r' Jf;have xH:=T.row_ok _ _ Jf;split at h
 .obtain rfl:=agx h;obtain⟨b,h1,h2⟩:=hx;exact aV hs (mF (r:=r') fd.offset Je R1 xH rfl h2) ⟨b,h1,rfl⟩
 .split at h
  .rename_i s y dN iA;obtain⟨h1,rfl⟩:=rG h;obtain rfl:=beq_true h1;obtain⟨b,k,h2,h3,h4⟩:=hx;exact aV hs (mF (r:=r') fd.offset Je R1 xH rfl h2) ⟨b,_,rfl,h3,DF iA h4⟩
  .cases h
 .obtain rfl:=agx h;obtain⟨g,o0,q,T',m,cap,l,h1,h2,h3,h4,h5⟩:=hx;exact aV hs (mF (r:=r') fd.offset Je R1 xH rfl h5) ⟨g,o0,q,T',m,cap,l,h1,h2,h3,h4,by grind⟩
 .obtain rfl:=agx h;obtain⟨g,o0,q,m,cap,h1,h2,h5⟩:=hx;exact aV hs (mF (r:=r') fd.offset Je R1 xH rfl h5) ⟨g,o0,q,m,cap,h1,h2,by grind⟩
 .cases h
def cD.elemAt{r:Row}{v:Value}{l:List r.den}(h:cD F w (.slice r) [v] l){i:Int}{y:r.den}(hi:idx l i=aa y):
 ∃b off cap k,v= .slice (aa ⟨b,off,ae⟩) l.length cap/\i=(k:Nat)/\k<l.length/\F b/\At F w r b (off+k*r.size) y:=by
 obtain⟨A,cap,hv,_,_,h4⟩:=h;obtain⟨k,hk,aH,rfl⟩:=gB hi;obtain⟨b,off,es,rfl,hF,ug,hc,hr⟩:=h4 k aH;exact⟨b,off,cap,k,by simpa using hv,hk,aH,hF,es,ug,hc,hr⟩
inductive J0 where
 |read (r:Row) (l:List r.den)
 |own (o s:Nat) (T:TypeId) (r:Row) (l:List r.den)
 |nil
 |view (o s:Nat) (r:Row) (l:List r.den)
 |deep (o s:Nat) (T:TypeId) (d:DR) (l:List d.row.den) (h:Option vm)
def ur(ob:Nat->Option (Nat×Th)):aD->Option J0
 | .val ag (.leaf (.slice r) l)=>aa (.read r l)
 | .val ag .nil=>aa .nil
 | .val ag (.own o)=>match ob o with
   |some (s, .own T r l)=>aa (.own o s T r l)
   |some (_, .um _ r l)=>aa (.read r l)
   |some (_, .fdeep _ d l)=>aa (.read d.row l)
   |some (s, .deep T d l h)=>aa (.deep o s T d l h)
   |_=>ae
 | .val ag (.view o s r m)=>match ob o with
   |some (s', .um ..)=>bif agC s' s then aa (.read r m)else aa (.view o s r m)
   |_=>aa (.view o s r m)
 |_=>ae
def MZ(U:Nat->Prop)(H:aI)(F:Nat->Prop)(w:World)(ob:Nat->Option (Nat×Th))(v:Value):J0->Prop
 | .read r l=>cD F w (.slice r) [v] l
 | .own o s T r l=>H.val o=aa v/\ob o=aa (s, .own T r l)/\lO 0 F w T r v l
 | .nil=>v= .slice ae 0 0
 | .view o s r m=>lK H o s r m v
 | .deep o s T d l h=>H.val o=aa v/\ob o=aa (s, .deep T d l h)/\DA U H F w v s (.deep T d l h)
def iS(hs:aJ U H F w ob n){D:aD}{k:J0}{v:Value}(h:ur ob D=aa k)(hd:aC H F w D v):MZ U H F w ob v k:=by
 unfold ur at h;split at h
 .cases h;exact aO.inv hd
 .cases h;obtain⟨cs,h1,_,h3⟩:=hd;have DC:cs=_:=h1
  grind [MZ]
 .rename_i o;obtain⟨cs,⟨u,hu,Je,e⟩,_,h3⟩:=hd;rw[h3 rfl]at e
  obtain rfl:v=u:=by simpa using e
  split at h
  .rename_i s T r l vq;cases h;exact⟨hu,vq,hs.own vq hu⟩
  .rename_i s T r l vq;cases h;obtain⟨v',ey,hi⟩:=hs.obj _ _ _ vq;rw[hu]at ey;obtain rfl:=agx ey;exact hi.ok
  .rename_i s T d l vq;cases h;obtain⟨v',ey,hi⟩:=hs.obj _ _ _ vq;rw[hu]at ey;obtain rfl:=agx ey;exact hi.ok
  .rename_i s T d l h' vq;cases h;obtain⟨v',ey,hi⟩:=hs.obj _ _ _ vq;rw[hu]at ey;obtain rfl:=agx ey;exact⟨hu,vq,hi⟩
  .cases h
 .rename_i o s r m;obtain⟨cs,⟨u,e,hu⟩,_,h3⟩:=hd;rw[h3 rfl]at e
  obtain rfl:v=u:=by simpa using e
  split at h
  .rename_i s' T r' l' vq
   cases hb:agC s' s with
   |false=>rw[hb]at h;cases h;exact hu
   |true=>
    rw[hb]at h;obtain rfl:=Nat.eq_of_beq_eq_true hb;cases h;exact xG hs vq hu
  .cases h;exact hu
 .cases h
def lL:Nat->(r:Row)->r.den->(e:Row)->Option (List e.den)
 |1,r,x,e=>if h:r.beq e=af then aa [jo (Row.eq_of_beq h) x]else ae
 |m+2, .pair a b,x,e=>if h:a.beq e=af then(match lL (m+1) b x.2 e with
  |some l=>aa (jo (Row.eq_of_beq h) x.1::l)
  |none=>ae)else ae
 |_,_,_,_=>ae
def Fw{e:Row}{b:Nat}:{m:Nat}->{r:Row}->{x:r.den}->{l:List e.den}->{off:Nat}->lL m r x e=aa l->At F w r b off x->l.length=m/\∀i(h:i<l.length),At F w e b (off+i*e.size) l[i]
 |0,r,x,l,off,h,_=>by unfold lL at h;cases h
 |1,r,x,l,off,h,ha=>by
  unfold lL at h;split at h
  case isFalse=>cases h
  rename_i hb;obtain rfl:=Row.eq_of_beq hb;obtain rfl:=agx h;refine⟨rfl,λi hi=>?_⟩
  obtain rfl:i=0:=by grind
  rw[Nat.zero_mul,Nat.add_zero];exact ha
 |m+2, .pair a b',x,l,off,h,ha=>by
  unfold lL at h;split at h
  case isFalse=>cases h
  rename_i hb;obtain rfl:=Row.eq_of_beq hb;split at h
  case h_2=>cases h
  rename_i l' hl;obtain rfl:=agx h;obtain⟨g1,g2⟩:=Fw hl (ha.snd _ rfl);refine⟨by simp[g1],λi hi=>?_⟩
  cases i with
  |zero=>
   rw[Nat.zero_mul,Nat.add_zero];exact ha.fst
  |succ i=>
   grind
 |m+2, .int _,_,_,_,h,_=>by unfold lL at h;cases h
 |m+2, .bool,_,_,_,h,_=>by unfold lL at h;cases h
 |m+2, .str,_,_,_,h,_=>by unfold lL at h;cases h
 |m+2, .slice _,_,_,_,h,_=>by unfold lL at h;cases h
 |m+2, .kU,_,_,_,h,_=>by unfold lL at h;cases h
 |m+2, .nul _,_,_,_,h,_=>by unfold lL at h;cases h
 |m+2, .map ..,_,_,_,h,_=>by unfold lL at h;cases h
def qy{t e:TypeId}{x y:Operand}{kd:IntKind}{a:Int}{ti:TypeInfo}{m nv off i:Nat}(size:Nat)(ht:P.underlying t=aa (.array m e))(hi:P.info? e=aa ti)(lJ:ti.size=size)
 (hx:ev ρ x= .pointer (aa ⟨nv,off,ae⟩))(hy:ev ρ y= .int kd a)(ha:a=(i:Int))(aH:i<m):
 Pure P ρ ⟨aa d, .indexAddr t x y,ty,pos,aft,ae⟩ (.pointer (aa ⟨nv,off+i*size,ae⟩)):=λw=>by
 subst lJ;subst ha;simp[execOp,Instr.indexAt,Instr.sureAddr,asIntOf,run_underlying ht,sizeOf,typeInfo,hi,hx,hy,aH,cV]
def Fx{α:Type}{b:Bool}{x:Option α}{y:α}(h:(bif b then x else ae)=aa y):b=af/\x=aa y:=by
 grind
def pQ(T:be P)(m:Nat)(e:TypeId)(D:aD)(i:Int)(k:dL->Option R):Option R:=
 match find T.row e with
 |some re=>match D with
  | .at r x=>match lL m r x re with
    |some l=>(idx l i).bind λy=>k {dst:= .at re y}
    |none=>ae
  | .ptr o p off=>match i with
    | .ofNat j=>bif ag4 j m then k {dst:= .ptr o (p++rF m j) (off+j*re.size)}else ae
    | .negSucc _=>ae
  |_=>ae
 |none=>ae
def DH(T:be P){t:TypeId}{m:Nat}{e:TypeId}(hu:P.underlying t=aa (.array m e)){D:aD}{x y:Operand}{kd:IntKind}{i:Int}{k:dL->Option R}{q:R}(h:pQ T m e D i k=aa q)(hs:aJ U H F w ob n)(hx:aC H F w D (ev ρ x))(hy:ev ρ y= .int kd i):
 ∃e,k e=aa q/\cr P U H F w ρ ob n ⟨aa d, .indexAddr t x y,ty,pos,aft,ae⟩ e:=by
 unfold pQ at h;split at h
 case h_2=>cases h
 rename_i re hr;obtain⟨ti,z,h1,_,_,h4,_⟩:=T.row_ok _ _ hr;split at h
 case h_3=>cases h
 case h_2=>
  split at h
  case h_2=>cases h
  rename_i o p off _ j;obtain⟨aH,hk⟩:=Fx h
  have aH:j<m:=by simpa using aH
  obtain⟨b,hb,hv⟩:=hx;exact⟨_,hk,aV hs (qy re.size hu h1 h4 hv hy rfl aH) ⟨b,hb,rfl⟩⟩
 rename_i r v;split at h
 case h_2=>cases h
 rename_i l hl;obtain⟨a,ha,hk⟩:=bind_some h;obtain⟨b,off,hv,hF,w5⟩:=hx;obtain⟨g1,g2⟩:=Fw hl w5;obtain⟨j,hj,aH,rfl⟩:=gB ha;exact⟨_,hk,aV hs (qy re.size hu h1 h4 hv hy hj (by omega)) ⟨b,_,rfl,hF,g2 j aH⟩⟩
def sG(T:be P)(ob:Nat->Option (Nat×Th))(t:TypeId)(D:aD)(i:Int)(k:dL->Option R):Option R:=
 match find T.und t with
 |some (.slice e)=>match find T.row e with
  |some re=>match ur ob D with
   |some (.read r l)=>bif agC r.size re.size then(idx l i).bind λx=>k {dst:= .at r x}else ae
   |some (.own o s _ r l)=>bif agC r.size re.size then(idx l i).bind λx=>k {dst:= .elem o s r i x [] 0}else ae
   |some (.deep o _ _ d l _)=>bif agC d.low.size re.size then(idx l i).bind λ_=>k {dst:= .dlm o d i [] 0}else ae
   |_=>ae
  |none=>ae
 |some (.array m e)=>pQ T m e D i k
 |_=>ae
def G8(T:be P){t:TypeId}{D:aD}{x y:Operand}{kd:IntKind}{i:Int}{k:dL->Option R}{q:R}(h:sG T ob t D i k=aa q)(hs:aJ U H F w ob n)(hx:aC H F w D (ev ρ x))(hy:ev ρ y= .int kd i):
 ∃e,k e=aa q/\cr P U H F w ρ ob n ⟨aa d, .indexAddr t x y,ty,pos,aft,ae⟩ e:=by
 unfold sG at h;split at h
 case h_3=>cases h
 case h_2=>rename_i m e hu;exact DH T (T.und_ok _ _ hu) h hs hx hy
 rename_i e hu;have hu:=T.und_ok _ _ hu;split at h
 case h_2=>cases h
 rename_i re hr;obtain⟨ti,z,h1,_,_,h4,_⟩:=T.row_ok _ _ hr;split at h
 .rename_i r l gN
  cases hz:agC r.size re.size with
  |false=>grind
  |true=>
   rw[hz,cond_true]at h;have hz:=beq_true hz;obtain⟨a,ha,hk⟩:=bind_some h;have gN:=iS hs gN hx;obtain⟨b,off,cap,j,hv,hj,aH,hF,w5⟩:=cD.elemAt gN ha;refine⟨_,hk,aV hs (mf r.size hu h1 (h4.trans hz.symm) hv hy hj aH) ⟨b,_,rfl,hF,w5⟩⟩
 .rename_i o s T' r l gN
  cases hz:agC r.size re.size with
  |false=>grind
  |true=>
   rw[hz,cond_true]at h;have hz:=beq_true hz;obtain⟨a,ha,hk⟩:=bind_some h;obtain⟨hv,cz,dY⟩:=iS hs gN hx;obtain⟨v',ey,cG⟩:=hs.obj _ _ _ cz;obtain⟨j,hj,aH,hja⟩:=gB ha;obtain⟨_,xs,Fv,_⟩:=dY
   rcases Fv.2 with⟨J1,h0⟩|⟨g,o0,cap,cur,G9,_,_,_⟩
   .omega
   .have hp:=mf (P:=P) (d:=aa d) (ty:=ty) (pos:=pos) (aft:=aft) r.size hu h1 (h4.trans hz.symm) G9 hy hj aH;refine⟨_,hk,aV hs hp ⟨g,o0,j,T',l.length,cap,l,?_,hj,cG.con,ha,rfl⟩⟩
    grind
 .rename_i o s T' d' l hh gN;obtain⟨hz,h⟩:=Fx h;have hz:=beq_true hz;obtain⟨a,ha,hk⟩:=bind_some h;obtain⟨hv,cz,cG⟩:=iS hs gN hx;obtain⟨j,hj,aH,hja⟩:=gB ha;obtain⟨lh,_,⟨xs,Fv,_⟩,PO,_⟩:=cG.ok
  rcases Fv.2 with⟨J1,h0⟩|⟨g,o0,cap,cur,G9,_,_,_⟩
  .omega
  .have hp:=mf (P:=P) (d:=aa d) (ty:=ty) (pos:=pos) (aft:=aft) d'.low.size hu h1 (h4.trans hz.symm) G9 hy hj (by omega);refine⟨_,hk,aV hs hp ⟨g,o0,j,lh.length,cap,?_,hj,rfl⟩⟩
   grind
 .cases h
theorem vr{b:Nat}{T:TypeId}{es:List Value}(hh:w.heap[b]? =aa (.cells es.toArray T (0,0)))(j:Nat):w.cell? ⟨b,j,ae⟩=es[j]? :=by
 rw[cell_of_row w b j _ T (0,0) hh];simp
theorem nC(T:be P){t:TypeId}{kk:Jd}(hu:find T.und t=aa kk){x:Operand}{b off:Nat}{s:Tree}{cs:List Value}(hx:ev ρ x= .pointer (aa ⟨b,off,ae⟩))(hs:aJ U H F w ob n)
 (hh:Holds H F w s cs)(hc:∀j u,cs[j]? =aa u->w.cell? ⟨b,off+j,ae⟩=aa u)
 (hz:if kg kk=af then∃r,find T.row t=aa r/\r.size=s.size else s.size=1):
 cr P U H F w ρ ob n ⟨aa d, .load t x,ty,pos,aft,ae⟩ {dst:= .val (kg kk) s}:=by
 obtain⟨dd,xE,wX⟩:=(T.und_ok _ _ hu).agg;have hl:=hh.length
 cases ha:kg kk with
 |true=>
  rw[aj ha]at hz;obtain⟨r,hr,MB⟩:=hz;obtain⟨ti,z,h1,_,_,h4,_⟩:=T.row_ok _ _ hr;exact bM hs (GO xE (wX.trans ha) h1 (by omega) hx hc) ⟨cs,hh,rfl,by simp⟩
 |false=>
  rw[ai (by simp[ha])]at hz
  obtain⟨v,rfl⟩:∃v,cs=[v]:=by
   match cs,hl.trans hz with
   |[v],_=>grind
  exact bM hs (xA xE (wX.trans ha) hx (hc 0 v rfl)) ⟨[v],hh,rfl,λ_=>rfl⟩
def mh(T:be P)(t:TypeId)(kk:Jd)(m:Nat):Bool:=
 bif kg kk then(match find T.row t with|some r=>agC r.size m|none=>ag)else agC m 1
theorem jT(T:be P){t:TypeId}{kk:Jd}{m:Nat}(h:mh T t kk m=af):if kg kk=af then∃r,find T.row t=aa r/\r.size=m else m=1:=by
 grind [mh,beq_true]
def xI(T:be P)(ob:Nat->Option (Nat×Th))(t:TypeId)(D:aD)(k:dL->Option R):Option R:=
 match find T.und t with
 |none=>ae
 |some kk=>match D with
  | .at r x=>bif mh T t kk r.size then k {dst:= .val (kg kk) (.leaf r x)}else ae
  | .ptr o p off=>match ob o with
    |some (_, .box _ tr)=>match tr.get p with
     |some (s,dN)=>bif agC dN off&&mh T t kk s.size then k {dst:= .val (kg kk) s}else ae
     |none=>ae
    |_=>ae
  | .elem o s r i x p off=>match ob o with
    |some (s', .own _ r' l)=>bif agC s' s then
      (match sub r x p with
      |some ⟨q,y,dN⟩=>bif agC dN off&&mh T t kk q.size then k {dst:= .val (kg kk) (.leaf q y)}else ae
      |none=>ae)
     else(idx l i).bind λx'=>match sub r' x' p with
      |some ⟨q,y,dN⟩=>bif agC dN off&&mh T t kk q.size&&agC r'.size r.size then k {dst:= .val (kg kk) (.leaf q y)}else ae
      |none=>ae
    |_=>ae
  |_=>ae
def aQ{α:Type}{b:Bool}{x:Option α}{y:α}(h:(bif b then x else ae)=aa y):b=af/\x=aa y:=by
 grind
def cx{a b:Bool}(h:(a&&b)=af):a=af/\b=af:=by simpa using h
def Fy(hs:aJ U H F w ob n){o s':Nat}{T':TypeId}{r':Row}{i:Int}{x':r'.den}{l:List r'.den}{g o0 q m cap:Nat}(cz:ob o=aa (s', .own T' r' l))(hv:H.val o=aa (.slice (aa ⟨g,o0,ae⟩) m cap))(hq:i=(q:Nat))(hi:idx l i=aa x'):
 At F w r' g (o0+q*r'.size) x':=(hs.own cz hv).at rfl hq hi
def J2(T:be P){t:TypeId}{D:aD}{x:Operand}{k:dL->Option R}{q:R}(h:xI T ob t D k=aa q)(hs:aJ U H F w ob n)(hx:aC H F w D (ev ρ x)):
 ∃e,k e=aa q/\cr P U H F w ρ ob n ⟨aa d, .load t x,ty,pos,aft,ae⟩ e:=by
 unfold xI at h;split at h
 .cases h
 rename_i kk hu;split at h
 .rename_i r y;obtain⟨h1,h2⟩:=aQ h;obtain⟨b,off,e,hF,es,hl,hc,hr⟩:=hx;exact⟨_,h2,nC T hu e hs (s:= .leaf r y) hr hc (jT T h1)⟩
 .rename_i o p off;split at h
  .rename_i st0 T0 tr cz;split at h
   .rename_i s dN hg;obtain⟨h1,h2⟩:=aQ h;obtain⟨h1,h3⟩:=cx h1;obtain rfl:=beq_true h1;obtain⟨b,hb,e⟩:=hx;obtain⟨es,hh,OU⟩:=hs.box cz hb;obtain⟨g1,g2⟩:=OU.get hg
    grind [nC,jT,vr]
   .cases h
  .cases h
 .rename_i o s r i y p off;split at h
  .rename_i s' T0 r' l cz;obtain⟨g,o0,qq,T',m,cap,l0,e1,e2,e3,e4,e5⟩:=hx
   cases uv:agC s' s with
   |true=>
    rw[uv,cond_true]at h;obtain rfl:=beq_true uv;obtain⟨v,hv,cG⟩:=hs.obj _ _ _ cz;have hc:=cG.con;rw[e3]at hc
    obtain⟨rfl,AN⟩:T'=T0/\(⟨r,l0⟩:(r:Row)×List r.den)=⟨r',l⟩:=by
     grind [Th.base]
    cases AN;split at h
    .rename_i q' y' dN iA;obtain⟨h1,h2⟩:=aQ h;obtain⟨h1,h3⟩:=cx h1;obtain rfl:=beq_true h1;obtain⟨es,hl,M0,hr⟩:=DF iA (Fy hs cz e1 e2 e4);exact⟨_,h2,nC T hu e5 hs (s:= .leaf q' y') hr M0 (jT T h3)⟩
    .cases h
   |false=>
    rw[uv,cond_false]at h;obtain⟨x',MX,h⟩:=bind_some h;split at h
    .rename_i q' y' dN iA;obtain⟨h1,h2⟩:=aQ h;obtain⟨h1,h4⟩:=cx h1;obtain⟨h1,h3⟩:=cx h1;obtain rfl:=beq_true h1;have h4:=beq_true h4;obtain⟨es,hl,M0,hr⟩:=DF iA (Fy hs cz e1 e2 MX);rw[h4]at M0;exact⟨_,h2,nC T hu e5 hs (s:= .leaf q' y') hr M0 (jT T h3)⟩
    .cases h
  .cases h
 .cases h
end
end Go.Proofs.YtfeahmiobbjklaaGreatDoor
namespace Go.Proofs.YtfeahmiobbjklaaGreatDoor
open Go Go.RowKit
def DJ:(r:Row)->List Bool->Option ((s:Row)×Path r s)
 |r,[]=>aa ⟨r, .here⟩
 | .pair a b,d::p=>match d with
   |false=>match DJ a p with
    |some ⟨s,q⟩=>aa ⟨s, .fst q⟩
    |none=>ae
   |true=>match DJ b p with
    |some ⟨s,q⟩=>aa ⟨s, .snd q⟩
    |none=>ae
 |_,_::_=>ae
section
variable {P:Program} {ρ:Nat->Value} {w w':World} {H H':aI} {F F':Nat->Prop} {U:Nat->Prop} {ob:Nat->Option (Nat×Th)} {n:Nat} {R:Type}
variable {op:Op} {ty:TypeId} {pos:String} {aft:Array Edge} {d:Nat}
def aI.bC(H:aI)(s:Nat)(t:Th):aI:=⟨H.val,λm=>if m=s then aa t else H.con m,H.sub⟩
def aI.cA(H:aI)(o:Nat)(v:Value):aI:=⟨λm=>if m=o then aa v else H.val m,H.con,H.sub⟩
def aI.dZ(H:aI)(s:Nat)(S:Nat->Prop):aI:=⟨H.val,H.con,λm=>if m=s then S else H.sub m⟩
def aI.fS{H:aI}{s:Nat}{t:Th}(h:H.con s=ae):H.le (H.bC s t):=⟨λ_ _ h=>h,λm q hq=>by
 grind [aI.bC],λ_ _ _=>rfl⟩
def aI.Ha{H:aI}{s:Nat}{S:Nat->Prop}(h:H.con s=ae):H.le (H.dZ s S):=⟨λ_ _ h=>h,λ_ _ h=>h,λm t hm=>by
 grind [aI.dZ]⟩
def aI.pR{H:aI}{s:Nat}{t:Value}(h:H.val s=ae):H.le (H.cA s t):=⟨λm q hq=>by
 grind [aI.cA],λ_ _ h=>h,λ_ _ _=>rfl⟩
theorem eR{α:Type}{o o':Nat}{x y:α}(h:find [(o,x)] o'=aa y):o'=o/\y=x:=by
 rw[aY]at h;split at h
 .grind
 .cases h
def kY.uO(hs:aJ U H F w ob n){o s:Nat}{t t':Th}{v0:Value}(ho:ob o=aa (s,t))(hv:H.val o=aa v0)(hb:t'.base=t')(MC:∀k,fp (H.sub n) v0 t' k->fp (H.sub s) v0 t k){D:aD}{v:Value}
 (bO:Ext (fp (H.sub s) v0 t) w w')(mG:iy (H.bC n t') F w' (H.sub n) v0 t')(hd:aC (H.bC n t') F w' D v):lQ H F w ob n {dst:=D,eat:=[o],make:=[(o,(n,t'))]} v w':=by
 obtain⟨v1,uP,cG⟩:=hs.obj _ _ _ ho;rw[hv]at uP;obtain rfl:=agx uP
 have jI:∀k,fp (H.sub s) v0 t k->cn H ob [o] k:=λk hk=>⟨o,by simp,s,t,v0,ho,hv,hk⟩
 refine⟨H.bC n t',F,⟨aI.fS (hs.fresh n (agB _) (by omega)).2,⟨bO.os,bO.tape,bO.output,bO.size,λk hk hn=>bO.block k hk λe=>hn (jI k e)⟩,λ_ h=>h,λ_ h=> .inl h,λb hb=>agV (hs.lt b hb) bO.size⟩,λm hm=>?_,hd,⟨λo' s' q hq=>?_,λo1 o2 s1 s2 q1 q2 u1 u2 du h1 h2=>?_⟩,λo' h=>?_⟩
 .grind [aI.bC]
 .obtain⟨rfl,e⟩:=eR hq;obtain⟨rfl,rfl⟩:=Prod.mk.inj e;refine⟨v0,hv,cG.one,by simp[aI.bC,hb],mG,λk hk=>⟨cG.no k (MC k hk),agV (cG.lt k (MC k hk)) bO.size, .inr (jI k (MC k hk))⟩⟩
 all_goals grind [eR,ag5]
def kY.new(hs:aJ U H F w ob n){eat:List Nat}{t:Th}{v0:Value}(hb:t.base=t)(h1:v0.oneCell'=af){D:aD}{v:Value}
 (bO:Ext (cn H ob eat) w w')(mG:iy ((H.bC n t).cA n v0) F w' (H.sub n) v0 t)(MC:∀k,fp (H.sub n) v0 t k->¬F k/\k<w'.heap.size/\(w.heap.size<=k\/cn H ob eat k))
 (hd:aC ((H.bC n t).cA n v0) F w' D v):lQ H F w ob n {dst:=D,eat:=eat,make:=[(n,(n,t))]} v w':=by
 have hf:=hs.fresh n (agB _) (by omega);refine⟨(H.bC n t).cA n v0,F,⟨(aI.fS hf.2).trans (aI.pR (by simp[aI.bC,hf.1])),bO,λ_ h=>h,λ_ h=> .inl h,λb hb=>agV (hs.lt b hb) bO.size⟩,λm hm=>?_,hd,⟨λo' s' q hq=>?_,λo1 o2 s1 s2 q1 q2 u1 u2 du h1 h2=>?_⟩,λo' h=>?_⟩
 .simp[aI.bC,aI.cA,show m≠n from by omega]
 .obtain⟨rfl,e⟩:=eR hq;obtain⟨rfl,rfl⟩:=Prod.mk.inj e;exact⟨v0,by simp[aI.cA],h1,by simp[aI.bC,aI.cA,hb],mG,MC⟩
 .grind [eR]
 .right
  obtain⟨y,hy⟩:=ag5.1 h
  grind [eR]
def sH(T:be P)(ob:Nat->Option (Nat×Th))(n:Nat)(t:TypeId)(D V:aD)(k:dL->Option R):Option R:=
 match find T.row t with
 |none=>ae
 |some rt=>match V with
  | .val _ u=>match D with
    | .ptr o p off=>match ob o with
      |some (_, .box T0 tr)=>match tr.get p with
       |some (s,dN)=>bif agC dN off&&agC rt.size s.size&&agC u.size s.size then
         (match tr.put p u with
         |some Vj=>k {dst:= .dead,eat:=[o],make:=[(o,(n, .box T0 Vj))]}
         |none=>ae)else ae
       |none=>ae
      |_=>ae
    | .elem o s r i x p off=>match ob o with
      |some (s', .own T0 r' l)=>match DJ r' p with
       |some ⟨q,xJ⟩=>bif agC xJ.off off&&agC rt.size q.size&&agC r'.size r.size then
         (match flat ob q u with
         |some y=>bif agC s' s then
           (if h:r.beq r'=af then k {dst:= .dead,eat:=[o],make:=[(o,(n, .own T0 r' (bm l i (xJ.set (jo (Row.eq_of_beq h) x) y))))]}else ae)
          else(idx l i).bind λx'=>k {dst:= .dead,eat:=[o],make:=[(o,(n, .own T0 r' (bm l i (xJ.set x' y))))]}
         |none=>ae)else ae
       |none=>ae
      |_=>ae
    |_=>ae
  |_=>ae
def aO.cells{agg:Bool}{t:Tree}{v:Value}(h:aO H F w agg t v):∃cs,Holds H F w t cs/\v.cells.toList=cs:=by
 obtain⟨cs,h1,h2,h3⟩:=h;refine⟨cs,h1,?_⟩
 cases agg with
 |true=>rw[h2];rfl
 |false=>
  have e:=h3 rfl;have h1c:=h1.jy v (by rw[e];simp);rw[e]
  cases v<;>first|rfl|simp[ahD]at h1c
def vu(T:be P){t:TypeId}{rt:Row}(J3:find T.row t=aa rt){x y:Operand}{o s':Nat}{T0:TypeId}{r q:Row}{i:Int}{x':r.den}{z:q.den}{l:List r.den}{p:Path r q}{off g o0 j m cap:Nat}{agg:Bool}{u:Tree}
 (hs:aJ U H F w ob n)(cz:ob o=aa (s', .own T0 r l))(hv:H.val o=aa (.slice (aa ⟨g,o0,ae⟩) m cap))(hj:i=(j:Nat))(hi:idx l i=aa x')(hx:ev ρ x= .pointer (aa ⟨g,o0+j*r.size+off,ae⟩))(M1:p.off=off)(hz:rt.size=q.size)
 (hf:flat ob q u=aa z)(hV:aO H F w agg u (ev ρ y)):
 cr P U H F w ρ ob n ⟨ae, .store t x y,ty,pos,aft,ae⟩ {dst:= .dead,eat:=[o],make:=[(o,(n, .own T0 r (bm l i (p.set x' z))))]}:=by
 obtain⟨ti,z0,h1,_,_,h4,_⟩:=T.row_ok _ _ J3;obtain⟨cs,pP,xK⟩:=hV.cells;have hr:=gn hs hf pP;have dY:=hs.own cz hv;obtain⟨k',hk,aH,rfl⟩:=gB hi
 obtain rfl:k'=j:=by omega
 obtain⟨cur,hh,hle,bO,gC⟩:=dY.put rfl aH hs.lt p hr;subst M1;refine b9.unit (nZ h1 (h4.trans (hz.trans hr.length.symm)) hx rfl xK hr.jy hh hle) ?_;refine kY.uO (t':= .own T0 r (bm l i (p.set l[k'] z))) (D:= .dead) hs cz hv rfl (λ_ h=>h) bO ?_ trivial;have:iy (H.bC n (.own T0 r (bm l i (p.set l[k'] z)))) F (w.setRow g (cur.toList.take (o0+k'*r.size+p.off)++cs++cur.toList.drop (o0+k'*r.size+p.off+cs.length)).toArray) (H.sub n) (.slice (aa ⟨g,o0,ae⟩) m cap) (.own T0 r (l.set k' (p.set l[k'] z))):=gC.2
 grind [bm,agD]
def Hb(T:be P){t:TypeId}{D V:aD}{x y:Operand}{k:dL->Option R}{q:R}(h:sH T ob n t D V k=aa q)(hs:aJ U H F w ob n)(hx:aC H F w D (ev ρ x))(hy:aC H F w V (ev ρ y)):
 ∃e,k e=aa q/\cr P U H F w ρ ob n ⟨ae, .store t x y,ty,pos,aft,ae⟩ e:=by
 unfold sH at h;split at h
 .cases h
 rename_i rt J3;split at h
 case h_2=>cases h
 rename_i agg u;split at h
 .rename_i o p off;split at h
  case h_2=>cases h
  rename_i s0 T0 tr cz;split at h
  case h_2=>cases h
  rename_i s dN hg;obtain⟨h1,h2⟩:=aQ h;obtain⟨h1,Fz⟩:=cx h1;obtain⟨h1,DK⟩:=cx h1;obtain rfl:=beq_true h1;have DK:=beq_true DK;have Fz:=beq_true Fz;split at h2
  case h_2=>cases h2
  rename_i Vj hp;obtain⟨b,hb,e⟩:=hx;obtain⟨es,hh,OU⟩:=hs.box cz hb;obtain⟨cs,pP,xK⟩:=aO.cells hy;have hl:=pP.length;have hle:=(OU.get hg).2;have sE:=Holds.put pP hg hp Fz.symm OU;obtain⟨ti,z0,g1,_,_,g4,_⟩:=T.row_ok _ _ J3;refine⟨_,h2,b9.unit (nZ g1 (by omega) e rfl xK pP.jy hh (by simp;omega)) ?_⟩
  have R2:¬F b:=by
   obtain⟨v1,uP,cG⟩:=hs.obj _ _ _ cz;rw[hb]at uP;obtain rfl:=agx uP;exact cG.no b rfl
  have bO:Ext (fp (H.sub s0) (.pointer (aa ⟨b,0,ae⟩)) (.box T0 tr)) w (w.setRow b (es.toArray.toList.take dN++cs++es.toArray.toList.drop (dN+cs.length)).toArray):=
   ⟨rfl,⟨rfl,agB _⟩,rfl,by simp,λk _ hk=>setRow_other w b k _ λe=>hk (by simp[fp,e])⟩
  refine kY.uO (t':= .box T0 Vj) (D:= .dead) hs cz hb rfl (λk hk=>hk) bO ⟨b,_,rfl,setRow_heap w b _ _ T0 (0,0) hh,?_⟩ trivial
  have hk:=sE.keep (H':=H.bC n (.box T0 Vj)) (aI.fS (hs.fresh n (agB _) (by omega)).2) (Step.ext bO hs.lt λk hk=>by
   grind [fp])
  grind
 .rename_i o s r i x0 p off;split at h
  case h_2=>cases h
  rename_i s' T0 r' l cz;split at h
  case h_2=>cases h
  rename_i q' xJ za;obtain⟨h1,h2⟩:=aQ h;obtain⟨h1,Fz⟩:=cx h1;obtain⟨h1,DK⟩:=cx h1;have h1:=beq_true h1;have DK:=beq_true DK;have Fz:=beq_true Fz;split at h2
  case h_2=>cases h2
  rename_i z hf;obtain⟨g,o0,qq,T',m,cap,l0,e1,e2,e3,e4,e5⟩:=hx;rw[<-Fz]at e5
  cases uv:agC s' s with
  |true=>
   rw[uv,cond_true]at h2;obtain rfl:=beq_true uv;split at h2
   case isFalse=>cases h2
   rename_i AW;obtain⟨v,hv,cG⟩:=hs.obj _ _ _ cz;have hc:=cG.con;rw[e3]at hc
   obtain⟨rfl,AN⟩:T'=T0/\(⟨r,l0⟩:(r:Row)×List r.den)=⟨r',l⟩:=by
    grind [Th.base]
   cases AN;exact⟨_,h2,vu T J3 hs cz e1 e2 e4 e5 h1 DK hf hy⟩
  |false=>
   rw[uv,cond_false]at h2;obtain⟨x',MX,h2⟩:=bind_some h2;exact⟨_,h2,vu T J3 hs cz e1 e2 MX e5 h1 DK hf hy⟩
 .cases h
def J4(hs:aJ U H F w ob n){t:TypeId}{tr:Tree}{cs:List Value}(hh:Holds H F w tr cs):
 lQ H F w ob n {dst:= .ptr n [] 0,make:=[(n,(n, .box t tr))]} (.pointer (aa ⟨w.heap.size,0,ae⟩)) (w.alloc (.cells cs.toArray t)):=by
 have bO:Ext (cn H ob []) w (w.alloc (.cells cs.toArray t)):=⟨rfl,⟨rfl,agB _⟩,rfl,by simp,λk hk _=>Below.heap_alloc w _ k hk⟩
 have hf:=hs.fresh n (agB _) (by omega);refine kY.new (v0:= .pointer (aa ⟨w.heap.size,0,ae⟩)) hs rfl rfl bO ⟨_,cs,rfl,heap_alloc_new w _,?_⟩ (λk hk=>?_) ⟨w.heap.size,by simp[aI.cA],rfl⟩
 .exact hh.keep ((aI.fS hf.2).trans (aI.pR (by simp[aI.bC,hf.1]))) (Step.alloc hs.lt _)
 .simp only[fp,Value.pointer.injEq,agH,Addr.mk.injEq,and_true]at hk;subst hk;exact⟨λe=>by have:=hs.lt _ e;omega,by simp, .inl (agB _)⟩
def sI(T:be P)(n:Nat)(t:TypeId)(k:dL->Option R):Option R:=
 match find T.row t with
 |some r=>k {dst:= .ptr n [] 0,make:=[(n,(n, .box t r.AU))]}
 |none=>ae
def Hc(T:be P){t:TypeId}{k:dL->Option R}{q:R}(h:sI T n t k=aa q)(hs:aJ U H F w ob n):
 ∃e,k e=aa q/\cr P U H F w ρ ob n ⟨aa d, .alloc t,ty,pos,aft,ae⟩ e:=by
 unfold sI at h;split at h
 case h_2=>cases h
 rename_i r hr;obtain⟨ti,z,h1,h2,h3,_,_⟩:=T.row_ok _ _ hr;refine⟨_,h,b9.val (GU h1 h2) ?_⟩;have:=J4 (t:=t) hs (Row.mJ H F w r);rw[<-h3,ahj]at this;exact this
def Hd(n:Nat)(t:TypeId)(V:aD)(k:dL->Option R):Option R:=
 match V with
 | .val _ u=>k {dst:= .ptr n [] 0,make:=[(n,(n, .box t u))]}
 |_=>ae
def M2{t:TypeId}{V:aD}{x:Operand}{k:dL->Option R}{q:R}(h:Hd n t V k=aa q)(hs:aJ U H F w ob n)(hx:aC H F w V (ev ρ x)):
 ∃e,k e=aa q/\cr P U H F w ρ ob n ⟨aa d, .box t x,ty,pos,aft,ae⟩ e:=by
 unfold Hd at h;split at h
 case h_2=>cases h
 rename_i agg u;obtain⟨cs,pP,xK⟩:=aO.cells hx;refine⟨_,h,b9.val (MQ rfl) ?_⟩;have:=J4 (t:=t) hs pP;rw[<-xK,ahj]at this;exact this
end
end Go.Proofs.YtfeahmiobbjklaaGreatDoor
end
namespace Go.Proofs.YtfeahmiobbjklaaGreatDoor
open Go Go.RowKit
set_option maxRecDepth 100000
set_option linter.unusedSimpArgs false
set_option linter.unusedVariables false
set_option linter.defProp false
section
section
variable {P:Program} {ρ:Nat->Value} {w w':World} {H H':aI} {F F':Nat->Prop} {U:Nat->Prop} {ob:Nat->Option (Nat×Th)} {n:Nat} {R:Type}
variable {op:Op} {ty:TypeId} {pos:String} {aft:Array Edge} {d:Nat}
def pS{base:Nat}{T:TypeId}{r:Row}{v:Value}{l:List r.den}(h:lO base F w T r v l):v.oneCell'=af:=by
 obtain⟨A,cap,rfl,_⟩:=h.reads;rfl
def mK{H:aI}{o:Nat}{v:Value}(h:H.val o=aa v)(h1:v.oneCell'=af):aC H F w (.val ag (.own o)) v:=⟨[v],⟨v,h,h1,rfl⟩,rfl,λ_=>rfl⟩
def sJ(hs:aJ U H F w ob n){e:TypeId}{r:Row}{v:Value}{l:List r.den}{eat:List Nat}(bO:Ext (cn H ob eat) w w')(ho:lO 0 F w' e r v l)(hn:∀k,bP v k->cn H ob eat k\/w.heap.size<=k):
 lQ H F w ob n {dst:= .val ag (.own n),eat:=eat,make:=[(n,(n, .own e r l))]} v w':=
 kY.new (v0:=v) hs rfl (pS ho) bO ho.2 (λk hk=>⟨ho.1 k hk,ho.lt k hk,(hn k hk).symm⟩) (mK (by simp[aI.cA]) (pS ho))
def nD{g:Nat->Prop}(o:Obj):Ext g w (w.alloc o):=⟨rfl,⟨rfl,agB _⟩,rfl,by simp,λk hk _=>Below.heap_alloc w _ k hk⟩
def Vk{α:Type}(a b:Int)(z:α):Option (List α):=if 0<=a/\a<=b/\b<=4294967296 then aa (agE a.toNat z)else ae
def oZ:Operand->Operand->Bool
 | .tmp a, .tmp b=>agC a b
 | .const (.int _ a), .const (.int _ b)=>decide (a=b)
 |_,_=>ag
def xL{e t:TypeId}{r:Row}{a b:Int}(ht:P.underlying t=aa (.slice e))(xH:TI P e r)(hs:aJ U H F w ob n){ka kb:IntKind}{x y:Operand}(hx:ev ρ x= .int ka a)(hy:ev ρ y= .int kb b)(h0:0<=a)(h1:a<=b)(h2:b<=4294967296):
 ∃v w',(execOp (ev ρ) ⟨aa d, .makeSlice t x y,ty,pos,aft,ae⟩).run P w= .ok (.value v) w'/\(∀g,Ext g w w')/\lO 0 F w' e r v (agE a.toNat r.zero)/\∀k,bP v k->w.heap.size<=k:=by
 obtain⟨ti,z,hi,hz,Sp,lJ,RZ⟩:=xH;obtain⟨ca,rfl⟩:=agF h0;obtain⟨cb,rfl⟩:=agF (Int.le_trans h0 h1)
 have hc:cb<=4294967296:=by omega
 have AJ:ti.bytes*cb<=281474976710656:=agW (Nat.mul_le_mul RZ hc) (by omega)
 have sC:(ti.bytes:Int)*(cb:Int)<=281474976710656:=by
  have h:((ti.bytes*cb:Nat):Int)<=281474976710656:=by omega
  rwa [Int.natCast_mul]at h
 have bz:=run_make (P:=P) w t e ti z ht hi hz ka kb ca cb (by omega) (by omega) sC (by omega)
 have hzl:z.cells=r.eP.toArray:=by rw[<-Sp,ahj]
 have hzn:r.eP.length=r.size:=(cD.zero F w r).length;have oV:=r.size_pos;simp only[agD]at bz;refine⟨.slice (aa ⟨w.heap.size,0,ae⟩) ca cb,w.alloc (.cells (madeCells z.cells (cb*ti.size)) e),by simp[execOp,hx,hy,bz],λ_=>nD _,⟨λq hq=>?_,(madeCells z.cells (cb*ti.size)).toList.take (ca*r.size),?_,?_⟩,λq hq=>?_⟩
 .simp only[bP,agR,agH]at hq;intro e;have:=hs.lt _ e;omega
 .have hle:ca*r.size<=cb*r.size:=agM _ (by omega);have Wc:=size_madeCells z.cells (cb*ti.size);refine mE.of ⟨by grind, .inr ⟨w.heap.size,cb,madeCells z.cells (cb*ti.size),by simp,Nat.zero_le _,heap_alloc_new w _,by simp;omega,by simp[maxLen];omega,by rw[Wc,lJ],by simp⟩⟩
 .intro i aH;simp only[agD,List.length_replicate]at aH;have hle:(i+1)*r.size<=ca*r.size:=agM _ aH
  grind [JK,cD.zero,List.drop_take]
 .simp only[bP,agR,agH]at hq;omega
def AX{e t:TypeId}{r:Row}{a b:Int}(ht:P.underlying t=aa (.slice e))(xH:TI P e r)(hs:aJ U H F w ob n){ka kb:IntKind}{x y:Operand}(hx:ev ρ x= .int ka a)(hy:ev ρ y= .int kb b)(h0:0<=a)(h1:a<=b)(h2:b<=4294967296):
 cr P U H F w ρ ob n ⟨aa d, .makeSlice t x y,ty,pos,aft,ae⟩ {dst:= .val ag (.own n),make:=[(n,(n, .own e r (agE a.toNat r.zero)))]}:=by
 obtain⟨v,w',bz,bO,dY,w9⟩:=xL (d:=d) (ty:=ty) (pos:=pos) (aft:=aft) ht xH hs hx hy h0 h1 h2;exact b9.val bz (sJ hs (bO _) dY λq hq=> .inr (w9 q hq))
def vv(T:be P)(n:Nat)(t:TypeId)(same:Bool)(a b:Int)(k:dL->Option R):Option R:=
 match find T.und t with
 |some (.slice e)=>match find T.row e with
  |some r=>(bif same then oM a r.zero else Vk a b r.zero).bind λl=>k {dst:= .val ag (.own n),make:=[(n,(n, .own e r l))]}
  |none=>ae
 |_=>ae
def xM{x y:Operand}(h:oZ x y=af){a b:Int}{ka kb:IntKind}(hx:ev ρ x= .int ka a)(hy:ev ρ y= .int kb b):a=b:=by
 unfold oZ at h
 grind [beq_true,ev]
def AY(T:be P){t:TypeId}{a b:Int}{ka kb:IntKind}{x y:Operand}{k:dL->Option R}{q:R}(h:vv T n t (oZ x y) a b k=aa q)(hs:aJ U H F w ob n)(hx:ev ρ x= .int ka a)(hy:ev ρ y= .int kb b):
 ∃e,k e=aa q/\cr P U H F w ρ ob n ⟨aa d, .makeSlice t x y,ty,pos,aft,ae⟩ e:=by
 unfold vv at h;split at h
 case h_2=>cases h
 rename_i e hu;split at h
 case h_2=>cases h
 rename_i r hr;obtain⟨l,hl,hk⟩:=bind_some h;have xH:=T.row_ok _ _ hr;have ht:=T.und_ok _ _ hu
 cases il:oZ x y with
 |true=>
  rw[il,cond_true]at hl;unfold oM at hl;split at hl
  case isFalse=>cases hl
  rename_i hc;obtain rfl:=agx hl;obtain rfl:=xM il hx hy;exact⟨_,hk,AX ht xH hs hx hy hc.1 (ahq _) hc.2⟩
 |false=>
  rw[il,cond_false]at hl;unfold Vk at hl;split at hl
  case isFalse=>cases hl
  rename_i hc;obtain rfl:=agx hl;exact⟨_,hk,AX ht xH hs hx hy hc.1 hc.2.1 hc.2.2⟩
def We(ob:Nat->Option (Nat×Th))(r:Row)(D:aD):Option (List r.den):=
 match ur ob D with
 |some (.read s l)=>if h:s.beq r=af then aa (jo (r:= .slice s) (s:= .slice r) (av Row.slice (Row.eq_of_beq h)) l)else ae
 |some (.own _ _ _ s l)=>if h:s.beq r=af then aa (jo (r:= .slice s) (s:= .slice r) (av Row.slice (Row.eq_of_beq h)) l)else ae
 |some .nil=>aa []
 |some (.view ..)=>ae
 |some (.deep ..)=>ae
 |none=>ae
def PQ(hs:aJ U H F w ob n){r:Row}{D:aD}{l:List r.den}{v:Value}(h:We ob r D=aa l)(hd:aC H F w D v):Reads F w r v l:=by
 unfold We at h;split at h
 .rename_i s m gN;split at h
  case isFalse=>cases h
  rename_i hb;obtain rfl:=Row.eq_of_beq hb;obtain rfl:=agx h;exact cD.reads (iS hs gN hd)
 .rename_i o s0 T s m gN;split at h
  case isFalse=>cases h
  rename_i hb;obtain rfl:=Row.eq_of_beq hb;obtain rfl:=agx h;exact(iS hs gN hd).2.2.reads
 .rename_i gN;obtain rfl:=agx h;have:v=_:=iS hs gN hd;subst this;exact(cD.nil F w r).reads
 all_goals grind
def tJ:J0->Int
 | .read _ l=>(l.length:Int)
 | .own _ _ _ _ l=>(l.length:Int)
 | .nil=>0
 | .view _ _ _ l=>(l.length:Int)
 | .deep _ _ _ _ l _=>(l.length:Int)
def J5{v:Value}{k:J0}(h:MZ U H F w ob v k):∃A m cap,v= .slice A m cap/\tJ k=(m:Int):=by
 cases k with
 |read r l=>
  obtain⟨A,cap,e,_⟩:=cD.Du h;exact⟨A,_,cap,e,rfl⟩
 |own o s T r l=>
  obtain⟨A,cap,e,_⟩:=h.2.2.reads;exact⟨A,_,cap,e,rfl⟩
 |nil=>exact⟨ae,0,0,h,rfl⟩
 |view o s r m=>
  obtain⟨A,cap,T,l,a,b,_,_,h3,h4,rfl,rfl⟩:=h;refine⟨_,_,_,rfl,?_⟩
  grind [tJ]
 |deep o s T d l hh=>
  obtain⟨lh,_,⟨xs,Fv,_⟩,PO,_⟩:=h.2.2.ok
  rcases Fv.2 with⟨J1,h0⟩|⟨g,o0,cap,cur,G9,_,_,_⟩
  all_goals grind [tJ]
def He(T:be P)(ob:Nat->Option (Nat×Th))(t:TypeId)(D:aD):Option aD:=
 match find T.und t with
 |some (.slice _)=>match ur ob D with
  |some k=>aa (mg .i64 (tJ k))
  |none=>ae
 |some .str=>match AQ D with
  |some s=>aa (mg .i64 (s.size:Int))
  |none=>ae
 |_=>ae
def FA(T:be P){t:TypeId}{D D':aD}{x:Operand}(h:He T ob t D=aa D')(hs:aJ U H F w ob n)(hx:aC H F w D (ev ρ x)):
 cr P U H F w ρ ob n ⟨aa d, .call {callee:= .builtin .len,args:= #[x],argTypes:= #[t]},ty,pos,aft,ae⟩ {dst:=D'}:=by
 unfold He at h;split at h
 .rename_i e hu;split at h
  case h_2=>cases h
  rename_i k hk;obtain rfl:=agx h;obtain⟨A,m,cap,e1,e2⟩:=J5 (iS hs hk hx);rw[e2];exact aV hs (JH rfl (T.und_ok _ _ hu) e1) (aO.jS ..)
 .rename_i hu;split at h
  case h_2=>cases h
  rename_i s hk;obtain rfl:=agx h;exact aV hs (GL (T.und_ok _ _ hu) (vp hk hx)) (aO.jS ..)
 .cases h
def pT(T:be P)(ob:Nat->Option (Nat×Th))(n:Nat)(t:TypeId)(X Y:aD)(k:dL->Option R):Option R:=
 match find T.und t with
 |some (.slice e)=>match find T.row e with
  |some r=>match We ob r Y with
   |some m=>match ur ob X with
    |some .nil=>(cm ([]:List r.den) m).bind λl=>k {dst:= .val ag (.own n),make:=[(n,(n, .own e r l))]}
    |some (.own o _ T0 s l0)=>bif agC T0 e then
      (if h:s.beq r=af then(cm (jo (r:= .slice s) (s:= .slice r) (av Row.slice (Row.eq_of_beq h)) l0) m).bind λl=>k {dst:= .val ag (.own n),eat:=[o],make:=[(n,(n, .own e r l))]}else ae)else ae
    |_=>ae
   |none=>ae
  |none=>ae
 |_=>ae
def DL(T:be P){t:TypeId}{X Y:aD}{x y:Operand}{k:dL->Option R}{q:R}(h:pT T ob n t X Y k=aa q)(hs:aJ U H F w ob n)(hx:aC H F w X (ev ρ x))(hy:aC H F w Y (ev ρ y)):
 ∃e,k e=aa q/\cr P U H F w ρ ob n ⟨aa d, .call {callee:= .builtin .append,args:= #[x,y],argTypes:= #[t,t]},ty,pos,aft,ae⟩ e:=by
 unfold pT at h;split at h
 case h_2=>cases h
 rename_i e hu;split at h
 case h_2=>cases h
 rename_i r hr;obtain⟨ti,z,h1,h2,h3,h4,h5⟩:=T.row_ok _ _ hr;have ht:=T.und_ok _ _ hu;split at h
 case h_2=>cases h
 rename_i m hm;have gf:=PQ hs hm hy
 have key:∀{l out:List r.den},lO 0 F w e r (ev ρ x) l->cm l m=aa out->∃v' w',(execOp (ev ρ) ⟨aa d, .call {callee:= .builtin .append,args:= #[x,y],argTypes:= #[t,t]},ty,pos,aft,ae⟩).run P w= .ok (.value v') w'/\Ext (bP (ev ρ x)) w w'/\lO 0 F w' e r v' out/\(∀k,bP v' k->bP (ev ρ x) k\/w.heap.size<=k):=by
  intro l out ho ha;obtain⟨v',w',bz,he,lI,V9⟩:=vi ty ht h1 h2 h3 h4 h5 ho gf ha hs.lt (Nat.zero_le _);refine⟨v',w',by simp[execOp,resolve,invoke,builtin,bz],he,lI,λk hk=>?_⟩
  rcases V9 with g|g
  .exact .inl (g▸hk)
  .simp_all
 split at h
 .rename_i gN;obtain⟨l,hl,hk⟩:=bind_some h;have hv:ev ρ x=_:=iS hs gN hx;obtain⟨v',w',bz,he,lI,hn⟩:=key (by rw[hv];exact lO.nil 0 F w e r) hl
  have no:∀k,¬bP (ev ρ x) k:=λk hk=>by rw[hv]at hk;simp[bP,agR]at hk
  exact⟨_,hk,b9.val bz (sJ hs ⟨he.os,he.tape,he.output,he.size,λk hk _=>he.block k hk (no k)⟩ lI (by grind))⟩
 .rename_i o s0 T0 s l0 gN;obtain⟨hb,h⟩:=aQ h;obtain rfl:=beq_true hb;split at h
  case isFalse=>cases h
  rename_i AW;obtain rfl:=Row.eq_of_beq AW;obtain⟨l,hl,hk⟩:=bind_some h;obtain⟨hv,cz,dY⟩:=iS hs gN hx;obtain⟨v',w',bz,he,lI,hn⟩:=key dY hl
  have jI:∀k,bP (ev ρ x) k->cn H ob [o] k:=λk hk=>⟨o,by simp,_,_,_,cz,hv,hk⟩
  exact⟨_,hk,b9.val bz (sJ hs ⟨he.os,he.tape,he.output,he.size,λk hk AG=>he.block k hk λhm=>AG (jI k hm)⟩ lI λk hk=>(hn k hk).imp (jI k) id)⟩
 .cases h
def AZ(ob:Nat->Option (Nat×Th))(r:Row):List aD->Option (List r.den)
 |[]=>aa []
 | .val _ u::l=>match flat ob r u with
   |some x=>match AZ ob r l with
    |some xs=>aa (x::xs)
    |none=>ae
   |none=>ae
 |_::_=>ae
def rH(rd:Operand->Option aD):List Operand->Option (List aD)
 |[]=>aa []
 |x::xs=>match rd x with
  |some d=>match rH rd xs with
   |some ds=>aa (d::ds)
   |none=>ae
  |none=>ae
def fx(H:aI)(F:Nat->Prop)(w:World):List aD->List Value->Prop
 |[],vs=>vs=[]
 |d::ds,vs=>∃v us,vs=v::us/\aC H F w d v/\fx H F w ds us
def nE{rd:Operand->Option aD}(h:∀x d,rd x=aa d->aC H F w d (ev ρ x)):{xs:List Operand}->{ds:List aD}->rH rd xs=aa ds->fx H F w ds (xs.map (ev ρ))
 |[],ds,e=>by obtain rfl:=agx e;rfl
 |x::xs,ds,e=>by
  unfold rH at e
  cases h1:rd x with
  |none=>grind
  |some d=>
   cases h2:rH rd xs with
   |none=>grind
   |some Wf=>
    simp only[h1,h2,agH]at e;subst e;exact⟨_,_,rfl,h _ _ h1,nE h h2⟩
def A0(hs:aJ U H F w ob n){r:Row}:{ds:List aD}->{l:List r.den}->{vs:List Value}->AZ ob r ds=aa l->fx H F w ds vs->vj F w r vs l
 |[],l,vs,e,h=>by
  obtain rfl:=agx e;rw[show vs=[]from h];exact .nil
 | .val _ u::ds,l,vs,e,h=>by
   obtain⟨v,us,rfl,h1,h2⟩:=h;unfold AZ at e
   cases hf:flat ob r u with
   |none=>grind
   |some x=>
    cases hg:AZ ob r ds with
    |none=>grind
    |some xs=>
     simp only[hf,hg,agH]at e;subst e;obtain⟨cs,pP,xK⟩:=aO.cells h1;exact .cons xK (gn hs hf pP) (A0 hs hg h2)
 | .dead::_,_,_,e,_=>by cases e
 | .undef::_,_,_,e,_=>by cases e
 | .ptr .. ::_,_,_,e,_=>by cases e
 | .at .. ::_,_,_,e,_=>by cases e
 | .elem .. ::_,_,_,e,_=>by cases e
 | .tup _::_,_,_,e,_=>by cases e
 | .dlm .. ::_,_,_,e,_=>by cases e
def vw{e t:TypeId}{r:Row}{xs:List Operand}{l:List r.den}{parts:Array (Nat×Operand)}(ht:P.underlying t=aa (.slice e))(xH:TI P e r)(dC:parts=((xs.zipIdx).map λp=>(p.2,p.1)).toArray)(il:xs.length*r.size<=16777216)
 (hl:vj F w r (xs.map (ev ρ)) l)(hs:aJ U H F w ob n):
 ∃v w',(execOp (ev ρ) ⟨aa d, .buildSlice t xs.length parts,ty,pos,aft,ae⟩).run P w= .ok (.value v) w'/\(∀g,Ext g w w')/\lO 0 F w' e r v l/\∀k,bP v k->w.heap.size<=k:=by
 obtain⟨ti,z,h1,h2,h3,h4,h5⟩:=xH
 have Wg:(xs.map (ev ρ)).length=xs.length:=by simp
 have PO:=hl.length;have oV:=r.size_pos
 have Sm:z.cells.size=r.size:=by rw[<-(cD.zero F w r).length,<-h3];simp
 have rI:(parts.map λ(i,q)=>(i,ev ρ q)).toList=((xs.map (ev ρ)).zipIdx).map λp=>(p.2,p.1):=by
  subst dC;simp[List.zipIdx_map,Function.comp_def]
 generalize hm:xs.length=m at*;generalize xs.map (ev ρ)=vs at*
 have key:∀zz:Array Value,zz.size=m*r.size->∃Di:List Value,Instr.fill (λi=>aa (i*r.size,r.size)) zz ((vs.zipIdx).map λp=>(p.2,p.1))=aa Di.toArray/\Di.length=l.length*r.size/\∀i(hi:i<l.length),cD F w r ((Di.drop (i*r.size)).take r.size) l[i]:=by
  intro zz SA;obtain⟨Di,a1,a2,a3⟩:=hl.fill 0 [] zz.toList (by simp) (by rw[Array.length_toList,SA,Wg]);exact⟨Di,by simpa using a1,a2,a3⟩
 have bz:∃Di:List Value,(execOp (ev ρ) ⟨aa d, .buildSlice t m parts,ty,pos,aft,ae⟩).run P w= .ok (.value (.slice (aa ⟨w.heap.size,0,ae⟩) m m)) (w.alloc (.cells Di.toArray e))/\Di.length=l.length*r.size/\∀i(hi:i<l.length),cD F w r ((Di.drop (i*r.size)).take r.size) l[i]:=by
  by_cases h0:m*r.size=0
  .obtain⟨Di,a1,a2,a3⟩:=key #[] (by simp[h0]);refine⟨Di,?_,a2,a3⟩;simp only[execOp,Instr.buildSlice,agU,run_underlying ht,aho];rw[rI]
   have Wh:Array.range 0=(#[]:Array Nat):=by rfl
   simp[sizeOf,typeInfo,h1,h4,h0,newRow,Wh,a1]
  .obtain⟨Di,a1,a2,a3⟩:=key ((Array.range (m*r.size)).map (z.cells[· %z.cells.size]!)) (by simp);refine⟨Di,?_,a2,a3⟩;simp only[execOp,Instr.buildSlice,agU,run_underlying ht,aho];rw[rI];simp[sizeOf,typeInfo,h1,h4,h0,zeroValue,h2,newRow,a1,show¬(16777216<m*r.size)from by omega]
 obtain⟨Di,bz,a2,a3⟩:=bz
 have MD:m=l.length:=by omega
 have abm:m<=16777216:=agW (Nat.le_mul_of_pos_right m oV) il;refine⟨_,_,bz,λg=>nD _,⟨λk hk=>?_,Di,?_,λi hi=>(a3 i hi).step (Step.alloc hs.lt _)⟩,λk hk=>?_⟩
 .simp only[bP,agR,agH]at hk;intro e;have:=hs.lt _ e;omega
 .have:=World.ownsRow_lit (base:=0) (e:=e) (size:=r.size) w Di.toArray m (Nat.zero_le _) (by simp[maxLen];omega) (by simp[a2,MD]);rw[MD]at this⊢;simpa using mE.of this
 .simp only[bP,agR,agH]at hk;omega
def run_build{e t:TypeId}{r:Row}{xs:List Operand}{l:List r.den}{parts:Array (Nat×Operand)}(ht:P.underlying t=aa (.slice e))(xH:TI P e r)(dC:parts=((xs.zipIdx).map λp=>(p.2,p.1)).toArray)(il:xs.length*r.size<=16777216)
 (hl:vj F w r (xs.map (ev ρ)) l)(hs:aJ U H F w ob n):
 cr P U H F w ρ ob n ⟨aa d, .buildSlice t xs.length parts,ty,pos,aft,ae⟩ {dst:= .val ag (.own n),make:=[(n,(n, .own e r l))]}:=by
 obtain⟨v,w',h1,h2,h3,h4⟩:=vw (d:=d) (ty:=ty) (pos:=pos) (aft:=aft) ht xH dC il hl hs;exact b9.val h1 (sJ hs (h2 _) h3 λk hk=> .inr (h4 k hk))
def FB:Nat->List (Nat×Operand)->Bool
 |_,[]=>af
 |k,p::l=>agC p.1 k&&FB (k+1) l
def vx:{k:Nat}->{l:List (Nat×Operand)}->FB k l=af->l=((l.map (·.2)).zipIdx k).map λp=>(p.2,p.1)
 |_,[],_=>rfl
 |k,p::l,h=>by
  obtain⟨h1,h2⟩:=cx h;have h1:=beq_true h1;have ih:=vx h2
  grind [List.zipIdx_cons]
def jU(T:be P)(rd:Operand->Option aD)(ob:Nat->Option (Nat×Th))(n:Nat)(t:TypeId)(m:Nat)(parts:Array (Nat×Operand))(k:dL->Option R):Option R:=
 match find T.und t with
 |some (.slice e)=>match find T.row e with
  |some r=>bif FB 0 parts.toList&&agC m parts.toList.length&&Nat.ble (m*r.size) 16777216 then
    (match rH rd (parts.toList.map (·.2))with
    |some ds=>match AZ ob r ds with
     |some l=>k {dst:= .val ag (.own n),make:=[(n,(n, .own e r l))]}
     |none=>ae
    |none=>ae)else ae
  |none=>ae
 |_=>ae
def vy(T:be P){rd:Operand->Option aD}(gf:∀x d,rd x=aa d->aC H F w d (ev ρ x)){t:TypeId}{m:Nat}{parts:Array (Nat×Operand)}{k:dL->Option R}{q:R}(h:jU T rd ob n t m parts k=aa q)(hs:aJ U H F w ob n):
 ∃e,k e=aa q/\cr P U H F w ρ ob n ⟨aa d, .buildSlice t m parts,ty,pos,aft,ae⟩ e:=by
 unfold jU at h;split at h
 case h_2=>cases h
 rename_i e hu;split at h
 case h_2=>cases h
 rename_i r hr;obtain⟨h1,h⟩:=aQ h;obtain⟨h1,h3⟩:=cx h1;obtain⟨h1,h2⟩:=cx h1;have h2:=beq_true h2
 have h3:m*r.size<=16777216:=by simpa using h3
 split at h
 case h_2=>cases h
 rename_i ds xc;split at h
 case h_2=>cases h
 rename_i l hl;have SB:=A0 hs hl (nE gf xc)
 have hp:parts=(((parts.toList.map (·.2)).zipIdx).map λp=>(p.2,p.1)).toArray:=by
  rw[<-vx h1,ahj]
 have hm:m=(parts.toList.map (·.2)).length:=by simpa using h2
 refine⟨_,h,?_⟩;have:=run_build (d:=d) (ty:=ty) (pos:=pos) (aft:=aft) (T.und_ok _ _ hu) (T.row_ok _ _ hr) hp (by grind) SB hs
 grind
def FC{P:Program}(T:be P)(fs:List (TypeId×Nat)):Tree->List (Nat×aD)->Option Tree
 |t,[]=>aa t
 |t,(f, .val _ u)::l=>match t.get (rF fs.length f)with
  |some (s,off)=>match fs[f]? with
   |some (ft,dN)=>bif agC off dN&&agC u.size s.size&&(match find T.row ft with|some r=>agC r.size u.size|none=>ag)then
     (match t.put (rF fs.length f) u with
     |some t'=>FC T fs t' l
     |none=>ae)else ae
   |none=>ae
  |none=>ae
 |_,_::_=>ae
def uQ(T:be P):List (TypeId×Nat)->Bool
 |[]=>af
 |p::fs=>(match find T.row p.1 with|some _=>af|none=>ag)&&uQ T fs
def place(T:be P)(fs:List (TypeId×Nat))(i:Nat):Option (Nat×Nat):=
 match fs[i]? with
 |some (ft,off)=>match find T.row ft with
  |some r=>aa (off,r.size)
  |none=>ae
 |none=>ae
def vz(T:be P):{l:List Field}->{fs:List (TypeId×Nat)}->l.map (λf=>(f.type,f.offset))=fs->uQ T fs=af->
 ∃pl:List (Nat×Nat),(l.mapM λ(f:Field)=>(do pure (f.offset,<-sizeOf f.type):Sem (Nat×Nat))).run P w= .ok pl w/\∀i,pl[i]? =place T fs i
 |[],fs,h,_=>by
  subst h;exact⟨[],by simp,λi=>by simp[place]⟩
 |f::l,fs,h,hz=>by
  subst h;obtain⟨h1,h2⟩:=cx hz;obtain⟨pl,Vm,M3⟩:=vz T (l:=l) rfl h2
  cases hr:find T.row f.type with
  |none=>grind
  |some r=>
   obtain⟨ti,z,g1,_,_,g4,_⟩:=T.row_ok _ _ hr;refine⟨(f.offset,r.size)::pl,?_,λi=>?_⟩
   .have DK:(sizeOf f.type).run P w= .ok r.size w:=by simp[sizeOf,typeInfo,g1,g4]
    simp_all
   grind [place]
end
end
section
section
variable {P:Program} {ρ:Nat->Value} {w w':World} {H H':aI} {F F':Nat->Prop} {U:Nat->Prop} {ob:Nat->Option (Nat×Th)} {n:Nat} {R:Type}
variable {op:Op} {ty:TypeId} {pos:String} {aft:Array Edge} {d:Nat}
def A3(T:be P){fs:List (TypeId×Nat)}{pl:List (Nat×Nat)}(hz:uQ T fs=af)(wZ:∀i,pl[i]? =place T fs i)(lJ:∀ft off r,(ft,off)∈fs->find T.row ft=aa r->True):
 {parts:List (Nat×aD)}->{t t':Tree}->{cs:List Value}->{vs:List (Nat×Value)}->FC T fs t parts=aa t'->Holds H F w t cs->parts.map (·.1)=vs.map (·.1)->fx H F w (parts.map (·.2)) (vs.map (·.2))->
 ∃uj,Instr.fill (pl[·]?) cs.toArray vs=aa uj.toArray/\Holds H F w t' uj
 |[],t,t',cs,vs,h,hh,h1,h2=>by
  obtain rfl:=agx h
  have:vs=[]:=by simpa using h1.symm
  subst this;exact⟨cs,by simp[Instr.fill],hh⟩
 |(f, .val agg u)::parts,t,t',cs,vs,h,hh,h1,h2=>by
  obtain⟨v,us,e,hv,h3⟩:=h2
  cases vs with
  |nil=>simp at e
  |cons fv vs=>
   obtain⟨f',v'⟩:=fv;simp only[List.map_cons,aht]at h1 e;obtain⟨rfl,h1⟩:=h1;obtain⟨rfl,rfl⟩:=e;unfold FC at h;split at h
   case h_2=>cases h
   rename_i s off hg;split at h
   case h_2=>cases h
   rename_i ft dN hf;obtain⟨hb,h'⟩:=aQ h;clear h;obtain⟨hb,Wi⟩:=cx hb;obtain⟨Jg,PR⟩:=cx hb;have Jg:=beq_true Jg;subst Jg;have PR:=beq_true PR;split at h'
   case h_2=>cases h'
   rename_i tp hp;obtain⟨c1,xD,xK⟩:=aO.cells hv;have hl:=xD.length;have hle:=(hh.get hg).2
   cases hr:find T.row ft with
   |none=>grind
   |some r=>
    simp only[hr]at Wi;have Wi:=beq_true Wi
    have PT:pl[f]? =aa (off,r.size):=by rw[wZ];simp[place,hf,hr]
    rw[xB PT xK (by omega) (by omega)];have sE:=Holds.put xD hg hp PR.symm hh;rw[show u.size=r.size from by omega]at sE;exact A3 T hz wZ lJ h' sE h1 h3
 |(_, .dead)::_,_,_,_,_,h,_,_,_=>by cases h
 |(_, .undef)::_,_,_,_,_,h,_,_,_=>by cases h
 |(_, .ptr ..)::_,_,_,_,_,h,_,_,_=>by cases h
 |(_, .at ..)::_,_,_,_,_,h,_,_,_=>by cases h
 |(_, .elem ..)::_,_,_,_,_,h,_,_,_=>by cases h
 |(_, .tup _)::_,_,_,_,_,h,_,_,_=>by cases h
 |(_, .dlm ..)::_,_,_,_,_,h,_,_,_=>by cases h
def sK(T:be P)(rd:Operand->Option aD)(t:TypeId)(parts:Array (Nat×Operand))(k:dL->Option R):Option R:=
 match find T.und t with
 |some (.struct fs)=>match find T.row t with
  |some r=>bif uQ T fs then
    (match rH rd (parts.toList.map (·.2))with
    |some ds=>match FC T fs r.AU ((parts.toList.map (·.1)).zip ds)with
     |some tr=>k {dst:= .val af tr}
     |none=>ae
    |none=>ae)else ae
  |none=>ae
 |_=>ae
def kh:{ds:List aD}->{vs:List Value}->fx H F w ds vs->ds.length=vs.length
 |[],_,h=>by rw[show _=[]from h];rfl
 |_::_,_,h=>by obtain⟨v,us,rfl,_,h2⟩:=h;simp[kh h2]
def Hf(T:be P){rd:Operand->Option aD}(gf:∀x d,rd x=aa d->aC H F w d (ev ρ x)){t:TypeId}{parts:Array (Nat×Operand)}{k:dL->Option R}{q:R}(h:sK T rd t parts k=aa q)(hs:aJ U H F w ob n):
 ∃e,k e=aa q/\cr P U H F w ρ ob n ⟨aa d, .build t parts,ty,pos,aft,ae⟩ e:=by
 unfold sK at h;split at h
 case h_2=>cases h
 rename_i fs hu;obtain⟨arr,Je,MY⟩:=T.und_ok _ _ hu;split at h
 case h_2=>cases h
 rename_i r hr;obtain⟨ti,z,h1,h2,h3,h4,h5⟩:=T.row_ok _ _ hr;obtain⟨hz,h⟩:=aQ h;split at h
 case h_2=>cases h
 rename_i ds xc;split at h
 case h_2=>cases h
 rename_i tr SC;have hd:=nE (w:=w) (H:=H) (F:=F) (ρ:=ρ) gf xc;have hlen:=kh hd;obtain⟨pl,Vm,M3⟩:=vz (w:=w) T MY hz
 have hn:∀(a:List Nat)(b:List aD),a.length=b.length->(a.zip b).map (·.1)=a/\(a.zip b).map (·.2)=b:=λa b R3=>⟨List.map_fst_zip (by omega),List.map_snd_zip (by omega)⟩
 have Wj:=hn (parts.toList.map (·.1)) ds (by simp at hlen⊢;omega);obtain⟨uj,hf,hh⟩:=A3 (w:=w) (H:=H) (F:=F) T hz M3 (λ_ _ _ _ _=>trivial) (vs:=parts.toList.map λ(i,q)=>(i,ev ρ q)) SC (Row.mJ H F w r) (by rw[Wj.1];simp[Function.comp_def]) (by grind [Function.comp_def]);refine⟨_,h,bM hs (v:= .agg uj.toArray) ?_ ⟨uj,hh,rfl,by simp⟩⟩
 have hzc:z.cells=r.eP.toArray:=by rw[<-h3,ahj]
 have Hg:(arr.mapM λ(f:Field)=>(do pure (f.offset,<-sizeOf f.type):Sem (Nat×Nat))).run P w= .ok pl.toArray w:=by
  rw[<-ahj (xs:=arr),List.mapM_toArray];simp only[Sem.run_map,Vm];rfl
 have ZZ:(parts.map λ(i,q)=>(i,ev ρ q)).toList=parts.toList.map λ(i,q)=>(i,ev ρ q):=by simp
 have Wk:(λ(x:Nat)=>pl.toArray[x]?)=λx=>pl[x]? :=by funext x;simp
 simp only[execOp,Instr.build,agU,zeroValue,typeInfo,h1,h2,run_program,Sem.run_pure,aho,run_underlying Je,hzc,ZZ,Hg,Wk,hf]
def M4(rd:Operand->Option aD):Option Operand->Option (Option Int)
 |none=>aa ae
 |some x=>match rd x with
  |some d=>match asInt d with
   |some (_,i)=>aa (aa i)
   |none=>ae
  |none=>ae
def FD{rd:Operand->Option aD}(gf:∀x d,rd x=aa d->aC H F w d (ev ρ x)){lo:Option Operand}{a:Option Int}(h:M4 rd lo=aa a):PP ρ lo a:=by
 unfold M4 at h;split at h
 .obtain rfl:=agx h;exact .none
 .split at h
  .split at h
   .obtain rfl:=agx h;rename_i hD _ _ _ hi;exact .some (iB hi (gf _ _ hD))
   .cases h
  .cases h
def sL(dr:Bool)(T:be P)(rd:Operand->Option aD)(ob:Nat->Option (Nat×Th))(n:Nat)(t:TypeId)(D:aD)(lo hi:Option Operand)(k:dL->Option R):Option R:=
 match find T.und t with
 |some (.slice e)=>match find T.row e with
  |some re=>match M4 rd lo with
   |some a=>match M4 rd hi with
    |some b=>match ur ob D with
     |some (.read r l)=>bif agC r.size re.size then(ga l (a.getD 0) (b.getD (l.length:Int))).bind λm=>k {dst:= .val ag (.leaf (.slice r) m)}else ae
     |some .nil=>(ga ([]:List re.den) (a.getD 0) (b.getD 0)).bind λ_=>k {dst:= .val ag .nil}
     |some (.own o s T0 r l)=>bif agC r.size re.size&&agC T0 e&&(lo.isNone||dr)then(ga l (a.getD 0) (b.getD (l.length:Int))).bind λm=>k {dst:= .val ag (.own n),eat:=[o],make:=[(n,(n, .own T0 r m))]}
       else bif agC r.size re.size then(ga l (a.getD 0) (b.getD (l.length:Int))).bind λm=>k {dst:= .val ag (.view o s r m)}else ae
     |_=>ae
    |none=>ae
   |none=>ae
  |none=>ae
 |_=>ae
def Hh{e T0:TypeId}{ti:TypeInfo}{r:Row}{t:TypeId}{x:Operand}{lo hi:Option Operand}{a b:Option Int}{l m:List r.den}{o s:Nat}{v:Value}(ht:P.underlying t=aa (.slice e))(h1:P.info? e=aa ti)(h4:ti.size=r.size)(hx:ev ρ x=v)
 (hs:aJ U H F w ob n)(cz:ob o=aa (s, .own T0 r l))(PU:H.val o=aa v)(ha:PP ρ lo a)(hb:PP ρ hi b)(hm:ga l (a.getD 0) (b.getD l.length)=aa m):
 cr P U H F w ρ ob n ⟨aa d, .slice t x lo hi ae,ty,pos,aft,ae⟩ {dst:= .val ag (.own n),eat:=[o],make:=[(n,(n, .own T0 r m))]}:=by
 have hv:=hs.own cz PU;obtain⟨p,q,ep,eq,R4,hq,rfl⟩:=sD hm;obtain⟨A,cap,rfl,hlen,PI,_⟩:=hv.reads;have bz:=uN (P:=P) (w:=w) (d:=d) (ty:=ty) (pos:=pos) (aft:=aft) ht h1 hx ha hb (by omega) (by omega) (by omega) hlen;rw[ep,eq,agD,agD,h4]at bz;obtain⟨AG,xs,⟨GV,Wl⟩,hr⟩:=hv
 have Wm:((l.take q).drop p).length=q-p:=by simp;omega
 have hmul:q*r.size<=l.length*r.size:=agM _ hq;have Z0:p*r.size<=q*r.size:=agM _ R4;have Z1:(q-p)*r.size=q*r.size-p*r.size:=Nat.sub_mul ..
 have bO:Ext (cn H ob [o]) w w:=⟨rfl,⟨rfl,agB _⟩,rfl,agB _,λ_ _ _=>rfl⟩
 rcases Wl with⟨J1,h0⟩|⟨g,o0,JL,cur,gN,sC,hh,hn1,hn2,pP,M5⟩
 .simp only[ahJ]at J1;obtain⟨rfl,_,rfl⟩:=J1
  have SD:q=0:=by omega
  subst SD
  obtain rfl:p=0:=by omega
  refine b9.val bz (sJ hs bO ?_ ?_)
  .simpa[sliced]using lO.nil 0 F w T0 r
  .intro k hk;simp[sliced,bP,agR]at hk
 .simp only[ahJ,true_and]at gN;obtain⟨rfl,rfl⟩:=gN
  obtain⟨o1,oN,ho1,SE⟩:∃o1,sliced (aa ⟨g,o0,ae⟩) p q cap r.size= .slice (aa ⟨g,o1,ae⟩) (q-p) (cap-p)/\o1+(cap-p)*r.size<=cur.size/\(cur.toList.drop o1).take ((q-p)*r.size)=(xs.drop (p*r.size)).take ((q-p)*r.size):=by
   have hcp:p*r.size<=cap*r.size:=agM _ (by omega);have abp:(cap-p)*r.size=cap*r.size-p*r.size:=Nat.sub_mul ..;unfold sliced;by_cases hc:cap=p
   .refine⟨o0,by rw[aj hc],by omega,?_⟩
    have:q=p:=by omega
    subst this;simp
   .refine⟨o0+p*r.size,by rw[ai hc,Option.map_some,cV],by omega,?_⟩;rw[<-M5,List.drop_take,List.take_take,List.drop_drop]
    congr 1
    omega
  rw[oN]at bz
  have Z2:∀k,bP (.slice (aa ⟨g,o1,ae⟩) (q-p) (cap-p)) k->bP (.slice (aa ⟨g,o0,ae⟩) l.length cap) k:=λk hk=>by simpa[bP,agR]using hk
  refine b9.val bz (sJ hs bO ⟨λk hk=>AG k (Z2 k hk),(xs.drop (p*r.size)).take ((q-p)*r.size),⟨by rw[Wm];simp;omega, .inr ⟨g,o1,cap-p,cur,by rw[Wm],sC,hh,by omega,by omega,ho1,?_⟩⟩,λi hi=>?_⟩ λk hk=> .inl ⟨o,by simp,_,_,_,cz,PU,Z2 k hk⟩)
  .rw[Wm];exact SE
  .have hi2:i<q-p:=by omega
   have hle:(i+1)*r.size<=(q-p)*r.size:=agM _ hi2;rw[ahy]at hle;have:=hr (p+i) (by omega)
   have hg:((l.take q).drop p)[i]=l[p+i]'(by omega):=by simp
   rw[hg,List.drop_take,List.take_take,ahw (by omega),List.drop_drop,show p*r.size+i*r.size=(p+i)*r.size from(ahy ..).symm];exact this
def Hi(dr:Bool)(T:be P){rd:Operand->Option aD}(gf:∀x d,rd x=aa d->aC H F w d (ev ρ x)){t:TypeId}{D:aD}{x:Operand}{lo hi:Option Operand}{k:dL->Option R}{q:R}(h:sL dr T rd ob n t D lo hi k=aa q)(hs:aJ U H F w ob n)(hx:aC H F w D (ev ρ x)):
 ∃e,k e=aa q/\cr P U H F w ρ ob n ⟨aa d, .slice t x lo hi ae,ty,pos,aft,ae⟩ e:=by
 unfold sL at h;split at h
 case h_2=>cases h
 rename_i e hu;have ht:=T.und_ok _ _ hu;split at h
 case h_2=>cases h
 rename_i re Wn;obtain⟨ti,z,h1,_,_,h4,_⟩:=T.row_ok _ _ Wn;split at h
 case h_2=>cases h
 rename_i a ha;split at h
 case h_2=>cases h
 rename_i b hb;have Vn:=FD (w:=w) (H:=H) (F:=F) (ρ:=ρ) gf ha;have sC:=FD (w:=w) (H:=H) (F:=F) (ρ:=ρ) gf hb
 have PV:∀{r:Row}{l m:List r.den},cD F w (.slice r) [ev ρ x] l->r.size=re.size->ga l (a.getD 0) (b.getD (l.length:Int))=aa m->cr P U H F w ρ ob n ⟨aa d, .slice t x lo hi ae,ty,pos,aft,ae⟩ {dst:= .val ag (.leaf (.slice r) m)}:=by
  intro r l m hv hz hm;obtain⟨p,q',ep,eq,R4,hq,rfl⟩:=sD hm;have ey:=hv;obtain⟨A,cap,he,hc,M6,_⟩:=hv;simp only[aht,and_true]at he;have bz:=uN (P:=P) (w:=w) (d:=d) (ty:=ty) (pos:=pos) (aft:=aft) ht h1 he Vn sC (by omega) (by omega) (by omega) hc;rw[ep,eq,agD,agD,h4,<-hz]at bz;rw[he]at ey;exact bM hs bz (aO.mI (ey.cut R4 hq))
 split at h
 .rename_i r l gN;obtain⟨hz,h⟩:=aQ h;obtain⟨m,hm,hk⟩:=bind_some h;exact⟨_,hk,PV (iS hs gN hx) (beq_true hz) hm⟩
 .rename_i gN;obtain⟨m,hm,hk⟩:=bind_some h;have hv:ev ρ x=_:=iS hs gN hx;unfold ga at hm;split at hm
  case isFalse=>cases hm
  rename_i hc
  have ea:a.getD 0=0:=by have:=hc.2.1;have:=hc.2.2;simp at this;omega
  have eb:b.getD ((0:Nat):Int)=0:=by have:=hc.2.1;have:=hc.2.2;simp at this⊢;omega
  have bz:=uN (P:=P) (w:=w) (d:=d) (ty:=ty) (pos:=pos) (aft:=aft) ht h1 hv Vn sC (by omega) (by omega) (by omega) (agB _);rw[ea,eb]at bz;exact⟨_,hk,bM hs bz ⟨_,rfl,rfl,λ_=>rfl⟩⟩
 .rename_i o s T0 r l gN;obtain⟨hv,cz,dY⟩:=iS hs gN hx
  cases Wo:(agC r.size re.size&&agC T0 e&&(lo.isNone||dr))with
  |true=>
   rw[Wo,cond_true]at h;obtain⟨DK,hlo⟩:=cx Wo;obtain⟨Fz,hT⟩:=cx DK;have SA:=beq_true Fz;obtain⟨m,hm,hk⟩:=bind_some h;exact⟨_,hk,Hh ht h1 (h4.trans SA.symm) rfl hs cz hv Vn sC hm⟩
  |false=>
   rw[Wo,cond_false]at h;obtain⟨Fz,h'⟩:=aQ h;clear h;have SA:=beq_true Fz;obtain⟨m,hm,hk⟩:=bind_some h';obtain⟨p,q',ep,eq,R4,hq,rfl⟩:=sD hm;obtain⟨A,cap,he,hc,M6,_⟩:=dY.reads;have bz:=uN (P:=P) (w:=w) (d:=d) (ty:=ty) (pos:=pos) (aft:=aft) ht h1 he Vn sC (by omega) (by omega) (by omega) hc;rw[ep,eq,agD,agD,h4,<-SA]at bz;obtain⟨v',ey,cG⟩:=hs.obj _ _ _ cz;refine⟨_,hk,bM hs bz ⟨_,⟨_,rfl,A,cap,T0,l,p,q',by rw[hv,he],cG.con,R4,hq,rfl,rfl⟩,rfl,λ_=>rfl⟩⟩
 .cases h
noncomputable def PW(T:be P)(ob:Nat->Option (Nat×Th))(o:BinOp)(t:TypeId)(X Y:aD):Option aD:=
 match X,Y with
 | .val ag (.leaf .bool a), .val ag (.leaf .bool b)=>match find T.und t with
   |some .bool=>match o with
    | .eql=>aa (dK (decide (a=b)))
    | .neq=>aa (dK (!decide (a=b)))
    |_=>ae
   |_=>ae
 | .val ag (.leaf .str a), .val ag (.leaf .str b)=>match o with
   | .eql=>aa (dK (decide (a=b)))
   | .neq=>aa (dK (!decide (a=b)))
   |_=>ae
 | .val af u, .val af v=>match find T.eqs t with
   |some r=>match flat ob r u with
    |some x=>match flat ob r v with
     |some y=>match o with
      | .eql=>aa (dK (lH r x y))
      | .neq=>aa (dK (!(lH r x y)))
      |_=>ae
     |none=>ae
    |none=>ae
   |none=>ae
 |_,_=>ae
theorem M7(T:be P){o:BinOp}{t u:TypeId}{X Y D:aD}{x y:Operand}(h:PW T ob o t X Y=aa D)(hs:aJ U H F w ob n)(hx:aC H F w X (ev ρ x))(hy:aC H F w Y (ev ρ y)):
 cr P U H F w ρ ob n ⟨aa d, .binOp o t x y u,ty,pos,aft,ae⟩ {dst:=D}:=by
 unfold PW at h;split at h
 .rename_i a b;split at h
  case h_2=>cases h
  rename_i hu;have hu:=T.und_ok _ _ hu;have ha:ev ρ x= .bool a:=aO.bool hx;have hb:ev ρ y= .bool b:=aO.bool hy
  split at h<;>cases h
  .exact aV hs (GG hu ha hb) (aO.fG ..)
  .exact aV hs (GH hu ha hb) (aO.fG ..)
 .rename_i a b;have ha:ev ρ x= .string a:=aO.str hx;have hb:ev ρ y= .string b:=aO.str hy
  split at h<;>cases h
  .exact aV hs (GI ha hb) (aO.fG ..)
  .exact aV hs (GJ ha hb) (aO.fG ..)
 .rename_i u v;split at h
  case h_2=>cases h
  rename_i r hr;obtain⟨K,dd,hE,hd,hg,hD⟩:=T.eqs_ok _ _ hr;split at h
  case h_2=>cases h
  rename_i a ha;split at h
  case h_2=>cases h
  rename_i b hb;obtain⟨c1,g1,e1,_⟩:=hx;obtain⟨c2,g2,e2,_⟩:=hy;have r1:=gn hs ha g1;have r2:=gn hs hb g2
  split at h<;>cases h
  .exact aV hs (GZ hE hd hg hD e1 e2 r1 r2) (aO.fG ..)
  .exact aV hs (G0 hE hd hg hD e1 e2 r1 r2) (aO.fG ..)
 .cases h
def PX(a b:ByteArray):Option ByteArray:=if a.size+b.size<=9223372036854775807 then aa (a++b)else ae
def DM(o:BinOp)(X Y:aD):Option (ByteArray×ByteArray):=
 match o,X,Y with
 | .add, .val ag (.leaf .str a), .val ag (.leaf .str b)=>aa (a,b)
 |_,_,_=>ae
def PY{t u:TypeId}{o:BinOp}{X Y:aD}{x y:Operand}{a b c:ByteArray}(h:DM o X Y=aa (a,b))(hc:PX a b=aa c)(hs:aJ U H F w ob n)(hx:aC H F w X (ev ρ x))(hy:aC H F w Y (ev ρ y)):
 cr P U H F w ρ ob n ⟨aa d, .binOp o t x y u,ty,pos,aft,ae⟩ {dst:= .val ag (.leaf .str c)}:=by
 unfold DM at h
 split at h<;>cases h
 unfold PX at hc;split at hc
 case isFalse=>cases hc
 rename_i hle;obtain rfl:=agx hc;have ha:ev ρ x= .string a:=aO.str hx;have hb:ev ρ y= .string b:=aO.str hy;refine bM hs (v:= .string (a++b)) ?_ (aO.mI rfl)
 have:¬(9223372036854775807:Int)<(a.size:Int)+(b.size:Int):=by omega
 simp[execOp,eqGuard,binOp,Op.stringOp,ha,hb,IntKind.max,IntKind.signed,IntKind.bits,this]
noncomputable def Hj(T:be P)(ob:Nat->Option (Nat×Th))(o:BinOp)(t:TypeId)(lit:Bool)(X Y:aD)(k:dL->Option R):Option R:=
 match asInt X with
 |some (kx,a)=>match asInt Y with
  |some (ky,b)=>match o with
   | .shl=>bif lit then(bif !decide (b<0)then k {dst:=mg kx (w7 kx a b)}else ae)else(qK kx a b).bind λc=>k {dst:=mg kx c}
   | .shr=>bif lit then(bif !decide (b<0)then k {dst:=mg kx (bQ kx a b)}else ae)else(w8 kx a b).bind λc=>k {dst:=mg kx c}
   |o=>bif decide (kx=ky)then
    (match o with
    | .quo=>bif lit then(bif decide (b≠0)then k {dst:=mg kx (kx.wrap (agN a b))}else ae)else(y0 a b).bind λc=>k {dst:=mg kx (kx.wrap c)}
    | .rem=>bif lit then(bif decide (b≠0)then k {dst:=mg kx (aha a b)}else ae)else(G6 a b).bind λc=>k {dst:=mg kx c}
    |_=>match arith o kx a b with
     |some D=>k {dst:=D}
     |none=>ae)else ae
  |none=>ae
 |none=>match DM o X Y with
  |some (a,b)=>(PX a b).bind λc=>k {dst:= .val ag (.leaf .str c)}
  |none=>match PW T ob o t X Y with
   |some D=>k {dst:=D}
   |none=>ae
def M8(T:be P){o:BinOp}{t u:TypeId}{lit:Bool}{X Y:aD}{x y:Operand}{k:dL->Option R}{q:R}(h:Hj T ob o t lit X Y k=aa q)(hs:aJ U H F w ob n)(hx:aC H F w X (ev ρ x))(hy:aC H F w Y (ev ρ y)):
 ∃e,k e=aa q/\cr P U H F w ρ ob n ⟨aa d, .binOp o t x y u,ty,pos,aft,ae⟩ e:=by
 unfold Hj at h;split at h
 .rename_i kx a hX;split at h
  case h_2=>cases h
  rename_i ky b hY;have ha:=iB hX hx;have hb:=iB hY hy;split at h
  .cases lit with
   |true=>
    rw[cond_true]at h;obtain⟨du,h⟩:=aQ h;exact⟨_,h,aV hs (AS ha hb (by simpa using du)) (aO.jS ..)⟩
   |false=>
    rw[cond_false]at h;obtain⟨c,hc,h⟩:=bind_some h;unfold qK at hc;split at hc
    .cases hc
    .rename_i du;obtain rfl:=agx hc;exact⟨_,h,aV hs (AS ha hb du) (aO.jS ..)⟩
  .cases lit with
   |true=>
    rw[cond_true]at h;obtain⟨du,h⟩:=aQ h;exact⟨_,h,aV hs (AT ha hb (by simpa using du)) (aO.jS ..)⟩
   |false=>
    rw[cond_false]at h;obtain⟨c,hc,h⟩:=bind_some h;unfold w8 at hc;split at hc
    .cases hc
    .rename_i du;obtain rfl:=agx hc;exact⟨_,h,aV hs (AT ha hb du) (aO.jS ..)⟩
  obtain⟨hk,h'⟩:=aQ h;clear h;have hk:=al hk;subst hk;revert h';intro h;split at h
  .cases lit with
   |true=>
    rw[cond_true]at h;obtain⟨du,h⟩:=aQ h
    grind [JY]
   |false=>
    grind [y0,JY]
  .cases lit with
   |true=>
    rw[cond_true]at h;obtain⟨du,h⟩:=aQ h
    grind [JZ]
   |false=>
    grind [G6,JZ]
  grind [JX]
 .split at h
  .rename_i a b R3;obtain⟨c,hc,h⟩:=bind_some h;exact⟨_,h,PY R3 hc hs hx hy⟩
  grind [M7]
def Wq(o:UnOp)(X:aD):Option aD:=
 match o with
 | .not=>match asBool X with
   |some b=>aa (dK (!b))
   |none=>ae
 | .neg=>match asInt X with
   |some (k,a)=>aa (mg k (k.wrap (0-a)))
   |none=>ae
 |_=>ae
theorem PZ{o:UnOp}{t:TypeId}{X D:aD}{x:Operand}(h:Wq o X=aa D)(hs:aJ U H F w ob n)(hx:aC H F w X (ev ρ x)):
 cr P U H F w ρ ob n ⟨aa d, .unOp o t x,ty,pos,aft,ae⟩ {dst:=D}:=by
 unfold Wq at h;split at h
 .split at h<;>cases h
  rename_i b hb;exact aV hs (JF (nB hb hx)) (aO.fG ..)
 .split at h<;>cases h
  rename_i k a ha;exact aV hs (JG (iB ha hx)) (aO.jS ..)
 .cases h
def J6(T:be P)(s t:TypeId)(X:aD):Option aD:=
 match find T.und s with
 |some _=>match find T.und t with
  |some (.int k)=>match asInt X with
   |some (_,a)=>aa (mg k (k.wrap a))
   |none=>ae
  |some .str=>match AQ X with
   |some a=>aa (Wb a)
   |none=>ae
  |_=>ae
 |none=>ae
def J7(T:be P){s t:TypeId}{X D:aD}{x:Operand}(h:J6 T s t X=aa D)(hs:aJ U H F w ob n)(hx:aC H F w X (ev ρ x)):
 cr P U H F w ρ ob n ⟨aa d, .convert s t x,ty,pos,aft,ae⟩ {dst:=D}:=by
 unfold J6 at h;split at h
 case h_2=>cases h
 rename_i ks hsu;obtain⟨dd,xE,_⟩:=(T.und_ok _ _ hsu).agg;split at h
 .rename_i k Wr
  split at h<;>cases h
  rename_i k' a ha;exact aV hs (GK xE (T.und_ok _ _ Wr) (iB ha hx)) (aO.jS ..)
 .rename_i Wr
  split at h<;>cases h
  rename_i a ha;have hv:=vp ha hx;have Ws:P.underlying t=aa .string:=T.und_ok _ _ Wr;refine bM hs (v:= .string a) ?_ (aO.mkStr ..);simp[execOp,convert,run_underlying xE,run_underlying Ws,hv]
 .cases h
def vA(D:aD)(i:Nat):Option aD:=
 match D with
 | .tup ds=>match ds[i]? with
   |some (a,t)=>aa (.val a t)
   |none=>ae
 |_=>ae
def rE.get:{ds:List (Bool×Tree)}->{vs:List Value}->{i:Nat}->{a:Bool}->{t:Tree}->rE H F w ds vs->ds[i]? =aa (a,t)->∃v,vs[i]? =aa v/\aO H F w a t v
 |[],_,_,_,_,_,h=>by cases h
 |d::ds,_,0,a,t,hh,h=>by
  obtain⟨v,us,rfl,h1,h2⟩:=hh
  grind
 |d::ds,_,i+1,a,t,hh,h=>by
  obtain⟨v,us,rfl,h1,h2⟩:=hh;obtain⟨v',e,hv⟩:=rE.get h2 (by simpa using h)
  grind
theorem A4{D D':aD}{i:Nat}{x:Operand}(h:vA D i=aa D')(hs:aJ U H F w ob n)(hx:aC H F w D (ev ρ x)):
 cr P U H F w ρ ob n ⟨aa d, .extract x i,ty,pos,aft,ae⟩ {dst:=D'}:=by
 unfold vA at h;split at h
 case h_2=>cases h
 split at h<;>cases h
 rename_i ds a t hd;obtain⟨vs,e,ht⟩:=hx;obtain⟨v,hv,mG⟩:=ht.get hd;exact aV hs (yW e (by simpa using hv)) mG
def uR(mx:Bool)(X Y:aD):Option aD:=
 match asInt X,asInt Y with
 |some (k,a),aa (k',b)=>bif decide (k=k')then aa (mg k (bif mx then(if a<b then b else a)else(if b<a then b else a)))else ae
 |_,_=>ae
theorem vB{mx:Bool}{t t':TypeId}{X Y D:aD}{x y:Operand}(h:uR mx X Y=aa D)(hs:aJ U H F w ob n)(hx:aC H F w X (ev ρ x))(hy:aC H F w Y (ev ρ y)):
 cr P U H F w ρ ob n ⟨aa d, .call {callee:= .builtin (bif mx then .max else .min),args:= #[x,y],argTypes:= #[t,t']},ty,pos,aft,ae⟩ {dst:=D}:=by
 unfold uR at h;split at h
 case h_2=>cases h
 rename_i k a k' b ha hb;obtain⟨hk,h'⟩:=aQ h;clear h;have hk:=al hk;subst hk;obtain rfl:=agx h';have ha:=iB ha hx;have hb:=iB hb hy
 cases mx with
 |true=>exact aV hs (GM ha hb) (aO.jS ..)
 |false=>exact aV hs (GN ha hb) (aO.jS ..)
theorem Hk{D:aD}{x:Operand}(hs:aJ U H F w ob n)(hx:aC H F w D (ev ρ x)):cr P U H F w ρ ob n ⟨aa d, .move x,ty,pos,aft,ae⟩ {dst:=D}:=aV hs (GF rfl) hx
theorem A5{D:aD}{x:Operand}(hs:aJ U H F w ob n)(hx:aC H F w D (ev ρ x)):cr P U H F w ρ ob n ⟨aa d, .assign x,ty,pos,aft,ae⟩ {dst:=D}:=aV hs (AL rfl) hx
def zb(T:be P)(t:TypeId)(f:Nat)(X:aD):Option aD:=
 match find T.und t with
 |some (.struct fs)=>match fs[f]? with
  |some (ft,off)=>match find T.und ft with
   |some kk=>match X with
    | .val af u=>match u.get (rF fs.length f)with
      |some (s,dN)=>bif agC dN off&&mh T ft kk s.size then aa (.val (kg kk) s)else ae
      |none=>ae
    |_=>ae
   |none=>ae
  |none=>ae
 |_=>ae
def DN(T:be P){t:TypeId}{f:Nat}{X D:aD}{x:Operand}(h:zb T t f X=aa D)(hs:aJ U H F w ob n)(hx:aC H F w X (ev ρ x)):
 cr P U H F w ρ ob n ⟨aa d, .field t x f,ty,pos,aft,ae⟩ {dst:=D}:=by
 unfold zb at h;split at h
 case h_2=>cases h
 rename_i fs hu;obtain⟨arr,Je,MY⟩:=T.und_ok _ _ hu;split at h
 case h_2=>cases h
 rename_i ft off hf;obtain⟨fd,R1,rfl,rfl⟩:=AV MY hf;split at h
 case h_2=>cases h
 rename_i kk hft;obtain⟨dd,xE,wX⟩:=(T.und_ok _ _ hft).agg;split at h
 case h_2=>cases h
 rename_i u;split at h
 case h_2=>cases h
 rename_i s dN hg;obtain⟨hb,rfl⟩:=rG h;obtain⟨Jg,PR⟩:=cx hb;obtain rfl:=beq_true Jg;have hz:=jT T PR;obtain⟨cs,pP,e,_⟩:=hx;obtain⟨g1,g2⟩:=pP.get hg;have hl:=g1.length;have e':ev ρ x= .agg cs.toArray:=e
 have SF:∃v,(part fd.type cs.toArray fd.offset).run P w= .ok v w/\aO H F w (kg kk) s v:=by
  cases ha:kg kk with
  |true=>
   rw[aj ha]at hz;obtain⟨r,hr,MB⟩:=hz;obtain⟨ti,z,h1,_,_,h4,_⟩:=T.row_ok _ _ hr;refine⟨.agg ((cs.drop fd.offset).take s.size).toArray,?_,_,g1,rfl,by simp⟩;unfold part;rw[agU,fk xE,wX,ha];simp[sizeOf,typeInfo,h1,h4,MB]
  |false=>
   rw[ai (by simp[ha])]at hz
   have aH:fd.offset<cs.length:=by omega
   refine⟨cs[fd.offset],?_,_,g1,?_,λ_=>?_⟩
   .unfold part;rw[agU,fk xE,wX,ha];simp[aH]
   all_goals grind [List.take_one,List.head?_drop]
 obtain⟨v,hv,mG⟩:=SF;refine bM hs (v:=v) ?_ mG;simp[execOp,Instr.field,run_underlying Je,R1,e',asAgg,hv]
end
end
section
open Go Go.RowKit Go.MapKept
noncomputable def bR{α:Type}(K:Row):List (K.den×α)->K.den->Option α
 |[],_=>ae
 |p::l,k=>if eA K p.1 k=af then aa p.2 else bR K l k
noncomputable def nF{α:Type}(K:Row):List (K.den×α)->K.den->α->List (K.den×α)
 |[],k,v=>[(k,v)]
 |p::l,k,v=>if eA K p.1 k=af then(p.1,v)::l else p::nF K l k v
theorem iT{K:Row}{a b:K.den}{u v:Value}(ha:kf K a=aa u)(hb:kf K b=aa v):eA K a b=af↔u=v:=by
 unfold kf at ha
 split at ha<;>first|cases ha|skip
 all_goals grind [kf,eA]
def A6{P:Program}(T:be P)(kt:TypeId):Row->Bool
 | .int k=>match find T.und kt with
   |some (.int k')=>decide (k=k')
   |_=>ag
 | .bool=>match find T.und kt with
   |some .bool=>af
   |_=>ag
 | .str=>match find T.und kt with
   |some .str=>af
   |_=>ag
 |_=>ag
section
variable {P:Program} {ρ:Nat->Value} {w w':World} {H H':aI} {F F':Nat->Prop} {U:Nat->Prop} {ob:Nat->Option (Nat×Th)} {n:Nat} {R:Type}
variable {op:Op} {ty:TypeId} {pos:String} {aft:Array Edge} {d:Nat}
def vC(T:be P){kt:TypeId}{K:Row}(h:A6 T kt K=af):∃d,P.underlying kt=aa d/\(∀x v,kf K x=aa v->IsKey d v)/\(∀x v,cD F w K [v] x->kf K x=aa v):=by
 unfold A6 at h;split at h
 .split at h
  .rename_i k _ k' hu;obtain rfl:=al h;refine⟨_,T.und_ok _ _ hu,λx v hx=>?_,λx v hr=>?_⟩
   .obtain rfl:=agx hx;rfl
   .have Jf:[v]=[ahg k x]:=hr;simp only[aht,and_true]at Jf;rw[Jf];rfl
  .cases h
 .split at h
  .rename_i hu;refine⟨_,T.und_ok _ _ hu,λx v hx=>?_,λx v hr=>?_⟩
   .obtain rfl:=agx hx;trivial
   .have Jf:[v]=[Value.bool x]:=hr;simp only[aht,and_true]at Jf;rw[Jf];rfl
  .cases h
 .split at h
  .rename_i hu;refine⟨_,T.und_ok _ _ hu,λx v hx=>?_,λx v hr=>?_⟩
   .obtain rfl:=agx hx;trivial
   .have Jf:[v]=[Value.string x]:=hr;simp only[aht,and_true]at Jf;rw[Jf];rfl
  .cases h
 .cases h
def sM{K:Row}{agg:Bool}{V:Row}{dd:TypeDesc}{x:K.den}{kv:Value}(hK:∀x v,kf K x=aa v->IsKey dd v)(hx:kf K x=aa kv):{es:List MapEntry}->{l:List (K.den×V.den)}->(i:Nat)->fO H F w K agg V es l->
 (ahl dd kv es i=aa ae/\bR K l x=ae/\(∀e∈es,e.key≠kv)/\∀H' F' w' y(e:MapEntry),e.key=kv->H.le H'->Step F w F' w'->aO H' F' w' agg (.leaf V y) e.val->fO H' F' w' K agg V (es++[e]) (nF K l x y))\/
 ∃j e y,ahl dd kv es i=aa (aa (i+j,e.val))/\es[j]? =aa e/\e.key=kv/\bR K l x=aa y/\aO H F w agg (.leaf V y) e.val/\
  ∀H' F' w' y(f:MapEntry->MapEntry),(f e).key=kv->H.le H'->Step F w F' w'->aO H' F' w' agg (.leaf V y) (f e).val->fO H' F' w' K agg V (es.modify j f) (nF K l x y)
 |[],l,i,h=>by
  obtain rfl:l=[]:=h;refine .inl ⟨rfl,rfl,by simp,λH' F' w' y e he hH hs hv=>⟨x,y,[],rfl,by grind,hv,rfl⟩⟩
 |e::es,l,i,h=>by
  obtain⟨k,y,l',rfl,h1,h2,h3⟩:=h;obtain⟨r,hr,P0⟩:=sameNow_of_keys (hK x kv hx) (hK k _ h1);have Jc:=iT h1 hx
  cases r with
  |true=>
   have Z3:kv=e.key:=P0.1 rfl;have hq:eA K k x=af:=Jc.2 Z3.symm;refine .inr ⟨0,e,y,by simp[ahl,hr],rfl,Z3.symm,by simp[bR,hq],h2,λH' F' w' y' f hf hH hs hv=>?_⟩;refine⟨k,y',l',by simp[nF,hq],?_,hv,h3.keep hH hs⟩
   grind
  |false=>
   have du:¬e.key=kv:=(by grind)
   have hq:¬eA K k x=af:=λq=>du (Jc.1 q)
   rcases sM hK hx (i+1) h3 with⟨a1,a2,a3,a4⟩|⟨j,e',z,a1,a2,a3,a4,a5,a6⟩
   .refine .inl ⟨by simp[ahl,hr,a1],by simp[bR,hq,a2],λe' sN=>?_,λH' F' w' y' e' sN hH hs hv=>?_⟩
    .grind
    .exact⟨k,y,_,by simp[nF,hq],h1,h2.keep hH hs,a4 H' F' w' y' e' sN hH hs hv⟩
   .refine .inr ⟨j+1,e',z,by simp[ahl,hr,a1];omega,by simpa using a2,a3,by simp[bR,hq,a4],a5,λH' F' w' y' f hf hH hs hv=>?_⟩;refine⟨k,y,_,by simp[nF,hq],?_,?_,a6 H' F' w' y' f hf hH hs hv⟩
    .exact h1
    .exact h2.keep hH hs
noncomputable def asKey(ob:Nat->Option (Nat×Th))(K:Row):aD->Option K.den
 | .val ag t=>flat ob K t
 |_=>ae
def vD(hs:aJ U H F w ob n){K:Row}{D:aD}{x:K.den}{v:Value}(h:asKey ob K D=aa x)(hd:aC H F w D v):cD F w K [v] x:=by
 unfold asKey at h;split at h
 .obtain⟨cs,h1,_,h3⟩:=hd
  grind [gn]
 .cases h
def FE(ob:Nat->Option (Nat×Th)):aD->Option (Nat×Nat×Th)
 | .val ag (.own o)=>match ob o with
   |some (s, .map T K agg V l)=>aa (o,s, .map T K agg V l)
   |_=>ae
 |_=>ae
def A7(hs:aJ U H F w ob n){D:aD}{o s:Nat}{t:Th}{v:Value}(h:FE ob D=aa (o,s,t))(hd:aC H F w D v):∃T K agg V l b es clock,t= .map T K agg V l/\ob o=aa (s,t)/\H.val o=aa v/\v= .map (aa b)/\
 w.heap[b]? =aa (.map es clock)/\Stamped es clock/\fO H F w K agg V es.toList l:=by
 unfold FE at h;split at h
 .rename_i o';split at h
  .rename_i s' T K agg V l cz;simp only[agH,Prod.mk.injEq]at h;obtain⟨rfl,rfl,rfl⟩:=h;obtain⟨cs,⟨u,hu,_,e⟩,_,h3⟩:=hd;rw[h3 rfl]at e
   obtain rfl:v=u:=by simpa using e
   obtain⟨v',ey,cG⟩:=hs.obj _ _ _ cz;rw[hu]at ey;obtain rfl:=agx ey;obtain⟨b,es,clock,e,h1,h2,h3⟩:=cG.ok
   grind
  .cases h
 .cases h
def nG(T:be P)(n:Nat)(t:TypeId)(k:dL->Option R):Option R:=
 match find T.und t with
 |some (.map kt vt)=>match find T.row kt with
  |some K=>match find T.row vt with
   |some V=>match find T.und vt with
    |some kk=>k {dst:= .val ag (.own n),make:=[(n,(n, .map t K (kg kk) V []))]}
    |none=>ae
   |none=>ae
  |none=>ae
 |_=>ae
def A8(T:be P){t:TypeId}{k:dL->Option R}{q:R}(h:nG T n t k=aa q)(hs:aJ U H F w ob n):
 ∃e,k e=aa q/\cr P U H F w ρ ob n ⟨aa d, .makeMap t ae,ty,pos,aft,ae⟩ e:=by
 unfold nG at h;split at h
 case h_2=>cases h
 split at h
 case h_2=>cases h
 rename_i K _;split at h
 case h_2=>cases h
 rename_i V _;split at h
 case h_2=>cases h
 rename_i kk _
 have bz:(execOp (ev ρ) ⟨aa d, .makeMap t ae,ty,pos,aft,ae⟩).run P w= .ok (.value (.map (aa w.heap.size))) (w.alloc (.map #[] 0)):=by
  simp[execOp,Instr.makeMap,agI]
 refine⟨_,h,b9.val bz ?_⟩
 have hv:((H.bC n (.map t K (kg kk) V [])).cA n (.map (aa w.heap.size))).val n=aa (.map (aa w.heap.size)):=by simp[aI.cA]
 refine kY.new (v0:= .map (aa w.heap.size)) hs rfl rfl (nD _) ⟨_, #[],0,rfl,(heap_alloc w _).1,stamped_empty 0,rfl⟩ (λk hk=>?_) (mK hv rfl);simp only[fp,Value.map.injEq,agH]at hk;subst hk;exact⟨λe=>by have:=hs.lt _ e;omega,by simp, .inl (agB _)⟩
noncomputable def kZ(T:be P)(ob:Nat->Option (Nat×Th))(n:Nat)(t:TypeId)(M X Y:aD)(k:dL->Option R):Option R:=
 match find T.und t with
 |some (.map kt _)=>match FE ob M with
  |some (o,_, .map T0 K agg V l)=>bif A6 T kt K then(match asKey ob K X with
   |some x=>match Y with
    | .val eB tr=>bif (bif agg then eB else !eB)then(match flat ob V tr with
      |some y=>k {dst:= .dead,eat:=[o],make:=[(o,(n, .map T0 K agg V (nF K l x y)))]}
      |none=>ae)else ae
    |_=>ae
   |none=>ae)else ae
  |_=>ae
 |_=>ae
def sO{P1 kt et:TypeId}{dd:TypeDesc}{b clock:Nat}{es:Array MapEntry}{key val:Value}(hm:P.underlying P1=aa (.map kt et))(hd:P.underlying kt=aa dd)(hb:w.heap[b]? =aa (.map es clock))(hk:IsKey dd key):
 (ahl dd key es.toList 0=aa ae->(ahx P1 (.map (aa b)) key val).run P w= .ok () {w with heap:=w.heap.setIfInBounds b (.map (es.push {key,val,born:=clock}) (clock+1))})/\
 (∀j e,ahl dd key es.toList 0=aa (aa (j,e))->((es[j]?).map (·.key)).getD key=key->(ahx P1 (.map (aa b)) key val).run P w= .ok () {w with heap:=w.heap.setIfInBounds b (.map (es.modify j λe=>{e with key,val}) clock)}):=by
 refine⟨λh1=>?_,λj e h1 h2=>?_⟩
 .simp[ahx,run_underlying hm,ahc hb,ahz hd hk,ahF hd h1,ahE _ hb,agI]
 .simp[ahx,run_underlying hm,ahc hb,ahz hd hk,ahF hd h1,h2,run_keyThatStays hk,ahE _ hb,agI]
def xd(T:be P){t:TypeId}{M X Y:aD}{m x y:Operand}{k:dL->Option R}{q:R}(h:kZ T ob n t M X Y k=aa q)(hs:aJ U H F w ob n)(hm:aC H F w M (ev ρ m))(hx:aC H F w X (ev ρ x))(hy:aC H F w Y (ev ρ y)):
 ∃e,k e=aa q/\cr P U H F w ρ ob n ⟨ae, .mapUpdate t m x y,ty,pos,aft,ae⟩ e:=by
 unfold kZ at h;split at h
 case h_2=>cases h
 rename_i kt vt hu;split at h
 case h_2=>cases h
 rename_i o s T0 K agg V l rI;obtain⟨hk,h'⟩:=aQ h;clear h;split at h'
 case h_2=>cases h'
 rename_i a ha;split at h'
 case h_2=>cases h'
 rename_i eB tr;obtain⟨qM,h⟩:=aQ h';clear h'
 have qM:agg=eB:=by cases agg<;>cases eB<;>simp_all
 subst qM;split at h
 case h_2=>cases h
 rename_i b hb;refine⟨_,h,?_⟩;obtain⟨dd,hd,hK,hR⟩:=vC (F:=F) (w:=w) T hk;obtain⟨T1,K1,Wt,V1,l1,r,es,clock,e0,cz,hv,na,hh,gM,vE⟩:=A7 hs rI hm;cases e0;have oO:=hR _ _ (vD hs ha hx)
 have oN:aO H F w agg (.leaf V b) (ev ρ y):=by
  obtain⟨cs,h1,h2⟩:=hy;exact⟨cs,gn hs hb h1,h2⟩
 have Wu:r<w.heap.size:=(ag6.1 hh).1
 have fin:∀o',(ahx t (.map (aa r)) (ev ρ x) (ev ρ y)).run P w= .ok () {w with heap:=w.heap.setIfInBounds r o'}->
  (∀w',(∀k,k≠r->w'.heap[k]? =w.heap[k]?)->∃lP nf,o'= .map lP nf/\Stamped lP nf/\fO (H.bC n (.map T0 K agg V (nF K l a b))) F w' K agg V lP.toList (nF K l a b))->
  cr P U H F w ρ ob n ⟨ae, .mapUpdate t m x y,ty,pos,aft,ae⟩ {dst:= .dead,eat:=[o],make:=[(o,(n, .map T0 K agg V (nF K l a b)))]}:=by
  intro o' bz J8;refine b9.unit (w':={w with heap:=w.heap.setIfInBounds r o'}) ?_ ?_
  .simp[execOp,na,bz,agI]
  .have ng:∀k,k≠r->(w.heap.setIfInBounds r o')[k]? =w.heap[k]? :=(heap_set hh).2;obtain⟨lP,nf,rfl,g1,g2⟩:=J8 {w with heap:=w.heap.setIfInBounds r o'} ng;refine kY.uO (t':= .map T0 K agg V (nF K l a b)) (w':={w with heap:=w.heap.setIfInBounds r (.map lP nf)}) hs cz hv rfl (λk hk=>hk) ⟨rfl,⟨rfl,agB _⟩,rfl,by simp,λk hk hn=>ng k λe=>hn (by subst e;exact na)⟩ ⟨r,lP,nf,na,(heap_set hh).1,g1,g2⟩ trivial
 have J9:H.le (H.bC n (.map T0 K agg V (nF K l a b))):=aI.fS (hs.fresh n (agB _) (by omega)).2
 have dJ:∀w':World,(∀k,k≠r->w'.heap[k]? =w.heap[k]?)->Step F w F w':=by
  intro w' hw b hb;refine⟨hb,hw b λe=>?_⟩;subst e;obtain⟨v',ey,cG⟩:=hs.obj _ _ _ cz;rw[hv]at ey;obtain rfl:=agx ey;exact cG.no b na hb
 obtain⟨r1,r2⟩:=sO (val:=ev ρ y) (T.und_ok _ _ hu) hd hh (hK _ _ oO)
 rcases sM hK oO 0 vE with⟨a1,a2,a3,a4⟩|⟨j,e,z,a1,a2,a3,a4,a5,a6⟩
 .refine fin _ (r1 a1) λw' hw=>⟨_,_,rfl,stamped_push gM a3,?_⟩
  rw[Array.toList_push];exact a4 _ F w' b _ rfl J9 (dJ w' hw) (oN.keep J9 (dJ w' hw))
 .rw[ag8]at a1
  have hj:es[j]? =aa e:=by simpa using a2
  refine fin _ (r2 j _ a1 (by grind)) λw' hw=>⟨_,_,rfl,stamped_modify gM _ _ (λ_ _=>rfl) (λe' _ sN=>?_),?_⟩
  .grind
  .rw[Array.toList_modify];exact a6 _ F w' b _ rfl J9 (dJ w' hw) (oN.keep J9 (dJ w' hw))
noncomputable def oP{α:Type}(K:Row):List (K.den×α)->K.den->List (K.den×α)
 |[],_=>[]
 |p::l,k=>if eA K p.1 k=af then l else p::oP K l k
def xN{K:Row}{agg:Bool}{V:Row}{dd:TypeDesc}{x:K.den}{kv:Value}(hK:∀x v,kf K x=aa v->IsKey dd v)(hx:kf K x=aa kv):{es:List MapEntry}->{l:List (K.den×V.den)}->(i:Nat)->fO H F w K agg V es l->
 (ahl dd kv es i=aa ae/\oP K l x=l)\/
 ∃(j:Nat)(e:MapEntry),ahl dd kv es i=aa (aa (i+j,e.val))/\j<es.length/\∀H' F' w',H.le H'->Step F w F' w'->fO H' F' w' K agg V (es.eraseIdx j) (oP K l x)
 |[],l,i,h=>by
  obtain rfl:l=[]:=h;exact .inl ⟨rfl,rfl⟩
 |e::es,l,i,h=>by
  obtain⟨k,y,l',rfl,h1,h2,h3⟩:=h;obtain⟨r,hr,P0⟩:=sameNow_of_keys (hK x kv hx) (hK k _ h1);have Jc:=iT h1 hx
  cases r with
  |true=>
   have hq:eA K k x=af:=Jc.2 (P0.1 rfl).symm;exact .inr ⟨0,e,by simp[ahl,hr],by simp,λH' F' w' hH hs=>by simpa[oP,hq]using h3.keep hH hs⟩
  |false=>
   have hq:¬eA K k x=af:=(by grind)
   rcases xN hK hx (i+1) h3 with⟨a1,a2⟩|⟨j,e',a1,a2,a3⟩
   .exact .inl ⟨by simp[ahl,hr,a1],by simp[oP,hq,a2]⟩
   .exact .inr ⟨j+1,e',by simp[ahl,hr,a1];omega,by simpa using a2,λH' F' w' hH hs=>⟨k,y,_,by simp[oP,hq],h1,h2.keep hH hs,a3 H' F' w' hH hs⟩⟩
noncomputable def pU(T:be P)(ob:Nat->Option (Nat×Th))(n:Nat)(t:TypeId)(M X:aD)(k:dL->Option R):Option R:=
 match find T.und t with
 |some (.map kt _)=>match FE ob M with
  |some (o,_, .map T0 K agg V l)=>bif A6 T kt K then(match asKey ob K X with
   |some x=>k {dst:= .dead,eat:=[o],make:=[(o,(n, .map T0 K agg V (oP K l x)))]}
   |none=>ae)else ae
  |_=>ae
 |_=>ae
def DO(T:be P){t t':TypeId}{M X:aD}{m x:Operand}{k:dL->Option R}{q:R}{dst:Option Nat}(h:pU T ob n t M X k=aa q)(hs:aJ U H F w ob n)(hm:aC H F w M (ev ρ m))(hx:aC H F w X (ev ρ x)):
 ∃e,k e=aa q/\cr P U H F w ρ ob n ⟨dst, .call {callee:= .builtin .delete,args:= #[m,x],argTypes:= #[t,t']},ty,pos,aft,ae⟩ e:=by
 unfold pU at h;split at h
 case h_2=>cases h
 rename_i kt vt hu;split at h
 case h_2=>cases h
 rename_i o s T0 K agg V l rI;obtain⟨hk,h'⟩:=aQ h;clear h;split at h'
 case h_2=>cases h'
 rename_i a ha;refine⟨_,h',?_⟩;obtain⟨dd,hd,hK,hR⟩:=vC (F:=F) (w:=w) T hk;obtain⟨T1,K1,Wt,V1,l1,r,es,clock,e0,cz,hv,na,hh,gM,vE⟩:=A7 hs rI hm;cases e0;have oO:=hR _ _ (vD hs ha hx);have J9:H.le (H.bC n (.map T0 K agg V (oP K l a))):=aI.fS (hs.fresh n (agB _) (by omega)).2
 have fin:∀lP,(Builtin.delete_ #[t,t'] ty #[.map (aa r),ev ρ x]).run P w= .ok (.tuple #[]) {w with heap:=w.heap.setIfInBounds r (.map lP clock)}->Stamped lP clock->
  (∀w',Step F w F w'->fO (H.bC n (.map T0 K agg V (oP K l a))) F w' K agg V lP.toList (oP K l a))->
  cr P U H F w ρ ob n ⟨dst, .call {callee:= .builtin .delete,args:= #[m,x],argTypes:= #[t,t']},ty,pos,aft,ae⟩ {dst:= .dead,eat:=[o],make:=[(o,(n, .map T0 K agg V (oP K l a)))]}:=by
  intro lP bz P2 J8;have ng:∀k,k≠r->(w.heap.setIfInBounds r (.map lP clock))[k]? =w.heap[k]? :=(heap_set hh).2;refine b9.val (v:= .tuple #[]) (w':={w with heap:=w.heap.setIfInBounds r (.map lP clock)}) (by simp[execOp,resolve,invoke,builtin,na,bz,agI]) ?_;refine kY.uO (t':= .map T0 K agg V (oP K l a)) (w':={w with heap:=w.heap.setIfInBounds r (.map lP clock)}) hs cz hv rfl (λk hk=>hk) ⟨rfl,⟨rfl,agB _⟩,rfl,by simp,λk hk hn=>ng k λe=>hn (by subst e;exact na)⟩ ⟨r,lP,clock,na,(heap_set hh).1,P2,J8 _ λb hb=>?_⟩ trivial;refine⟨hb,ng b λe=>?_⟩;subst e;obtain⟨v',ey,cG⟩:=hs.obj _ _ _ cz;rw[hv]at ey;obtain rfl:=agx ey;exact cG.no b na hb
 rcases xN hK oO 0 vE with⟨a1,a2⟩|⟨j,e,a1,a2,a3⟩
 .refine fin es ?_ gM λw' hw=>?_
  .simp[Builtin.delete_,run_underlying (T.und_ok _ _ hu),ahc hh,ahz hd (hK _ _ oO),ahF hd a1,ahE _ hh,agI]
  .rw[a2];exact vE.keep (by grind) hw
 .rw[ag8]at a1
  refine fin (es.eraseIdxIfInBounds j) ?_ (MapKept.stamped_erase gM j) λw' hw=>?_
  .simp[Builtin.delete_,run_underlying (T.und_ok _ _ hu),ahc hh,ahz hd (hK _ _ oO),ahF hd a1,ahE _ hh,agI]
  simp_all
def A9{t:TypeId}{agg:Bool}{V:Row}(h:yZ P t agg V)(h1:agg=ag->V.size=1):∃z,(zeroValue t).run P w= .ok z w/\aO H F w agg (.leaf V V.zero) z:=by
 obtain⟨z,hz,e⟩:=h
 cases hi:P.info? t with
 |none=>grind
 |some ti=>
  rw[hi]at hz;refine⟨z,?_,V.eP,cD.zero F w V,e,λha=>?_⟩
  .have hz':ti.zero=aa z:=hz;simp[zeroValue,typeInfo,hi,hz',agI]
  .have hl:V.eP.length=V.size:=(cD.zero F w V).length;rw[h1 ha]at hl;subst ha;rw[cond_false]at e
   match hv:V.eP,hl with
   |[u],_=>grind
theorem FF{K:Row}{agg:Bool}{V:Row}:{es:List MapEntry}->{l:List (K.den×V.den)}->es.length=l.length->(∀i(h:i<l.length),∃(e:MapEntry)(cs:List Value),es[i]? =aa e/\kf K l[i].1=aa e.key/\cD F w V cs l[i].2/\e.val=(bif agg then .agg cs.toArray else cs.headD undef)/\(agg=ag->cs=[e.val]))->fO H F w K agg V es l
 |[],[],_,_=>rfl
 |[],_::_,h,_=>by cases h
 |_::_,[],h,_=>by cases h
 |e::es,(k,x)::l,hl,h=>by
  obtain⟨e',cs,h1,h2,h3,h4,h5⟩:=h 0 (by simp)
  obtain rfl:e=e':=by simpa using h1
  exact⟨k,x,l,rfl,h2,⟨cs,h3,h4,h5⟩,FF (by simpa using hl) λi hi=>by
   obtain⟨e',uj,q1,q2,q3,q4⟩:=h (i+1) (by simpa using hi)
   grind⟩
def FG{K:Row}{agg:Bool}{V:Row}:{es:List MapEntry}->{l:List (K.den×V.den)}->fO H F w K agg V es l->es.length=l.length/\∀i(h:i<l.length),∃(e:MapEntry)(cs:List Value),es[i]? =aa e/\kf K l[i].1=aa e.key/\cD F w V cs l[i].2/\e.val=(bif agg then .agg cs.toArray else cs.headD undef)/\(agg=ag->cs=[e.val])
 |[],l,h=>by obtain rfl:l=[]:=h;grind
 |e::es,l,h=>by
  obtain⟨k,x,l',rfl,h1,⟨cs,h2,h3,h4⟩,h5⟩:=h;obtain⟨g1,g2⟩:=FG h5;refine⟨by simp[g1],λi hi=>?_⟩
  cases i with
  |zero=>exact⟨e,cs,rfl,h1,h2,h3,h4⟩
  |succ i=>
   obtain⟨e',uj,q1,q2,q3,q4⟩:=g2 i (by simpa using hi)
   grind
structure SG where
 K:Row
 agg:Bool
 V:Row
 l:List (K.den×V.den)
def DP(ob:Nat->Option (Nat×Th)):aD->Option SG
 | .val ag (.leaf (.map K agg V) l)=>aa ⟨K,agg,V,l⟩
 | .val ag (.own o)=>match ob o with
   |some (_, .map _ K agg V l)=>aa ⟨K,agg,V,l⟩
   |some (_, .fmap _ K agg V l)=>aa ⟨K,agg,V,l⟩
   |_=>ae
 |_=>ae
def FH{K:Row}{agg:Bool}{V:Row}{l:List (K.den×V.den)}{v:Value}(h:cD F w (.map K agg V) [v] l):(v= .map ae/\l=[])\/∃b es clock,v= .map (aa b)/\w.heap[b]? =aa (.map es clock)/\Stamped es clock/\fO H F w K agg V es.toList l:=by
 obtain⟨u,e,h⟩:=h
 grind [FF]
def Hl(hs:aJ U H F w ob n){D:aD}{m:SG}{v:Value}(h:DP ob D=aa m)(hd:aC H F w D v):(v= .map ae/\m.l=[])\/∃b es clock,v= .map (aa b)/\w.heap[b]? =aa (.map es clock)/\Stamped es clock/\fO H F w m.K m.agg m.V es.toList m.l:=by
 unfold DP at h;split at h
 .cases h;exact FH hd.inv
 .rename_i o;obtain⟨cs,⟨u,hu,_,e⟩,_,h3⟩:=hd;rw[h3 rfl]at e
  obtain rfl:v=u:=by simpa using e
  split at h
  .rename_i s T K agg V l cz;cases h;obtain⟨v',ey,cG⟩:=hs.obj _ _ _ cz;rw[hu]at ey;obtain rfl:=agx ey;obtain⟨b,es,clock,e,h1,h2,h3⟩:=cG.ok
   grind
  .rename_i s T K agg V l cz;cases h;obtain⟨v',ey,cG⟩:=hs.obj _ _ _ cz;rw[hu]at ey;obtain rfl:=agx ey;exact FH cG.ok
  .cases h
 .cases h
noncomputable def pV(T:be P)(ob:Nat->Option (Nat×Th))(t:TypeId)(ok:Bool)(M X:aD)(k:dL->Option R):Option R:=
 match find T.und t with
 |some (.map kt vt)=>match DP ob M with
  |some ⟨K,agg,V,l⟩=>match find T.zer vt with
   |some (eB,V')=>bif A6 T kt K&&(bif agg then eB else !eB)&&V'.beq V&&(agg||agC V.size 1)then(match asKey ob K X with
    |some x=>bif ok then k {dst:= .tup [(agg, .leaf V ((bR K l x).getD V.zero)),(ag, .leaf .bool (bR K l x).isSome)]}
     else k {dst:= .val agg (.leaf V ((bR K l x).getD V.zero))}
    |none=>ae)else ae
   |none=>ae
  |none=>ae
 |_=>ae
def DQ(T:be P){t:TypeId}{ok:Bool}{M X:aD}{m x:Operand}{k:dL->Option R}{q:R}(h:pV T ob t ok M X k=aa q)(hs:aJ U H F w ob n)(hm:aC H F w M (ev ρ m))(hx:aC H F w X (ev ρ x)):
 ∃e,k e=aa q/\cr P U H F w ρ ob n ⟨aa d, .lookup t m x ok,ty,pos,aft,ae⟩ e:=by
 unfold pV at h;split at h
 case h_2=>cases h
 rename_i kt vt hu;split at h
 case h_2=>cases h
 rename_i K agg V l rI;split at h
 case h_2=>cases h
 rename_i eB V' hz;obtain⟨hc,h'⟩:=aQ h;clear h;obtain⟨hc,R5⟩:=cx hc;obtain⟨hc,Ka⟩:=cx hc;obtain⟨xD,AN⟩:=cx hc
 have qM:agg=eB:=by cases agg<;>cases eB<;>simp_all
 subst qM;obtain rfl:=Row.eq_of_beq Ka;split at h'
 case h_2=>cases h'
 rename_i a ha;obtain⟨dd,hd,hK,hR⟩:=vC (F:=F) (w:=w) T xD;have oO:=hR _ _ (vD hs ha hx)
 have lJ:agg=ag->V'.size=1:=λe=>by simp_all
 obtain⟨z,DK,Fz⟩:=A9 (w:=w) (H:=H) (F:=F) (T.zer_ok _ _ _ hz) lJ
 have main:∃v,(ahW t (ev ρ m) (ev ρ x) ok).run P w= .ok (if ok then .tuple #[v, .bool (bR K l a).isSome]else v) w/\aO H F w agg (.leaf V' ((bR K l a).getD V'.zero)) v:=by
  have Vo:=hK _ _ oO;have FI:=T.und_ok _ _ hu
  rcases Hl hs rI hm with⟨na,hl⟩|⟨r,es,clock,na,hh,gM,vE⟩
  .dsimp only at hl;subst hl;refine⟨z,?_,Fz⟩;rw[na];have hf:=ahF (w:=w) hd (show ahl dd (ev ρ x) [] 0=aa ae from rfl)
   cases ok<;>simp[ahW,run_underlying FI,ahz hd Vo,hf,DK,bR,agI]
  .dsimp only at vE
   rcases sM hK oO 0 vE with⟨a1,a2,_⟩|⟨j,e,y,a1,_,_,a4,a5,_⟩
   .refine⟨z,?_,by grind⟩;rw[na,a2];simp[ahW,run_underlying FI,ahc hh,ahz hd Vo,ahF hd a1,DK,agI]
   .refine⟨e.val,?_,by grind⟩;rw[na,a4];simp[ahW,run_underlying FI,ahc hh,ahz hd Vo,ahF hd a1,agI]
 obtain⟨v,bz,mG⟩:=main
 cases ok with
 |true=>
  refine⟨_,h',bM hs (v:= .tuple #[v, .bool (bR K l a).isSome]) (by simp[execOp,bz,agI]) ⟨[v, .bool (bR K l a).isSome],rfl,_,_,rfl,mG,_,_,rfl,aO.fG ..,rfl⟩⟩
 |false=>exact⟨_,h',bM hs (v:=v) (by simp[execOp,bz,agI]) mG⟩
def kS(s:ByteArray)(i:Int):Option Int:=(if 0<=i then s[i.toNat]? else ae).map λb=>(b.toNat:Int)
def Ba{e:Row}:{m:Nat}->{r:Row}->{x:r.den}->{l:List e.den}->{cs:List Value}->lL m r x e=aa l->cD F w r cs x->l.length=m/\cs.length=m*e.size/\∀i(h:i<l.length),cD F w e ((cs.drop (i*e.size)).take e.size) l[i]
 |0,r,x,l,cs,h,_=>by unfold lL at h;cases h
 |1,r,x,l,cs,h,ha=>by
  unfold lL at h;split at h
  case isFalse=>cases h
  rename_i hb;obtain rfl:=Row.eq_of_beq hb;obtain rfl:=agx h;have hl:=ha.length;refine⟨rfl,by simp[hl],λi hi=>?_⟩
  obtain rfl:i=0:=by grind
  rw[Nat.zero_mul,List.drop_zero,<-hl,List.take_length];exact ha
 |m+2, .pair a b,x,l,cs,h,ha=>by
  unfold lL at h;split at h
  case isFalse=>cases h
  rename_i hb;obtain rfl:=Row.eq_of_beq hb;split at h
  case h_2=>cases h
  rename_i l' hl;obtain rfl:=agx h;obtain⟨c1,c2,rfl,h1,h2⟩:=ha;have R0:=h1.length;obtain⟨g1,g2,g3⟩:=Ba hl h2;refine⟨by simp[g1],by grind,λi hi=>?_⟩
  cases i with
  |zero=>
   rw[Nat.zero_mul,List.drop_zero,List.take_append_of_le_length (by omega),<-R0,List.take_length];exact h1
  |succ i=>
   grind [List.drop_drop,List.drop_left]
 |m+2, .int _,_,_,_,h,_=>by unfold lL at h;cases h
 |m+2, .bool,_,_,_,h,_=>by unfold lL at h;cases h
 |m+2, .str,_,_,_,h,_=>by unfold lL at h;cases h
 |m+2, .slice _,_,_,_,h,_=>by unfold lL at h;cases h
 |m+2, .kU,_,_,_,h,_=>by unfold lL at h;cases h
 |m+2, .nul _,_,_,_,h,_=>by unfold lL at h;cases h
 |m+2, .map ..,_,_,_,h,_=>by unfold lL at h;cases h
def pW(T:be P)(ob:Nat->Option (Nat×Th))(t:TypeId)(D:aD)(i:Int)(k:dL->Option R):Option R:=
 match find T.und t with
 |some .str=>match AQ D with
  |some s=>(kS s i).bind λc=>k {dst:=mg .u8 c}
  |none=>ae
 |some (.array m e)=>match find T.row t with
  |some r=>match find T.row e with
   |some re=>match find T.und e with
    |some kk=>match D with
     | .val af tr=>match flat ob r tr with
       |some x=>match lL m r x re with
        |some l=>bif kg kk||agC re.size 1 then(idx l i).bind λy=>k {dst:= .val (kg kk) (.leaf re y)}else ae
        |none=>ae
       |none=>ae
     |_=>ae
    |none=>ae
   |none=>ae
  |none=>ae
 |_=>ae
def DS(T:be P){t:TypeId}{D:aD}{x y:Operand}{kd:IntKind}{i:Int}{k:dL->Option R}{q:R}(h:pW T ob t D i k=aa q)(hs:aJ U H F w ob n)(hx:aC H F w D (ev ρ x))(hy:ev ρ y= .int kd i):
 ∃e,k e=aa q/\cr P U H F w ρ ob n ⟨aa d, .index t x y,ty,pos,aft,ae⟩ e:=by
 unfold pW at h;split at h
 .rename_i hu;have hu:=T.und_ok _ _ hu;split at h
  case h_2=>cases h
  rename_i s hS;obtain⟨c,hc,hk⟩:=bind_some h;have hv:=vp hS hx;unfold kS at hc;obtain⟨b,hb,rfl⟩:=Option.map_eq_some_iff.1 hc;refine⟨_,hk,bM hs (v:= .int .u8 b.toNat) ?_ (aO.jS ..)⟩;have FI:P.underlying t=aa .string:=hu;simp[execOp,Instr.index,asIntOf,run_underlying FI,hv,hy,hb]
 .rename_i m e hu;have hu:P.underlying t=aa (.array m e):=T.und_ok _ _ hu;split at h
  case h_2=>cases h
  rename_i r hr;split at h
  case h_2=>cases h
  rename_i re Wn;split at h
  case h_2=>cases h
  rename_i kk Jc;split at h
  case h_2=>cases h
  rename_i tr;split at h
  case h_2=>cases h
  rename_i z hz;split at h
  case h_2=>cases h
  rename_i l hl;obtain⟨Z4,h'⟩:=aQ h;clear h;obtain⟨a,ha,hk⟩:=bind_some h';obtain⟨cs,hh,hv,_⟩:=hx;rw[cond_true]at hv;obtain⟨g1,g2,g3⟩:=Ba hl (gn hs hz hh);obtain⟨j,hj,aH,rfl⟩:=gB ha;obtain⟨ti,z0,h1,_,_,h4,_⟩:=T.row_ok _ _ Wn;obtain⟨dd,xE,wX⟩:=(T.und_ok _ _ Jc).agg;have sP:=g3 j aH
  have lJ:(j+1)*re.size<=cs.length:=by rw[g2];exact agM _ (by omega)
  rw[ahy]at lJ;refine⟨_,hk,?_⟩
  cases qM:kg kk with
  |true=>
   refine bM hs (v:= .agg ((cs.drop (j*re.size)).take re.size).toArray) ?_ ⟨_,sP,rfl,by simp⟩;subst hj;simp[execOp,Instr.index,asIntOf,run_underlying hu,hv,hy,show j<m by omega,part,agU,fk xE,wX,qM,sizeOf,typeInfo,h1,h4,List.extract_eq_take_drop]
  |false=>
   rw[qM,Bool.false_or]at Z4;have lv:=beq_true Z4;have hlen:=sP.length;rw[lv,Nat.mul_one]at sP lJ;rw[lv]at hlen
   obtain⟨v,xK⟩:∃v,(cs.drop j).take 1=[v]:=by
    match hq:(cs.drop j).take 1,FJ:((cs.drop j).take 1).length with
    |[v],_=>grind
    |[],_=>grind
    |_::_::_,_=>grind
   rw[xK]at sP
   have MS:cs[j]? =aa v:=by
    have:(cs.drop j)[0]? =aa v:=by
     have h0:((cs.drop j).take 1)[0]? =aa v:=by rw[xK];rfl
     rwa [List.getElem?_take_of_lt (by omega)]at h0
    simpa using this
   refine bM hs (v:=v) ?_ (aO.mI sP);subst hj;simp[execOp,Instr.index,asIntOf,run_underlying hu,hv,hy,show j<m by omega,part,agU,fk xE,wX,qM,sizeOf,typeInfo,h1,h4,lv,MS]
 .cases h
end
end
section
def Hm(T:TypeId):(e:DR)->List e.row.den->Th
 | .leaf r,y=> .own T r y
 | .sl T' e,y=> .deep T (.sl T' e) y ae
 | .pair a b,y=> .deep T (.pair a b) y ae
section
variable {P:Program} {ρ:Nat->Value} {w w':World} {H H':aI} {F F':Nat->Prop} {U:Nat->Prop} {ob:Nat->Option (Nat×Th)} {n:Nat} {R:Type}
variable {op:Op} {ty:TypeId} {pos:String} {aft:Array Edge} {d:Nat}
def vF(T:TypeId)(e:DR)(y:List e.row.den):(Hm T e y).base=Hm T e y:=by cases e<;>rfl
def sQ{T:TypeId}{e:DR}{u:Value}{y:List e.row.den}{A:Nat->Prop}(h:kc F w (.sl T e) u y A):iy H F w A u (Hm T e y)/\(∀k,fp A u (Hm T e y) k->A k)/\u.oneCell'=af:=by
 obtain⟨lh,Ss,h1,h2,h3,h4⟩:=h;have lv:=h1.one
 cases e with
 |leaf r=>
  have hl:lh=y:=List.ext_getElem h2 λi a b=>(h3 i a b).1
  subst hl;exact⟨h1,λk hk=>h4.bP k hk,lv⟩
 |sl T' e=>exact⟨⟨lh,Ss,h1,h2,h3,h4⟩,λk hk=>hk,lv⟩
 |pair a b=>exact⟨⟨lh,Ss,h1,h2,h3,h4⟩,λk hk=>hk,lv⟩
def vG{T:TypeId}{e:DR}{u:Value}{y:List e.row.den}{A:Nat->Prop}(h:iy H F w A u (Hm T e y)):kc F w (.sl T e) u y (λk=>fp A u (Hm T e y) k):=by
 cases e with
 |leaf r=>
  have h':lU F w T r u y:=h;refine⟨y,λ_ _=>False,h',rfl,λi a b=>⟨rfl,λ_ h=>h⟩,⟨λk=>?_,λ_ _ _ _ _ _ h=>h.elim,λ_ _ _ h=>h.elim⟩⟩
  show bP u k↔_
  simp
 |sl T' e=>exact h
 |pair a b=>exact h
def uS{d:DR}{r:Row}(q:fQ d (.leaf r)){x':d.low.den}{x:d.row.den}{S:Nat->Prop}(h:kc F w d x' x S):q.lo.get x'=q.hi.get x:=by
 obtain⟨A,B,h1,_⟩:=h.out q;exact h1.1
def vH:{d e:DR}->{T:TypeId}->{r:Row}->(p:fQ d (.sl T e))->(q:fQ d (.leaf r))->{x':d.low.den}->{x:d.row.den}->{S:Nat->Prop}->nc F w p x' x S->q.lo.get x'=q.hi.get x
 |_,_,_,_, .fst p, .fst q,_,_,_,h=>by obtain⟨A,B,h1,_⟩:=h;exact vH p q h1
 |_,_,_,_, .fst p, .snd q,_,_,_,h=>by obtain⟨A,B,_,h2,_⟩:=h;exact uS q h2
 |_,_,_,_, .snd p, .fst q,_,_,_,h=>by obtain⟨A,B,h1,_⟩:=h;exact uS q h1
 |_,_,_,_, .snd p, .snd q,_,_,_,h=>by obtain⟨A,B,_,h2,_⟩:=h;exact vH p q h2
def Kb{d:DR}{h:Option vm}{i:Nat}{x':d.low.den}{x:d.row.den}{S:Nat->Prop}{r:Row}(q:fQ d (.leaf r))(hr:n9 H F w d h i x' x S):q.lo.get x'=q.hi.get x:=by
 cases h with
 |none=>exact uS q hr
 |some h=>
  by_cases hi:h.i=(i:Int)
  .obtain⟨T',e,p,_,h2,_⟩:=hr.2 hi;exact vH p q h2
  .exact uS q (hr.1 hi)
def rJ{d:DR}{r:Row}(q:fQ d (.leaf r)){x':d.low.den}{x:d.row.den}{S:Nat->Prop}(y:r.den)(h:kc F w d x' x S):kc F w d (q.lo.set x' y) (q.hi.set x y) S:=by
 obtain⟨A,B,h1,h2,h3⟩:=h.out q;exact h2.put q (y':=y) (A:=A) ⟨rfl,h1.2⟩ h3
theorem sR:{d e:DR}->{T:TypeId}->{r:Row}->(p:fQ d (.sl T e))->(q:fQ d (.leaf r))->{x':d.low.den}->{x:d.row.den}->{S:Nat->Prop}->(y:r.den)->nc F w p x' x S->nc F w p (q.lo.set x' y) (q.hi.set x y) S/\p.lo.get (q.lo.set x' y)=p.lo.get x'
 |_,_,_,_, .fst p, .fst q,_,_,_,y,h=>by
  obtain⟨A,B,h1,h2,h3⟩:=h;obtain⟨g1,g2⟩:=sR p q y h1;exact⟨⟨A,B,g1,h2,h3⟩,g2⟩
 |_,_,_,_, .fst p, .snd q,_,_,_,y,h=>by
  obtain⟨A,B,h1,h2,h3⟩:=h;exact⟨⟨A,B,h1,rJ q y h2,h3⟩,rfl⟩
 |_,_,_,_, .snd p, .fst q,_,_,_,y,h=>by
  obtain⟨A,B,h1,h2,h3⟩:=h;exact⟨⟨A,B,rJ q y h1,h2,h3⟩,rfl⟩
 |_,_,_,_, .snd p, .snd q,_,_,_,y,h=>by
  obtain⟨A,B,h1,h2,h3⟩:=h;obtain⟨g1,g2⟩:=sR p q y h2;exact⟨⟨A,B,h1,g1,h3⟩,g2⟩
def Hn{d:DR}{h:Option vm}{i:Nat}{x':d.low.den}{x:d.row.den}{S:Nat->Prop}{r:Row}(q:fQ d (.leaf r))(y:r.den)(hr:n9 H F w d h i x' x S):n9 H F w d h i (q.lo.set x' y) (q.hi.set x y) S:=by
 cases h with
 |none=>exact rJ q y hr
 |some h=>
  refine⟨λhi=>rJ q y (hr.1 hi),λhi=>?_⟩;obtain⟨T',e,p,h1,h2,h3⟩:=hr.2 hi
  grind [sR]
def aJ.low(hs:aJ U H F w ob n){o s:Nat}{T:TypeId}{dr:DR}{l:List dr.row.den}{h:Option vm}(ho:ob o=aa (s, .deep T dr l h)){v:Value}(hv:H.val o=aa v):
 ∃(lh:List dr.low.den)(Ss:Nat->Nat->Prop),lO 0 F w T dr.low v lh/\lh.length=l.length/\(∀i(h1:i<lh.length)(h2:i<l.length),n9 H F w dr h i lh[i] l[i] (Ss i))/\nA Ss l.length (bP v) (H.sub s):=by
 obtain⟨v',ey,cG⟩:=hs.obj _ _ _ ho;rw[hv]at ey;obtain rfl:=agx ey;obtain⟨lh,Ss,h1,h2,h3,h4⟩:=cG.ok;exact⟨lh,Ss,⟨λk hk=>cG.no k (h4.bP k hk),h1⟩,h2,h3,h4⟩
def Path.zc:{r s:Row}->(p:Path r s)->(x:r.den)->(y:s.den)->p.get (p.set x y)=y
 |_,_, .here,_,_=>rfl
 |_,_, .fst p,x,y=>Path.zc p x.1 y
 |_,_, .snd p,x,y=>Path.zc p x.2 y
def nc.Kc:{d e:DR}->(p:fQ d e)->{x':d.low.den}->{x:d.row.den}->{S:Nat->Prop}->(y':e.low.den)->nc F w p x' x S->nc F w p (p.lo.set x' y') x S
 |_,_, .here,_,_,_,_,h=>h
 |_,_, .fst p,_,_,_,y',h=>by
  obtain⟨A,B,h1,h2,h3⟩:=h;exact⟨A,B,h1.Kc p y',h2,h3⟩
 |_,_, .snd p,_,_,_,y',h=>by
  obtain⟨A,B,h1,h2,h3⟩:=h;exact⟨A,B,h1,h2.Kc p y',h3⟩
def qN(m:Nat->Prop)(Ss:Nat->Nat->Prop)(c:Nat)(k:Nat):Prop:=m k\/∃i,i<c/\Ss i k
def nA.less{Ss:Nat->Nat->Prop}{c:Nat}{m S:Nat->Prop}(h:nA Ss c m S)(j:Nat){B:Nat->Prop}(hB:∀k,B k->Ss j k):nA (λi=>if i=j then B else Ss i) c m (qN m (λi=>if i=j then B else Ss i) c):=by
 have sub:∀i k,(if i=j then B else Ss i) k->Ss i k:=by
  intro i k hk;by_cases e:i=j
  .grind
  .grind
 exact⟨λk=>Iff.rfl,λi i' k h1 h2 du h3 h4=>h.two i i' k h1 h2 du (sub i k h3) (sub i' k h4),λi k h1 h2=>h.out i k h1 (sub i k h2)⟩
def nA.Bb{Ss:Nat->Nat->Prop}{c:Nat}{m S:Nat->Prop}(h:nA Ss c m S)(j:Nat){B:Nat->Prop}(hB:∀k,B k->Ss j k):∀k,qN m (λi=>if i=j then B else Ss i) c k->S k:=by
 rintro k (hk|⟨i,hi,hk⟩)
 .exact h.bP k hk
 .by_cases e:i=j
  .subst e;rw[aj rfl]at hk;exact h.part hi k (hB k hk)
  .rw[ai e]at hk;exact h.part hi k hk
def M9{α β:Type}{rel:Nat->α->β->(Nat->Prop)->Prop}{lh:List α}{l:List β}{Ss:Nat->Nat->Prop}{j:Nat}{x':α}{x:β}{B:Nat->Prop}(h:∀i(h1:i<lh.length)(h2:i<l.length),i≠j->rel i lh[i] l[i] (Ss i))(hj:rel j x' x B):
 ∀i(h1:i<(lh.set j x').length)(h2:i<(l.set j x).length),rel i (lh.set j x')[i] (l.set j x)[i] ((λi=>if i=j then B else Ss i) i):=by
 grind
def aI.pX{H:aI}{n:Nat}{S:Nat->Prop}{t:Th}(h:H.con n=ae):H.le ((H.dZ n S).bC n t):=(aI.Ha h).trans (aI.fS h)
def kY.zd(hs:aJ U H F w ob n){o s:Nat}{t t':Th}{v0:Value}(ho:ob o=aa (s,t))(hv:H.val o=aa v0)(hb:t'.base=t'){eat:List Nat}(hoe:o∈eat)(S':Nat->Prop)(MC:∀k,fp S' v0 t' k->cn H ob eat k){D:aD}{v:Value}
 (bO:Ext (cn H ob eat) w w')(mG:iy ((H.dZ n S').bC n t') F w' S' v0 t')(hd:aC ((H.dZ n S').bC n t') F w' D v):lQ H F w ob n {dst:=D,eat:=eat,make:=[(o,(n,t'))]} v w':=by
 obtain⟨v1,uP,cG⟩:=hs.obj _ _ _ ho;rw[hv]at uP;obtain rfl:=agx uP;have hf:=hs.fresh n (agB _) (by omega)
 have iA:((H.dZ n S').bC n t').sub n=S':=by simp[aI.bC,aI.dZ]
 refine⟨(H.dZ n S').bC n t',F,⟨aI.pX hf.2,bO,λ_ h=>h,λ_ h=> .inl h,λb hb=>agV (hs.lt b hb) bO.size⟩,λm hm=>?_,hd,⟨λo' s' q hq=>?_,λo1 o2 s1 s2 q1 q2 u1 u2 du h1 h2=>?_⟩,λo' h=>?_⟩
 .refine⟨id,λh=>?_⟩;simp[aI.bC,aI.dZ,show m≠n from by omega,h]
 .obtain⟨rfl,e⟩:=eR hq;obtain⟨rfl,rfl⟩:=Prod.mk.inj e;refine⟨v0,hv,cG.one,by simp[aI.bC,hb],by grind,λk hk=>?_⟩;rw[iA]at hk;have:=MC k hk;exact⟨hs.eQ k this,agV (hs.vn k this) bO.size, .inr this⟩
 all_goals grind [eR,ag5]
def qO(T:be P)(ob:Nat->Option (Nat×Th))(n:Nat)(t:TypeId)(D:aD)(k:dL->Option R):Option R:=
 match find T.und t with
 |none=>ae
 |some kk=>match D with
  | .dlm o d0 i p off=>match ob o with
    |some (_, .deep T0 dr l h)=>bif d0.beq dr then(match dr.path p with
     |some ⟨.leaf r,q⟩=>bif agC q.lo.off off&&mh T t kk r.size then(idx l i).bind λx=>k {dst:= .val (kg kk) (.leaf r (q.hi.get x))}else ae
     |some ⟨.sl T' e',q⟩=>bif agC q.lo.off off&&mh T t kk 1&& !kg kk then(match h with
       |none=>(idx l i).bind λx=>k {dst:= .val ag (.own n),eat:=[o],make:=[(o,(n, .deep T0 dr l (aa ⟨i,p,n,n+1⟩))),(n,(n+1,Hm T' e' (q.hi.get x)))]}
       |some hh=>bif od hh.p p then(if decide (hh.i=i)=af then(idx l i).bind λ_=>k {dst:= .val ag (.own hh.o)}else ae)else ae)else ae
     |_=>ae)else ae
    |_=>ae
  |_=>ae
def Bc(hs:aJ U H F w ob n){o s:Nat}{T0 T':TypeId}{dr e':DR}{l:List dr.row.den}{i:Int}{p:List Bool}{q:fQ dr (.sl T' e')}(hq:dr.path p=aa ⟨_,q⟩)(cz:ob o=aa (s, .deep T0 dr l ae)){v:Value}(hv:H.val o=aa v)
 {j:Nat}(SH:i=(j:Nat))(hj:j<l.length){lh:List dr.low.den}{Ss:Nat->Nat->Prop}(hm:lU F w T0 dr.low v lh)(hlen:lh.length=l.length)(xe:∀i(h1:i<lh.length)(h2:i<l.length),n9 H F w dr ae i lh[i] l[i] (Ss i))(dC:nA Ss l.length (bP v) (H.sub s)):
 lQ H F w ob n {dst:= .val ag (.own n),eat:=[o],make:=[(o,(n, .deep T0 dr l (aa ⟨i,p,n,n+1⟩))),(n,(n+1,Hm T' e' (q.hi.get l[j])))]} (q.lo.get (lh[j]'(by omega))) w:=by
 have Na:j<lh.length:=by omega
 obtain⟨v1,uP,cG⟩:=hs.obj _ _ _ cz;rw[hv]at uP;obtain rfl:=agx uP;obtain⟨A,B,hA,hB,h2⟩:=kc.out q (xe j Na hj);obtain⟨_,m2,m3⟩:=sQ (H:=H) hA;have Z5:∀k,B k->Ss j k:=h2.right;obtain⟨f1,f2⟩:=hs.fresh n (agB _) (by omega);obtain⟨f3,f4⟩:=hs.fresh (n+1) (by omega) (by omega)
 have AG:o≠n:=λe=>by grind
 generalize Vp:Th.deep T0 dr l (aa ⟨i,p,n,n+1⟩)=t1;generalize SI:Hm T' e' (q.hi.get l[j])=t2;generalize hu:q.lo.get lh[j]=u;generalize Wv:qN (bP v) (λi=>if i=j then B else Ss i) l.length=So
 have Ww:∀k,So k->H.sub s k:=by rw[<-Wv];exact dC.Bb j Z5
 have hAS:∀k,A k->H.sub s k:=λk hk=>dC.part hj k (h2.left k hk)
 have hAo:∀k,So k->¬A k:=by
  rw[<-Wv]
  rintro k (hk|⟨i',kW,hk⟩) ha
  .exact dC.out j k hj (h2.left k ha) hk
  .by_cases e:i'=j
   .subst e;rw[aj rfl]at hk;exact h2.off k ha hk
   .rw[ai e]at hk;exact dC.two i' j k kW hj e hk (h2.left k ha)
 let H1:aI:=⟨λm=>if m=n then aa u else H.val m,λm=>if m=n then aa t1 else if m=n+1 then aa t2 else H.con m,λm=>if m=n then So else if m=n+1 then A else H.sub m⟩
 have hle:H.le H1:=by
  refine⟨λo v ho=>?_,λs t gM=>?_,λs t gM=>?_⟩
  .grind
  .grind
  .grind
 have Vq:H1.val n=aa u:=by simp[H1]
 have jI:∀k,H.sub s k->cn H ob [o] k:=λk hk=>⟨o,by simp,s,_,v,cz,hv,hk⟩
 have lv:u.oneCell'=af:=by rw[<-hu];exact m3
 refine⟨H1,F,⟨hle,⟨rfl,⟨rfl,agB _⟩,rfl,agB _,λ_ _ _=>rfl⟩,λ_ h=>h,λ_ h=> .inl h,hs.lt⟩,λm hm=>?_,mK Vq lv,⟨λo' s' t hf=>?_,λo1 o2 s1 s2 q1 q2 u1 u2 du g1 g2 e1 e2 k hk lf=>?_⟩,λo' lI=>?_⟩
 .grind
 .rw[aY]at hf;split at hf
  .rename_i e;subst e;simp only[agH,Prod.mk.injEq]at hf;obtain⟨rfl,rfl⟩:=hf
   have R6:H1.sub n=So:=by simp[H1]
   refine⟨v,hle.val _ _ hv,cG.one,?_,?_,λk hk=>?_⟩
   .rw[<-Vp];simp[H1,Th.base,Vp]
   .rw[R6,<-Vp,<-Wv];refine⟨lh,_,hm,hlen,λi' a b=>?_,dC.less j Z5⟩;have hr:kc F w dr lh[i'] l[i'] (Ss i'):=xe i' a b;refine⟨λhi=>?_,λhi=>?_⟩
    all_goals grind
   .rw[R6,<-Vp]at hk;have hk:So k:=hk;have:=Ww k hk;exact⟨cG.no k this,cG.lt k this, .inr (jI k this)⟩
  .obtain⟨e0,e⟩:=eR hf;obtain⟨rfl,rfl⟩:=Prod.mk.inj e;rw[e0]
   have R6:H1.sub (n+1)=A:=by simp[H1]
   obtain⟨m1,Z6,_⟩:=sQ (H:=H1) hA;rw[SI,hu]at m1 Z6;refine⟨u,Vq,lv,?_,by grind,λk hk=>?_⟩
   .rw[<-SI,vF,SI];simp[H1]
   .rw[R6]at hk;have:=hAS k (Z6 k hk);exact⟨cG.no k this,cG.lt k this, .inr (jI k this)⟩
 all_goals grind [fp,find,aY]
def ze{α β:Type}{l:List α}{lh:List β}(h:lh.length=l.length){i:Int}{x:α}(hi:idx l i=aa x):∃j,i=(j:Nat)/\∃(h1:j<lh.length)(h2:j<l.length),x=l[j]/\idx lh i=aa lh[j]:=by
 grind [idx]
def Ho(T:be P){t:TypeId}{D:aD}{x:Operand}{k:dL->Option R}{q:R}(h:qO T ob n t D k=aa q)(hs:aJ U H F w ob n)(hx:aC H F w D (ev ρ x)):
 ∃e,k e=aa q/\cr P U H F w ρ ob n ⟨aa d, .load t x,ty,pos,aft,ae⟩ e:=by
 unfold qO at h;split at h
 .cases h
 rename_i kk hu;split at h
 case h_2=>cases h
 rename_i o d0 i p off;split at h
 case h_2=>cases h
 rename_i s T0 dr l hh cz;obtain⟨hd,h'⟩:=aQ h;clear h;obtain rfl:=DR.eq_of_beq hd;obtain⟨g,o0,qq,m,cap,e1,e2,e5⟩:=hx;obtain⟨lh,Ss,dY,hlen,xe,dC⟩:=hs.low cz e1;split at h'
 .rename_i r xJ za;obtain⟨h1,h2⟩:=aQ h';obtain⟨h1,h3⟩:=cx h1;obtain rfl:=beq_true h1;obtain⟨a,ha,hk⟩:=bind_some h2;obtain⟨j,hj,g1,g2,rfl,oW⟩:=ze hlen ha;have w5:=(dY.at rfl e2 oW).path xJ.lo _ rfl;rw[Kb xJ (xe j g1 g2)]at w5;obtain⟨es,hl,M0,hr⟩:=w5;exact⟨_,hk,nC T hu e5 hs (s:= .leaf r _) hr M0 (jT T h3)⟩
 .rename_i T' e' xJ za;obtain⟨h1,h2⟩:=aQ h';obtain⟨h1,h4⟩:=cx h1;obtain⟨h1,h3⟩:=cx h1;obtain rfl:=beq_true h1
  have qM:kg kk=ag:=by simpa using h4
  obtain⟨dd,xE,wX⟩:=(T.und_ok _ _ hu).agg
  have run:∀{j:Nat}(g1:j<lh.length),idx lh i=aa lh[j]->(execOp (ev ρ) ⟨aa d, .load t x,ty,pos,aft,ae⟩).run P w= .ok (.value (xJ.lo.get lh[j])) w:=by
   intro j g1 oW;have w5:=(dY.at rfl e2 oW).path xJ.lo _ rfl;obtain⟨es,hl,M0,hr,_⟩:=w5;rw[hr]at M0;exact xA xE (wX.trans qM) e5 (M0 0 _ rfl)
  split at h2
  .obtain⟨a,ha,hk⟩:=bind_some h2;obtain⟨j,hj,g1,g2,rfl,oW⟩:=ze hlen ha;exact⟨_,hk,b9.val (run g1 oW) (Bc hs za cz e1 hj g2 dY.2 hlen xe dC)⟩
  .rename_i hh;obtain⟨hp,h3⟩:=aQ h2;have hp:=qL hp;split at h3
   case isFalse=>cases h3
   rename_i hi;have hi:hh.i=i:=al hi;obtain⟨a,ha,hk⟩:=bind_some h3;obtain⟨j,hj,g1,g2,rfl,oW⟩:=ze hlen ha;obtain⟨T'',e'',q'',k1,_,k3⟩:=(xe j g1 g2).2 (hi.trans hj);rw[hp,za]at k1;cases k1;refine⟨_,hk,bM hs (run g1 oW) (mK k3 ?_)⟩;have w5:=(dY.at rfl e2 oW).path xJ.lo _ rfl;obtain⟨es,_,_,_,A,m',c,FI⟩:=w5;rw[FI];rfl
 .cases h'
def SJ(T:TypeId):(e:DR)->Th->Option (List e.row.den)
 | .leaf r, .own T1 r1 y=>bif agC T1 T then(if h:r1.beq r=af then aa (jo (r:= .slice r1) (s:= .slice r) (av Row.slice (Row.eq_of_beq h)) y)else ae)else ae
 | .sl T2 e2, .deep T1 (.sl T3 e3) y ae=>bif agC T1 T then(if h:(DR.sl T3 e3).beq (.sl T2 e2)=af then aa (DR.eq_of_beq h▸y)else ae)else ae
 | .pair a b, .deep T1 (.pair a1 b1) y ae=>bif agC T1 T then(if h:(DR.pair a1 b1).beq (.pair a b)=af then aa (DR.eq_of_beq h▸y)else ae)else ae
 |_,_=>ae
def DT{T:TypeId}{e:DR}{t:Th}{y:List e.row.den}(h:SJ T e t=aa y):t=Hm T e y:=by
 unfold SJ at h;split at h
 .obtain⟨h1,h2⟩:=aQ h;split at h2
  .rename_i hb;obtain rfl:=Row.eq_of_beq hb;obtain rfl:=agx h2;rw[beq_true h1];rfl
  .cases h2
 .obtain⟨h1,h2⟩:=aQ h;split at h2
  .rename_i hb;cases DR.eq_of_beq hb;obtain rfl:=agx h2;rw[beq_true h1];rfl
  .cases h2
 .obtain⟨h1,h2⟩:=aQ h;split at h2
  .rename_i hb;cases DR.eq_of_beq hb;obtain rfl:=agx h2;rw[beq_true h1];rfl
  .cases h2
 .cases h
def zf(h:Option vm)(i:Int)(p:List Bool):Bool:=
 match h with
 |none=>af
 |some h=>od h.p p&&decide (h.i=i)
def Be{h:Option vm}{i:Int}{p:List Bool}(hh:zf h i p=af){dr e:DR}{T:TypeId}{q:fQ dr (.sl T e)}(hq:dr.path p=aa ⟨_,q⟩){j:Nat}(hj:i=(j:Nat)){x':dr.low.den}{x:dr.row.den}{S:Nat->Prop}(hr:n9 H F w dr h j x' x S):
 ∃B,(∀k,B k->S k)/\nc F w q x' x B:=by
 cases h with
 |none=>
  obtain⟨A,B,_,h2,h3⟩:=kc.out q (show kc F w dr x' x S from hr);exact⟨B,h3.right,h2⟩
 |some h=>
  have h':(od h.p p&&decide (h.i=i))=af:=hh;obtain⟨h1,h2⟩:=cx h';obtain⟨T',e',q',k1,k2,_⟩:=hr.2 ((al h2).trans hj)
  grind [qL]
def vI{h:Option vm}{i:Int}{p:List Bool}(hh:zf h i p=af){dr:DR}{j:Nat}(hj:i≠(j:Nat)){x':dr.low.den}{x:dr.row.den}{S:Nat->Prop}(hr:n9 H F w dr h j x' x S):kc F w dr x' x S:=by
 cases h with
 |none=>exact hr
 |some h=>
  have h':(od h.p p&&decide (h.i=i))=af:=hh;obtain⟨h1,h2⟩:=cx h';exact hr.1 (by grind)
end
end
end Go.Proofs.YtfeahmiobbjklaaGreatDoor
section
open _root_.Option renaming none->ae,some->aa
open _root_.Bool renaming true->af
open _root_.Nat renaming beq->agC,le_refl->agB
open _root_.Option.some renaming inj->agx
open _root_.Go.Value renaming ownBlock->agR
namespace Go.Proofs.YtfeahmiobbjklaaGreatDoor
open Go Go.RowKit
section
variable {P:Program} {ρ:Nat->Value} {w w':World} {H H':aI} {F F':Nat->Prop} {U:Nat->Prop} {ob:Nat->Option (Nat×Th)} {n:Nat} {R:Type}
variable {op:Op} {ty:TypeId} {pos:String} {aft:Array Edge} {d:Nat}
noncomputable def pY(T:be P)(ob:Nat->Option (Nat×Th))(n:Nat)(t:TypeId)(D V:aD)(k:dL->Option R):Option R:=
 match find T.row t with
 |none=>ae
 |some rt=>match V with
  | .val _ u=>match D with
    | .dlm o d0 i p off=>match ob o with
      |some (_, .deep T0 dr l h)=>bif d0.beq dr then(match dr.path p with
       |some ⟨.leaf r,q⟩=>bif agC q.lo.off off&&agC rt.size r.size then(match flat ob r u with
        |some y=>(idx l i).bind λx=>k {dst:= .dead,eat:=[o],make:=[(o,(n, .deep T0 dr (bm l i (q.hi.set x y)) h))]}
        |none=>ae)else ae
       |some ⟨.sl T' e',q⟩=>bif agC q.lo.off off&&agC rt.size 1 then(match u with
        | .own o1=>match ob o1 with
          |some (_,t1)=>match SJ T' e' t1 with
           |some _=>if zf h i p=af then(idx l i).bind λ_=>k {dst:= .dead,eat:=[o],make:=[(o,(n, .deep T0 dr l (aa ⟨i,p,o1,n⟩)))]}else ae
           |none=>ae
          |none=>ae
        | .nil=>if zf h i p=af then(idx l i).bind λx=>k {dst:= .dead,eat:=[o],make:=[(o,(n, .deep T0 dr (bm l i (q.hi.set x ([]:List e'.row.den))) ae))]}else ae
        |_=>ae)else ae
       |_=>ae)else ae
      |_=>ae
    |_=>ae
  |_=>ae
def qP(T:be P){t:TypeId}{rt:Row}(J3:find T.row t=aa rt){x y:Operand}{o s:Nat}{T0:TypeId}{dr e:DR}{i:Int}{l l':List dr.row.den}{h h':Option vm}{q:fQ dr e}{g o0 qq m cap j:Nat}{u:e.low.den}{cs:List Value}{x1:dr.row.den}
 (hs:aJ U H F w ob n)(cz:ob o=aa (s, .deep T0 dr l h))(hv:H.val o=aa (.slice (aa ⟨g,o0,ae⟩) m cap))(hj:i=(j:Nat))(DU:j<l.length)(hx:ev ρ x= .pointer (aa ⟨g,o0+qq*dr.low.size+q.lo.off,ae⟩))(hqq:i=(qq:Nat))(hz:rt.size=e.low.size)
 (hr:cD F w e.low cs u)(xK:(ev ρ y).cells.toList=cs)(hl':l'=l.set j x1)
 (xe:∀{w':World}{H1:aI},H.le H1->Step F w F w'->∀{x':dr.low.den}{S:Nat->Prop},(∀k,S k->w'.heap[k]? =w.heap[k]?)->n9 H F w dr h j x' l[j] S->∃B,(∀k,B k->S k)/\n9 H1 F w' dr h' j (q.lo.set x' u) x1 B)
 (Wx:∀{H1:aI}{w':World}{i':Nat}{x':dr.low.den}{x:dr.row.den}{S:Nat->Prop},i'≠j->n9 H1 F w' dr h i' x' x S->n9 H1 F w' dr h' i' x' x S):
 cr P U H F w ρ ob n ⟨ae, .store t x y,ty,pos,aft,ae⟩ {dst:= .dead,eat:=[o],make:=[(o,(n, .deep T0 dr l' h'))]}:=by
 obtain⟨ti,z0,h1,_,_,h4,_⟩:=T.row_ok _ _ J3;obtain⟨lh,Ss,dY,hlen,OV,dC⟩:=hs.low cz hv;obtain⟨v1,uP,cG⟩:=hs.obj _ _ _ cz;rw[hv]at uP;obtain rfl:=agx uP
 have Z7:j<lh.length:=by omega
 obtain rfl:qq=j:=by omega
 obtain⟨cur,hh,hle,bO,gC⟩:=dY.put rfl Z7 hs.lt q.lo hr;generalize hw':w.setRow g (cur.toList.take (o0+qq*dr.low.size+q.lo.off)++cs++cur.toList.drop (o0+qq*dr.low.size+q.lo.off+cs.length)).toArray=w' at bO gC;refine b9.unit (w':=w') (by rw[<-hw'];exact nZ h1 (h4.trans (hz.trans hr.length.symm)) hx rfl xK hr.jy hh hle) ?_;have gM:Step F w F w':=Step.ext bO hs.lt dY.no
 have hblk:∀i',i'<l.length->∀k,Ss i' k->w'.heap[k]? =w.heap[k]? :=λi' kW k hk=>bO.block k (cG.lt k (dC.part kW k hk)) (dC.out i' k kW hk)
 have hf:=hs.fresh n (agB _) (by omega)
 have jI:∀k,H.sub s k->cn H ob [o] k:=λk hk=>⟨o,by simp,s,_,_,cz,hv,hk⟩
 obtain⟨B0,hB0,_⟩:=xe (w':=w') (H1:=H) (aI.le.refl H) gM (hblk qq DU) (OV qq Z7 DU)
 have main:∀{H1:aI},H.le H1->∃B,(∀k,B k->Ss qq k)/\n9 H1 F w' dr h' qq (q.lo.set lh[qq] u) x1 B:=(by grind)
 have SK:∃B,(∀k,B k->Ss qq k)/\∀{H1:aI},H.le H1->n9 H1 F w' dr h' qq (q.lo.set lh[qq] u) x1 B:=by
  obtain⟨B,b1,b2⟩:=main (aI.le.refl H);exact⟨B,b1,λNb=>b2.keep Nb (Step.refl F w') λ_ _=>rfl⟩
 obtain⟨B,b1,b2⟩:=SK;have hSs:∀k,qN (bP (Value.slice (aa ⟨g,o0,ae⟩) m cap)) (λi=>if i=qq then B else Ss i) l.length k->H.sub s k:=dC.Bb qq b1;refine kY.zd (t':= .deep T0 dr l' h') hs cz hv rfl (by simp) (qN (bP (Value.slice (aa ⟨g,o0,ae⟩) m cap)) (λi=>if i=qq then B else Ss i) l.length) (λk hk=>jI k (hSs k hk)) ⟨bO.os,bO.tape,bO.output,bO.size,λk hk hn=>bO.block k hk λe=>hn (jI k (dC.bP k e))⟩ ?_ trivial;have Nb:=aI.pX (H:=H) (S:=qN (bP (Value.slice (aa ⟨g,o0,ae⟩) m cap)) (λi=>if i=qq then B else Ss i) l.length) (t:= .deep T0 dr l' h') hf.2
 have FJ:l'.length=l.length:=by rw[hl'];simp
 refine⟨lh.set qq (q.lo.set lh[qq] u),(λi=>if i=qq then B else Ss i),gC.2,by grind,?_,?_⟩
 .intro i' a b
  have:=M9 (rel:=n9 ((H.dZ n (qN (bP (Value.slice (aa ⟨g,o0,ae⟩) m cap)) (λi=>if i=qq then B else Ss i) l.length)).bC n (.deep T0 dr l' h')) F w' dr h') (lh:=lh) (l:=l) (Ss:=Ss) (j:=qq) (x':=q.lo.set lh[qq] u) (x:=x1) (B:=B)
   (λi2 c1 c2 du=>Wx du ((OV i2 c1 c2).keep Nb gM (hblk i2 c2))) (b2 Nb) i' a (by grind)
  grind
 .rw[FJ];exact dC.less qq b1
def DV(T:be P){t:TypeId}{D V:aD}{x y:Operand}{k:dL->Option R}{q:R}(h:pY T ob n t D V k=aa q)(hs:aJ U H F w ob n)(hx:aC H F w D (ev ρ x))(hy:aC H F w V (ev ρ y)):
 ∃e,k e=aa q/\cr P U H F w ρ ob n ⟨ae, .store t x y,ty,pos,aft,ae⟩ e:=by
 unfold pY at h;split at h
 .cases h
 rename_i rt J3;split at h
 case h_2=>cases h
 rename_i agg u;split at h
 case h_2=>cases h
 rename_i o d0 i p off;split at h
 case h_2=>cases h
 rename_i s T0 dr l hh cz;obtain⟨hd,h'⟩:=aQ h;clear h;obtain rfl:=DR.eq_of_beq hd;obtain⟨g,o0,qq,m,cap,e1,e2,e5⟩:=hx;obtain⟨cs,pP,xK⟩:=aO.cells hy;split at h'
 .rename_i r xJ za;obtain⟨h1,h2⟩:=aQ h';obtain⟨h1,h3⟩:=cx h1;obtain rfl:=beq_true h1;split at h2
  case h_2=>cases h2
  rename_i z hz;obtain⟨a,ha,hk⟩:=bind_some h2;obtain⟨j,hj,DU,rfl⟩:=gB ha;refine⟨_,hk,qP (l':=bm l i (xJ.hi.set l[j] z)) (x1:=xJ.hi.set l[j] z) (u:=z) T J3 hs cz e1 hj DU e5 e2 (beq_true h3) (gn hs hz pP) xK ?_ ?_ ?_⟩
  .unfold bm;grind
  .intro w' H1 hle gM x' S hb hr;exact⟨S,λ_ h=>h,Hn xJ z (hr.keep hle gM hb)⟩
  grind
 .rename_i T' e' xJ za;obtain⟨h1,h2⟩:=aQ h';obtain⟨h1,h3⟩:=cx h1;obtain rfl:=beq_true h1;split at h2
  .rename_i o1;split at h2
   case h_2=>cases h2
   rename_i s1 t1 zg;split at h2
   case h_2=>cases h2
   rename_i y1 hD;split at h2
   case isFalse=>cases h2
   rename_i Bf;obtain⟨a,ha,hk⟩:=bind_some h2;obtain⟨j,hj,DU,rfl⟩:=gB ha;obtain⟨u1,Je,oQ⟩:=hs.obj _ _ _ zg;obtain⟨v,hv,lv,rfl⟩:=pP;rw[Je]at hv;obtain rfl:=agx hv
   have Wy:cD F w .kU [u1] u1:=by
    have:=oQ.ok;rw[DT hD]at this;obtain⟨lh1,_,g1,_⟩:=vG this;obtain⟨xs,⟨_,hx⟩,_⟩:=g1
    rcases hx with⟨rfl,_⟩|⟨gg,o0,cp,cur,rfl,_⟩<;>exact⟨rfl,_,_,_,rfl⟩
   refine⟨_,hk,qP (l':=l) (x1:=l[j]) (u:=u1) (e:= .sl T' e') T J3 hs cz e1 hj DU e5 e2 (beq_true h3) Wy xK ?_ ?_ ?_⟩
   .simp_all
   .intro w' H1 hle gM x' S hb hr;obtain⟨B,b1,b2⟩:=Be Bf za hj hr;refine⟨B,b1,λdu=>absurd hj du,λ_=>⟨T',e',xJ,za,(b2.keep gM λk hk=>hb k (b1 k hk)).Kc xJ u1,?_⟩⟩;rw[Path.zc];exact hle.val _ _ Je
   .intro H1 w' i' x' x S du hr
    have Hp:i≠(i':Int):=λe=>du (by omega)
    exact⟨λ_=>vI Bf Hp hr,λe=>absurd e Hp⟩
  .split at h2
   case isFalse=>cases h2
   rename_i Bf;obtain⟨a,ha,hk⟩:=bind_some h2;obtain⟨j,hj,DU,rfl⟩:=gB ha;have Wz:cs=_:=pP;subst Wz;refine⟨_,hk,qP (x1:=xJ.hi.set l[j] ([]:List e'.row.den)) (u:=Value.slice ae 0 0) (e:= .sl T' e') T J3 hs cz e1 hj DU e5 e2 (beq_true h3) ⟨rfl,_,_,_,rfl⟩ xK ?_ ?_ ?_⟩
   .unfold bm;grind
   .intro w' H1 hle gM x' S hb hr;obtain⟨B,b1,b2⟩:=Be Bf za hj hr;refine⟨B,b1,?_⟩;refine nc.put (e:= .sl T' e') xJ (b2.keep gM λk hk=>hb k (b1 k hk)) (A:=λ_=>False) ?_ ⟨λk=>by simp,λ_ h=>h.elim⟩;exact⟨[],λ_ _=>False,lU.nil F w' T' e'.low,rfl,λi h=>absurd h (by simp),⟨λk=>by simp[bP,agR],λ_ _ _ h=>absurd h (by simp),λ_ _ h=>absurd h (by simp)⟩⟩
   .intro H1 w' i' x' x S du hr
    have Hp:i≠(i':Int):=λe=>du (by omega)
    exact vI Bf Hp hr
  .cases h2
 .cases h'
end
end Go.Proofs.YtfeahmiobbjklaaGreatDoor
namespace Go.Proofs.YtfeahmiobbjklaaGreatDoor
open Go Go.RowKit
def rK{α:Type}(l:List α)(i:Int)(f:α->α):List α:=if 0<=i then l.modify i.toNat f else l
def iC{α:Type}(l:List α)(i:Int)(f:α->α):(rK l i f).length=l.length:=by unfold rK;split<;>simp
def uT{α:Type}{l:List α}{i:Int}{f:α->α}{j:Nat}(h:j<(rK l i f).length)(h':j<l.length):(rK l i f)[j]=if i=(j:Int)then f l[j]else l[j]:=by
 grind [rK]
def Path.zh:{r s:Row}->(p:Path r s)->(x:r.den)->p.set x (p.get x)=x
 |_,_, .here,_=>rfl
 |_,_, .fst p,x=>by show(p.set x.1 (p.get x.1),x.2)=x;rw[Path.zh p]
 |_,_, .snd p,x=>by show(x.1,p.set x.2 (p.get x.2))=x;rw[Path.zh p]
section
variable {P:Program} {ρ:Nat->Value} {w w':World} {H H':aI} {F F':Nat->Prop} {U:Nat->Prop} {ob:Nat->Option (Nat×Th)} {n:Nat} {R:Type}
variable {op:Op} {ty:TypeId} {pos:String} {aft:Array Edge} {d:Nat}
def Kd(ob:Nat->Option (Nat×Th))(n o:Nat):Option dL:=
 match ob o with
 |some (_, .deep T0 dr l (aa h))=>match dr.path h.p with
  |some ⟨.sl T' e',q⟩=>match ob h.o with
   |some (_,t1)=>bif agC h.o o then ae else(match SJ T' e' t1 with
    |some y=>aa {dst:= .dead,eat:=[o,h.o],make:=[(o,(n, .deep T0 dr (rK l h.i λx=>q.hi.set x y) ae))]}
    |none=>ae)
   |none=>ae
  |_=>ae
 |_=>ae
def Hq(hs:aJ U H F w ob n){o:Nat}{e:dL}(h:Kd ob n o=aa e):lQ H F w ob n e undef w:=by
 unfold Kd at h;split at h
 case h_2=>cases h
 rename_i s T0 dr l hh cz;split at h
 case h_2=>cases h
 rename_i T' e' q hq;split at h
 case h_2=>cases h
 rename_i s1 t1 zg
 cases du:agC hh.o o with
 |true=>grind
 |false=>
  rw[du,cond_false]at h
  have du:o≠hh.o:=λe=>by simp_all
  split at h
  case h_2=>cases h
  rename_i y hD;obtain rfl:=agx h;have hD:=DT hD;subst hD;obtain⟨v,hv,cG⟩:=hs.obj _ _ _ cz;obtain⟨u,hu,oQ⟩:=hs.obj _ _ _ zg;obtain⟨lh,Ss,dY,hlen,xe,dC⟩:=hs.low cz hv;have hA:=vG oQ.ok;generalize Z8:(λk=>fp (H.sub s1) u (Hm T' e' y) k)=A at hA
  have Vr:∀k,A k->¬H.sub s k:=λk hk=>by
   rw[<-Z8]at hk
   exact λh2=>hs.apart _ _ _ _ _ _ _ _ du cz zg hv hu k h2 hk
  have hf:=hs.fresh n (agB _) (by omega)
  let SL:Nat->Nat->Prop:=λi k=>Ss i k\/(hh.i=(i:Int)/\A k)
  have jI:∀k,H.sub s k\/A k->cn H ob [o,hh.o] k:=by
   rintro k (hk|hk)
   .exact⟨o,by simp,s,_,v,cz,hv,hk⟩
   .rw[<-Z8]at hk;exact⟨hh.o,by simp,s1,_,u,zg,hu,hk⟩
  have hS:∀k,qN (bP v) SL l.length k->H.sub s k\/A k:=by
   rintro k (hk|⟨i,hi,hk|hk⟩)
   .exact .inl (dC.bP k hk)
   .exact .inl (dC.part hi k hk)
   .exact .inr hk.2
  refine kY.zd (t':= .deep T0 dr (rK l hh.i λx=>q.hi.set x y) ae) hs cz hv rfl (by simp) (qN (bP v) SL l.length) (λk hk=>jI k (hS k hk)) ⟨rfl,⟨rfl,agB _⟩,rfl,agB _,λ_ _ _=>rfl⟩ ?_ trivial;have FJ:(rK l hh.i λx=>q.hi.set x y).length=l.length:=iC ..;refine⟨lh,SL,dY.2,by grind,λi a b=>?_,?_⟩
  .have b':i<l.length:=by omega
   rw[uT b b'];have hr:=xe i a b'
   by_cases hi:hh.i=(i:Int)
   .rw[aj hi];obtain⟨T'',e'',q'',k1,k2,k3⟩:=hr.2 hi;rw[hq]at k1;cases k1;rw[hu]at k3;have k3:=agx k3;have:kc F w dr (q.lo.set lh[i] u) (q.hi.set l[i] y) (SL i):=k2.put q hA ⟨(by grind),λk hk h2=>Vr k hk (dC.part b' k h2)⟩;rw[k3,Path.zh]at this;exact this
   .rw[ai hi];have hr1:=hr.1 hi
    have:SL i=Ss i:=by
     funext k;exact(by grind)
    rw[this];exact hr1
  .rw[FJ];refine⟨λk=>Iff.rfl,λi j k h1 h2 SH h3 h4=>?_,λi k h1 h3 h4=>?_⟩
   .rcases h3 with h3|h3<;>rcases h4 with h4|h4
    .exact dC.two i j k h1 h2 SH h3 h4
    .exact Vr k h4.2 (dC.part h1 k h3)
    .exact Vr k h3.2 (dC.part h2 k h4)
    grind
   .rcases h3 with h3|h3
    .exact dC.out i k h1 h3 h4
    .exact Vr k h3.2 (dC.bP k h4)
end
end Go.Proofs.YtfeahmiobbjklaaGreatDoor
end
namespace Go.Proofs.YtfeahmiobbjklaaGreatDoor
open Go Go.RowKit
set_option maxRecDepth 100000
set_option linter.unusedSimpArgs false
set_option linter.unusedVariables false
set_option linter.defProp false
section
def DR.eP:(d:DR)->d.low.eP=d.row.eP
 | .leaf _=>rfl
 | .sl _ _=>rfl
 | .pair a b=>by show a.low.eP++b.low.eP=a.row.eP++b.row.eP;rw[a.eP,b.eP]
def TI.low{P:Program}{e:TypeId}{d:DR}(h:TI P e d.row):TI P e d.low:=by
 obtain⟨ti,z,h1,h2,h3,h4,h5⟩:=h;exact⟨ti,z,h1,h2,by rw[d.eP];exact h3,by rw[d.size];exact h4,h5⟩
def DW:List Nat->Bool
 |[]=>af
 |o::l=> !l.any (agC o)&&DW l
def xO:{l:List Nat}->DW l=af->l.Nodup
 |[],_=>List.nodup_nil
 |o::l,h=>by
  obtain⟨h1,h2⟩:=cx h;refine List.nodup_cons.2 ⟨λhm=>?_,xO h2⟩;rw[any_beq.2 hm]at h1;cases h1
def DR.mk2:DR->DR->DR
 | .leaf a, .leaf b=> .leaf (.pair a b)
 |a,b=> .pair a b
def P3(ob:Nat->Option (Nat×Th)):Row->Tree->DR
 | .slice e, .own o=>match ob o with
   |some (_, .own T r _)=> .sl T (.leaf r)
   |some (_, .deep T d _ ae)=> .sl T d
   |_=> .leaf (.slice e)
 | .pair a b,t=>match t.split with
   |some (x,y)=>DR.mk2 (P3 ob a x) (P3 ob b y)
   |none=> .leaf (.pair a b)
 |r,_=> .leaf r
def DX(ob:Nat->Option (Nat×Th)):(d:DR)->Tree->Option (d.row.den×List Nat)
 | .leaf r,t=>match flat ob r t with
   |some x=>aa (x,[])
   |none=>ae
 | .sl T e, .own o=>match ob o with
   |some (_,t1)=>match SJ T e t1 with
    |some y=>aa (y,[o])
    |none=>ae
   |none=>ae
 | .sl _ _, .nil=>aa ([],[])
 | .sl _ _,_=>ae
 | .pair a b,t=>match t.split with
   |some (x,y)=>match DX ob a x with
    |some (u,os)=>match DX ob b y with
     |some (v,Hr)=>aa ((u,v),os++Hr)
     |none=>ae
    |none=>ae
   |none=>ae
def FK(ob:Nat->Option (Nat×Th))(d:DR):List aD->Option (List d.row.den×List Nat)
 |[]=>aa ([],[])
 | .val _ u::l=>match DX ob d u with
   |some (x,os)=>match FK ob d l with
    |some (xs,Hr)=>aa (x::xs,os++Hr)
    |none=>ae
   |none=>ae
 |_::_=>ae
section
variable {P:Program} {ρ:Nat->Value} {w w':World} {H H':aI} {F F':Nat->Prop} {U:Nat->Prop} {ob:Nat->Option (Nat×Th)} {n:Nat} {R:Type}
variable {op:Op} {ty:TypeId} {pos:String} {aft:Array Edge} {d:Nat}
def tK(hs:aJ U H F w ob n){os Hr:List Nat}(hd:∀o,o∈os->o∉Hr):∀k,cn H ob os k->¬cn H ob Hr k:=by
 rintro k ⟨o,ho,s,t,v,h1,h2,h3⟩ ⟨o',lI,s',t',v',g1,g2,g3⟩
 exact hs.apart o o' s s' t t' v v' (λe=>hd o ho (e▸lI)) h1 g1 h2 g2 k h3 g3
theorem pZ{os Hr:List Nat}(h:∀o,o∈os->o∈Hr):∀k,cn H ob os k->cn H ob Hr k:=λ_ ⟨o,ho,rest⟩=>⟨o,h o ho,rest⟩
def zi(hs:aJ U H F w ob n):{d:DR}->{t:Tree}->{x:d.row.den}->{os:List Nat}->{cs:List Value}->DX ob d t=aa (x,os)->Holds H F w t cs->os.Nodup->∃x' S,cD F w d.low cs x'/\kc F w d x' x S/\∀k,S k->cn H ob os k
 | .leaf r,t,x,os,cs,h,hh,Hs=>by
   unfold DX at h
   split at h<;>cases h
   rename_i hf;exact⟨x,λ_=>False,gn hs hf hh,⟨rfl,λ_ h=>h⟩,λ_ h=>h.elim⟩
 | .sl T e, .own o,x,os,cs,h,hh,Hs=>by
   unfold DX at h;split at h
   case h_2=>cases h
   rename_i s1 t1 ho
   split at h<;>cases h
   rename_i hD;obtain⟨v,hv,_,rfl⟩:=hh;obtain⟨v',ey,cG⟩:=hs.obj _ _ _ ho;rw[hv]at ey;obtain rfl:=agx ey;have hD:=DT hD;subst hD;have hb:=vG cG.ok;refine⟨v,_,?_,hb,λk hk=>⟨o,by simp,s1,_,v,ho,hv,hk⟩⟩;obtain⟨lh1,_,⟨xs,⟨_,hx⟩,_⟩,_⟩:=hb
   rcases hx with⟨rfl,_⟩|⟨gg,o0,cp,cur,rfl,_⟩<;>exact⟨rfl,_,_,_,rfl⟩
 | .sl T e, .nil,x,os,cs,h,hh,_=>by
   cases h;have Vs:cs=_:=hh;subst Vs;exact⟨.slice ae 0 0,λ_=>False,⟨rfl,_,_,_,rfl⟩,⟨[],λ_ _=>False,lU.nil F w T e.low,rfl,λi h=>absurd h (by simp),⟨λk=>by simp[bP,agR],λ_ _ _ h=>absurd h (by simp),λ_ _ h=>absurd h (by simp)⟩⟩,λ_ h=>h.elim⟩
 | .pair a b,t,x,os,cs,h,hh,hn=>by
   unfold DX at h;split at h
   case h_2=>cases h
   rename_i t1 t2 uk;split at h
   case h_2=>cases h
   rename_i u os1 h1;split at h
   case h_2=>cases h
   rename_i v os2 h2;cases h;obtain⟨c1,c2,rfl,g1,g2,_⟩:=hh.split uk;obtain⟨n1,n2,n3⟩:=List.nodup_append.1 hn;obtain⟨x1,S1,r1,e1,s1⟩:=zi hs h1 g1 n1;obtain⟨x2,S2,r2,e2,s2⟩:=zi hs h2 g2 n2;refine⟨(x1,x2),λk=>S1 k\/S2 k,⟨c1,c2,rfl,r1,r2⟩,⟨S1,S2,e1,e2,λ_=>Iff.rfl,λk hk lf=>tK hs (λo ho lI=>n3 o ho o lI rfl) k (s1 k hk) (s2 k lf)⟩,λk hk=>hk.elim (λhk=>pZ (λo ho=>by simp[ho]) k (s1 k hk)) λhk=>pZ (λo ho=>by simp[ho]) k (s2 k hk)⟩
 | .sl _ _, .leaf _ _,_,_,_,h,_,_=>by cases h
 | .sl _ _, .pair _ _,_,_,_,h,_,_=>by cases h
 | .sl _ _, .view ..,_,_,_,h,_,_=>by cases h
def Bg(hs:aJ U H F w ob n){d:DR}:{ds:List aD}->{l:List d.row.den}->{os:List Nat}->{vs:List Value}->FK ob d ds=aa (l,os)->fx H F w ds vs->os.Nodup->
 ∃(lh:List d.low.den)(Ss:Nat->Nat->Prop),vj F w d.low vs lh/\lh.length=l.length/\(∀i(h1:i<lh.length)(h2:i<l.length),kc F w d lh[i] l[i] (Ss i))/\(∀i k,i<l.length->Ss i k->cn H ob os k)/\∀i j k,i<l.length->j<l.length->i≠j->Ss i k->¬Ss j k
 |[],l,os,vs,h,hd,_=>by
  cases h;rw[show vs=[]from hd];exact⟨[],λ_ _=>False, .nil,rfl,λi h=>absurd h (by simp),λ_ _ h=>absurd h (by simp),λ_ _ _ h=>absurd h (by simp)⟩
 | .val _ u::ds,l,os,vs,h,hd,hn=>by
   obtain⟨v,us,rfl,h1,h2⟩:=hd;unfold FK at h;split at h
   case h_2=>cases h
   rename_i x os1 hf;split at h
   case h_2=>cases h
   rename_i xs os2 hg;cases h;obtain⟨cs,pP,xK⟩:=aO.cells h1;obtain⟨n1,n2,n3⟩:=List.nodup_append.1 hn;obtain⟨x',S,r1,e1,s1⟩:=zi hs hf pP n1;obtain⟨lh,Ss,k1,k2,k3,k4,k5⟩:=Bg hs hg h2 n2
   have ap:∀i k,i<xs.length->S k->¬Ss i k:=λi k hi hk lf=>tK hs (λo ho lI=>n3 o ho o lI rfl) k (s1 k hk) (k4 i k hi lf)
   refine⟨x'::lh,λi=>match i with|0=>S|i+1=>Ss i, .cons xK r1 k1,by simp[k2],λi a b=>?_,λi k hi hk=>?_,λi j k hi hj du hk lf=>?_⟩
   .grind
   .cases i with
    |zero=>grind [pZ]
    |succ i=>grind [pZ]
   .cases i with
    |zero=>
     cases j<;>grind
    |succ i=>
     cases j<;>grind
 | .dead::_,_,_,_,h,_,_=>by cases h
 | .undef::_,_,_,_,h,_,_=>by cases h
 | .ptr .. ::_,_,_,_,h,_,_=>by cases h
 | .at .. ::_,_,_,_,h,_,_=>by cases h
 | .elem .. ::_,_,_,_,h,_,_=>by cases h
 | .tup _::_,_,_,_,h,_,_=>by cases h
 | .dlm .. ::_,_,_,_,h,_,_=>by cases h
 | .fn .. ::_,_,_,_,h,_,_=>by cases h
 | .ifc .. ::_,_,_,_,h,_,_=>by cases h
def kY.Nc(hs:aJ U H F w ob n){eat:List Nat}{t:Th}{v0:Value}{S:Nat->Prop}(hb:t.base=t)(h1:v0.oneCell'=af){D:aD}{v:Value}
 (bO:Ext (cn H ob eat) w w')(mG:iy (((H.dZ n S).bC n t).cA n v0) F w' S v0 t)(MC:∀k,fp S v0 t k->¬F k/\k<w'.heap.size/\(w.heap.size<=k\/cn H ob eat k))
 (hd:aC (((H.dZ n S).bC n t).cA n v0) F w' D v):lQ H F w ob n {dst:=D,eat:=eat,make:=[(n,(n,t))]} v w':=by
 have hf:=hs.fresh n (agB _) (by omega)
 have iA:(((H.dZ n S).bC n t).cA n v0).sub n=S:=by simp[aI.cA,aI.bC,aI.dZ]
 refine⟨((H.dZ n S).bC n t).cA n v0,F,⟨(aI.pX hf.2).trans (aI.pR (by simp[aI.bC,aI.dZ,hf.1])),bO,λ_ h=>h,λ_ h=> .inl h,λb hb=>agV (hs.lt b hb) bO.size⟩,λm hm=>?_,hd,⟨λo' s' q hq=>?_,λo1 o2 s1 s2 q1 q2 u1 u2 du h1 h2=>?_⟩,λo' h=>?_⟩
 .simp[aI.bC,aI.cA,aI.dZ,show m≠n from by omega]
 .obtain⟨rfl,e⟩:=eR hq;obtain⟨rfl,rfl⟩:=Prod.mk.inj e;exact⟨v0,by simp[aI.cA],h1,by simp[aI.bC,aI.cA,hb],by rw[iA];exact mG,by grind⟩
 .grind [eR]
 .right
  obtain⟨y,hy⟩:=ag5.1 h
  grind [eR]
def zj(ob:Nat->Option (Nat×Th))(r:Row):List aD->DR
 | .val _ u::_=>P3 ob r u
 |_=> .leaf r
def o3(e:TypeId)(dr:DR)(ob:Nat->Option (Nat×Th))(n:Nat)(ds:List aD)(k:dL->Option R):Option R:=
 match FK ob dr ds with
 |some (l,os)=>bif DW os then k {dst:= .val ag (.own n),eat:=os,make:=[(n,(n,Hm e dr l))]}else ae
 |none=>ae
def p3(T:be P)(rd:Operand->Option aD)(ob:Nat->Option (Nat×Th))(n:Nat)(t:TypeId)(m:Nat)(parts:Array (Nat×Operand))(k:dL->Option R):Option R:=
 match find T.und t with
 |some (.slice e)=>match find T.row e with
  |some r=>bif FB 0 parts.toList&&agC m parts.toList.length&&Nat.ble (m*r.size) 16777216 then
    (match rH rd (parts.toList.map (·.2))with
    |some ds=>bif (zj ob r ds).row.beq r then o3 e (zj ob r ds) ob n ds k else ae
    |none=>ae)else ae
  |none=>ae
 |_=>ae
def DY(T:be P){rd:Operand->Option aD}(gf:∀x d,rd x=aa d->aC H F w d (ev ρ x)){t:TypeId}{m:Nat}{parts:Array (Nat×Operand)}{k:dL->Option R}{q:R}(h:p3 T rd ob n t m parts k=aa q)(hs:aJ U H F w ob n):
 ∃e,k e=aa q/\cr P U H F w ρ ob n ⟨aa d, .buildSlice t m parts,ty,pos,aft,ae⟩ e:=by
 unfold p3 at h;split at h
 case h_2=>cases h
 rename_i e hu;split at h
 case h_2=>cases h
 rename_i r hr;obtain⟨c0,h8⟩:=aQ h;clear h;obtain⟨c1,c3⟩:=cx c0;obtain⟨h1,c2⟩:=cx c1;have h2:=beq_true c2
 have h3:m*r.size<=16777216:=by simpa using c3
 clear c0 c1 c2 c3;split at h8
 case h_2=>cases h8
 rename_i ds xc;obtain⟨SM,h⟩:=aQ h8;clear h8;have kU:=Row.eq_of_beq SM;clear SM
 obtain⟨dr,R7⟩:∃dr,dr=zj ob r ds:=⟨_,rfl⟩
 rw[<-R7]at h kU;clear R7;subst kU;unfold o3 at h;split at h
 case h_2=>cases h
 rename_i l os hl;obtain⟨hn,hk⟩:=aQ h;clear h;obtain⟨lh,Ss,k1,k2,k3,k4,k5⟩:=Bg hs hl (nE gf xc) (xO hn)
 have hp:parts=(((parts.toList.map (·.2)).zipIdx).map λp=>(p.2,p.1)).toArray:=by
  rw[<-vx h1,ahj]
 have hm:m=(parts.toList.map (·.2)).length:=by simpa using h2
 obtain⟨v,w',bz,bO,dY,w9⟩:=vw (d:=d) (ty:=ty) (pos:=pos) (aft:=aft) (T.und_ok _ _ hu) (TI.low (T.row_ok _ _ hr)) hp (by rw[<-hm,DR.size];exact h3) k1 hs;rw[<-hm]at bz;refine⟨_,hk,b9.val bz ?_⟩
 have aH:∀i k,i<l.length->Ss i k->k<w.heap.size:=λi k hi hk=>hs.vn k (k4 i k hi hk)
 have gM:Step F w F w':=λb hb=>⟨hb,(bO λ_=>False).block b (hs.lt b hb) λh=>h⟩
 have dC:nA Ss l.length (bP v) (qN (bP v) Ss l.length):=⟨λ_=>Iff.rfl,k5,(by grind)⟩
 have ug:kc F w' (.sl e dr) v l (qN (bP v) Ss l.length):=⟨lh,Ss,dY.2,k2,λi a b=>(k3 i a b).keep gM λk hk=>(bO λ_=>False).block k (aH i k b hk) λh=>h,dC⟩
 have MC:∀k,qN (bP v) Ss l.length k->¬F k/\k<w'.heap.size/\(w.heap.size<=k\/cn H ob os k):=by
  rintro k (hk|⟨i,hi,hk⟩)
  .exact⟨dY.1 k hk,dY.lt k hk, .inl (w9 k hk)⟩
  .have:=k4 i k hi hk;exact⟨hs.eQ k this,agV (hs.vn k this) (bO λ_=>False).size, .inr this⟩
 refine kY.Nc (S:=qN (bP v) Ss l.length) (v0:=v) hs (vF ..) (pS dY) (bO _) (sQ ug).1 (λk hk=>MC k ((sQ (H:=H) ug).2.1 k hk)) (mK (by simp[aI.cA]) (pS dY))
def zk(T:be P)(n:Nat)(t:TypeId)(same:Bool)(a b:Int)(k:dL->Option R):Option R:=
 match find T.und t with
 |some (.slice e)=>match find T.row e with
  |some (.slice r)=>match find T.und e with
   |some (.slice e')=>(bif same then oM a ([]:List r.den)else Vk a b ([]:List r.den)).bind λl=>k {dst:= .val ag (.own n),make:=[(n,(n, .deep e (.sl e' (.leaf r)) l ae))]}
   |_=>ae
  |_=>vv T n t same a b k
 |_=>ae
def xP{e e' t:TypeId}{r:Row}{a b:Int}(ht:P.underlying t=aa (.slice e))(xH:TI P e (.slice r))(hs:aJ U H F w ob n){ka kb:IntKind}{x y:Operand}(hx:ev ρ x= .int ka a)(hy:ev ρ y= .int kb b)(h0:0<=a)(h1:a<=b)(h2:b<=4294967296):
 cr P U H F w ρ ob n ⟨aa d, .makeSlice t x y,ty,pos,aft,ae⟩ {dst:= .val ag (.own n),make:=[(n,(n, .deep e (.sl e' (.leaf r)) (agE a.toNat ([]:List r.den)) ae))]}:=by
 obtain⟨v,w',bz,bO,dY,w9⟩:=xL (d:=d) (ty:=ty) (pos:=pos) (aft:=aft) (r:= .kU) ht (TI.low (d:= .sl e' (.leaf r)) xH) hs hx hy h0 h1 h2
 have ug:kc F w' (.sl e (.sl e' (.leaf r))) v (agE a.toNat ([]:List r.den)) (bP v):=by
  refine⟨agE a.toNat (Value.slice ae 0 0),λ_ _=>False,dY.2,by simp,λi h1 h2=>?_,⟨λk=>by simp,λ_ _ _ _ _ _ h=>h.elim,λ_ _ _ h=>h.elim⟩⟩;simp only[List.getElem_replicate];exact⟨[],λ_ _=>False,lU.nil F w' e' r,rfl,λi h=>absurd h (by simp),⟨λk=>by simp[bP,agR],λ_ _ _ h=>absurd h (by simp),λ_ _ h=>absurd h (by simp)⟩⟩
 refine b9.val bz (kY.Nc (S:=bP v) (v0:=v) (eat:=[]) (t:=Hm e (.sl e' (.leaf r)) (agE a.toNat ([]:List r.den))) hs (vF ..) (pS dY) (bO _) (sQ ug).1 (λk hk=>?_) (mK (by simp[aI.cA]) (pS dY)));have hk:=(sQ (H:=H) ug).2.1 k hk;exact⟨dY.1 k hk,dY.lt k hk, .inl (w9 k hk)⟩
def Ht(T:be P){t:TypeId}{a b:Int}{ka kb:IntKind}{x y:Operand}{k:dL->Option R}{q:R}(h:zk T n t (oZ x y) a b k=aa q)(hs:aJ U H F w ob n)(hx:ev ρ x= .int ka a)(hy:ev ρ y= .int kb b):
 ∃e,k e=aa q/\cr P U H F w ρ ob n ⟨aa d, .makeSlice t x y,ty,pos,aft,ae⟩ e:=by
 unfold zk at h;split at h
 case h_2=>cases h
 rename_i e hu;split at h
 case h_2=>exact AY T h hs hx hy
 rename_i r hr;split at h
 case h_2=>cases h
 rename_i e' FI;obtain⟨l,hl,hk⟩:=bind_some h;have xH:=T.row_ok _ _ hr;have ht:=T.und_ok _ _ hu
 cases il:oZ x y with
 |true=>
  rw[il,cond_true]at hl;unfold oM at hl;split at hl
  case isFalse=>cases hl
  rename_i hc;obtain rfl:=agx hl;obtain rfl:=xM il hx hy;exact⟨_,hk,xP ht xH hs hx hy hc.1 (ahq _) hc.2⟩
 |false=>
  rw[il,cond_false]at hl;unfold Vk at hl;split at hl
  case isFalse=>cases hl
  rename_i hc;obtain rfl:=agx hl;exact⟨_,hk,xP ht xH hs hx hy hc.1 hc.2.1 hc.2.2⟩
def vJ(deep:Bool)(T:be P)(n:Nat)(t:TypeId)(same:Bool)(a b:Int)(k:dL->Option R):Option R:=
 match deep with
 |true=>zk T n t same a b k
 |false=>vv T n t same a b k
def Hu(deep:Bool)(T:be P){t:TypeId}{a b:Int}{ka kb:IntKind}{x y:Operand}{k:dL->Option R}{q:R}(h:vJ deep T n t (oZ x y) a b k=aa q)(hs:aJ U H F w ob n)(hx:ev ρ x= .int ka a)(hy:ev ρ y= .int kb b):
 ∃e,k e=aa q/\cr P U H F w ρ ob n ⟨aa d, .makeSlice t x y,ty,pos,aft,ae⟩ e:=by
 cases deep with
 |true=>exact Ht T h hs hx hy
 |false=>exact AY T h hs hx hy
def o4(T:be P)(ob:Nat->Option (Nat×Th))(n:Nat)(t:TypeId)(D:aD)(k:dL->Option R):Option R:=
 match D with
 | .dlm .. =>qO T ob n t D k
 |_=>xI T ob t D k
def Hv(T:be P){t:TypeId}{D:aD}{x:Operand}{k:dL->Option R}{q:R}(h:o4 T ob n t D k=aa q)(hs:aJ U H F w ob n)(hx:aC H F w D (ev ρ x)):
 ∃e,k e=aa q/\cr P U H F w ρ ob n ⟨aa d, .load t x,ty,pos,aft,ae⟩ e:=by
 unfold o4 at h;split at h
 .exact Ho T h hs hx
 .exact J2 T h hs hx
noncomputable def p4(T:be P)(ob:Nat->Option (Nat×Th))(n:Nat)(t:TypeId)(D V:aD)(k:dL->Option R):Option R:=
 match D with
 | .dlm .. =>pY T ob n t D V k
 |_=>sH T ob n t D V k
def DZ(T:be P){t:TypeId}{D V:aD}{x y:Operand}{k:dL->Option R}{q:R}(h:p4 T ob n t D V k=aa q)(hs:aJ U H F w ob n)(hx:aC H F w D (ev ρ x))(hy:aC H F w V (ev ρ y)):
 ∃e,k e=aa q/\cr P U H F w ρ ob n ⟨ae, .store t x y,ty,pos,aft,ae⟩ e:=by
 unfold p4 at h;split at h
 .exact DV T h hs hx hy
 .exact Hb T h hs hx hy
def uU(deep:Bool)(T:be P)(rd:Operand->Option aD)(ob:Nat->Option (Nat×Th))(n:Nat)(t:TypeId)(m:Nat)(parts:Array (Nat×Operand))(k:dL->Option R):Option R:=
 match deep with
 |true=>p3 T rd ob n t m parts k
 |false=>jU T rd ob n t m parts k
def D2(deep:Bool)(T:be P){rd:Operand->Option aD}(gf:∀x d,rd x=aa d->aC H F w d (ev ρ x)){t:TypeId}{m:Nat}{parts:Array (Nat×Operand)}{k:dL->Option R}{q:R}(h:uU deep T rd ob n t m parts k=aa q)(hs:aJ U H F w ob n):
 ∃e,k e=aa q/\cr P U H F w ρ ob n ⟨aa d, .buildSlice t m parts,ty,pos,aft,ae⟩ e:=by
 cases deep with
 |true=>exact DY T gf h hs
 |false=>exact vy T gf h hs
end
end
end Go.Proofs.YtfeahmiobbjklaaGreatDoor
