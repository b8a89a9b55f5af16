/- Joined texts: Effs2 Effs3 Effs4 Effs5 Effs6 Effs8 Effs9. -/
import Derived.Test.YtfeahmiobbjklaaGreatDoorU1
import Derived.Carry
set_option linter.defProp false
open _root_.Bool renaming false->ah,true->af
open _root_.Option renaming none->ae,some->aa,map_eq_some_iff->ajp,isSome_iff_exists->ajb
open _root_.Array renaming toArray_toList->ajo,getElem?_eq_some_iff->ajc
open _root_.Int renaming eq_ofNat_of_zero_le->aiL,le_refl->ajz,toNat_natCast->aiI,tdiv->aiR,tmod->ai3
open _root_.List renaming replicate->aiG
open _root_.Nat renaming beq->aiJ,le_refl->aiH,le_trans->ai4,mul_le_mul_right->aiS,add_mul->ajF,min_eq_left->ajD,zero_add->aje,lt_of_lt_of_le->ai1
open _root_.Option.some renaming inj->aiC,injEq->aiO
open _root_.Go.Result renaming andThen_ok->ajv,andThen->aiQ
open _root_.Go.Sem renaming run_bind->ai0
open _root_.Go.Value renaming ownBlock->aiY,int->ajl
open _root_.List.cons renaming injEq->ajt
open _root_.Go.Value.slice renaming injEq->ajS
open _root_.Go.Instr renaming findNow->ajr,lookup->aj3,mapUpdate->ajE
open _root_.Go.MapKept renaming run_checkKey->ajG,run_findKey->ajM,run_getObj_map->ajg,run_setObj_map->ajL
section
open _root_.Bool renaming false->ah,true->af
open _root_.Option renaming none->ae,some->aa,isSome_iff_exists->ajb
open _root_.Array renaming toArray_toList->ajo
open _root_.Int renaming toNat_natCast->aiI
open _root_.Nat renaming beq->aiJ,blt->aja,le_refl->aiH,lt_of_lt_of_le->ai1
open _root_.Option.some renaming inj->aiC,injEq->aiO
open _root_.Go.Value renaming oneCell'->ajK
namespace Go.Proofs.YtfeahmiobbjklaaGreatDoor
open Go Go.RowKit
section
variable {P:Program} {ρ:Nat->Value} {w w':World} {H H':aK} {F F':Nat->Prop} {U:Nat->Prop} {ob:Nat->Option (Nat×Th)} {n:Nat} {R:Type}
variable {op:Op} {ty:TypeId} {pos:String} {aft:Array Edge} {d:Nat}
def aL.box(hs:aL U H F w ob n){o s:Nat}{T:TypeId}{t:Tree}(ho:ob o=aa (s, .box T t)){b:Nat}(hb:H.val o=aa (.pointer (aa ⟨b,0,ae⟩))):
 ∃es,w.heap[b]? =aa (.cells es.toArray T (0,0))/\Holds H F w t es:=by
 obtain⟨v,hv,hi⟩:=hs.obj _ _ _ ho;rw[hb]at hv;obtain rfl:=aiC hv;obtain⟨b',es,e,h1,h2⟩:=hi.ok
 grind
def aL.own(hs:aL U H F w ob n){o s:Nat}{T:TypeId}{r:Row}{l:List r.den}(ho:ob o=aa (s, .own T r l)){v:Value}(hv:H.val o=aa v):mw 0 F w T r v l:=by
 obtain⟨v',eR,hi⟩:=hs.obj _ _ _ ho;rw[hv]at eR;obtain rfl:=aiC eR;exact⟨hi.no,hi.ok⟩
def BM{fs:List (TypeId×Nat)}{arr:Array Field}(ha:arr.toList.map (λf=>(f.type,f.offset))=fs){f:Nat}{ft:TypeId}{off:Nat}(hf:fs[f]? =aa (ft,off)):∃fd,arr[f]? =aa fd/\fd.type=ft/\fd.offset=off:=by
 grind
def sub(r:Row)(x:r.den)(p:List Bool):Option ((s:Row)×s.den×Nat):=
 match Tree.get (.leaf r x) p with
 |some (.leaf s y,off)=>aa ⟨s,y,off⟩
 |_=>ae
def EE{r s:Row}{x:r.den}{y:s.den}{p:List Bool}{off b k:Nat}(h:sub r x p=aa ⟨s,y,off⟩)(ha:At F w r b k x):At F w s b (k+off) y:=by
 unfold sub at h;split at h
 .rename_i s' y' ef hg;simp only[aiO,Sigma.mk.injEq]at h;obtain⟨rfl,h⟩:=h;obtain⟨rfl,rfl⟩:=Prod.mk.inj (eq_of_heq h);obtain⟨es,hl,hc,hr⟩:=ha;obtain⟨g1,g2⟩:=Holds.get (H:=⟨λ_=>ae,λ_=>ae,λ_ _=>False⟩) (F:=F) (w:=w) (cs:=es) hg hr;have UI:cS F w s' ((es.drop ef).take s'.size) y':=g1;refine⟨_,UI.length,λj u hu=>?_,UI⟩
  grind
 .cases h
def EF(T:bj P)(t:TypeId)(f:Nat)(D:aF):Option aF:=
 match find T.und t with
 |some (.struct fs)=>match fs[f]? with
  |some (ft,off)=>match find T.row ft with
   |some _=>match D with
    | .ptr o p k=>aa (.ptr o (p++sq fs.length f) (k+off))
    | .at r x=>match sub r x (sq fs.length f)with
      |some ⟨s,y,ef⟩=>bif aiJ ef off then aa (.at s y)else ae
      |none=>ae
    | .elem o s r i x p k=>aa (.elem o s r i x (p++sq fs.length f) (k+off))
    | .dlm o d i p k=>aa (.dlm o d i (p++sq fs.length f) (k+off))
    |_=>ae
   |none=>ae
  |none=>ae
 |_=>ae
theorem beq_true{m k:Nat}(h:aiJ m k=af):m=k:=Nat.eq_of_beq_eq_true h
def sr{α:Type}{b:Bool}{x:α}{y:α}(h:(bif b then aa x else ae)=aa y):b=af/\x=y:=by
 grind
def Is(T:bj P){t:TypeId}{f:Nat}{D D':aF}{x:Operand}(h:EF T t f D=aa D')(hs:aL U H F w ob n)(hx:aE H F w D (ev ρ x)):
 cE P U H F w ρ ob n ⟨aa d, .fieldAddr t x f,ty,pos,aft,ae⟩ {dst:=D'}:=by
 unfold EF at h;split at h
 case h_2=>cases h
 rename_i fs hu;obtain⟨arr,Ku,OF⟩:=T.und_ok _ _ hu;split at h
 case h_2=>cases h
 rename_i ft off hf;obtain⟨fd,T9,rfl,rfl⟩:=BM OF hf;split at h
 case h_2=>cases h
 rename_i r' Kv;have yx:=T.row_ok _ _ Kv;split at h
 .obtain rfl:=aiC h;obtain⟨b,h1,h2⟩:=hx;exact aZ hs (nv (r:=r') fd.offset Ku T9 yx rfl h2) ⟨b,h1,rfl⟩
 .split at h
  .rename_i s y ef iS;obtain⟨h1,rfl⟩:=sr h;obtain rfl:=beq_true h1;obtain⟨b,k,h2,h3,h4⟩:=hx;exact aZ hs (nv (r:=r') fd.offset Ku T9 yx rfl h2) ⟨b,_,rfl,h3,EE iS h4⟩
  .cases h
 .obtain rfl:=aiC h;obtain⟨g,o0,q,T',m,cap,l,h1,h2,h3,h4,h5⟩:=hx;exact aZ hs (nv (r:=r') fd.offset Ku T9 yx rfl h5) ⟨g,o0,q,T',m,cap,l,h1,h2,h3,h4,by grind⟩
 .obtain rfl:=aiC h;obtain⟨g,o0,q,m,cap,h1,h2,h5⟩:=hx;exact aZ hs (nv (r:=r') fd.offset Ku T9 yx rfl h5) ⟨g,o0,q,m,cap,h1,h2,by grind⟩
 .cases h
def cS.elemAt{r:Row}{v:Value}{l:List r.den}(h:cS F w (.slice r) [v] l){i:Int}{y:r.den}(hi:idx l i=aa y):
 ∃b off cap k,v= .slice (aa ⟨b,off,ae⟩) l.length cap/\i=(k:Nat)/\k<l.length/\F b/\At F w r b (off+k*r.size) y:=by
 obtain⟨A,cap,hv,_,_,h4⟩:=h;obtain⟨k,hk,aH,rfl⟩:=gX hi;obtain⟨b,off,es,rfl,hF,uX,hc,hr⟩:=h4 k aH;exact⟨b,off,cap,k,by simpa using hv,hk,aH,hF,es,uX,hc,hr⟩
inductive Lh where
 |read (r:Row) (l:List r.den)
 |own (o s:Nat) (T:TypeId) (r:Row) (l:List r.den)
 |nil
 |view (o s:Nat) (r:Row) (l:List r.den)
 |deep (o s:Nat) (T:TypeId) (d:DR) (l:List d.row.den) (h:Option vU)
def vc(ob:Nat->Option (Nat×Th)):aF->Option Lh
 | .val ah (.leaf (.slice r) l)=>aa (.read r l)
 | .val ah .nil=>aa .nil
 | .val ah (.own o)=>match ob o with
   |some (s, .own T r l)=>aa (.own o s T r l)
   |some (_, .u9 _ r l)=>aa (.read r l)
   |some (_, .fdeep _ d l)=>aa (.read d.row l)
   |some (s, .deep T d l h)=>aa (.deep o s T d l h)
   |_=>ae
 | .val ah (.view o s r m)=>match ob o with
   |some (s', .u9 ..)=>bif aiJ s' s then aa (.read r m)else aa (.view o s r m)
   |_=>aa (.view o s r m)
 |_=>ae
def OG(U:Nat->Prop)(H:aK)(F:Nat->Prop)(w:World)(ob:Nat->Option (Nat×Th))(v:Value):Lh->Prop
 | .read r l=>cS F w (.slice r) [v] l
 | .own o s T r l=>H.val o=aa v/\ob o=aa (s, .own T r l)/\mw 0 F w T r v l
 | .nil=>v= .slice ae 0 0
 | .view o s r m=>mj H o s r m v
 | .deep o s T d l h=>H.val o=aa v/\ob o=aa (s, .deep T d l h)/\Ez U H F w v s (.deep T d l h)
def jr(hs:aL U H F w ob n){D:aF}{k:Lh}{v:Value}(h:vc ob D=aa k)(hd:aE H F w D v):OG U H F w ob v k:=by
 unfold vc at h;split at h
 .cases h;exact aS.inv hd
 .cases h;obtain⟨cs,h1,_,h3⟩:=hd;have EB:cs=_:=h1
  grind [OG]
 .rename_i o;obtain⟨cs,⟨u,hu,Ku,e⟩,_,h3⟩:=hd;rw[h3 rfl]at e
  obtain rfl:v=u:=by simpa using e
  split at h
  .rename_i s T r l vY;cases h;exact⟨hu,vY,hs.own vY hu⟩
  .rename_i s T r l vY;cases h;obtain⟨v',eR,hi⟩:=hs.obj _ _ _ vY;rw[hu]at eR;obtain rfl:=aiC eR;exact hi.ok
  .rename_i s T d l vY;cases h;obtain⟨v',eR,hi⟩:=hs.obj _ _ _ vY;rw[hu]at eR;obtain rfl:=aiC eR;exact hi.ok
  .rename_i s T d l h' vY;cases h;obtain⟨v',eR,hi⟩:=hs.obj _ _ _ vY;rw[hu]at eR;obtain rfl:=aiC eR;exact⟨hu,vY,hi⟩
  .cases h
 .rename_i o s r m;obtain⟨cs,⟨u,e,hu⟩,_,h3⟩:=hd;rw[h3 rfl]at e
  obtain rfl:v=u:=by simpa using e
  split at h
  .rename_i s' T r' l' vY
   cases hb:aiJ s' s with
   |false=>rw[hb]at h;cases h;exact hu
   |true=>
    rw[hb]at h;obtain rfl:=Nat.eq_of_beq_eq_true hb;cases h;exact yw hs vY hu
  .cases h;exact hu
 .cases h
def ml:Nat->(r:Row)->r.den->(e:Row)->Option (List e.den)
 |1,r,x,e=>if h:r.beq e=af then aa [jH (Row.eq_of_beq h) x]else ae
 |m+2, .pair a b,x,e=>if h:a.beq e=af then(match ml (m+1) b x.2 e with
  |some l=>aa (jH (Row.eq_of_beq h) x.1::l)
  |none=>ae)else ae
 |_,_,_,_=>ae
def GA{e:Row}{b:Nat}:{m:Nat}->{r:Row}->{x:r.den}->{l:List e.den}->{off:Nat}->ml m r x e=aa l->At F w r b off x->l.length=m/\∀i(h:i<l.length),At F w e b (off+i*e.size) l[i]
 |0,r,x,l,off,h,_=>by unfold ml at h;cases h
 |1,r,x,l,off,h,ha=>by
  unfold ml at h;split at h
  case isFalse=>cases h
  rename_i hb;obtain rfl:=Row.eq_of_beq hb;obtain rfl:=aiC h;refine⟨rfl,λi hi=>?_⟩
  obtain rfl:i=0:=by grind
  rw[Nat.zero_mul,Nat.add_zero];exact ha
 |m+2, .pair a b',x,l,off,h,ha=>by
  unfold ml at h;split at h
  case isFalse=>cases h
  rename_i hb;obtain rfl:=Row.eq_of_beq hb;split at h
  case h_2=>cases h
  rename_i l' hl;obtain rfl:=aiC h;obtain⟨g1,g2⟩:=GA hl (ha.snd _ rfl);refine⟨by simp[g1],λi hi=>?_⟩
  cases i with
  |zero=>
   rw[Nat.zero_mul,Nat.add_zero];exact ha.fst
  |succ i=>
   grind
 |m+2, .int _,_,_,_,h,_=>by unfold ml at h;cases h
 |m+2, .bool,_,_,_,h,_=>by unfold ml at h;cases h
 |m+2, .str,_,_,_,h,_=>by unfold ml at h;cases h
 |m+2, .slice _,_,_,_,h,_=>by unfold ml at h;cases h
 |m+2, .lz,_,_,_,h,_=>by unfold ml at h;cases h
 |m+2, .nul _,_,_,_,h,_=>by unfold ml at h;cases h
 |m+2, .map ..,_,_,_,h,_=>by unfold ml at h;cases h
def rj{t e:TypeId}{x y:Operand}{kd:IntKind}{a:Int}{ti:TypeInfo}{m n5 off i:Nat}(size:Nat)(ht:P.underlying t=aa (.array m e))(hi:P.info? e=aa ti)(mh:ti.size=size)
 (hx:ev ρ x= .pointer (aa ⟨n5,off,ae⟩))(hy:ev ρ y= .int kd a)(ha:a=(i:Int))(aH:i<m):
 Pure P ρ ⟨aa d, .indexAddr t x y,ty,pos,aft,ae⟩ (.pointer (aa ⟨n5,off+i*size,ae⟩)):=λw=>by
 subst mh;subst ha;simp[execOp,Instr.indexAt,Instr.sureAddr,asIntOf,run_underlying ht,sizeOf,typeInfo,hi,hx,hy,aH,di]
def GB{α:Type}{b:Bool}{x:Option α}{y:α}(h:(bif b then x else ae)=aa y):b=af/\x=aa y:=by
 grind
def qx(T:bj P)(m:Nat)(e:TypeId)(D:aF)(i:Int)(k:ed->Option R):Option R:=
 match find T.row e with
 |some re=>match D with
  | .at r x=>match ml m r x re with
    |some l=>(idx l i).bind λy=>k {dst:= .at re y}
    |none=>ae
  | .ptr o p off=>match i with
    | .ofNat j=>bif aja j m then k {dst:= .ptr o (p++sq m j) (off+j*re.size)}else ae
    | .negSucc _=>ae
  |_=>ae
 |none=>ae
def EG(T:bj P){t:TypeId}{m:Nat}{e:TypeId}(hu:P.underlying t=aa (.array m e)){D:aF}{x y:Operand}{kd:IntKind}{i:Int}{k:ed->Option R}{q:R}(h:qx T m e D i k=aa q)(hs:aL U H F w ob n)(hx:aE H F w D (ev ρ x))(hy:ev ρ y= .int kd i):
 ∃e,k e=aa q/\cE P U H F w ρ ob n ⟨aa d, .indexAddr t x y,ty,pos,aft,ae⟩ e:=by
 unfold qx at h;split at h
 case h_2=>cases h
 rename_i re hr;obtain⟨ti,z,h1,_,_,h4,_⟩:=T.row_ok _ _ hr;split at h
 case h_3=>cases h
 case h_2=>
  split at h
  case h_2=>cases h
  rename_i o p off _ j;obtain⟨aH,hk⟩:=GB h
  have aH:j<m:=by simpa using aH
  obtain⟨b,hb,hv⟩:=hx;exact⟨_,hk,aZ hs (rj re.size hu h1 h4 hv hy rfl aH) ⟨b,hb,rfl⟩⟩
 rename_i r v;split at h
 case h_2=>cases h
 rename_i l hl;obtain⟨a,ha,hk⟩:=bind_some h;obtain⟨b,off,hv,hF,xO⟩:=hx;obtain⟨g1,g2⟩:=GA hl xO;obtain⟨j,hj,aH,rfl⟩:=gX ha;exact⟨_,hk,aZ hs (rj re.size hu h1 h4 hv hy hj (by omega)) ⟨b,_,rfl,hF,g2 j aH⟩⟩
def tt(T:bj P)(ob:Nat->Option (Nat×Th))(t:TypeId)(D:aF)(i:Int)(k:ed->Option R):Option R:=
 match find T.und t with
 |some (.slice e)=>match find T.row e with
  |some re=>match vc ob D with
   |some (.read r l)=>bif aiJ r.size re.size then(idx l i).bind λx=>k {dst:= .at r x}else ae
   |some (.own o s _ r l)=>bif aiJ r.size re.size then(idx l i).bind λx=>k {dst:= .elem o s r i x [] 0}else ae
   |some (.deep o _ _ d l _)=>bif aiJ d.low.size re.size then(idx l i).bind λ_=>k {dst:= .dlm o d i [] 0}else ae
   |_=>ae
  |none=>ae
 |some (.array m e)=>qx T m e D i k
 |_=>ae
def It(T:bj P){t:TypeId}{D:aF}{x y:Operand}{kd:IntKind}{i:Int}{k:ed->Option R}{q:R}(h:tt T ob t D i k=aa q)(hs:aL U H F w ob n)(hx:aE H F w D (ev ρ x))(hy:ev ρ y= .int kd i):
 ∃e,k e=aa q/\cE P U H F w ρ ob n ⟨aa d, .indexAddr t x y,ty,pos,aft,ae⟩ e:=by
 unfold tt at h;split at h
 case h_3=>cases h
 case h_2=>rename_i m e hu;exact EG T (T.und_ok _ _ hu) h hs hx hy
 rename_i e hu;have hu:=T.und_ok _ _ hu;split at h
 case h_2=>cases h
 rename_i re hr;obtain⟨ti,z,h1,_,_,h4,_⟩:=T.row_ok _ _ hr;split at h
 .rename_i r l gW
  cases hz:aiJ r.size re.size with
  |false=>grind
  |true=>
   rw[hz,cond_true]at h;have hz:=beq_true hz;obtain⟨a,ha,hk⟩:=bind_some h;have gW:=jr hs gW hx;obtain⟨b,off,cap,j,hv,hj,aH,hF,xO⟩:=cS.elemAt gW ha;refine⟨_,hk,aZ hs (mQ r.size hu h1 (h4.trans hz.symm) hv hy hj aH) ⟨b,_,rfl,hF,xO⟩⟩
 .rename_i o s T' r l gW
  cases hz:aiJ r.size re.size with
  |false=>grind
  |true=>
   rw[hz,cond_true]at h;have hz:=beq_true hz;obtain⟨a,ha,hk⟩:=bind_some h;obtain⟨hv,cM,eK⟩:=jr hs gW hx;obtain⟨v',eR,cL⟩:=hs.obj _ _ _ cM;obtain⟨j,hj,aH,hja⟩:=gX ha;obtain⟨_,xs,Gz,_⟩:=eK
   rcases Gz.2 with⟨Li,h0⟩|⟨g,o0,cap,cur,Iu,_,_,_⟩
   .omega
   .have hp:=mQ (P:=P) (d:=aa d) (ty:=ty) (pos:=pos) (aft:=aft) r.size hu h1 (h4.trans hz.symm) Iu hy hj aH;refine⟨_,hk,aZ hs hp ⟨g,o0,j,T',l.length,cap,l,?_,hj,cL.con,ha,rfl⟩⟩
    grind
 .rename_i o s T' d' l hh gW;obtain⟨hz,h⟩:=GB h;have hz:=beq_true hz;obtain⟨a,ha,hk⟩:=bind_some h;obtain⟨hv,cM,cL⟩:=jr hs gW hx;obtain⟨j,hj,aH,hja⟩:=gX ha;obtain⟨lh,_,⟨xs,Gz,_⟩,RA,_⟩:=cL.ok
  rcases Gz.2 with⟨Li,h0⟩|⟨g,o0,cap,cur,Iu,_,_,_⟩
  .omega
  .have hp:=mQ (P:=P) (d:=aa d) (ty:=ty) (pos:=pos) (aft:=aft) d'.low.size hu h1 (h4.trans hz.symm) Iu hy hj (by omega);refine⟨_,hk,aZ hs hp ⟨g,o0,j,lh.length,cap,?_,hj,rfl⟩⟩
   grind
 .cases h
theorem vZ{b:Nat}{T:TypeId}{es:List Value}(hh:w.heap[b]? =aa (.cells es.toArray T (0,0)))(j:Nat):w.cell? ⟨b,j,ae⟩=es[j]? :=by
 rw[cell_of_row w b j _ T (0,0) hh];simp
theorem og(T:bj P){t:TypeId}{kk:Kt}(hu:find T.und t=aa kk){x:Operand}{b off:Nat}{s:Tree}{cs:List Value}(hx:ev ρ x= .pointer (aa ⟨b,off,ae⟩))(hs:aL U H F w ob n)
 (hh:Holds H F w s cs)(hc:∀j u,cs[j]? =aa u->w.cell? ⟨b,off+j,ae⟩=aa u)
 (hz:if kL kk=af then∃r,find T.row t=aa r/\r.size=s.size else s.size=1):
 cE P U H F w ρ ob n ⟨aa d, .load t x,ty,pos,aft,ae⟩ {dst:= .val (kL kk) s}:=by
 obtain⟨dd,xP,xL⟩:=(T.und_ok _ _ hu).agg;have hl:=hh.length
 cases ha:kL kk with
 |true=>
  rw[al ha]at hz;obtain⟨r,hr,Oe⟩:=hz;obtain⟨ti,z,h1,_,_,h4,_⟩:=T.row_ok _ _ hr;exact bP hs (HY xP (xL.trans ha) h1 (by omega) hx hc) ⟨cs,hh,rfl,by simp⟩
 |false=>
  rw[aj (by simp[ha])]at hz
  obtain⟨v,rfl⟩:∃v,cs=[v]:=by
   match cs,hl.trans hz with
   |[v],_=>grind
  exact bP hs (yq xP (xL.trans ha) hx (hc 0 v rfl)) ⟨[v],hh,rfl,λ_=>rfl⟩
def mS(T:bj P)(t:TypeId)(kk:Kt)(m:Nat):Bool:=
 bif kL kk then(match find T.row t with|some r=>aiJ r.size m|none=>ah)else aiJ m 1
theorem kw(T:bj P){t:TypeId}{kk:Kt}{m:Nat}(h:mS T t kk m=af):if kL kk=af then∃r,find T.row t=aa r/\r.size=m else m=1:=by
 grind [mS,beq_true]
def yy(T:bj P)(ob:Nat->Option (Nat×Th))(t:TypeId)(D:aF)(k:ed->Option R):Option R:=
 match find T.und t with
 |none=>ae
 |some kk=>match D with
  | .at r x=>bif mS T t kk r.size then k {dst:= .val (kL kk) (.leaf r x)}else ae
  | .ptr o p off=>match ob o with
    |some (_, .box _ tr)=>match tr.get p with
     |some (s,ef)=>bif aiJ ef off&&mS T t kk s.size then k {dst:= .val (kL kk) s}else ae
     |none=>ae
    |_=>ae
  | .elem o s r i x p off=>match ob o with
    |some (s', .own _ r' l)=>bif aiJ s' s then
      (match sub r x p with
      |some ⟨q,y,ef⟩=>bif aiJ ef off&&mS T t kk q.size then k {dst:= .val (kL kk) (.leaf q y)}else ae
      |none=>ae)
     else(idx l i).bind λx'=>match sub r' x' p with
      |some ⟨q,y,ef⟩=>bif aiJ ef off&&mS T t kk q.size&&aiJ r'.size r.size then k {dst:= .val (kL kk) (.leaf q y)}else ae
      |none=>ae
    |_=>ae
  |_=>ae
def aV{α:Type}{b:Bool}{x:Option α}{y:α}(h:(bif b then x else ae)=aa y):b=af/\x=aa y:=by
 grind
def cI{a b:Bool}(h:(a&&b)=af):a=af/\b=af:=by simpa using h
def GC(hs:aL U H F w ob n){o s':Nat}{T':TypeId}{r':Row}{i:Int}{x':r'.den}{l:List r'.den}{g o0 q m cap:Nat}(cM:ob o=aa (s', .own T' r' l))(hv:H.val o=aa (.slice (aa ⟨g,o0,ae⟩) m cap))(hq:i=(q:Nat))(hi:idx l i=aa x'):
 At F w r' g (o0+q*r'.size) x':=(hs.own cM hv).at rfl hq hi
def Lj(T:bj P){t:TypeId}{D:aF}{x:Operand}{k:ed->Option R}{q:R}(h:yy T ob t D k=aa q)(hs:aL U H F w ob n)(hx:aE H F w D (ev ρ x)):
 ∃e,k e=aa q/\cE P U H F w ρ ob n ⟨aa d, .load t x,ty,pos,aft,ae⟩ e:=by
 unfold yy at h;split at h
 .cases h
 rename_i kk hu;split at h
 .rename_i r y;obtain⟨h1,h2⟩:=aV h;obtain⟨b,off,e,hF,es,hl,hc,hr⟩:=hx;exact⟨_,h2,og T hu e hs (s:= .leaf r y) hr hc (kw T h1)⟩
 .rename_i o p off;split at h
  .rename_i st0 T0 tr cM;split at h
   .rename_i s ef hg;obtain⟨h1,h2⟩:=aV h;obtain⟨h1,h3⟩:=cI h1;obtain rfl:=beq_true h1;obtain⟨b,hb,e⟩:=hx;obtain⟨es,hh,QK⟩:=hs.box cM hb;obtain⟨g1,g2⟩:=QK.get hg
    grind [og,kw,vZ]
   .cases h
  .cases h
 .rename_i o s r i y p off;split at h
  .rename_i s' T0 r' l cM;obtain⟨g,o0,qq,T',m,cap,l0,e1,e2,e3,e4,e5⟩:=hx
   cases tg:aiJ s' s with
   |true=>
    rw[tg,cond_true]at h;obtain rfl:=beq_true tg;obtain⟨v,hv,cL⟩:=hs.obj _ _ _ cM;have hc:=cL.con;rw[e3]at hc
    obtain⟨rfl,BF⟩:T'=T0/\(⟨r,l0⟩:(r:Row)×List r.den)=⟨r',l⟩:=by
     grind [Th.base]
    cases BF;split at h
    .rename_i q' y' ef iS;obtain⟨h1,h2⟩:=aV h;obtain⟨h1,h3⟩:=cI h1;obtain rfl:=beq_true h1;obtain⟨es,hl,OH,hr⟩:=EE iS (GC hs cM e1 e2 e4);exact⟨_,h2,og T hu e5 hs (s:= .leaf q' y') hr OH (kw T h3)⟩
    .cases h
   |false=>
    rw[tg,cond_false]at h;obtain⟨x',OE,h⟩:=bind_some h;split at h
    .rename_i q' y' ef iS;obtain⟨h1,h2⟩:=aV h;obtain⟨h1,h4⟩:=cI h1;obtain⟨h1,h3⟩:=cI h1;obtain rfl:=beq_true h1;have h4:=beq_true h4;obtain⟨es,hl,OH,hr⟩:=EE iS (GC hs cM e1 e2 OE);rw[h4]at OH;exact⟨_,h2,og T hu e5 hs (s:= .leaf q' y') hr OH (kw T h3)⟩
    .cases h
  .cases h
 .cases h
end
end Go.Proofs.YtfeahmiobbjklaaGreatDoor
namespace Go.Proofs.YtfeahmiobbjklaaGreatDoor
open Go Go.RowKit
def EH:(r:Row)->List Bool->Option ((s:Row)×Path r s)
 |r,[]=>aa ⟨r, .here⟩
 | .pair a b,d::p=>match d with
   |false=>match EH a p with
    |some ⟨s,q⟩=>aa ⟨s, .fst q⟩
    |none=>ae
   |true=>match EH b p with
    |some ⟨s,q⟩=>aa ⟨s, .snd q⟩
    |none=>ae
 |_,_::_=>ae
section
variable {P:Program} {ρ:Nat->Value} {w w':World} {H H':aK} {F F':Nat->Prop} {U:Nat->Prop} {ob:Nat->Option (Nat×Th)} {n:Nat} {R:Type}
variable {op:Op} {ty:TypeId} {pos:String} {aft:Array Edge} {d:Nat}
def aK.bG(H:aK)(s:Nat)(t:Th):aK:=⟨H.val,λm=>if m=s then aa t else H.con m,H.sub⟩
def aK.cN(H:aK)(o:Nat)(v:Value):aK:=⟨λm=>if m=o then aa v else H.val m,H.con,H.sub⟩
def aK.eL(H:aK)(s:Nat)(S:Nat->Prop):aK:=⟨H.val,H.con,λm=>if m=s then S else H.sub m⟩
def aK.gw{H:aK}{s:Nat}{t:Th}(h:H.con s=ae):H.le (H.bG s t):=⟨λ_ _ h=>h,λm q hq=>by
 grind [aK.bG],λ_ _ _=>rfl⟩
def aK.Iv{H:aK}{s:Nat}{S:Nat->Prop}(h:H.con s=ae):H.le (H.eL s S):=⟨λ_ _ h=>h,λ_ _ h=>h,λm t hm=>by
 grind [aK.eL]⟩
def aK.qy{H:aK}{s:Nat}{t:Value}(h:H.val s=ae):H.le (H.cN s t):=⟨λm q hq=>by
 grind [aK.cN],λ_ _ h=>h,λ_ _ _=>rfl⟩
theorem fk{α:Type}{o o':Nat}{x y:α}(h:find [(o,x)] o'=aa y):o'=o/\y=x:=by
 rw[bd]at h;split at h
 .grind
 .cases h
def lD.vw(hs:aL U H F w ob n){o s:Nat}{t t':Th}{v0:Value}(ho:ob o=aa (s,t))(hv:H.val o=aa v0)(hb:t'.base=t')(Of:∀k,fp (H.sub n) v0 t' k->fp (H.sub s) v0 t k){D:aF}{v:Value}
 (bS:Ext (fp (H.sub s) v0 t) w w')(np:iQ (H.bG n t') F w' (H.sub n) v0 t')(hd:aE (H.bG n t') F w' D v):mz H F w ob n {dst:=D,eat:=[o],make:=[(o,(n,t'))]} v w':=by
 obtain⟨v1,vx,cL⟩:=hs.obj _ _ _ ho;rw[hv]at vx;obtain rfl:=aiC vx
 have ke:∀k,fp (H.sub s) v0 t k->cx H ob [o] k:=λk hk=>⟨o,by simp,s,t,v0,ho,hv,hk⟩
 refine⟨H.bG n t',F,⟨aK.gw (hs.fresh n (aiH _) (by omega)).2,⟨bS.os,bS.tape,bS.output,bS.size,λk hk hn=>bS.block k hk λe=>hn (ke k e)⟩,λ_ h=>h,λ_ h=> .inl h,λb hb=>ai1 (hs.lt b hb) bS.size⟩,λm hm=>?_,hd,⟨λo' s' q hq=>?_,λo1 o2 s1 s2 q1 q2 u1 u2 dA h1 h2=>?_⟩,λo' h=>?_⟩
 .grind [aK.bG]
 .obtain⟨rfl,e⟩:=fk hq;obtain⟨rfl,rfl⟩:=Prod.mk.inj e;refine⟨v0,hv,cL.one,by simp[aK.bG,hb],np,λk hk=>⟨cL.no k (Of k hk),ai1 (cL.lt k (Of k hk)) bS.size, .inr (ke k (Of k hk))⟩⟩
 all_goals grind [fk,ajb]
def lD.new(hs:aL U H F w ob n){eat:List Nat}{t:Th}{v0:Value}(hb:t.base=t)(h1:v0.oneCell'=af){D:aF}{v:Value}
 (bS:Ext (cx H ob eat) w w')(np:iQ ((H.bG n t).cN n v0) F w' (H.sub n) v0 t)(Of:∀k,fp (H.sub n) v0 t k->¬F k/\k<w'.heap.size/\(w.heap.size<=k\/cx H ob eat k))
 (hd:aE ((H.bG n t).cN n v0) F w' D v):mz H F w ob n {dst:=D,eat:=eat,make:=[(n,(n,t))]} v w':=by
 have hf:=hs.fresh n (aiH _) (by omega);refine⟨(H.bG n t).cN n v0,F,⟨(aK.gw hf.2).trans (aK.qy (by simp[aK.bG,hf.1])),bS,λ_ h=>h,λ_ h=> .inl h,λb hb=>ai1 (hs.lt b hb) bS.size⟩,λm hm=>?_,hd,⟨λo' s' q hq=>?_,λo1 o2 s1 s2 q1 q2 u1 u2 dA h1 h2=>?_⟩,λo' h=>?_⟩
 .simp[aK.bG,aK.cN,show m≠n from by omega]
 .obtain⟨rfl,e⟩:=fk hq;obtain⟨rfl,rfl⟩:=Prod.mk.inj e;exact⟨v0,by simp[aK.cN],h1,by simp[aK.bG,aK.cN,hb],np,Of⟩
 .grind [fk]
 .right
  obtain⟨y,hy⟩:=ajb.1 h
  grind [fk]
def tv(T:bj P)(ob:Nat->Option (Nat×Th))(n:Nat)(t:TypeId)(D V:aF)(k:ed->Option R):Option R:=
 match find T.row t with
 |none=>ae
 |some rt=>match V with
  | .val _ u=>match D with
    | .ptr o p off=>match ob o with
      |some (_, .box T0 tr)=>match tr.get p with
       |some (s,ef)=>bif aiJ ef off&&aiJ rt.size s.size&&aiJ u.size s.size then
         (match tr.put p u with
         |some Xu=>k {dst:= .dead,eat:=[o],make:=[(o,(n, .box T0 Xu))]}
         |none=>ae)else ae
       |none=>ae
      |_=>ae
    | .elem o s r i x p off=>match ob o with
      |some (s', .own T0 r' l)=>match EH r' p with
       |some ⟨q,yz⟩=>bif aiJ yz.off off&&aiJ rt.size q.size&&aiJ r'.size r.size then
         (match flat ob q u with
         |some y=>bif aiJ s' s then
           (if h:r.beq r'=af then k {dst:= .dead,eat:=[o],make:=[(o,(n, .own T0 r' (bg l i (yz.set (jH (Row.eq_of_beq h) x) y))))]}else ae)
          else(idx l i).bind λx'=>k {dst:= .dead,eat:=[o],make:=[(o,(n, .own T0 r' (bg l i (yz.set x' y))))]}
         |none=>ae)else ae
       |none=>ae
      |_=>ae
    |_=>ae
  |_=>ae
def aS.cells{agg:Bool}{t:Tree}{v:Value}(h:aS H F w agg t v):∃cs,Holds H F w t cs/\v.cells.toList=cs:=by
 obtain⟨cs,h1,h2,h3⟩:=h;refine⟨cs,h1,?_⟩
 cases agg with
 |true=>rw[h2];rfl
 |false=>
  have e:=h3 rfl;have h1c:=h1.jR v (by rw[e];simp);rw[e]
  cases v<;>first|rfl|simp[ajK]at h1c
def v7(T:bj P){t:TypeId}{rt:Row}(Iw:find T.row t=aa rt){x y:Operand}{o s':Nat}{T0:TypeId}{r q:Row}{i:Int}{x':r.den}{z:q.den}{l:List r.den}{p:Path r q}{off g o0 j m cap:Nat}{agg:Bool}{u:Tree}
 (hs:aL U H F w ob n)(cM:ob o=aa (s', .own T0 r l))(hv:H.val o=aa (.slice (aa ⟨g,o0,ae⟩) m cap))(hj:i=(j:Nat))(hi:idx l i=aa x')(hx:ev ρ x= .pointer (aa ⟨g,o0+j*r.size+off,ae⟩))(OI:p.off=off)(hz:rt.size=q.size)
 (hf:flat ob q u=aa z)(hV:aS H F w agg u (ev ρ y)):
 cE P U H F w ρ ob n ⟨ae, .store t x y,ty,pos,aft,ae⟩ {dst:= .dead,eat:=[o],make:=[(o,(n, .own T0 r (bg l i (p.set x' z))))]}:=by
 obtain⟨ti,z0,h1,_,_,h4,_⟩:=T.row_ok _ _ Iw;obtain⟨cs,qw,yA⟩:=hV.cells;have hr:=gO hs hf qw;have eK:=hs.own cM hv;obtain⟨k',hk,aH,rfl⟩:=gX hi
 obtain rfl:k'=j:=by omega
 obtain⟨cur,hh,hle,bS,gY⟩:=eK.put rfl aH hs.lt p hr;subst OI;refine ct.unit (oM h1 (h4.trans (hz.trans hr.length.symm)) hx rfl yA hr.jR hh hle) ?_;refine lD.vw (t':= .own T0 r (bg l i (p.set l[k'] z))) (D:= .dead) hs cM hv rfl (λ_ h=>h) bS ?_ trivial;have:iQ (H.bG n (.own T0 r (bg l i (p.set l[k'] z)))) F (w.setRow g (cur.toList.take (o0+k'*r.size+p.off)++cs++cur.toList.drop (o0+k'*r.size+p.off+cs.length)).toArray) (H.sub n) (.slice (aa ⟨g,o0,ae⟩) m cap) (.own T0 r (l.set k' (p.set l[k'] z))):=gY.2
 grind [bg,aiI]
def Ix(T:bj P){t:TypeId}{D V:aF}{x y:Operand}{k:ed->Option R}{q:R}(h:tv T ob n t D V k=aa q)(hs:aL U H F w ob n)(hx:aE H F w D (ev ρ x))(hy:aE H F w V (ev ρ y)):
 ∃e,k e=aa q/\cE P U H F w ρ ob n ⟨ae, .store t x y,ty,pos,aft,ae⟩ e:=by
 unfold tv at h;split at h
 .cases h
 rename_i rt Iw;split at h
 case h_2=>cases h
 rename_i agg u;split at h
 .rename_i o p off;split at h
  case h_2=>cases h
  rename_i s0 T0 tr cM;split at h
  case h_2=>cases h
  rename_i s ef hg;obtain⟨h1,h2⟩:=aV h;obtain⟨h1,GD⟩:=cI h1;obtain⟨h1,EI⟩:=cI h1;obtain rfl:=beq_true h1;have EI:=beq_true EI;have GD:=beq_true GD;split at h2
  case h_2=>cases h2
  rename_i Xu hp;obtain⟨b,hb,e⟩:=hx;obtain⟨es,hh,QK⟩:=hs.box cM hb;obtain⟨cs,qw,yA⟩:=aS.cells hy;have hl:=qw.length;have hle:=(QK.get hg).2;have tn:=Holds.put qw hg hp GD.symm QK;obtain⟨ti,z0,g1,_,_,g4,_⟩:=T.row_ok _ _ Iw;refine⟨_,h2,ct.unit (oM g1 (by omega) e rfl yA qw.jR hh (by simp;omega)) ?_⟩
  have Ua:¬F b:=by
   obtain⟨v1,vx,cL⟩:=hs.obj _ _ _ cM;rw[hb]at vx;obtain rfl:=aiC vx;exact cL.no b rfl
  have bS:Ext (fp (H.sub s0) (.pointer (aa ⟨b,0,ae⟩)) (.box T0 tr)) w (w.setRow b (es.toArray.toList.take ef++cs++es.toArray.toList.drop (ef+cs.length)).toArray):=
   ⟨rfl,⟨rfl,aiH _⟩,rfl,by simp,λk _ hk=>setRow_other w b k _ λe=>hk (by simp[fp,e])⟩
  refine lD.vw (t':= .box T0 Xu) (D:= .dead) hs cM hb rfl (λk hk=>hk) bS ⟨b,_,rfl,setRow_heap w b _ _ T0 (0,0) hh,?_⟩ trivial
  have hk:=tn.keep (H':=H.bG n (.box T0 Xu)) (aK.gw (hs.fresh n (aiH _) (by omega)).2) (Step.ext bS hs.lt λk hk=>by
   grind [fp])
  grind
 .rename_i o s r i x0 p off;split at h
  case h_2=>cases h
  rename_i s' T0 r' l cM;split at h
  case h_2=>cases h
  rename_i q' yz z8;obtain⟨h1,h2⟩:=aV h;obtain⟨h1,GD⟩:=cI h1;obtain⟨h1,EI⟩:=cI h1;have h1:=beq_true h1;have EI:=beq_true EI;have GD:=beq_true GD;split at h2
  case h_2=>cases h2
  rename_i z hf;obtain⟨g,o0,qq,T',m,cap,l0,e1,e2,e3,e4,e5⟩:=hx;rw[<-GD]at e5
  cases tg:aiJ s' s with
  |true=>
   rw[tg,cond_true]at h2;obtain rfl:=beq_true tg;split at h2
   case isFalse=>cases h2
   rename_i BN;obtain⟨v,hv,cL⟩:=hs.obj _ _ _ cM;have hc:=cL.con;rw[e3]at hc
   obtain⟨rfl,BF⟩:T'=T0/\(⟨r,l0⟩:(r:Row)×List r.den)=⟨r',l⟩:=by
    grind [Th.base]
   cases BF;exact⟨_,h2,v7 T Iw hs cM e1 e2 e4 e5 h1 EI hf hy⟩
  |false=>
   rw[tg,cond_false]at h2;obtain⟨x',OE,h2⟩:=bind_some h2;exact⟨_,h2,v7 T Iw hs cM e1 e2 OE e5 h1 EI hf hy⟩
 .cases h
def Lk(hs:aL U H F w ob n){t:TypeId}{tr:Tree}{cs:List Value}(hh:Holds H F w tr cs):
 mz H F w ob n {dst:= .ptr n [] 0,make:=[(n,(n, .box t tr))]} (.pointer (aa ⟨w.heap.size,0,ae⟩)) (w.alloc (.cells cs.toArray t)):=by
 have bS:Ext (cx H ob []) w (w.alloc (.cells cs.toArray t)):=⟨rfl,⟨rfl,aiH _⟩,rfl,by simp,λk hk _=>Below.heap_alloc w _ k hk⟩
 have hf:=hs.fresh n (aiH _) (by omega);refine lD.new (v0:= .pointer (aa ⟨w.heap.size,0,ae⟩)) hs rfl rfl bS ⟨_,cs,rfl,heap_alloc_new w _,?_⟩ (λk hk=>?_) ⟨w.heap.size,by simp[aK.cN],rfl⟩
 .exact hh.keep ((aK.gw hf.2).trans (aK.qy (by simp[aK.bG,hf.1]))) (Step.alloc hs.lt _)
 .simp only[fp,Value.pointer.injEq,aiO,Addr.mk.injEq,and_true]at hk;subst hk;exact⟨λe=>by have:=hs.lt _ e;omega,by simp, .inl (aiH _)⟩
def tw(T:bj P)(n:Nat)(t:TypeId)(k:ed->Option R):Option R:=
 match find T.row t with
 |some r=>k {dst:= .ptr n [] 0,make:=[(n,(n, .box t r.BL))]}
 |none=>ae
def Iy(T:bj P){t:TypeId}{k:ed->Option R}{q:R}(h:tw T n t k=aa q)(hs:aL U H F w ob n):
 ∃e,k e=aa q/\cE P U H F w ρ ob n ⟨aa d, .alloc t,ty,pos,aft,ae⟩ e:=by
 unfold tw at h;split at h
 case h_2=>cases h
 rename_i r hr;obtain⟨ti,z,h1,h2,h3,_,_⟩:=T.row_ok _ _ hr;refine⟨_,h,ct.val (Ie h1 h2) ?_⟩;have:=Lk (t:=t) hs (Row.nA H F w r);rw[<-h3,ajo]at this;exact this
def Iz(n:Nat)(t:TypeId)(V:aF)(k:ed->Option R):Option R:=
 match V with
 | .val _ u=>k {dst:= .ptr n [] 0,make:=[(n,(n, .box t u))]}
 |_=>ae
def OJ{t:TypeId}{V:aF}{x:Operand}{k:ed->Option R}{q:R}(h:Iz n t V k=aa q)(hs:aL U H F w ob n)(hx:aE H F w V (ev ρ x)):
 ∃e,k e=aa q/\cE P U H F w ρ ob n ⟨aa d, .box t x,ty,pos,aft,ae⟩ e:=by
 unfold Iz at h;split at h
 case h_2=>cases h
 rename_i agg u;obtain⟨cs,qw,yA⟩:=aS.cells hx;refine⟨_,h,ct.val (Oy rfl) ?_⟩;have:=Lk (t:=t) hs qw;rw[<-yA,ajo]at this;exact this
end
end Go.Proofs.YtfeahmiobbjklaaGreatDoor
end
namespace Go.Proofs.YtfeahmiobbjklaaGreatDoor
open Go Go.RowKit
set_option maxRecDepth 100000
set_option linter.unusedSimpArgs false
set_option linter.unusedVariables false
set_option linter.defProp false
section
section
variable {P:Program} {ρ:Nat->Value} {w w':World} {H H':aK} {F F':Nat->Prop} {U:Nat->Prop} {ob:Nat->Option (Nat×Th)} {n:Nat} {R:Type}
variable {op:Op} {ty:TypeId} {pos:String} {aft:Array Edge} {d:Nat}
def qz{base:Nat}{T:TypeId}{r:Row}{v:Value}{l:List r.den}(h:mw base F w T r v l):v.oneCell'=af:=by
 obtain⟨A,cap,rfl,_⟩:=h.reads;rfl
def nB{H:aK}{o:Nat}{v:Value}(h:H.val o=aa v)(h1:v.oneCell'=af):aE H F w (.val ah (.own o)) v:=⟨[v],⟨v,h,h1,rfl⟩,rfl,λ_=>rfl⟩
def tx(hs:aL U H F w ob n){e:TypeId}{r:Row}{v:Value}{l:List r.den}{eat:List Nat}(bS:Ext (cx H ob eat) w w')(ho:mw 0 F w' e r v l)(hn:∀k,bU v k->cx H ob eat k\/w.heap.size<=k):
 mz H F w ob n {dst:= .val ah (.own n),eat:=eat,make:=[(n,(n, .own e r l))]} v w':=
 lD.new (v0:=v) hs rfl (qz ho) bS ho.2 (λk hk=>⟨ho.1 k hk,ho.lt k hk,(hn k hk).symm⟩) (nB (by simp[aK.cN]) (qz ho))
def oh{g:Nat->Prop}(o:Obj):Ext g w (w.alloc o):=⟨rfl,⟨rfl,aiH _⟩,rfl,by simp,λk hk _=>Below.heap_alloc w _ k hk⟩
def Xv{α:Type}(a b:Int)(z:α):Option (List α):=if 0<=a/\a<=b/\b<=4294967296 then aa (aiG a.toNat z)else ae
def pH:Operand->Operand->Bool
 | .tmp a, .tmp b=>aiJ a b
 | .const (.int _ a), .const (.int _ b)=>decide (a=b)
 |_,_=>ah
def yB{e t:TypeId}{r:Row}{a b:Int}(ht:P.underlying t=aa (.slice e))(yx:TI P e r)(hs:aL U H F w ob n){ka kb:IntKind}{x y:Operand}(hx:ev ρ x= .int ka a)(hy:ev ρ y= .int kb b)(h0:0<=a)(h1:a<=b)(h2:b<=4294967296):
 ∃v w',(execOp (ev ρ) ⟨aa d, .makeSlice t x y,ty,pos,aft,ae⟩).run P w= .ok (.value v) w'/\(∀g,Ext g w w')/\mw 0 F w' e r v (aiG a.toNat r.zero)/\∀k,bU v k->w.heap.size<=k:=by
 obtain⟨ti,z,hi,hz,UB,mh,T7⟩:=yx;obtain⟨ca,rfl⟩:=aiL h0;obtain⟨cb,rfl⟩:=aiL (Int.le_trans h0 h1)
 have hc:cb<=4294967296:=by omega
 have Bz:ti.bytes*cb<=281474976710656:=ai4 (Nat.mul_le_mul T7 hc) (by omega)
 have tj:(ti.bytes:Int)*(cb:Int)<=281474976710656:=by
  have h:((ti.bytes*cb:Nat):Int)<=281474976710656:=by omega
  rwa [Int.natCast_mul]at h
 have bD:=run_make (P:=P) w t e ti z ht hi hz ka kb ca cb (by omega) (by omega) tj (by omega)
 have hzl:z.cells=r.fi.toArray:=by rw[<-UB,ajo]
 have hzn:r.fi.length=r.size:=(cS.zero F w r).length;have pw:=r.size_pos;simp only[aiI]at bD;refine⟨.slice (aa ⟨w.heap.size,0,ae⟩) ca cb,w.alloc (.cells (madeCells z.cells (cb*ti.size)) e),by simp[execOp,hx,hy,bD],λ_=>oh _,⟨λq hq=>?_,(madeCells z.cells (cb*ti.size)).toList.take (ca*r.size),?_,?_⟩,λq hq=>?_⟩
 .simp only[bU,aiY,aiO]at hq;intro e;have:=hs.lt _ e;omega
 .have hle:ca*r.size<=cb*r.size:=aiS _ (by omega);have Yl:=size_madeCells z.cells (cb*ti.size);refine nr.of ⟨by grind, .inr ⟨w.heap.size,cb,madeCells z.cells (cb*ti.size),by simp,Nat.zero_le _,heap_alloc_new w _,by simp;omega,by simp[maxLen];omega,by rw[Yl,mh],by simp⟩⟩
 .intro i aH;simp only[aiI,List.length_replicate]at aH;have hle:(i+1)*r.size<=ca*r.size:=aiS _ aH
  grind [KZ,cS.zero,List.drop_take]
 .simp only[bU,aiY,aiO]at hq;omega
def BO{e t:TypeId}{r:Row}{a b:Int}(ht:P.underlying t=aa (.slice e))(yx:TI P e r)(hs:aL U H F w ob n){ka kb:IntKind}{x y:Operand}(hx:ev ρ x= .int ka a)(hy:ev ρ y= .int kb b)(h0:0<=a)(h1:a<=b)(h2:b<=4294967296):
 cE P U H F w ρ ob n ⟨aa d, .makeSlice t x y,ty,pos,aft,ae⟩ {dst:= .val ah (.own n),make:=[(n,(n, .own e r (aiG a.toNat r.zero)))]}:=by
 obtain⟨v,w',bD,bS,eK,xT⟩:=yB (d:=d) (ty:=ty) (pos:=pos) (aft:=aft) ht yx hs hx hy h0 h1 h2;exact ct.val bD (tx hs (bS _) eK λq hq=> .inr (xT q hq))
def v8(T:bj P)(n:Nat)(t:TypeId)(same:Bool)(a b:Int)(k:ed->Option R):Option R:=
 match find T.und t with
 |some (.slice e)=>match find T.row e with
  |some r=>(bif same then nu a r.zero else Xv a b r.zero).bind λl=>k {dst:= .val ah (.own n),make:=[(n,(n, .own e r l))]}
  |none=>ae
 |_=>ae
def yC{x y:Operand}(h:pH x y=af){a b:Int}{ka kb:IntKind}(hx:ev ρ x= .int ka a)(hy:ev ρ y= .int kb b):a=b:=by
 unfold pH at h
 grind [beq_true,ev]
def BP(T:bj P){t:TypeId}{a b:Int}{ka kb:IntKind}{x y:Operand}{k:ed->Option R}{q:R}(h:v8 T n t (pH x y) a b k=aa q)(hs:aL U H F w ob n)(hx:ev ρ x= .int ka a)(hy:ev ρ y= .int kb b):
 ∃e,k e=aa q/\cE P U H F w ρ ob n ⟨aa d, .makeSlice t x y,ty,pos,aft,ae⟩ e:=by
 unfold v8 at h;split at h
 case h_2=>cases h
 rename_i e hu;split at h
 case h_2=>cases h
 rename_i r hr;obtain⟨l,hl,hk⟩:=bind_some h;have yx:=T.row_ok _ _ hr;have ht:=T.und_ok _ _ hu
 cases fO:pH x y with
 |true=>
  rw[fO,cond_true]at hl;unfold nu at hl;split at hl
  case isFalse=>cases hl
  rename_i hc;obtain rfl:=aiC hl;obtain rfl:=yC fO hx hy;exact⟨_,hk,BO ht yx hs hx hy hc.1 (ajz _) hc.2⟩
 |false=>
  rw[fO,cond_false]at hl;unfold Xv at hl;split at hl
  case isFalse=>cases hl
  rename_i hc;obtain rfl:=aiC hl;exact⟨_,hk,BO ht yx hs hx hy hc.1 hc.2.1 hc.2.2⟩
def Ym(ob:Nat->Option (Nat×Th))(r:Row)(D:aF):Option (List r.den):=
 match vc ob D with
 |some (.read s l)=>if h:s.beq r=af then aa (jH (r:= .slice s) (s:= .slice r) (aw Row.slice (Row.eq_of_beq h)) l)else ae
 |some (.own _ _ _ s l)=>if h:s.beq r=af then aa (jH (r:= .slice s) (s:= .slice r) (aw Row.slice (Row.eq_of_beq h)) l)else ae
 |some .nil=>aa []
 |some (.view ..)=>ae
 |some (.deep ..)=>ae
 |none=>ae
def RC(hs:aL U H F w ob n){r:Row}{D:aF}{l:List r.den}{v:Value}(h:Ym ob r D=aa l)(hd:aE H F w D v):Reads F w r v l:=by
 unfold Ym at h;split at h
 .rename_i s m gW;split at h
  case isFalse=>cases h
  rename_i hb;obtain rfl:=Row.eq_of_beq hb;obtain rfl:=aiC h;exact cS.reads (jr hs gW hd)
 .rename_i o s0 T s m gW;split at h
  case isFalse=>cases h
  rename_i hb;obtain rfl:=Row.eq_of_beq hb;obtain rfl:=aiC h;exact(jr hs gW hd).2.2.reads
 .rename_i gW;obtain rfl:=aiC h;have:v=_:=jr hs gW hd;subst this;exact(cS.nil F w r).reads
 all_goals grind
def uA:Lh->Int
 | .read _ l=>(l.length:Int)
 | .own _ _ _ _ l=>(l.length:Int)
 | .nil=>0
 | .view _ _ _ l=>(l.length:Int)
 | .deep _ _ _ _ l _=>(l.length:Int)
def Ll{v:Value}{k:Lh}(h:OG U H F w ob v k):∃A m cap,v= .slice A m cap/\uA k=(m:Int):=by
 cases k with
 |read r l=>
  obtain⟨A,cap,e,_⟩:=cS.Er h;exact⟨A,_,cap,e,rfl⟩
 |own o s T r l=>
  obtain⟨A,cap,e,_⟩:=h.2.2.reads;exact⟨A,_,cap,e,rfl⟩
 |nil=>exact⟨ae,0,0,h,rfl⟩
 |view o s r m=>
  obtain⟨A,cap,T,l,a,b,_,_,h3,h4,rfl,rfl⟩:=h;refine⟨_,_,_,rfl,?_⟩
  grind [uA]
 |deep o s T d l hh=>
  obtain⟨lh,_,⟨xs,Gz,_⟩,RA,_⟩:=h.2.2.ok
  rcases Gz.2 with⟨Li,h0⟩|⟨g,o0,cap,cur,Iu,_,_,_⟩
  all_goals grind [uA]
def IA(T:bj P)(ob:Nat->Option (Nat×Th))(t:TypeId)(D:aF):Option aF:=
 match find T.und t with
 |some (.slice _)=>match vc ob D with
  |some k=>aa (mR .i64 (uA k))
  |none=>ae
 |some .str=>match BH D with
  |some s=>aa (mR .i64 (s.size:Int))
  |none=>ae
 |_=>ae
def GF(T:bj P){t:TypeId}{D D':aF}{x:Operand}(h:IA T ob t D=aa D')(hs:aL U H F w ob n)(hx:aE H F w D (ev ρ x)):
 cE P U H F w ρ ob n ⟨aa d, .call {callee:= .builtin .len,args:= #[x],argTypes:= #[t]},ty,pos,aft,ae⟩ {dst:=D'}:=by
 unfold IA at h;split at h
 .rename_i e hu;split at h
  case h_2=>cases h
  rename_i k hk;obtain rfl:=aiC h;obtain⟨A,m,cap,e1,e2⟩:=Ll (jr hs hk hx);rw[e2];exact aZ hs (KX rfl (T.und_ok _ _ hu) e1) (aS.ku ..)
 .rename_i hu;split at h
  case h_2=>cases h
  rename_i s hk;obtain rfl:=aiC h;exact aZ hs (HV (T.und_ok _ _ hu) (vX hk hx)) (aS.ku ..)
 .cases h
def qA(T:bj P)(ob:Nat->Option (Nat×Th))(n:Nat)(t:TypeId)(X Y:aF)(k:ed->Option R):Option R:=
 match find T.und t with
 |some (.slice e)=>match find T.row e with
  |some r=>match Ym ob r Y with
   |some m=>match vc ob X with
    |some .nil=>(cz ([]:List r.den) m).bind λl=>k {dst:= .val ah (.own n),make:=[(n,(n, .own e r l))]}
    |some (.own o _ T0 s l0)=>bif aiJ T0 e then
      (if h:s.beq r=af then(cz (jH (r:= .slice s) (s:= .slice r) (aw Row.slice (Row.eq_of_beq h)) l0) m).bind λl=>k {dst:= .val ah (.own n),eat:=[o],make:=[(n,(n, .own e r l))]}else ae)else ae
    |_=>ae
   |none=>ae
  |none=>ae
 |_=>ae
def EJ(T:bj P){t:TypeId}{X Y:aF}{x y:Operand}{k:ed->Option R}{q:R}(h:qA T ob n t X Y k=aa q)(hs:aL U H F w ob n)(hx:aE H F w X (ev ρ x))(hy:aE H F w Y (ev ρ y)):
 ∃e,k e=aa q/\cE P U H F w ρ ob n ⟨aa d, .call {callee:= .builtin .append,args:= #[x,y],argTypes:= #[t,t]},ty,pos,aft,ae⟩ e:=by
 unfold qA at h;split at h
 case h_2=>cases h
 rename_i e hu;split at h
 case h_2=>cases h
 rename_i r hr;obtain⟨ti,z,h1,h2,h3,h4,h5⟩:=T.row_ok _ _ hr;have ht:=T.und_ok _ _ hu;split at h
 case h_2=>cases h
 rename_i m hm;have gJ:=RC hs hm hy
 have key:∀{l out:List r.den},mw 0 F w e r (ev ρ x) l->cz l m=aa out->∃v' w',(execOp (ev ρ) ⟨aa d, .call {callee:= .builtin .append,args:= #[x,y],argTypes:= #[t,t]},ty,pos,aft,ae⟩).run P w= .ok (.value v') w'/\Ext (bU (ev ρ x)) w w'/\mw 0 F w' e r v' out/\(∀k,bU v' k->bU (ev ρ x) k\/w.heap.size<=k):=by
  intro l out ho ha;obtain⟨v',w',bD,he,mf,Rz⟩:=vR ty ht h1 h2 h3 h4 h5 ho gJ ha hs.lt (Nat.zero_le _);refine⟨v',w',by simp[execOp,resolve,invoke,builtin,bD],he,mf,λk hk=>?_⟩
  rcases Rz with g|g
  .exact .inl (g▸hk)
  .simp_all
 split at h
 .rename_i gW;obtain⟨l,hl,hk⟩:=bind_some h;have hv:ev ρ x=_:=jr hs gW hx;obtain⟨v',w',bD,he,mf,hn⟩:=key (by rw[hv];exact mw.nil 0 F w e r) hl
  have no:∀k,¬bU (ev ρ x) k:=λk hk=>by rw[hv]at hk;simp[bU,aiY]at hk
  exact⟨_,hk,ct.val bD (tx hs ⟨he.os,he.tape,he.output,he.size,λk hk _=>he.block k hk (no k)⟩ mf (by grind))⟩
 .rename_i o s0 T0 s l0 gW;obtain⟨hb,h⟩:=aV h;obtain rfl:=beq_true hb;split at h
  case isFalse=>cases h
  rename_i BN;obtain rfl:=Row.eq_of_beq BN;obtain⟨l,hl,hk⟩:=bind_some h;obtain⟨hv,cM,eK⟩:=jr hs gW hx;obtain⟨v',w',bD,he,mf,hn⟩:=key eK hl
  have ke:∀k,bU (ev ρ x) k->cx H ob [o] k:=λk hk=>⟨o,by simp,_,_,_,cM,hv,hk⟩
  exact⟨_,hk,ct.val bD (tx hs ⟨he.os,he.tape,he.output,he.size,λk hk Et=>he.block k hk λhm=>Et (ke k hm)⟩ mf λk hk=>(hn k hk).imp (ke k) id)⟩
 .cases h
def BQ(ob:Nat->Option (Nat×Th))(r:Row):List aF->Option (List r.den)
 |[]=>aa []
 | .val _ u::l=>match flat ob r u with
   |some x=>match BQ ob r l with
    |some xs=>aa (x::xs)
    |none=>ae
   |none=>ae
 |_::_=>ae
def su(rd:Operand->Option aF):List Operand->Option (List aF)
 |[]=>aa []
 |x::xs=>match rd x with
  |some d=>match su rd xs with
   |some ds=>aa (d::ds)
   |none=>ae
  |none=>ae
def fP(H:aK)(F:Nat->Prop)(w:World):List aF->List Value->Prop
 |[],vs=>vs=[]
 |d::ds,vs=>∃v us,vs=v::us/\aE H F w d v/\fP H F w ds us
def oi{rd:Operand->Option aF}(h:∀x d,rd x=aa d->aE H F w d (ev ρ x)):{xs:List Operand}->{ds:List aF}->su rd xs=aa ds->fP H F w ds (xs.map (ev ρ))
 |[],ds,e=>by obtain rfl:=aiC e;rfl
 |x::xs,ds,e=>by
  unfold su at e
  cases h1:rd x with
  |none=>grind
  |some d=>
   cases h2:su rd xs with
   |none=>grind
   |some Yn=>
    simp only[h1,h2,aiO]at e;subst e;exact⟨_,_,rfl,h _ _ h1,oi h h2⟩
def BR(hs:aL U H F w ob n){r:Row}:{ds:List aF}->{l:List r.den}->{vs:List Value}->BQ ob r ds=aa l->fP H F w ds vs->vS F w r vs l
 |[],l,vs,e,h=>by
  obtain rfl:=aiC e;rw[show vs=[]from h];exact .nil
 | .val _ u::ds,l,vs,e,h=>by
   obtain⟨v,us,rfl,h1,h2⟩:=h;unfold BQ at e
   cases hf:flat ob r u with
   |none=>grind
   |some x=>
    cases hg:BQ ob r ds with
    |none=>grind
    |some xs=>
     simp only[hf,hg,aiO]at e;subst e;obtain⟨cs,qw,yA⟩:=aS.cells h1;exact .cons yA (gO hs hf qw) (BR hs hg h2)
 | .dead::_,_,_,e,_=>by cases e
 | .undef::_,_,_,e,_=>by cases e
 | .ptr .. ::_,_,_,e,_=>by cases e
 | .at .. ::_,_,_,e,_=>by cases e
 | .elem .. ::_,_,_,e,_=>by cases e
 | .tup _::_,_,_,e,_=>by cases e
 | .dlm .. ::_,_,_,e,_=>by cases e
def wa{e t:TypeId}{r:Row}{xs:List Operand}{l:List r.den}{parts:Array (Nat×Operand)}(ht:P.underlying t=aa (.slice e))(yx:TI P e r)(dS:parts=((xs.zipIdx).map λp=>(p.2,p.1)).toArray)(fO:xs.length*r.size<=16777216)
 (hl:vS F w r (xs.map (ev ρ)) l)(hs:aL U H F w ob n):
 ∃v w',(execOp (ev ρ) ⟨aa d, .buildSlice t xs.length parts,ty,pos,aft,ae⟩).run P w= .ok (.value v) w'/\(∀g,Ext g w w')/\mw 0 F w' e r v l/\∀k,bU v k->w.heap.size<=k:=by
 obtain⟨ti,z,h1,h2,h3,h4,h5⟩:=yx
 have Yo:(xs.map (ev ρ)).length=xs.length:=by simp
 have RA:=hl.length;have pw:=r.size_pos
 have UA:z.cells.size=r.size:=by rw[<-(cS.zero F w r).length,<-h3];simp
 have sv:(parts.map λ(i,q)=>(i,ev ρ q)).toList=((xs.map (ev ρ)).zipIdx).map λp=>(p.2,p.1):=by
  subst dS;simp[List.zipIdx_map,Function.comp_def]
 generalize hm:xs.length=m at*;generalize xs.map (ev ρ)=vs at*
 have key:∀zz:Array Value,zz.size=m*r.size->∃Eh:List Value,Instr.fill (λi=>aa (i*r.size,r.size)) zz ((vs.zipIdx).map λp=>(p.2,p.1))=aa Eh.toArray/\Eh.length=l.length*r.size/\∀i(hi:i<l.length),cS F w r ((Eh.drop (i*r.size)).take r.size) l[i]:=by
  intro zz UJ;obtain⟨Eh,a1,a2,a3⟩:=hl.fill 0 [] zz.toList (by simp) (by rw[Array.length_toList,UJ,Yo]);exact⟨Eh,by simpa using a1,a2,a3⟩
 have bD:∃Eh:List Value,(execOp (ev ρ) ⟨aa d, .buildSlice t m parts,ty,pos,aft,ae⟩).run P w= .ok (.value (.slice (aa ⟨w.heap.size,0,ae⟩) m m)) (w.alloc (.cells Eh.toArray e))/\Eh.length=l.length*r.size/\∀i(hi:i<l.length),cS F w r ((Eh.drop (i*r.size)).take r.size) l[i]:=by
  by_cases h0:m*r.size=0
  .obtain⟨Eh,a1,a2,a3⟩:=key #[] (by simp[h0]);refine⟨Eh,?_,a2,a3⟩;simp only[execOp,Instr.buildSlice,ai0,run_underlying ht,ajv];rw[sv]
   have Yp:Array.range 0=(#[]:Array Nat):=by rfl
   simp[sizeOf,typeInfo,h1,h4,h0,newRow,Yp,a1]
  .obtain⟨Eh,a1,a2,a3⟩:=key ((Array.range (m*r.size)).map (z.cells[· %z.cells.size]!)) (by simp);refine⟨Eh,?_,a2,a3⟩;simp only[execOp,Instr.buildSlice,ai0,run_underlying ht,ajv];rw[sv];simp[sizeOf,typeInfo,h1,h4,h0,zeroValue,h2,newRow,a1,show¬(16777216<m*r.size)from by omega]
 obtain⟨Eh,bD,a2,a3⟩:=bD
 have Og:m=l.length:=by omega
 have adC:m<=16777216:=ai4 (Nat.le_mul_of_pos_right m pw) fO;refine⟨_,_,bD,λg=>oh _,⟨λk hk=>?_,Eh,?_,λi hi=>(a3 i hi).step (Step.alloc hs.lt _)⟩,λk hk=>?_⟩
 .simp only[bU,aiY,aiO]at hk;intro e;have:=hs.lt _ e;omega
 .have:=World.ownsRow_lit (base:=0) (e:=e) (size:=r.size) w Eh.toArray m (Nat.zero_le _) (by simp[maxLen];omega) (by simp[a2,Og]);rw[Og]at this⊢;simpa using nr.of this
 .simp only[bU,aiY,aiO]at hk;omega
def run_build{e t:TypeId}{r:Row}{xs:List Operand}{l:List r.den}{parts:Array (Nat×Operand)}(ht:P.underlying t=aa (.slice e))(yx:TI P e r)(dS:parts=((xs.zipIdx).map λp=>(p.2,p.1)).toArray)(fO:xs.length*r.size<=16777216)
 (hl:vS F w r (xs.map (ev ρ)) l)(hs:aL U H F w ob n):
 cE P U H F w ρ ob n ⟨aa d, .buildSlice t xs.length parts,ty,pos,aft,ae⟩ {dst:= .val ah (.own n),make:=[(n,(n, .own e r l))]}:=by
 obtain⟨v,w',h1,h2,h3,h4⟩:=wa (d:=d) (ty:=ty) (pos:=pos) (aft:=aft) ht yx dS fO hl hs;exact ct.val h1 (tx hs (h2 _) h3 λk hk=> .inr (h4 k hk))
def GG:Nat->List (Nat×Operand)->Bool
 |_,[]=>af
 |k,p::l=>aiJ p.1 k&&GG (k+1) l
def wb:{k:Nat}->{l:List (Nat×Operand)}->GG k l=af->l=((l.map (·.2)).zipIdx k).map λp=>(p.2,p.1)
 |_,[],_=>rfl
 |k,p::l,h=>by
  obtain⟨h1,h2⟩:=cI h;have h1:=beq_true h1;have ih:=wb h2
  grind [List.zipIdx_cons]
def kz(T:bj P)(rd:Operand->Option aF)(ob:Nat->Option (Nat×Th))(n:Nat)(t:TypeId)(m:Nat)(parts:Array (Nat×Operand))(k:ed->Option R):Option R:=
 match find T.und t with
 |some (.slice e)=>match find T.row e with
  |some r=>bif GG 0 parts.toList&&aiJ m parts.toList.length&&Nat.ble (m*r.size) 16777216 then
    (match su rd (parts.toList.map (·.2))with
    |some ds=>match BQ ob r ds with
     |some l=>k {dst:= .val ah (.own n),make:=[(n,(n, .own e r l))]}
     |none=>ae
    |none=>ae)else ae
  |none=>ae
 |_=>ae
def wc(T:bj P){rd:Operand->Option aF}(gJ:∀x d,rd x=aa d->aE H F w d (ev ρ x)){t:TypeId}{m:Nat}{parts:Array (Nat×Operand)}{k:ed->Option R}{q:R}(h:kz T rd ob n t m parts k=aa q)(hs:aL U H F w ob n):
 ∃e,k e=aa q/\cE P U H F w ρ ob n ⟨aa d, .buildSlice t m parts,ty,pos,aft,ae⟩ e:=by
 unfold kz at h;split at h
 case h_2=>cases h
 rename_i e hu;split at h
 case h_2=>cases h
 rename_i r hr;obtain⟨h1,h⟩:=aV h;obtain⟨h1,h3⟩:=cI h1;obtain⟨h1,h2⟩:=cI h1;have h2:=beq_true h2
 have h3:m*r.size<=16777216:=by simpa using h3
 split at h
 case h_2=>cases h
 rename_i ds xU;split at h
 case h_2=>cases h
 rename_i l hl;have UK:=BR hs hl (oi gJ xU)
 have hp:parts=(((parts.toList.map (·.2)).zipIdx).map λp=>(p.2,p.1)).toArray:=by
  rw[<-wb h1,ajo]
 have hm:m=(parts.toList.map (·.2)).length:=by simpa using h2
 refine⟨_,h,?_⟩;have:=run_build (d:=d) (ty:=ty) (pos:=pos) (aft:=aft) (T.und_ok _ _ hu) (T.row_ok _ _ hr) hp (by grind) UK hs
 grind
def GH{P:Program}(T:bj P)(fs:List (TypeId×Nat)):Tree->List (Nat×aF)->Option Tree
 |t,[]=>aa t
 |t,(f, .val _ u)::l=>match t.get (sq fs.length f)with
  |some (s,off)=>match fs[f]? with
   |some (ft,ef)=>bif aiJ off ef&&aiJ u.size s.size&&(match find T.row ft with|some r=>aiJ r.size u.size|none=>ah)then
     (match t.put (sq fs.length f) u with
     |some t'=>GH T fs t' l
     |none=>ae)else ae
   |none=>ae
  |none=>ae
 |_,_::_=>ae
def vy(T:bj P):List (TypeId×Nat)->Bool
 |[]=>af
 |p::fs=>(match find T.row p.1 with|some _=>af|none=>ah)&&vy T fs
def place(T:bj P)(fs:List (TypeId×Nat))(i:Nat):Option (Nat×Nat):=
 match fs[i]? with
 |some (ft,off)=>match find T.row ft with
  |some r=>aa (off,r.size)
  |none=>ae
 |none=>ae
def we(T:bj P):{l:List Field}->{fs:List (TypeId×Nat)}->l.map (λf=>(f.type,f.offset))=fs->vy T fs=af->
 ∃pl:List (Nat×Nat),(l.mapM λ(f:Field)=>(do pure (f.offset,<-sizeOf f.type):Sem (Nat×Nat))).run P w= .ok pl w/\∀i,pl[i]? =place T fs i
 |[],fs,h,_=>by
  subst h;exact⟨[],by simp,λi=>by simp[place]⟩
 |f::l,fs,h,hz=>by
  subst h;obtain⟨h1,h2⟩:=cI hz;obtain⟨pl,Xw,OK⟩:=we T (l:=l) rfl h2
  cases hr:find T.row f.type with
  |none=>grind
  |some r=>
   obtain⟨ti,z,g1,_,_,g4,_⟩:=T.row_ok _ _ hr;refine⟨(f.offset,r.size)::pl,?_,λi=>?_⟩
   .have EI:(sizeOf f.type).run P w= .ok r.size w:=by simp[sizeOf,typeInfo,g1,g4]
    simp_all
   grind [place]
end
end
section
section
variable {P:Program} {ρ:Nat->Value} {w w':World} {H H':aK} {F F':Nat->Prop} {U:Nat->Prop} {ob:Nat->Option (Nat×Th)} {n:Nat} {R:Type}
variable {op:Op} {ty:TypeId} {pos:String} {aft:Array Edge} {d:Nat}
def BS(T:bj P){fs:List (TypeId×Nat)}{pl:List (Nat×Nat)}(hz:vy T fs=af)(vd:∀i,pl[i]? =place T fs i)(mh:∀ft off r,(ft,off)∈fs->find T.row ft=aa r->True):
 {parts:List (Nat×aF)}->{t t':Tree}->{cs:List Value}->{vs:List (Nat×Value)}->GH T fs t parts=aa t'->Holds H F w t cs->parts.map (·.1)=vs.map (·.1)->fP H F w (parts.map (·.2)) (vs.map (·.2))->
 ∃u0,Instr.fill (pl[·]?) cs.toArray vs=aa u0.toArray/\Holds H F w t' u0
 |[],t,t',cs,vs,h,hh,h1,h2=>by
  obtain rfl:=aiC h
  have:vs=[]:=by simpa using h1.symm
  subst this;exact⟨cs,by simp[Instr.fill],hh⟩
 |(f, .val agg u)::parts,t,t',cs,vs,h,hh,h1,h2=>by
  obtain⟨v,us,e,hv,h3⟩:=h2
  cases vs with
  |nil=>simp at e
  |cons fv vs=>
   obtain⟨f',v'⟩:=fv;simp only[List.map_cons,ajt]at h1 e;obtain⟨rfl,h1⟩:=h1;obtain⟨rfl,rfl⟩:=e;unfold GH at h;split at h
   case h_2=>cases h
   rename_i s off hg;split at h
   case h_2=>cases h
   rename_i ft ef hf;obtain⟨hb,h'⟩:=aV h;clear h;obtain⟨hb,Yq⟩:=cI hb;obtain⟨Kw,RD⟩:=cI hb;have Kw:=beq_true Kw;subst Kw;have RD:=beq_true RD;split at h'
   case h_2=>cases h'
   rename_i tp hp;obtain⟨c1,yu,yA⟩:=aS.cells hv;have hl:=yu.length;have hle:=(hh.get hg).2
   cases hr:find T.row ft with
   |none=>grind
   |some r=>
    simp only[hr]at Yq;have Yq:=beq_true Yq
    have RE:pl[f]? =aa (off,r.size):=by rw[vd];simp[place,hf,hr]
    rw[yr RE yA (by omega) (by omega)];have tn:=Holds.put yu hg hp RD.symm hh;rw[show u.size=r.size from by omega]at tn;exact BS T hz vd mh h' tn h1 h3
 |(_, .dead)::_,_,_,_,_,h,_,_,_=>by cases h
 |(_, .undef)::_,_,_,_,_,h,_,_,_=>by cases h
 |(_, .ptr ..)::_,_,_,_,_,h,_,_,_=>by cases h
 |(_, .at ..)::_,_,_,_,_,h,_,_,_=>by cases h
 |(_, .elem ..)::_,_,_,_,_,h,_,_,_=>by cases h
 |(_, .tup _)::_,_,_,_,_,h,_,_,_=>by cases h
 |(_, .dlm ..)::_,_,_,_,_,h,_,_,_=>by cases h
def tA(T:bj P)(rd:Operand->Option aF)(t:TypeId)(parts:Array (Nat×Operand))(k:ed->Option R):Option R:=
 match find T.und t with
 |some (.struct fs)=>match find T.row t with
  |some r=>bif vy T fs then
    (match su rd (parts.toList.map (·.2))with
    |some ds=>match GH T fs r.BL ((parts.toList.map (·.1)).zip ds)with
     |some tr=>k {dst:= .val af tr}
     |none=>ae
    |none=>ae)else ae
  |none=>ae
 |_=>ae
def kM:{ds:List aF}->{vs:List Value}->fP H F w ds vs->ds.length=vs.length
 |[],_,h=>by rw[show _=[]from h];rfl
 |_::_,_,h=>by obtain⟨v,us,rfl,_,h2⟩:=h;simp[kM h2]
def IB(T:bj P){rd:Operand->Option aF}(gJ:∀x d,rd x=aa d->aE H F w d (ev ρ x)){t:TypeId}{parts:Array (Nat×Operand)}{k:ed->Option R}{q:R}(h:tA T rd t parts k=aa q)(hs:aL U H F w ob n):
 ∃e,k e=aa q/\cE P U H F w ρ ob n ⟨aa d, .build t parts,ty,pos,aft,ae⟩ e:=by
 unfold tA at h;split at h
 case h_2=>cases h
 rename_i fs hu;obtain⟨arr,Ku,OF⟩:=T.und_ok _ _ hu;split at h
 case h_2=>cases h
 rename_i r hr;obtain⟨ti,z,h1,h2,h3,h4,h5⟩:=T.row_ok _ _ hr;obtain⟨hz,h⟩:=aV h;split at h
 case h_2=>cases h
 rename_i ds xU;split at h
 case h_2=>cases h
 rename_i tr UL;have hd:=oi (w:=w) (H:=H) (F:=F) (ρ:=ρ) gJ xU;have hlen:=kM hd;obtain⟨pl,Xw,OK⟩:=we (w:=w) T OF hz
 have hn:∀(a:List Nat)(b:List aF),a.length=b.length->(a.zip b).map (·.1)=a/\(a.zip b).map (·.2)=b:=λa b yD=>⟨List.map_fst_zip (by omega),List.map_snd_zip (by omega)⟩
 have Yr:=hn (parts.toList.map (·.1)) ds (by simp at hlen⊢;omega);obtain⟨u0,hf,hh⟩:=BS (w:=w) (H:=H) (F:=F) T hz OK (λ_ _ _ _ _=>trivial) (vs:=parts.toList.map λ(i,q)=>(i,ev ρ q)) UL (Row.nA H F w r) (by rw[Yr.1];simp[Function.comp_def]) (by grind [Function.comp_def]);refine⟨_,h,bP hs (v:= .agg u0.toArray) ?_ ⟨u0,hh,rfl,by simp⟩⟩
 have hzc:z.cells=r.fi.toArray:=by rw[<-h3,ajo]
 have IC:(arr.mapM λ(f:Field)=>(do pure (f.offset,<-sizeOf f.type):Sem (Nat×Nat))).run P w= .ok pl.toArray w:=by
  rw[<-ajo (xs:=arr),List.mapM_toArray];simp only[Sem.run_map,Xw];rfl
 have hpp:(parts.map λ(i,q)=>(i,ev ρ q)).toList=parts.toList.map λ(i,q)=>(i,ev ρ q):=by simp
 have Ys:(λ(x:Nat)=>pl.toArray[x]?)=λx=>pl[x]? :=by funext x;simp
 simp only[execOp,Instr.build,ai0,zeroValue,typeInfo,h1,h2,run_program,Sem.run_pure,ajv,run_underlying Ku,hzc,hpp,IC,Ys,hf]
def OL(rd:Operand->Option aF):Option Operand->Option (Option Int)
 |none=>aa ae
 |some x=>match rd x with
  |some d=>match asInt d with
   |some (_,i)=>aa (aa i)
   |none=>ae
  |none=>ae
def GI{rd:Operand->Option aF}(gJ:∀x d,rd x=aa d->aE H F w d (ev ρ x)){lo:Option Operand}{a:Option Int}(h:OL rd lo=aa a):RB ρ lo a:=by
 unfold OL at h;split at h
 .obtain rfl:=aiC h;exact .none
 .split at h
  .split at h
   .obtain rfl:=aiC h;rename_i hD _ _ _ hi;exact .some (iT hi (gJ _ _ hD))
   .cases h
  .cases h
def tB(dr:Bool)(T:bj P)(rd:Operand->Option aF)(ob:Nat->Option (Nat×Th))(n:Nat)(t:TypeId)(D:aF)(lo hi:Option Operand)(k:ed->Option R):Option R:=
 match find T.und t with
 |some (.slice e)=>match find T.row e with
  |some re=>match OL rd lo with
   |some a=>match OL rd hi with
    |some b=>match vc ob D with
     |some (.read r l)=>bif aiJ r.size re.size then(gI l (a.getD 0) (b.getD (l.length:Int))).bind λm=>k {dst:= .val ah (.leaf (.slice r) m)}else ae
     |some .nil=>(gI ([]:List re.den) (a.getD 0) (b.getD 0)).bind λ_=>k {dst:= .val ah .nil}
     |some (.own o s T0 r l)=>bif aiJ r.size re.size&&aiJ T0 e&&(lo.isNone||dr)then(gI l (a.getD 0) (b.getD (l.length:Int))).bind λm=>k {dst:= .val ah (.own n),eat:=[o],make:=[(n,(n, .own T0 r m))]}
       else bif aiJ r.size re.size then(gI l (a.getD 0) (b.getD (l.length:Int))).bind λm=>k {dst:= .val ah (.view o s r m)}else ae
     |_=>ae
    |none=>ae
   |none=>ae
  |none=>ae
 |_=>ae
def ID{e T0:TypeId}{ti:TypeInfo}{r:Row}{t:TypeId}{x:Operand}{lo hi:Option Operand}{a b:Option Int}{l m:List r.den}{o s:Nat}{v:Value}(ht:P.underlying t=aa (.slice e))(h1:P.info? e=aa ti)(h4:ti.size=r.size)(hx:ev ρ x=v)
 (hs:aL U H F w ob n)(cM:ob o=aa (s, .own T0 r l))(RF:H.val o=aa v)(ha:RB ρ lo a)(hb:RB ρ hi b)(hm:gI l (a.getD 0) (b.getD l.length)=aa m):
 cE P U H F w ρ ob n ⟨aa d, .slice t x lo hi ae,ty,pos,aft,ae⟩ {dst:= .val ah (.own n),eat:=[o],make:=[(n,(n, .own T0 r m))]}:=by
 have hv:=hs.own cM RF;obtain⟨p,q,ep,eq,Ub,hq,rfl⟩:=tl hm;obtain⟨A,cap,rfl,hlen,Ru,_⟩:=hv.reads;have bD:=vv (P:=P) (w:=w) (d:=d) (ty:=ty) (pos:=pos) (aft:=aft) ht h1 hx ha hb (by omega) (by omega) (by omega) hlen;rw[ep,eq,aiI,aiI,h4]at bD;obtain⟨Et,xs,⟨If,Yt⟩,hr⟩:=hv
 have Yu:((l.take q).drop p).length=q-p:=by simp;omega
 have hmul:q*r.size<=l.length*r.size:=aiS _ hq;have ab6:p*r.size<=q*r.size:=aiS _ Ub;have ab7:(q-p)*r.size=q*r.size-p*r.size:=Nat.sub_mul ..
 have bS:Ext (cx H ob [o]) w w:=⟨rfl,⟨rfl,aiH _⟩,rfl,aiH _,λ_ _ _=>rfl⟩
 rcases Yt with⟨Li,h0⟩|⟨g,o0,K0,cur,gW,tj,hh,hn1,hn2,qw,OM⟩
 .simp only[ajS]at Li;obtain⟨rfl,_,rfl⟩:=Li
  have UM:q=0:=by omega
  subst UM
  obtain rfl:p=0:=by omega
  refine ct.val bD (tx hs bS ?_ ?_)
  .simpa[sliced]using mw.nil 0 F w T0 r
  .intro k hk;simp[sliced,bU,aiY]at hk
 .simp only[ajS,true_and]at gW;obtain⟨rfl,rfl⟩:=gW
  obtain⟨o1,px,ho1,Lm⟩:∃o1,sliced (aa ⟨g,o0,ae⟩) p q cap r.size= .slice (aa ⟨g,o1,ae⟩) (q-p) (cap-p)/\o1+(cap-p)*r.size<=cur.size/\(cur.toList.drop o1).take ((q-p)*r.size)=(xs.drop (p*r.size)).take ((q-p)*r.size):=by
   have hcp:p*r.size<=cap*r.size:=aiS _ (by omega);have adF:(cap-p)*r.size=cap*r.size-p*r.size:=Nat.sub_mul ..;unfold sliced;by_cases hc:cap=p
   .refine⟨o0,by rw[al hc],by omega,?_⟩
    have:q=p:=by omega
    subst this;simp
   .refine⟨o0+p*r.size,by rw[aj hc,Option.map_some,di],by omega,?_⟩;rw[<-OM,List.drop_take,List.take_take,List.drop_drop]
    congr 1
    omega
  rw[px]at bD
  have hmy:∀k,bU (.slice (aa ⟨g,o1,ae⟩) (q-p) (cap-p)) k->bU (.slice (aa ⟨g,o0,ae⟩) l.length cap) k:=λk hk=>by simpa[bU,aiY]using hk
  refine ct.val bD (tx hs bS ⟨λk hk=>Et k (hmy k hk),(xs.drop (p*r.size)).take ((q-p)*r.size),⟨by rw[Yu];simp;omega, .inr ⟨g,o1,cap-p,cur,by rw[Yu],tj,hh,by omega,by omega,ho1,?_⟩⟩,λi hi=>?_⟩ λk hk=> .inl ⟨o,by simp,_,_,_,cM,RF,hmy k hk⟩)
  .rw[Yu];exact Lm
  .have hi2:i<q-p:=by omega
   have hle:(i+1)*r.size<=(q-p)*r.size:=aiS _ hi2;rw[ajF]at hle;have:=hr (p+i) (by omega)
   have hg:((l.take q).drop p)[i]=l[p+i]'(by omega):=by simp
   rw[hg,List.drop_take,List.take_take,ajD (by omega),List.drop_drop,show p*r.size+i*r.size=(p+i)*r.size from(ajF ..).symm];exact this
def IE(dr:Bool)(T:bj P){rd:Operand->Option aF}(gJ:∀x d,rd x=aa d->aE H F w d (ev ρ x)){t:TypeId}{D:aF}{x:Operand}{lo hi:Option Operand}{k:ed->Option R}{q:R}(h:tB dr T rd ob n t D lo hi k=aa q)(hs:aL U H F w ob n)(hx:aE H F w D (ev ρ x)):
 ∃e,k e=aa q/\cE P U H F w ρ ob n ⟨aa d, .slice t x lo hi ae,ty,pos,aft,ae⟩ e:=by
 unfold tB at h;split at h
 case h_2=>cases h
 rename_i e hu;have ht:=T.und_ok _ _ hu;split at h
 case h_2=>cases h
 rename_i re Yv;obtain⟨ti,z,h1,_,_,h4,_⟩:=T.row_ok _ _ Yv;split at h
 case h_2=>cases h
 rename_i a ha;split at h
 case h_2=>cases h
 rename_i b hb;have RG:=GI (w:=w) (H:=H) (F:=F) (ρ:=ρ) gJ ha;have tj:=GI (w:=w) (H:=H) (F:=F) (ρ:=ρ) gJ hb
 have RH:∀{r:Row}{l m:List r.den},cS F w (.slice r) [ev ρ x] l->r.size=re.size->gI l (a.getD 0) (b.getD (l.length:Int))=aa m->cE P U H F w ρ ob n ⟨aa d, .slice t x lo hi ae,ty,pos,aft,ae⟩ {dst:= .val ah (.leaf (.slice r) m)}:=by
  intro r l m hv hz hm;obtain⟨p,q',ep,eq,Ub,hq,rfl⟩:=tl hm;have eR:=hv;obtain⟨A,cap,he,hc,ON,_⟩:=hv;simp only[ajt,and_true]at he;have bD:=vv (P:=P) (w:=w) (d:=d) (ty:=ty) (pos:=pos) (aft:=aft) ht h1 he RG tj (by omega) (by omega) (by omega) hc;rw[ep,eq,aiI,aiI,h4,<-hz]at bD;rw[he]at eR;exact bP hs bD (aS.nz (eR.cut Ub hq))
 split at h
 .rename_i r l gW;obtain⟨hz,h⟩:=aV h;obtain⟨m,hm,hk⟩:=bind_some h;exact⟨_,hk,RH (jr hs gW hx) (beq_true hz) hm⟩
 .rename_i gW;obtain⟨m,hm,hk⟩:=bind_some h;have hv:ev ρ x=_:=jr hs gW hx;unfold gI at hm;split at hm
  case isFalse=>cases hm
  rename_i hc
  have ea:a.getD 0=0:=by have:=hc.2.1;have:=hc.2.2;simp at this;omega
  have eb:b.getD ((0:Nat):Int)=0:=by have:=hc.2.1;have:=hc.2.2;simp at this⊢;omega
  have bD:=vv (P:=P) (w:=w) (d:=d) (ty:=ty) (pos:=pos) (aft:=aft) ht h1 hv RG tj (by omega) (by omega) (by omega) (aiH _);rw[ea,eb]at bD;exact⟨_,hk,bP hs bD ⟨_,rfl,rfl,λ_=>rfl⟩⟩
 .rename_i o s T0 r l gW;obtain⟨hv,cM,eK⟩:=jr hs gW hx
  cases Yw:(aiJ r.size re.size&&aiJ T0 e&&(lo.isNone||dr))with
  |true=>
   rw[Yw,cond_true]at h;obtain⟨EI,Yx⟩:=cI Yw;obtain⟨GD,hT⟩:=cI EI;have UJ:=beq_true GD;obtain⟨m,hm,hk⟩:=bind_some h;exact⟨_,hk,ID ht h1 (h4.trans UJ.symm) rfl hs cM hv RG tj hm⟩
  |false=>
   rw[Yw,cond_false]at h;obtain⟨GD,h'⟩:=aV h;clear h;have UJ:=beq_true GD;obtain⟨m,hm,hk⟩:=bind_some h';obtain⟨p,q',ep,eq,Ub,hq,rfl⟩:=tl hm;obtain⟨A,cap,he,hc,ON,_⟩:=eK.reads;have bD:=vv (P:=P) (w:=w) (d:=d) (ty:=ty) (pos:=pos) (aft:=aft) ht h1 he RG tj (by omega) (by omega) (by omega) hc;rw[ep,eq,aiI,aiI,h4,<-UJ]at bD;obtain⟨v',eR,cL⟩:=hs.obj _ _ _ cM;refine⟨_,hk,bP hs bD ⟨_,⟨_,rfl,A,cap,T0,l,p,q',by rw[hv,he],cL.con,Ub,hq,rfl,rfl⟩,rfl,λ_=>rfl⟩⟩
 .cases h
noncomputable def RJ(T:bj P)(ob:Nat->Option (Nat×Th))(o:BinOp)(t:TypeId)(X Y:aF):Option aF:=
 match X,Y with
 | .val ah (.leaf .bool a), .val ah (.leaf .bool b)=>match find T.und t with
   |some .bool=>match o with
    | .eql=>aa (ec (decide (a=b)))
    | .neq=>aa (ec (!decide (a=b)))
    |_=>ae
   |_=>ae
 | .val ah (.leaf .str a), .val ah (.leaf .str b)=>match o with
   | .eql=>aa (ec (decide (a=b)))
   | .neq=>aa (ec (!decide (a=b)))
   |_=>ae
 | .val af u, .val af v=>match find T.eqs t with
   |some r=>match flat ob r u with
    |some x=>match flat ob r v with
     |some y=>match o with
      | .eql=>aa (ec (lA r x y))
      | .neq=>aa (ec (!(lA r x y)))
      |_=>ae
     |none=>ae
    |none=>ae
   |none=>ae
 |_,_=>ae
theorem OP(T:bj P){o:BinOp}{t u:TypeId}{X Y D:aF}{x y:Operand}(h:RJ T ob o t X Y=aa D)(hs:aL U H F w ob n)(hx:aE H F w X (ev ρ x))(hy:aE H F w Y (ev ρ y)):
 cE P U H F w ρ ob n ⟨aa d, .binOp o t x y u,ty,pos,aft,ae⟩ {dst:=D}:=by
 unfold RJ at h;split at h
 .rename_i a b;split at h
  case h_2=>cases h
  rename_i hu;have hu:=T.und_ok _ _ hu;have ha:ev ρ x= .bool a:=aS.bool hx;have hb:ev ρ y= .bool b:=aS.bool hy
  split at h<;>cases h
  .exact aZ hs (HQ hu ha hb) (aS.ga ..)
  .exact aZ hs (HR hu ha hb) (aS.ga ..)
 .rename_i a b;have ha:ev ρ x= .string a:=aS.str hx;have hb:ev ρ y= .string b:=aS.str hy
  split at h<;>cases h
  .exact aZ hs (HS ha hb) (aS.ga ..)
  .exact aZ hs (HT ha hb) (aS.ga ..)
 .rename_i u v;split at h
  case h_2=>cases h
  rename_i r hr;obtain⟨K,dd,hE,hd,hg,hD⟩:=T.eqs_ok _ _ hr;split at h
  case h_2=>cases h
  rename_i a ha;split at h
  case h_2=>cases h
  rename_i b hb;obtain⟨c1,g1,e1,_⟩:=hx;obtain⟨c2,g2,e2,_⟩:=hy;have r1:=gO hs ha g1;have r2:=gO hs hb g2
  split at h<;>cases h
  .exact aZ hs (Ii hE hd hg hD e1 e2 r1 r2) (aS.ga ..)
  .exact aZ hs (Ij hE hd hg hD e1 e2 r1 r2) (aS.ga ..)
 .cases h
def RL(a b:ByteArray):Option ByteArray:=if a.size+b.size<=9223372036854775807 then aa (a++b)else ae
def EK(o:BinOp)(X Y:aF):Option (ByteArray×ByteArray):=
 match o,X,Y with
 | .add, .val ah (.leaf .str a), .val ah (.leaf .str b)=>aa (a,b)
 |_,_,_=>ae
def RM{t u:TypeId}{o:BinOp}{X Y:aF}{x y:Operand}{a b c:ByteArray}(h:EK o X Y=aa (a,b))(hc:RL a b=aa c)(hs:aL U H F w ob n)(hx:aE H F w X (ev ρ x))(hy:aE H F w Y (ev ρ y)):
 cE P U H F w ρ ob n ⟨aa d, .binOp o t x y u,ty,pos,aft,ae⟩ {dst:= .val ah (.leaf .str c)}:=by
 unfold EK at h
 split at h<;>cases h
 unfold RL at hc;split at hc
 case isFalse=>cases hc
 rename_i hle;obtain rfl:=aiC hc;have ha:ev ρ x= .string a:=aS.str hx;have hb:ev ρ y= .string b:=aS.str hy;refine bP hs (v:= .string (a++b)) ?_ (aS.nz rfl)
 have:¬(9223372036854775807:Int)<(a.size:Int)+(b.size:Int):=by omega
 simp[execOp,eqGuard,binOp,Op.stringOp,ha,hb,IntKind.max,IntKind.signed,IntKind.bits,this]
noncomputable def IF(T:bj P)(ob:Nat->Option (Nat×Th))(o:BinOp)(t:TypeId)(lit:Bool)(X Y:aF)(k:ed->Option R):Option R:=
 match asInt X with
 |some (kx,a)=>match asInt Y with
  |some (ky,b)=>match o with
   | .shl=>bif lit then(bif !decide (b<0)then k {dst:=mR kx (xR kx a b)}else ae)else(rA kx a b).bind λc=>k {dst:=mR kx c}
   | .shr=>bif lit then(bif !decide (b<0)then k {dst:=mR kx (bT kx a b)}else ae)else(xS kx a b).bind λc=>k {dst:=mR kx c}
   |o=>bif decide (kx=ky)then
    (match o with
    | .quo=>bif lit then(bif decide (b≠0)then k {dst:=mR kx (kx.wrap (aiR a b))}else ae)else(z7 a b).bind λc=>k {dst:=mR kx (kx.wrap c)}
    | .rem=>bif lit then(bif decide (b≠0)then k {dst:=mR kx (ai3 a b)}else ae)else(Ir a b).bind λc=>k {dst:=mR kx c}
    |_=>match arith o kx a b with
     |some D=>k {dst:=D}
     |none=>ae)else ae
  |none=>ae
 |none=>match EK o X Y with
  |some (a,b)=>(RL a b).bind λc=>k {dst:= .val ah (.leaf .str c)}
  |none=>match RJ T ob o t X Y with
   |some D=>k {dst:=D}
   |none=>ae
def OQ(T:bj P){o:BinOp}{t u:TypeId}{lit:Bool}{X Y:aF}{x y:Operand}{k:ed->Option R}{q:R}(h:IF T ob o t lit X Y k=aa q)(hs:aL U H F w ob n)(hx:aE H F w X (ev ρ x))(hy:aE H F w Y (ev ρ y)):
 ∃e,k e=aa q/\cE P U H F w ρ ob n ⟨aa d, .binOp o t x y u,ty,pos,aft,ae⟩ e:=by
 unfold IF at h;split at h
 .rename_i kx a hX;split at h
  case h_2=>cases h
  rename_i ky b hY;have ha:=iT hX hx;have hb:=iT hY hy;split at h
  .cases lit with
   |true=>
    rw[cond_true]at h;obtain⟨dA,h⟩:=aV h;exact⟨_,h,aZ hs (BJ ha hb (by simpa using dA)) (aS.ku ..)⟩
   |false=>
    rw[cond_false]at h;obtain⟨c,hc,h⟩:=bind_some h;unfold rA at hc;split at hc
    .cases hc
    .rename_i dA;obtain rfl:=aiC hc;exact⟨_,h,aZ hs (BJ ha hb dA) (aS.ku ..)⟩
  .cases lit with
   |true=>
    rw[cond_true]at h;obtain⟨dA,h⟩:=aV h;exact⟨_,h,aZ hs (BK ha hb (by simpa using dA)) (aS.ku ..)⟩
   |false=>
    rw[cond_false]at h;obtain⟨c,hc,h⟩:=bind_some h;unfold xS at hc;split at hc
    .cases hc
    .rename_i dA;obtain rfl:=aiC hc;exact⟨_,h,aZ hs (BK ha hb dA) (aS.ku ..)⟩
  obtain⟨hk,h'⟩:=aV h;clear h;have hk:=an hk;subst hk;revert h';intro h;split at h
  .cases lit with
   |true=>
    rw[cond_true]at h;obtain⟨dA,h⟩:=aV h
    grind [Lf]
   |false=>
    grind [z7,Lf]
  .cases lit with
   |true=>
    rw[cond_true]at h;obtain⟨dA,h⟩:=aV h
    grind [Lg]
   |false=>
    grind [Ir,Lg]
  grind [Le]
 .split at h
  .rename_i a b yD;obtain⟨c,hc,h⟩:=bind_some h;exact⟨_,h,RM yD hc hs hx hy⟩
  grind [OP]
def Yy(o:UnOp)(X:aF):Option aF:=
 match o with
 | .not=>match asBool X with
   |some b=>aa (ec (!b))
   |none=>ae
 | .neg=>match asInt X with
   |some (k,a)=>aa (mR k (k.wrap (0-a)))
   |none=>ae
 |_=>ae
theorem RN{o:UnOp}{t:TypeId}{X D:aF}{x:Operand}(h:Yy o X=aa D)(hs:aL U H F w ob n)(hx:aE H F w X (ev ρ x)):
 cE P U H F w ρ ob n ⟨aa d, .unOp o t x,ty,pos,aft,ae⟩ {dst:=D}:=by
 unfold Yy at h;split at h
 .split at h<;>cases h
  rename_i b hb;exact aZ hs (KV (oe hb hx)) (aS.ga ..)
 .split at h<;>cases h
  rename_i k a ha;exact aZ hs (KW (iT ha hx)) (aS.ku ..)
 .cases h
def Ln(T:bj P)(s t:TypeId)(X:aF):Option aF:=
 match find T.und s with
 |some _=>match find T.und t with
  |some (.int k)=>match asInt X with
   |some (_,a)=>aa (mR k (k.wrap a))
   |none=>ae
  |some .str=>match BH X with
   |some a=>aa (Yk a)
   |none=>ae
  |_=>ae
 |none=>ae
def Lo(T:bj P){s t:TypeId}{X D:aF}{x:Operand}(h:Ln T s t X=aa D)(hs:aL U H F w ob n)(hx:aE H F w X (ev ρ x)):
 cE P U H F w ρ ob n ⟨aa d, .convert s t x,ty,pos,aft,ae⟩ {dst:=D}:=by
 unfold Ln at h;split at h
 case h_2=>cases h
 rename_i ks hsu;obtain⟨dd,xP,_⟩:=(T.und_ok _ _ hsu).agg;split at h
 .rename_i k Yz
  split at h<;>cases h
  rename_i k' a ha;exact aZ hs (HU xP (T.und_ok _ _ Yz) (iT ha hx)) (aS.ku ..)
 .rename_i Yz
  split at h<;>cases h
  rename_i a ha;have hv:=vX ha hx;have YA:P.underlying t=aa .string:=T.und_ok _ _ Yz;refine bP hs (v:= .string a) ?_ (aS.mkStr ..);simp[execOp,convert,run_underlying xP,run_underlying YA,hv]
 .cases h
def wg(D:aF)(i:Nat):Option aF:=
 match D with
 | .tup ds=>match ds[i]? with
   |some (a,t)=>aa (.val a t)
   |none=>ae
 |_=>ae
def sj.get:{ds:List (Bool×Tree)}->{vs:List Value}->{i:Nat}->{a:Bool}->{t:Tree}->sj H F w ds vs->ds[i]? =aa (a,t)->∃v,vs[i]? =aa v/\aS H F w a t v
 |[],_,_,_,_,_,h=>by cases h
 |d::ds,_,0,a,t,hh,h=>by
  obtain⟨v,us,rfl,h1,h2⟩:=hh
  grind
 |d::ds,_,i+1,a,t,hh,h=>by
  obtain⟨v,us,rfl,h1,h2⟩:=hh;obtain⟨v',e,hv⟩:=sj.get h2 (by simpa using h)
  grind
theorem BT{D D':aF}{i:Nat}{x:Operand}(h:wg D i=aa D')(hs:aL U H F w ob n)(hx:aE H F w D (ev ρ x)):
 cE P U H F w ρ ob n ⟨aa d, .extract x i,ty,pos,aft,ae⟩ {dst:=D'}:=by
 unfold wg at h;split at h
 case h_2=>cases h
 split at h<;>cases h
 rename_i ds a t hd;obtain⟨vs,e,ht⟩:=hx;obtain⟨v,hv,np⟩:=ht.get hd;exact aZ hs (zW e (by simpa using hv)) np
def vz(mx:Bool)(X Y:aF):Option aF:=
 match asInt X,asInt Y with
 |some (k,a),aa (k',b)=>bif decide (k=k')then aa (mR k (bif mx then(if a<b then b else a)else(if b<a then b else a)))else ae
 |_,_=>ae
theorem wh{mx:Bool}{t t':TypeId}{X Y D:aF}{x y:Operand}(h:vz mx X Y=aa D)(hs:aL U H F w ob n)(hx:aE H F w X (ev ρ x))(hy:aE H F w Y (ev ρ y)):
 cE P U H F w ρ ob n ⟨aa d, .call {callee:= .builtin (bif mx then .max else .min),args:= #[x,y],argTypes:= #[t,t']},ty,pos,aft,ae⟩ {dst:=D}:=by
 unfold vz at h;split at h
 case h_2=>cases h
 rename_i k a k' b ha hb;obtain⟨hk,h'⟩:=aV h;clear h;have hk:=an hk;subst hk;obtain rfl:=aiC h';have ha:=iT ha hx;have hb:=iT hb hy
 cases mx with
 |true=>exact aZ hs (HW ha hb) (aS.ku ..)
 |false=>exact aZ hs (HX ha hb) (aS.ku ..)
theorem IG{D:aF}{x:Operand}(hs:aL U H F w ob n)(hx:aE H F w D (ev ρ x)):cE P U H F w ρ ob n ⟨aa d, .move x,ty,pos,aft,ae⟩ {dst:=D}:=aZ hs (HP rfl) hx
theorem BU{D:aF}{x:Operand}(hs:aL U H F w ob n)(hx:aE H F w D (ev ρ x)):cE P U H F w ρ ob n ⟨aa d, .assign x,ty,pos,aft,ae⟩ {dst:=D}:=aZ hs (BC rfl) hx
def Aa(T:bj P)(t:TypeId)(f:Nat)(X:aF):Option aF:=
 match find T.und t with
 |some (.struct fs)=>match fs[f]? with
  |some (ft,off)=>match find T.und ft with
   |some kk=>match X with
    | .val af u=>match u.get (sq fs.length f)with
      |some (s,ef)=>bif aiJ ef off&&mS T ft kk s.size then aa (.val (kL kk) s)else ae
      |none=>ae
    |_=>ae
   |none=>ae
  |none=>ae
 |_=>ae
def EL(T:bj P){t:TypeId}{f:Nat}{X D:aF}{x:Operand}(h:Aa T t f X=aa D)(hs:aL U H F w ob n)(hx:aE H F w X (ev ρ x)):
 cE P U H F w ρ ob n ⟨aa d, .field t x f,ty,pos,aft,ae⟩ {dst:=D}:=by
 unfold Aa at h;split at h
 case h_2=>cases h
 rename_i fs hu;obtain⟨arr,Ku,OF⟩:=T.und_ok _ _ hu;split at h
 case h_2=>cases h
 rename_i ft off hf;obtain⟨fd,T9,rfl,rfl⟩:=BM OF hf;split at h
 case h_2=>cases h
 rename_i kk hft;obtain⟨dd,xP,xL⟩:=(T.und_ok _ _ hft).agg;split at h
 case h_2=>cases h
 rename_i u;split at h
 case h_2=>cases h
 rename_i s ef hg;obtain⟨hb,rfl⟩:=sr h;obtain⟨Kw,RD⟩:=cI hb;obtain rfl:=beq_true Kw;have hz:=kw T RD;obtain⟨cs,qw,e,_⟩:=hx;obtain⟨g1,g2⟩:=qw.get hg;have hl:=g1.length;have e':ev ρ x= .agg cs.toArray:=e
 have UN:∃v,(part fd.type cs.toArray fd.offset).run P w= .ok v w/\aS H F w (kL kk) s v:=by
  cases ha:kL kk with
  |true=>
   rw[al ha]at hz;obtain⟨r,hr,Oe⟩:=hz;obtain⟨ti,z,h1,_,_,h4,_⟩:=T.row_ok _ _ hr;refine⟨.agg ((cs.drop fd.offset).take s.size).toArray,?_,_,g1,rfl,by simp⟩;unfold part;rw[ai0,fJ xP,xL,ha];simp[sizeOf,typeInfo,h1,h4,Oe]
  |false=>
   rw[aj (by simp[ha])]at hz
   have aH:fd.offset<cs.length:=by omega
   refine⟨cs[fd.offset],?_,_,g1,?_,λ_=>?_⟩
   .unfold part;rw[ai0,fJ xP,xL,ha];simp[aH]
   all_goals grind [List.take_one,List.head?_drop]
 obtain⟨v,hv,np⟩:=UN;refine bP hs (v:=v) ?_ np;simp[execOp,Instr.field,run_underlying Ku,T9,e',asAgg,hv]
end
end
section
open Go Go.RowKit Go.MapKept
noncomputable def bV{α:Type}(K:Row):List (K.den×α)->K.den->Option α
 |[],_=>ae
 |p::l,k=>if eT K p.1 k=af then aa p.2 else bV K l k
noncomputable def oj{α:Type}(K:Row):List (K.den×α)->K.den->α->List (K.den×α)
 |[],k,v=>[(k,v)]
 |p::l,k,v=>if eT K p.1 k=af then(p.1,v)::l else p::oj K l k v
theorem jt{K:Row}{a b:K.den}{u v:Value}(ha:kK K a=aa u)(hb:kK K b=aa v):eT K a b=af↔u=v:=by
 unfold kK at ha
 split at ha<;>first|cases ha|skip
 all_goals grind [kK,eT]
def BV{P:Program}(T:bj P)(kt:TypeId):Row->Bool
 | .int k=>match find T.und kt with
   |some (.int k')=>decide (k=k')
   |_=>ah
 | .bool=>match find T.und kt with
   |some .bool=>af
   |_=>ah
 | .str=>match find T.und kt with
   |some .str=>af
   |_=>ah
 |_=>ah
section
variable {P:Program} {ρ:Nat->Value} {w w':World} {H H':aK} {F F':Nat->Prop} {U:Nat->Prop} {ob:Nat->Option (Nat×Th)} {n:Nat} {R:Type}
variable {op:Op} {ty:TypeId} {pos:String} {aft:Array Edge} {d:Nat}
def wi(T:bj P){kt:TypeId}{K:Row}(h:BV T kt K=af):∃d,P.underlying kt=aa d/\(∀x v,kK K x=aa v->IsKey d v)/\(∀x v,cS F w K [v] x->kK K x=aa v):=by
 unfold BV at h;split at h
 .split at h
  .rename_i k _ k' hu;obtain rfl:=an h;refine⟨_,T.und_ok _ _ hu,λx v hx=>?_,λx v hr=>?_⟩
   .obtain rfl:=aiC hx;rfl
   .have Kv:[v]=[ajl k x]:=hr;simp only[ajt,and_true]at Kv;rw[Kv];rfl
  .cases h
 .split at h
  .rename_i hu;refine⟨_,T.und_ok _ _ hu,λx v hx=>?_,λx v hr=>?_⟩
   .obtain rfl:=aiC hx;trivial
   .have Kv:[v]=[Value.bool x]:=hr;simp only[ajt,and_true]at Kv;rw[Kv];rfl
  .cases h
 .split at h
  .rename_i hu;refine⟨_,T.und_ok _ _ hu,λx v hx=>?_,λx v hr=>?_⟩
   .obtain rfl:=aiC hx;trivial
   .have Kv:[v]=[Value.string x]:=hr;simp only[ajt,and_true]at Kv;rw[Kv];rfl
  .cases h
 .cases h
def tC{K:Row}{agg:Bool}{V:Row}{dd:TypeDesc}{x:K.den}{kv:Value}(hK:∀x v,kK K x=aa v->IsKey dd v)(hx:kK K x=aa kv):{es:List MapEntry}->{l:List (K.den×V.den)}->(i:Nat)->gq H F w K agg V es l->
 (ajr dd kv es i=aa ae/\bV K l x=ae/\(∀e∈es,e.key≠kv)/\∀H' F' w' y(e:MapEntry),e.key=kv->H.le H'->Step F w F' w'->aS H' F' w' agg (.leaf V y) e.val->gq H' F' w' K agg V (es++[e]) (oj K l x y))\/
 ∃j e y,ajr dd kv es i=aa (aa (i+j,e.val))/\es[j]? =aa e/\e.key=kv/\bV K l x=aa y/\aS H F w agg (.leaf V y) e.val/\
  ∀H' F' w' y(f:MapEntry->MapEntry),(f e).key=kv->H.le H'->Step F w F' w'->aS H' F' w' agg (.leaf V y) (f e).val->gq H' F' w' K agg V (es.modify j f) (oj K l x y)
 |[],l,i,h=>by
  obtain rfl:l=[]:=h;refine .inl ⟨rfl,rfl,by simp,λH' F' w' y e he hH hs hv=>⟨x,y,[],rfl,by grind,hv,rfl⟩⟩
 |e::es,l,i,h=>by
  obtain⟨k,y,l',rfl,h1,h2,h3⟩:=h;obtain⟨r,hr,RO⟩:=sameNow_of_keys (hK x kv hx) (hK k _ h1);have Ks:=jt h1 hx
  cases r with
  |true=>
   have hke:kv=e.key:=RO.1 rfl;have hq:eT K k x=af:=Ks.2 hke.symm;refine .inr ⟨0,e,y,by simp[ajr,hr],rfl,hke.symm,by simp[bV,hq],h2,λH' F' w' y' f hf hH hs hv=>?_⟩;refine⟨k,y',l',by simp[oj,hq],?_,hv,h3.keep hH hs⟩
   grind
  |false=>
   have dA:¬e.key=kv:=(by grind)
   have hq:¬eT K k x=af:=λq=>dA (Ks.1 q)
   rcases tC hK hx (i+1) h3 with⟨a1,a2,a3,a4⟩|⟨j,e',z,a1,a2,a3,a4,a5,a6⟩
   .refine .inl ⟨by simp[ajr,hr,a1],by simp[bV,hq,a2],λe' vA=>?_,λH' F' w' y' e' vA hH hs hv=>?_⟩
    .grind
    .exact⟨k,y,_,by simp[oj,hq],h1,h2.keep hH hs,a4 H' F' w' y' e' vA hH hs hv⟩
   .refine .inr ⟨j+1,e',z,by simp[ajr,hr,a1];omega,by simpa using a2,a3,by simp[bV,hq,a4],a5,λH' F' w' y' f hf hH hs hv=>?_⟩;refine⟨k,y,_,by simp[oj,hq],?_,?_,a6 H' F' w' y' f hf hH hs hv⟩
    .exact h1
    .exact h2.keep hH hs
noncomputable def asKey(ob:Nat->Option (Nat×Th))(K:Row):aF->Option K.den
 | .val ah t=>flat ob K t
 |_=>ae
def wj(hs:aL U H F w ob n){K:Row}{D:aF}{x:K.den}{v:Value}(h:asKey ob K D=aa x)(hd:aE H F w D v):cS F w K [v] x:=by
 unfold asKey at h;split at h
 .obtain⟨cs,h1,_,h3⟩:=hd
  grind [gO]
 .cases h
def GJ(ob:Nat->Option (Nat×Th)):aF->Option (Nat×Nat×Th)
 | .val ah (.own o)=>match ob o with
   |some (s, .map T K agg V l)=>aa (o,s, .map T K agg V l)
   |_=>ae
 |_=>ae
def BW(hs:aL U H F w ob n){D:aF}{o s:Nat}{t:Th}{v:Value}(h:GJ ob D=aa (o,s,t))(hd:aE H F w D v):∃T K agg V l b es clock,t= .map T K agg V l/\ob o=aa (s,t)/\H.val o=aa v/\v= .map (aa b)/\
 w.heap[b]? =aa (.map es clock)/\Stamped es clock/\gq H F w K agg V es.toList l:=by
 unfold GJ at h;split at h
 .rename_i o';split at h
  .rename_i s' T K agg V l cM;simp only[aiO,Prod.mk.injEq]at h;obtain⟨rfl,rfl,rfl⟩:=h;obtain⟨cs,⟨u,hu,_,e⟩,_,h3⟩:=hd;rw[h3 rfl]at e
   obtain rfl:v=u:=by simpa using e
   obtain⟨v',eR,cL⟩:=hs.obj _ _ _ cM;rw[hu]at eR;obtain rfl:=aiC eR;obtain⟨b,es,clock,e,h1,h2,h3⟩:=cL.ok
   grind
  .cases h
 .cases h
def ol(T:bj P)(n:Nat)(t:TypeId)(k:ed->Option R):Option R:=
 match find T.und t with
 |some (.map kt vt)=>match find T.row kt with
  |some K=>match find T.row vt with
   |some V=>match find T.und vt with
    |some kk=>k {dst:= .val ah (.own n),make:=[(n,(n, .map t K (kL kk) V []))]}
    |none=>ae
   |none=>ae
  |none=>ae
 |_=>ae
def BX(T:bj P){t:TypeId}{k:ed->Option R}{q:R}(h:ol T n t k=aa q)(hs:aL U H F w ob n):
 ∃e,k e=aa q/\cE P U H F w ρ ob n ⟨aa d, .makeMap t ae,ty,pos,aft,ae⟩ e:=by
 unfold ol at h;split at h
 case h_2=>cases h
 split at h
 case h_2=>cases h
 rename_i K _;split at h
 case h_2=>cases h
 rename_i V _;split at h
 case h_2=>cases h
 rename_i kk _
 have bD:(execOp (ev ρ) ⟨aa d, .makeMap t ae,ty,pos,aft,ae⟩).run P w= .ok (.value (.map (aa w.heap.size))) (w.alloc (.map #[] 0)):=by
  simp[execOp,Instr.makeMap,aiQ]
 refine⟨_,h,ct.val bD ?_⟩
 have hv:((H.bG n (.map t K (kL kk) V [])).cN n (.map (aa w.heap.size))).val n=aa (.map (aa w.heap.size)):=by simp[aK.cN]
 refine lD.new (v0:= .map (aa w.heap.size)) hs rfl rfl (oh _) ⟨_, #[],0,rfl,(heap_alloc w _).1,stamped_empty 0,rfl⟩ (λk hk=>?_) (nB hv rfl);simp only[fp,Value.map.injEq,aiO]at hk;subst hk;exact⟨λe=>by have:=hs.lt _ e;omega,by simp, .inl (aiH _)⟩
noncomputable def lE(T:bj P)(ob:Nat->Option (Nat×Th))(n:Nat)(t:TypeId)(M X Y:aF)(k:ed->Option R):Option R:=
 match find T.und t with
 |some (.map kt _)=>match GJ ob M with
  |some (o,_, .map T0 K agg V l)=>bif BV T kt K then(match asKey ob K X with
   |some x=>match Y with
    | .val eV tr=>bif (bif agg then eV else !eV)then(match flat ob V tr with
      |some y=>k {dst:= .dead,eat:=[o],make:=[(o,(n, .map T0 K agg V (oj K l x y)))]}
      |none=>ae)else ae
    |_=>ae
   |none=>ae)else ae
  |_=>ae
 |_=>ae
def tD{RP kt et:TypeId}{dd:TypeDesc}{b clock:Nat}{es:Array MapEntry}{key val:Value}(hm:P.underlying RP=aa (.map kt et))(hd:P.underlying kt=aa dd)(hb:w.heap[b]? =aa (.map es clock))(hk:IsKey dd key):
 (ajr dd key es.toList 0=aa ae->(ajE RP (.map (aa b)) key val).run P w= .ok () {w with heap:=w.heap.setIfInBounds b (.map (es.push {key,val,born:=clock}) (clock+1))})/\
 (∀j e,ajr dd key es.toList 0=aa (aa (j,e))->((es[j]?).map (·.key)).getD key=key->(ajE RP (.map (aa b)) key val).run P w= .ok () {w with heap:=w.heap.setIfInBounds b (.map (es.modify j λe=>{e with key,val}) clock)}):=by
 refine⟨λh1=>?_,λj e h1 h2=>?_⟩
 .simp[ajE,run_underlying hm,ajg hb,ajG hd hk,ajM hd h1,ajL _ hb,aiQ]
 .simp[ajE,run_underlying hm,ajg hb,ajG hd hk,ajM hd h1,h2,run_keyThatStays hk,ajL _ hb,aiQ]
def xV(T:bj P){t:TypeId}{M X Y:aF}{m x y:Operand}{k:ed->Option R}{q:R}(h:lE T ob n t M X Y k=aa q)(hs:aL U H F w ob n)(hm:aE H F w M (ev ρ m))(hx:aE H F w X (ev ρ x))(hy:aE H F w Y (ev ρ y)):
 ∃e,k e=aa q/\cE P U H F w ρ ob n ⟨ae, .mapUpdate t m x y,ty,pos,aft,ae⟩ e:=by
 unfold lE at h;split at h
 case h_2=>cases h
 rename_i kt vt hu;split at h
 case h_2=>cases h
 rename_i o s T0 K agg V l sv;obtain⟨hk,h'⟩:=aV h;clear h;split at h'
 case h_2=>cases h'
 rename_i a ha;split at h'
 case h_2=>cases h'
 rename_i eV tr;obtain⟨rC,h⟩:=aV h';clear h'
 have rC:agg=eV:=by cases agg<;>cases eV<;>simp_all
 subst rC;split at h
 case h_2=>cases h
 rename_i b hb;refine⟨_,h,?_⟩;obtain⟨dd,hd,hK,hR⟩:=wi (F:=F) (w:=w) T hk;obtain⟨T1,K1,YB,V1,l1,r,es,clock,e0,cM,hv,nM,hh,iq,wk⟩:=BW hs sv hm;cases e0;have py:=hR _ _ (wj hs ha hx)
 have px:aS H F w agg (.leaf V b) (ev ρ y):=by
  obtain⟨cs,h1,h2⟩:=hy;exact⟨cs,gO hs hb h1,h2⟩
 have YC:r<w.heap.size:=(ajc.1 hh).1
 have fin:∀o',(ajE t (.map (aa r)) (ev ρ x) (ev ρ y)).run P w= .ok () {w with heap:=w.heap.setIfInBounds r o'}->
  (∀w',(∀k,k≠r->w'.heap[k]? =w.heap[k]?)->∃my nO,o'= .map my nO/\Stamped my nO/\gq (H.bG n (.map T0 K agg V (oj K l a b))) F w' K agg V my.toList (oj K l a b))->
  cE P U H F w ρ ob n ⟨ae, .mapUpdate t m x y,ty,pos,aft,ae⟩ {dst:= .dead,eat:=[o],make:=[(o,(n, .map T0 K agg V (oj K l a b)))]}:=by
  intro o' bD Lp;refine ct.unit (w':={w with heap:=w.heap.setIfInBounds r o'}) ?_ ?_
  .simp[execOp,nM,bD,aiQ]
  .have nP:∀k,k≠r->(w.heap.setIfInBounds r o')[k]? =w.heap[k]? :=(heap_set hh).2;obtain⟨my,nO,rfl,g1,g2⟩:=Lp {w with heap:=w.heap.setIfInBounds r o'} nP;refine lD.vw (t':= .map T0 K agg V (oj K l a b)) (w':={w with heap:=w.heap.setIfInBounds r (.map my nO)}) hs cM hv rfl (λk hk=>hk) ⟨rfl,⟨rfl,aiH _⟩,rfl,by simp,λk hk hn=>nP k λe=>hn (by subst e;exact nM)⟩ ⟨r,my,nO,nM,(heap_set hh).1,g1,g2⟩ trivial
 have Lq:H.le (H.bG n (.map T0 K agg V (oj K l a b))):=aK.gw (hs.fresh n (aiH _) (by omega)).2
 have dZ:∀w':World,(∀k,k≠r->w'.heap[k]? =w.heap[k]?)->Step F w F w':=by
  intro w' hw b hb;refine⟨hb,hw b λe=>?_⟩;subst e;obtain⟨v',eR,cL⟩:=hs.obj _ _ _ cM;rw[hv]at eR;obtain rfl:=aiC eR;exact cL.no b nM hb
 obtain⟨r1,r2⟩:=tD (val:=ev ρ y) (T.und_ok _ _ hu) hd hh (hK _ _ py)
 rcases tC hK py 0 wk with⟨a1,a2,a3,a4⟩|⟨j,e,z,a1,a2,a3,a4,a5,a6⟩
 .refine fin _ (r1 a1) λw' hw=>⟨_,_,rfl,stamped_push iq a3,?_⟩
  rw[Array.toList_push];exact a4 _ F w' b _ rfl Lq (dZ w' hw) (px.keep Lq (dZ w' hw))
 .rw[aje]at a1
  have hj:es[j]? =aa e:=by simpa using a2
  refine fin _ (r2 j _ a1 (by grind)) λw' hw=>⟨_,_,rfl,stamped_modify iq _ _ (λ_ _=>rfl) (λe' _ vA=>?_),?_⟩
  .grind
  .rw[Array.toList_modify];exact a6 _ F w' b _ rfl Lq (dZ w' hw) (px.keep Lq (dZ w' hw))
noncomputable def pz{α:Type}(K:Row):List (K.den×α)->K.den->List (K.den×α)
 |[],_=>[]
 |p::l,k=>if eT K p.1 k=af then l else p::pz K l k
def yE{K:Row}{agg:Bool}{V:Row}{dd:TypeDesc}{x:K.den}{kv:Value}(hK:∀x v,kK K x=aa v->IsKey dd v)(hx:kK K x=aa kv):{es:List MapEntry}->{l:List (K.den×V.den)}->(i:Nat)->gq H F w K agg V es l->
 (ajr dd kv es i=aa ae/\pz K l x=l)\/
 ∃(j:Nat)(e:MapEntry),ajr dd kv es i=aa (aa (i+j,e.val))/\j<es.length/\∀H' F' w',H.le H'->Step F w F' w'->gq H' F' w' K agg V (es.eraseIdx j) (pz K l x)
 |[],l,i,h=>by
  obtain rfl:l=[]:=h;exact .inl ⟨rfl,rfl⟩
 |e::es,l,i,h=>by
  obtain⟨k,y,l',rfl,h1,h2,h3⟩:=h;obtain⟨r,hr,RO⟩:=sameNow_of_keys (hK x kv hx) (hK k _ h1);have Ks:=jt h1 hx
  cases r with
  |true=>
   have hq:eT K k x=af:=Ks.2 (RO.1 rfl).symm;exact .inr ⟨0,e,by simp[ajr,hr],by simp,λH' F' w' hH hs=>by simpa[pz,hq]using h3.keep hH hs⟩
  |false=>
   have hq:¬eT K k x=af:=(by grind)
   rcases yE hK hx (i+1) h3 with⟨a1,a2⟩|⟨j,e',a1,a2,a3⟩
   .exact .inl ⟨by simp[ajr,hr,a1],by simp[pz,hq,a2]⟩
   .exact .inr ⟨j+1,e',by simp[ajr,hr,a1];omega,by simpa using a2,λH' F' w' hH hs=>⟨k,y,_,by simp[pz,hq],h1,h2.keep hH hs,a3 H' F' w' hH hs⟩⟩
noncomputable def qB(T:bj P)(ob:Nat->Option (Nat×Th))(n:Nat)(t:TypeId)(M X:aF)(k:ed->Option R):Option R:=
 match find T.und t with
 |some (.map kt _)=>match GJ ob M with
  |some (o,_, .map T0 K agg V l)=>bif BV T kt K then(match asKey ob K X with
   |some x=>k {dst:= .dead,eat:=[o],make:=[(o,(n, .map T0 K agg V (pz K l x)))]}
   |none=>ae)else ae
  |_=>ae
 |_=>ae
def EM(T:bj P){t t':TypeId}{M X:aF}{m x:Operand}{k:ed->Option R}{q:R}{dst:Option Nat}(h:qB T ob n t M X k=aa q)(hs:aL U H F w ob n)(hm:aE H F w M (ev ρ m))(hx:aE H F w X (ev ρ x)):
 ∃e,k e=aa q/\cE P U H F w ρ ob n ⟨dst, .call {callee:= .builtin .delete,args:= #[m,x],argTypes:= #[t,t']},ty,pos,aft,ae⟩ e:=by
 unfold qB at h;split at h
 case h_2=>cases h
 rename_i kt vt hu;split at h
 case h_2=>cases h
 rename_i o s T0 K agg V l sv;obtain⟨hk,h'⟩:=aV h;clear h;split at h'
 case h_2=>cases h'
 rename_i a ha;refine⟨_,h',?_⟩;obtain⟨dd,hd,hK,hR⟩:=wi (F:=F) (w:=w) T hk;obtain⟨T1,K1,YB,V1,l1,r,es,clock,e0,cM,hv,nM,hh,iq,wk⟩:=BW hs sv hm;cases e0;have py:=hR _ _ (wj hs ha hx);have Lq:H.le (H.bG n (.map T0 K agg V (pz K l a))):=aK.gw (hs.fresh n (aiH _) (by omega)).2
 have fin:∀my,(Builtin.delete_ #[t,t'] ty #[.map (aa r),ev ρ x]).run P w= .ok (.tuple #[]) {w with heap:=w.heap.setIfInBounds r (.map my clock)}->Stamped my clock->
  (∀w',Step F w F w'->gq (H.bG n (.map T0 K agg V (pz K l a))) F w' K agg V my.toList (pz K l a))->
  cE P U H F w ρ ob n ⟨dst, .call {callee:= .builtin .delete,args:= #[m,x],argTypes:= #[t,t']},ty,pos,aft,ae⟩ {dst:= .dead,eat:=[o],make:=[(o,(n, .map T0 K agg V (pz K l a)))]}:=by
  intro my bD RQ Lp;have nP:∀k,k≠r->(w.heap.setIfInBounds r (.map my clock))[k]? =w.heap[k]? :=(heap_set hh).2;refine ct.val (v:= .tuple #[]) (w':={w with heap:=w.heap.setIfInBounds r (.map my clock)}) (by simp[execOp,resolve,invoke,builtin,nM,bD,aiQ]) ?_;refine lD.vw (t':= .map T0 K agg V (pz K l a)) (w':={w with heap:=w.heap.setIfInBounds r (.map my clock)}) hs cM hv rfl (λk hk=>hk) ⟨rfl,⟨rfl,aiH _⟩,rfl,by simp,λk hk hn=>nP k λe=>hn (by subst e;exact nM)⟩ ⟨r,my,clock,nM,(heap_set hh).1,RQ,Lp _ λb hb=>?_⟩ trivial;refine⟨hb,nP b λe=>?_⟩;subst e;obtain⟨v',eR,cL⟩:=hs.obj _ _ _ cM;rw[hv]at eR;obtain rfl:=aiC eR;exact cL.no b nM hb
 rcases yE hK py 0 wk with⟨a1,a2⟩|⟨j,e,a1,a2,a3⟩
 .refine fin es ?_ iq λw' hw=>?_
  .simp[Builtin.delete_,run_underlying (T.und_ok _ _ hu),ajg hh,ajG hd (hK _ _ py),ajM hd a1,ajL _ hh,aiQ]
  .rw[a2];exact wk.keep (by grind) hw
 .rw[aje]at a1
  refine fin (es.eraseIdxIfInBounds j) ?_ (MapKept.stamped_erase iq j) λw' hw=>?_
  .simp[Builtin.delete_,run_underlying (T.und_ok _ _ hu),ajg hh,ajG hd (hK _ _ py),ajM hd a1,ajL _ hh,aiQ]
  simp_all
def BY{t:TypeId}{agg:Bool}{V:Row}(h:z6 P t agg V)(h1:agg=ah->V.size=1):∃z,(zeroValue t).run P w= .ok z w/\aS H F w agg (.leaf V V.zero) z:=by
 obtain⟨z,hz,e⟩:=h
 cases hi:P.info? t with
 |none=>grind
 |some ti=>
  rw[hi]at hz;refine⟨z,?_,V.fi,cS.zero F w V,e,λha=>?_⟩
  .have hz':ti.zero=aa z:=hz;simp[zeroValue,typeInfo,hi,hz',aiQ]
  .have hl:V.fi.length=V.size:=(cS.zero F w V).length;rw[h1 ha]at hl;subst ha;rw[cond_false]at e
   match hv:V.fi,hl with
   |[u],_=>grind
theorem GK{K:Row}{agg:Bool}{V:Row}:{es:List MapEntry}->{l:List (K.den×V.den)}->es.length=l.length->(∀i(h:i<l.length),∃(e:MapEntry)(cs:List Value),es[i]? =aa e/\kK K l[i].1=aa e.key/\cS F w V cs l[i].2/\e.val=(bif agg then .agg cs.toArray else cs.headD undef)/\(agg=ah->cs=[e.val]))->gq H F w K agg V es l
 |[],[],_,_=>rfl
 |[],_::_,h,_=>by cases h
 |_::_,[],h,_=>by cases h
 |e::es,(k,x)::l,hl,h=>by
  obtain⟨e',cs,h1,h2,h3,h4,h5⟩:=h 0 (by simp)
  obtain rfl:e=e':=by simpa using h1
  exact⟨k,x,l,rfl,h2,⟨cs,h3,h4,h5⟩,GK (by simpa using hl) λi hi=>by
   obtain⟨e',u0,q1,q2,q3,q4⟩:=h (i+1) (by simpa using hi)
   grind⟩
def GL{K:Row}{agg:Bool}{V:Row}:{es:List MapEntry}->{l:List (K.den×V.den)}->gq H F w K agg V es l->es.length=l.length/\∀i(h:i<l.length),∃(e:MapEntry)(cs:List Value),es[i]? =aa e/\kK K l[i].1=aa e.key/\cS F w V cs l[i].2/\e.val=(bif agg then .agg cs.toArray else cs.headD undef)/\(agg=ah->cs=[e.val])
 |[],l,h=>by obtain rfl:l=[]:=h;grind
 |e::es,l,h=>by
  obtain⟨k,x,l',rfl,h1,⟨cs,h2,h3,h4⟩,h5⟩:=h;obtain⟨g1,g2⟩:=GL h5;refine⟨by simp[g1],λi hi=>?_⟩
  cases i with
  |zero=>exact⟨e,cs,rfl,h1,h2,h3,h4⟩
  |succ i=>
   obtain⟨e',u0,q1,q2,q3,q4⟩:=g2 i (by simpa using hi)
   grind
structure UO where
 K:Row
 agg:Bool
 V:Row
 l:List (K.den×V.den)
def EN(ob:Nat->Option (Nat×Th)):aF->Option UO
 | .val ah (.leaf (.map K agg V) l)=>aa ⟨K,agg,V,l⟩
 | .val ah (.own o)=>match ob o with
   |some (_, .map _ K agg V l)=>aa ⟨K,agg,V,l⟩
   |some (_, .fmap _ K agg V l)=>aa ⟨K,agg,V,l⟩
   |_=>ae
 |_=>ae
def GM{K:Row}{agg:Bool}{V:Row}{l:List (K.den×V.den)}{v:Value}(h:cS F w (.map K agg V) [v] l):(v= .map ae/\l=[])\/∃b es clock,v= .map (aa b)/\w.heap[b]? =aa (.map es clock)/\Stamped es clock/\gq H F w K agg V es.toList l:=by
 obtain⟨u,e,h⟩:=h
 grind [GK]
def IH(hs:aL U H F w ob n){D:aF}{m:UO}{v:Value}(h:EN ob D=aa m)(hd:aE H F w D v):(v= .map ae/\m.l=[])\/∃b es clock,v= .map (aa b)/\w.heap[b]? =aa (.map es clock)/\Stamped es clock/\gq H F w m.K m.agg m.V es.toList m.l:=by
 unfold EN at h;split at h
 .cases h;exact GM hd.inv
 .rename_i o;obtain⟨cs,⟨u,hu,_,e⟩,_,h3⟩:=hd;rw[h3 rfl]at e
  obtain rfl:v=u:=by simpa using e
  split at h
  .rename_i s T K agg V l cM;cases h;obtain⟨v',eR,cL⟩:=hs.obj _ _ _ cM;rw[hu]at eR;obtain rfl:=aiC eR;obtain⟨b,es,clock,e,h1,h2,h3⟩:=cL.ok
   grind
  .rename_i s T K agg V l cM;cases h;obtain⟨v',eR,cL⟩:=hs.obj _ _ _ cM;rw[hu]at eR;obtain rfl:=aiC eR;exact GM cL.ok
  .cases h
 .cases h
noncomputable def qC(T:bj P)(ob:Nat->Option (Nat×Th))(t:TypeId)(ok:Bool)(M X:aF)(k:ed->Option R):Option R:=
 match find T.und t with
 |some (.map kt vt)=>match EN ob M with
  |some ⟨K,agg,V,l⟩=>match find T.zer vt with
   |some (eV,V')=>bif BV T kt K&&(bif agg then eV else !eV)&&V'.beq V&&(agg||aiJ V.size 1)then(match asKey ob K X with
    |some x=>bif ok then k {dst:= .tup [(agg, .leaf V ((bV K l x).getD V.zero)),(ah, .leaf .bool (bV K l x).isSome)]}
     else k {dst:= .val agg (.leaf V ((bV K l x).getD V.zero))}
    |none=>ae)else ae
   |none=>ae
  |none=>ae
 |_=>ae
def EO(T:bj P){t:TypeId}{ok:Bool}{M X:aF}{m x:Operand}{k:ed->Option R}{q:R}(h:qC T ob t ok M X k=aa q)(hs:aL U H F w ob n)(hm:aE H F w M (ev ρ m))(hx:aE H F w X (ev ρ x)):
 ∃e,k e=aa q/\cE P U H F w ρ ob n ⟨aa d, .lookup t m x ok,ty,pos,aft,ae⟩ e:=by
 unfold qC at h;split at h
 case h_2=>cases h
 rename_i kt vt hu;split at h
 case h_2=>cases h
 rename_i K agg V l sv;split at h
 case h_2=>cases h
 rename_i eV V' hz;obtain⟨hc,h'⟩:=aV h;clear h;obtain⟨hc,Uc⟩:=cI hc;obtain⟨hc,Lr⟩:=cI hc;obtain⟨yu,BF⟩:=cI hc
 have rC:agg=eV:=by cases agg<;>cases eV<;>simp_all
 subst rC;obtain rfl:=Row.eq_of_beq Lr;split at h'
 case h_2=>cases h'
 rename_i a ha;obtain⟨dd,hd,hK,hR⟩:=wi (F:=F) (w:=w) T yu;have py:=hR _ _ (wj hs ha hx)
 have mh:agg=ah->V'.size=1:=λe=>by simp_all
 obtain⟨z,EI,GD⟩:=BY (w:=w) (H:=H) (F:=F) (T.zer_ok _ _ _ hz) mh
 have main:∃v,(aj3 t (ev ρ m) (ev ρ x) ok).run P w= .ok (if ok then .tuple #[v, .bool (bV K l a).isSome]else v) w/\aS H F w agg (.leaf V' ((bV K l a).getD V'.zero)) v:=by
  have Xx:=hK _ _ py;have GN:=T.und_ok _ _ hu
  rcases IH hs sv hm with⟨nM,hl⟩|⟨r,es,clock,nM,hh,iq,wk⟩
  .dsimp only at hl;subst hl;refine⟨z,?_,GD⟩;rw[nM];have hf:=ajM (w:=w) hd (show ajr dd (ev ρ x) [] 0=aa ae from rfl)
   cases ok<;>simp[aj3,run_underlying GN,ajG hd Xx,hf,EI,bV,aiQ]
  .dsimp only at wk
   rcases tC hK py 0 wk with⟨a1,a2,_⟩|⟨j,e,y,a1,_,_,a4,a5,_⟩
   .refine⟨z,?_,by grind⟩;rw[nM,a2];simp[aj3,run_underlying GN,ajg hh,ajG hd Xx,ajM hd a1,EI,aiQ]
   .refine⟨e.val,?_,by grind⟩;rw[nM,a4];simp[aj3,run_underlying GN,ajg hh,ajG hd Xx,ajM hd a1,aiQ]
 obtain⟨v,bD,np⟩:=main
 cases ok with
 |true=>
  refine⟨_,h',bP hs (v:= .tuple #[v, .bool (bV K l a).isSome]) (by simp[execOp,bD,aiQ]) ⟨[v, .bool (bV K l a).isSome],rfl,_,_,rfl,np,_,_,rfl,aS.ga ..,rfl⟩⟩
 |false=>exact⟨_,h',bP hs (v:=v) (by simp[execOp,bD,aiQ]) np⟩
def lr(s:ByteArray)(i:Int):Option Int:=(if 0<=i then s[i.toNat]? else ae).map λb=>(b.toNat:Int)
def BZ{e:Row}:{m:Nat}->{r:Row}->{x:r.den}->{l:List e.den}->{cs:List Value}->ml m r x e=aa l->cS F w r cs x->l.length=m/\cs.length=m*e.size/\∀i(h:i<l.length),cS F w e ((cs.drop (i*e.size)).take e.size) l[i]
 |0,r,x,l,cs,h,_=>by unfold ml at h;cases h
 |1,r,x,l,cs,h,ha=>by
  unfold ml at h;split at h
  case isFalse=>cases h
  rename_i hb;obtain rfl:=Row.eq_of_beq hb;obtain rfl:=aiC h;have hl:=ha.length;refine⟨rfl,by simp[hl],λi hi=>?_⟩
  obtain rfl:i=0:=by grind
  rw[Nat.zero_mul,List.drop_zero,<-hl,List.take_length];exact ha
 |m+2, .pair a b,x,l,cs,h,ha=>by
  unfold ml at h;split at h
  case isFalse=>cases h
  rename_i hb;obtain rfl:=Row.eq_of_beq hb;split at h
  case h_2=>cases h
  rename_i l' hl;obtain rfl:=aiC h;obtain⟨c1,c2,rfl,h1,h2⟩:=ha;have T8:=h1.length;obtain⟨g1,g2,g3⟩:=BZ hl h2;refine⟨by simp[g1],by grind,λi hi=>?_⟩
  cases i with
  |zero=>
   rw[Nat.zero_mul,List.drop_zero,List.take_append_of_le_length (by omega),<-T8,List.take_length];exact h1
  |succ i=>
   grind [List.drop_drop,List.drop_left]
 |m+2, .int _,_,_,_,h,_=>by unfold ml at h;cases h
 |m+2, .bool,_,_,_,h,_=>by unfold ml at h;cases h
 |m+2, .str,_,_,_,h,_=>by unfold ml at h;cases h
 |m+2, .slice _,_,_,_,h,_=>by unfold ml at h;cases h
 |m+2, .lz,_,_,_,h,_=>by unfold ml at h;cases h
 |m+2, .nul _,_,_,_,h,_=>by unfold ml at h;cases h
 |m+2, .map ..,_,_,_,h,_=>by unfold ml at h;cases h
def qD(T:bj P)(ob:Nat->Option (Nat×Th))(t:TypeId)(D:aF)(i:Int)(k:ed->Option R):Option R:=
 match find T.und t with
 |some .str=>match BH D with
  |some s=>(lr s i).bind λc=>k {dst:=mR .u8 c}
  |none=>ae
 |some (.array m e)=>match find T.row t with
  |some r=>match find T.row e with
   |some re=>match find T.und e with
    |some kk=>match D with
     | .val af tr=>match flat ob r tr with
       |some x=>match ml m r x re with
        |some l=>bif kL kk||aiJ re.size 1 then(idx l i).bind λy=>k {dst:= .val (kL kk) (.leaf re y)}else ae
        |none=>ae
       |none=>ae
     |_=>ae
    |none=>ae
   |none=>ae
  |none=>ae
 |_=>ae
def EP(T:bj P){t:TypeId}{D:aF}{x y:Operand}{kd:IntKind}{i:Int}{k:ed->Option R}{q:R}(h:qD T ob t D i k=aa q)(hs:aL U H F w ob n)(hx:aE H F w D (ev ρ x))(hy:ev ρ y= .int kd i):
 ∃e,k e=aa q/\cE P U H F w ρ ob n ⟨aa d, .index t x y,ty,pos,aft,ae⟩ e:=by
 unfold qD at h;split at h
 .rename_i hu;have hu:=T.und_ok _ _ hu;split at h
  case h_2=>cases h
  rename_i s hS;obtain⟨c,hc,hk⟩:=bind_some h;have hv:=vX hS hx;unfold lr at hc;obtain⟨b,hb,rfl⟩:=ajp.1 hc;refine⟨_,hk,bP hs (v:= .int .u8 b.toNat) ?_ (aS.ku ..)⟩;have GN:P.underlying t=aa .string:=hu;simp[execOp,Instr.index,asIntOf,run_underlying GN,hv,hy,hb]
 .rename_i m e hu;have hu:P.underlying t=aa (.array m e):=T.und_ok _ _ hu;split at h
  case h_2=>cases h
  rename_i r hr;split at h
  case h_2=>cases h
  rename_i re Yv;split at h
  case h_2=>cases h
  rename_i kk Ks;split at h
  case h_2=>cases h
  rename_i tr;split at h
  case h_2=>cases h
  rename_i z hz;split at h
  case h_2=>cases h
  rename_i l hl;obtain⟨hag,h'⟩:=aV h;clear h;obtain⟨a,ha,hk⟩:=bind_some h';obtain⟨cs,hh,hv,_⟩:=hx;rw[cond_true]at hv;obtain⟨g1,g2,g3⟩:=BZ hl (gO hs hz hh);obtain⟨j,hj,aH,rfl⟩:=gX ha;obtain⟨ti,z0,h1,_,_,h4,_⟩:=T.row_ok _ _ Yv;obtain⟨dd,xP,xL⟩:=(T.und_ok _ _ Ks).agg;have tE:=g3 j aH
  have mh:(j+1)*re.size<=cs.length:=by rw[g2];exact aiS _ (by omega)
  rw[ajF]at mh;refine⟨_,hk,?_⟩
  cases rC:kL kk with
  |true=>
   refine bP hs (v:= .agg ((cs.drop (j*re.size)).take re.size).toArray) ?_ ⟨_,tE,rfl,by simp⟩;subst hj;simp[execOp,Instr.index,asIntOf,run_underlying hu,hv,hy,show j<m by omega,part,ai0,fJ xP,xL,rC,sizeOf,typeInfo,h1,h4,List.extract_eq_take_drop]
  |false=>
   rw[rC,Bool.false_or]at hag;have lW:=beq_true hag;have hlen:=tE.length;rw[lW,Nat.mul_one]at tE mh;rw[lW]at hlen
   obtain⟨v,yA⟩:∃v,(cs.drop j).take 1=[v]:=by
    match hq:(cs.drop j).take 1,GO:((cs.drop j).take 1).length with
    |[v],_=>grind
    |[],_=>grind
    |_::_::_,_=>grind
   rw[yA]at tE
   have Oz:cs[j]? =aa v:=by
    have:(cs.drop j)[0]? =aa v:=by
     have h0:((cs.drop j).take 1)[0]? =aa v:=by rw[yA];rfl
     rwa [List.getElem?_take_of_lt (by omega)]at h0
    simpa using this
   refine bP hs (v:=v) ?_ (aS.nz tE);subst hj;simp[execOp,Instr.index,asIntOf,run_underlying hu,hv,hy,show j<m by omega,part,ai0,fJ xP,xL,rC,sizeOf,typeInfo,h1,h4,lW,Oz]
 .cases h
end
end
section
def II(T:TypeId):(e:DR)->List e.row.den->Th
 | .leaf r,y=> .own T r y
 | .sl T' e,y=> .deep T (.sl T' e) y ae
 | .pair a b,y=> .deep T (.pair a b) y ae
section
variable {P:Program} {ρ:Nat->Value} {w w':World} {H H':aK} {F F':Nat->Prop} {U:Nat->Prop} {ob:Nat->Option (Nat×Th)} {n:Nat} {R:Type}
variable {op:Op} {ty:TypeId} {pos:String} {aft:Array Edge} {d:Nat}
def wm(T:TypeId)(e:DR)(y:List e.row.den):(II T e y).base=II T e y:=by cases e<;>rfl
def tF{T:TypeId}{e:DR}{u:Value}{y:List e.row.den}{A:Nat->Prop}(h:kI F w (.sl T e) u y A):iQ H F w A u (II T e y)/\(∀k,fp A u (II T e y) k->A k)/\u.oneCell'=af:=by
 obtain⟨lh,Ss,h1,h2,h3,h4⟩:=h;have lW:=h1.one
 cases e with
 |leaf r=>
  have hl:lh=y:=List.ext_getElem h2 λi a b=>(h3 i a b).1
  subst hl;exact⟨h1,λk hk=>h4.bU k hk,lW⟩
 |sl T' e=>exact⟨⟨lh,Ss,h1,h2,h3,h4⟩,λk hk=>hk,lW⟩
 |pair a b=>exact⟨⟨lh,Ss,h1,h2,h3,h4⟩,λk hk=>hk,lW⟩
def wo{T:TypeId}{e:DR}{u:Value}{y:List e.row.den}{A:Nat->Prop}(h:iQ H F w A u (II T e y)):kI F w (.sl T e) u y (λk=>fp A u (II T e y) k):=by
 cases e with
 |leaf r=>
  have h':mC F w T r u y:=h;refine⟨y,λ_ _=>False,h',rfl,λi a b=>⟨rfl,λ_ h=>h⟩,⟨λk=>?_,λ_ _ _ _ _ _ h=>h.elim,λ_ _ _ h=>h.elim⟩⟩
  show bU u k↔_
  simp
 |sl T' e=>exact h
 |pair a b=>exact h
def vB{d:DR}{r:Row}(q:gu d (.leaf r)){x':d.low.den}{x:d.row.den}{S:Nat->Prop}(h:kI F w d x' x S):q.lo.get x'=q.hi.get x:=by
 obtain⟨A,B,h1,_⟩:=h.out q;exact h1.1
def wq:{d e:DR}->{T:TypeId}->{r:Row}->(p:gu d (.sl T e))->(q:gu d (.leaf r))->{x':d.low.den}->{x:d.row.den}->{S:Nat->Prop}->nN F w p x' x S->q.lo.get x'=q.hi.get x
 |_,_,_,_, .fst p, .fst q,_,_,_,h=>by obtain⟨A,B,h1,_⟩:=h;exact wq p q h1
 |_,_,_,_, .fst p, .snd q,_,_,_,h=>by obtain⟨A,B,_,h2,_⟩:=h;exact vB q h2
 |_,_,_,_, .snd p, .fst q,_,_,_,h=>by obtain⟨A,B,h1,_⟩:=h;exact vB q h1
 |_,_,_,_, .snd p, .snd q,_,_,_,h=>by obtain⟨A,B,_,h2,_⟩:=h;exact wq p q h2
def Ls{d:DR}{h:Option vU}{i:Nat}{x':d.low.den}{x:d.row.den}{S:Nat->Prop}{r:Row}(q:gu d (.leaf r))(hr:oN H F w d h i x' x S):q.lo.get x'=q.hi.get x:=by
 cases h with
 |none=>exact vB q hr
 |some h=>
  by_cases hi:h.i=(i:Int)
  .obtain⟨T',e,p,_,h2,_⟩:=hr.2 hi;exact wq p q h2
  .exact vB q (hr.1 hi)
def sx{d:DR}{r:Row}(q:gu d (.leaf r)){x':d.low.den}{x:d.row.den}{S:Nat->Prop}(y:r.den)(h:kI F w d x' x S):kI F w d (q.lo.set x' y) (q.hi.set x y) S:=by
 obtain⟨A,B,h1,h2,h3⟩:=h.out q;exact h2.put q (y':=y) (A:=A) ⟨rfl,h1.2⟩ h3
theorem tG:{d e:DR}->{T:TypeId}->{r:Row}->(p:gu d (.sl T e))->(q:gu d (.leaf r))->{x':d.low.den}->{x:d.row.den}->{S:Nat->Prop}->(y:r.den)->nN F w p x' x S->nN F w p (q.lo.set x' y) (q.hi.set x y) S/\p.lo.get (q.lo.set x' y)=p.lo.get x'
 |_,_,_,_, .fst p, .fst q,_,_,_,y,h=>by
  obtain⟨A,B,h1,h2,h3⟩:=h;obtain⟨g1,g2⟩:=tG p q y h1;exact⟨⟨A,B,g1,h2,h3⟩,g2⟩
 |_,_,_,_, .fst p, .snd q,_,_,_,y,h=>by
  obtain⟨A,B,h1,h2,h3⟩:=h;exact⟨⟨A,B,h1,sx q y h2,h3⟩,rfl⟩
 |_,_,_,_, .snd p, .fst q,_,_,_,y,h=>by
  obtain⟨A,B,h1,h2,h3⟩:=h;exact⟨⟨A,B,sx q y h1,h2,h3⟩,rfl⟩
 |_,_,_,_, .snd p, .snd q,_,_,_,y,h=>by
  obtain⟨A,B,h1,h2,h3⟩:=h;obtain⟨g1,g2⟩:=tG p q y h2;exact⟨⟨A,B,h1,g1,h3⟩,g2⟩
def IJ{d:DR}{h:Option vU}{i:Nat}{x':d.low.den}{x:d.row.den}{S:Nat->Prop}{r:Row}(q:gu d (.leaf r))(y:r.den)(hr:oN H F w d h i x' x S):oN H F w d h i (q.lo.set x' y) (q.hi.set x y) S:=by
 cases h with
 |none=>exact sx q y hr
 |some h=>
  refine⟨λhi=>sx q y (hr.1 hi),λhi=>?_⟩;obtain⟨T',e,p,h1,h2,h3⟩:=hr.2 hi
  grind [tG]
def aL.low(hs:aL U H F w ob n){o s:Nat}{T:TypeId}{dr:DR}{l:List dr.row.den}{h:Option vU}(ho:ob o=aa (s, .deep T dr l h)){v:Value}(hv:H.val o=aa v):
 ∃(lh:List dr.low.den)(Ss:Nat->Nat->Prop),mw 0 F w T dr.low v lh/\lh.length=l.length/\(∀i(h1:i<lh.length)(h2:i<l.length),oN H F w dr h i lh[i] l[i] (Ss i))/\od Ss l.length (bU v) (H.sub s):=by
 obtain⟨v',eR,cL⟩:=hs.obj _ _ _ ho;rw[hv]at eR;obtain rfl:=aiC eR;obtain⟨lh,Ss,h1,h2,h3,h4⟩:=cL.ok;exact⟨lh,Ss,⟨λk hk=>cL.no k (h4.bU k hk),h1⟩,h2,h3,h4⟩
def Path.Ab:{r s:Row}->(p:Path r s)->(x:r.den)->(y:s.den)->p.get (p.set x y)=y
 |_,_, .here,_,_=>rfl
 |_,_, .fst p,x,y=>Path.Ab p x.1 y
 |_,_, .snd p,x,y=>Path.Ab p x.2 y
def nN.Lt:{d e:DR}->(p:gu d e)->{x':d.low.den}->{x:d.row.den}->{S:Nat->Prop}->(y':e.low.den)->nN F w p x' x S->nN F w p (p.lo.set x' y') x S
 |_,_, .here,_,_,_,_,h=>h
 |_,_, .fst p,_,_,_,y',h=>by
  obtain⟨A,B,h1,h2,h3⟩:=h;exact⟨A,B,h1.Lt p y',h2,h3⟩
 |_,_, .snd p,_,_,_,y',h=>by
  obtain⟨A,B,h1,h2,h3⟩:=h;exact⟨A,B,h1,h2.Lt p y',h3⟩
def rD(m:Nat->Prop)(Ss:Nat->Nat->Prop)(c:Nat)(k:Nat):Prop:=m k\/∃i,i<c/\Ss i k
def od.less{Ss:Nat->Nat->Prop}{c:Nat}{m S:Nat->Prop}(h:od Ss c m S)(j:Nat){B:Nat->Prop}(hB:∀k,B k->Ss j k):od (λi=>if i=j then B else Ss i) c m (rD m (λi=>if i=j then B else Ss i) c):=by
 have sub:∀i k,(if i=j then B else Ss i) k->Ss i k:=by
  intro i k hk;by_cases e:i=j
  .grind
  .grind
 exact⟨λk=>Iff.rfl,λi i' k h1 h2 dA h3 h4=>h.two i i' k h1 h2 dA (sub i k h3) (sub i' k h4),λi k h1 h2=>h.out i k h1 (sub i k h2)⟩
def od.B3{Ss:Nat->Nat->Prop}{c:Nat}{m S:Nat->Prop}(h:od Ss c m S)(j:Nat){B:Nat->Prop}(hB:∀k,B k->Ss j k):∀k,rD m (λi=>if i=j then B else Ss i) c k->S k:=by
 rintro k (hk|⟨i,hi,hk⟩)
 .exact h.bU k hk
 .by_cases e:i=j
  .subst e;rw[al rfl]at hk;exact h.part hi k (hB k hk)
  .rw[aj e]at hk;exact h.part hi k hk
def OR{α β:Type}{rel:Nat->α->β->(Nat->Prop)->Prop}{lh:List α}{l:List β}{Ss:Nat->Nat->Prop}{j:Nat}{x':α}{x:β}{B:Nat->Prop}(h:∀i(h1:i<lh.length)(h2:i<l.length),i≠j->rel i lh[i] l[i] (Ss i))(hj:rel j x' x B):
 ∀i(h1:i<(lh.set j x').length)(h2:i<(l.set j x).length),rel i (lh.set j x')[i] (l.set j x)[i] ((λi=>if i=j then B else Ss i) i):=by
 grind
def aK.qE{H:aK}{n:Nat}{S:Nat->Prop}{t:Th}(h:H.con n=ae):H.le ((H.eL n S).bG n t):=(aK.Iv h).trans (aK.gw h)
def lD.Ac(hs:aL U H F w ob n){o s:Nat}{t t':Th}{v0:Value}(ho:ob o=aa (s,t))(hv:H.val o=aa v0)(hb:t'.base=t'){eat:List Nat}(hoe:o∈eat)(S':Nat->Prop)(Of:∀k,fp S' v0 t' k->cx H ob eat k){D:aF}{v:Value}
 (bS:Ext (cx H ob eat) w w')(np:iQ ((H.eL n S').bG n t') F w' S' v0 t')(hd:aE ((H.eL n S').bG n t') F w' D v):mz H F w ob n {dst:=D,eat:=eat,make:=[(o,(n,t'))]} v w':=by
 obtain⟨v1,vx,cL⟩:=hs.obj _ _ _ ho;rw[hv]at vx;obtain rfl:=aiC vx;have hf:=hs.fresh n (aiH _) (by omega)
 have iS:((H.eL n S').bG n t').sub n=S':=by simp[aK.bG,aK.eL]
 refine⟨(H.eL n S').bG n t',F,⟨aK.qE hf.2,bS,λ_ h=>h,λ_ h=> .inl h,λb hb=>ai1 (hs.lt b hb) bS.size⟩,λm hm=>?_,hd,⟨λo' s' q hq=>?_,λo1 o2 s1 s2 q1 q2 u1 u2 dA h1 h2=>?_⟩,λo' h=>?_⟩
 .refine⟨id,λh=>?_⟩;simp[aK.bG,aK.eL,show m≠n from by omega,h]
 .obtain⟨rfl,e⟩:=fk hq;obtain⟨rfl,rfl⟩:=Prod.mk.inj e;refine⟨v0,hv,cL.one,by simp[aK.bG,hb],by grind,λk hk=>?_⟩;rw[iS]at hk;have:=Of k hk;exact⟨hs.fj k this,ai1 (hs.vV k this) bS.size, .inr this⟩
 all_goals grind [fk,ajb]
def rE(T:bj P)(ob:Nat->Option (Nat×Th))(n:Nat)(t:TypeId)(D:aF)(k:ed->Option R):Option R:=
 match find T.und t with
 |none=>ae
 |some kk=>match D with
  | .dlm o d0 i p off=>match ob o with
    |some (_, .deep T0 dr l h)=>bif d0.beq dr then(match dr.path p with
     |some ⟨.leaf r,q⟩=>bif aiJ q.lo.off off&&mS T t kk r.size then(idx l i).bind λx=>k {dst:= .val (kL kk) (.leaf r (q.hi.get x))}else ae
     |some ⟨.sl T' e',q⟩=>bif aiJ q.lo.off off&&mS T t kk 1&& !kL kk then(match h with
       |none=>(idx l i).bind λx=>k {dst:= .val ah (.own n),eat:=[o],make:=[(o,(n, .deep T0 dr l (aa ⟨i,p,n,n+1⟩))),(n,(n+1,II T' e' (q.hi.get x)))]}
       |some hh=>bif oP hh.p p then(if decide (hh.i=i)=af then(idx l i).bind λ_=>k {dst:= .val ah (.own hh.o)}else ae)else ae)else ae
     |_=>ae)else ae
    |_=>ae
  |_=>ae
def B4(hs:aL U H F w ob n){o s:Nat}{T0 T':TypeId}{dr e':DR}{l:List dr.row.den}{i:Int}{p:List Bool}{q:gu dr (.sl T' e')}(hq:dr.path p=aa ⟨_,q⟩)(cM:ob o=aa (s, .deep T0 dr l ae)){v:Value}(hv:H.val o=aa v)
 {j:Nat}(UP:i=(j:Nat))(hj:j<l.length){lh:List dr.low.den}{Ss:Nat->Nat->Prop}(hm:mC F w T0 dr.low v lh)(hlen:lh.length=l.length)(xW:∀i(h1:i<lh.length)(h2:i<l.length),oN H F w dr ae i lh[i] l[i] (Ss i))(dS:od Ss l.length (bU v) (H.sub s)):
 mz H F w ob n {dst:= .val ah (.own n),eat:=[o],make:=[(o,(n, .deep T0 dr l (aa ⟨i,p,n,n+1⟩))),(n,(n+1,II T' e' (q.hi.get l[j])))]} (q.lo.get (lh[j]'(by omega))) w:=by
 have Oh:j<lh.length:=by omega
 obtain⟨v1,vx,cL⟩:=hs.obj _ _ _ cM;rw[hv]at vx;obtain rfl:=aiC vx;obtain⟨A,B,hA,hB,h2⟩:=kI.out q (xW j Oh hj);obtain⟨_,m2,m3⟩:=tF (H:=H) hA;have hBs:∀k,B k->Ss j k:=h2.right;obtain⟨f1,f2⟩:=hs.fresh n (aiH _) (by omega);obtain⟨f3,f4⟩:=hs.fresh (n+1) (by omega) (by omega)
 have Et:o≠n:=λe=>by grind
 generalize Xy:Th.deep T0 dr l (aa ⟨i,p,n,n+1⟩)=t1;generalize UQ:II T' e' (q.hi.get l[j])=t2;generalize hu:q.lo.get lh[j]=u;generalize YD:rD (bU v) (λi=>if i=j then B else Ss i) l.length=So
 have YE:∀k,So k->H.sub s k:=by rw[<-YD];exact dS.B3 j hBs
 have hAS:∀k,A k->H.sub s k:=λk hk=>dS.part hj k (h2.left k hk)
 have hAo:∀k,So k->¬A k:=by
  rw[<-YD]
  rintro k (hk|⟨i',kF,hk⟩) ha
  .exact dS.out j k hj (h2.left k ha) hk
  .by_cases e:i'=j
   .subst e;rw[al rfl]at hk;exact h2.off k ha hk
   .rw[aj e]at hk;exact dS.two i' j k kF hj e hk (h2.left k ha)
 let H1:aK:=⟨λm=>if m=n then aa u else H.val m,λm=>if m=n then aa t1 else if m=n+1 then aa t2 else H.con m,λm=>if m=n then So else if m=n+1 then A else H.sub m⟩
 have hle:H.le H1:=by
  refine⟨λo v ho=>?_,λs t iq=>?_,λs t iq=>?_⟩
  .grind
  .grind
  .grind
 have Xz:H1.val n=aa u:=by simp[H1]
 have ke:∀k,H.sub s k->cx H ob [o] k:=λk hk=>⟨o,by simp,s,_,v,cM,hv,hk⟩
 have lW:u.oneCell'=af:=by rw[<-hu];exact m3
 refine⟨H1,F,⟨hle,⟨rfl,⟨rfl,aiH _⟩,rfl,aiH _,λ_ _ _=>rfl⟩,λ_ h=>h,λ_ h=> .inl h,hs.lt⟩,λm hm=>?_,nB Xz lW,⟨λo' s' t hf=>?_,λo1 o2 s1 s2 q1 q2 u1 u2 dA g1 g2 e1 e2 k hk kG=>?_⟩,λo' mf=>?_⟩
 .grind
 .rw[bd]at hf;split at hf
  .rename_i e;subst e;simp only[aiO,Prod.mk.injEq]at hf;obtain⟨rfl,rfl⟩:=hf
   have Ud:H1.sub n=So:=by simp[H1]
   refine⟨v,hle.val _ _ hv,cL.one,?_,?_,λk hk=>?_⟩
   .rw[<-Xy];simp[H1,Th.base,Xy]
   .rw[Ud,<-Xy,<-YD];refine⟨lh,_,hm,hlen,λi' a b=>?_,dS.less j hBs⟩;have hr:kI F w dr lh[i'] l[i'] (Ss i'):=xW i' a b;refine⟨λhi=>?_,λhi=>?_⟩
    all_goals grind
   .rw[Ud,<-Xy]at hk;have hk:So k:=hk;have:=YE k hk;exact⟨cL.no k this,cL.lt k this, .inr (ke k this)⟩
  .obtain⟨e0,e⟩:=fk hf;obtain⟨rfl,rfl⟩:=Prod.mk.inj e;rw[e0]
   have Ud:H1.sub (n+1)=A:=by simp[H1]
   obtain⟨m1,m2',_⟩:=tF (H:=H1) hA;rw[UQ,hu]at m1 m2';refine⟨u,Xz,lW,?_,by grind,λk hk=>?_⟩
   .rw[<-UQ,wm,UQ];simp[H1]
   .rw[Ud]at hk;have:=hAS k (m2' k hk);exact⟨cL.no k this,cL.lt k this, .inr (ke k this)⟩
 all_goals grind [fp,find,bd]
def Ad{α β:Type}{l:List α}{lh:List β}(h:lh.length=l.length){i:Int}{x:α}(hi:idx l i=aa x):∃j,i=(j:Nat)/\∃(h1:j<lh.length)(h2:j<l.length),x=l[j]/\idx lh i=aa lh[j]:=by
 grind [idx]
def IK(T:bj P){t:TypeId}{D:aF}{x:Operand}{k:ed->Option R}{q:R}(h:rE T ob n t D k=aa q)(hs:aL U H F w ob n)(hx:aE H F w D (ev ρ x)):
 ∃e,k e=aa q/\cE P U H F w ρ ob n ⟨aa d, .load t x,ty,pos,aft,ae⟩ e:=by
 unfold rE at h;split at h
 .cases h
 rename_i kk hu;split at h
 case h_2=>cases h
 rename_i o d0 i p off;split at h
 case h_2=>cases h
 rename_i s T0 dr l hh cM;obtain⟨hd,h'⟩:=aV h;clear h;obtain rfl:=DR.eq_of_beq hd;obtain⟨g,o0,qq,m,cap,e1,e2,e5⟩:=hx;obtain⟨lh,Ss,eK,hlen,xW,dS⟩:=hs.low cM e1;split at h'
 .rename_i r yz z8;obtain⟨h1,h2⟩:=aV h';obtain⟨h1,h3⟩:=cI h1;obtain rfl:=beq_true h1;obtain⟨a,ha,hk⟩:=bind_some h2;obtain⟨j,hj,g1,g2,rfl,pE⟩:=Ad hlen ha;have xO:=(eK.at rfl e2 pE).path yz.lo _ rfl;rw[Ls yz (xW j g1 g2)]at xO;obtain⟨es,hl,OH,hr⟩:=xO;exact⟨_,hk,og T hu e5 hs (s:= .leaf r _) hr OH (kw T h3)⟩
 .rename_i T' e' yz z8;obtain⟨h1,h2⟩:=aV h';obtain⟨h1,h4⟩:=cI h1;obtain⟨h1,h3⟩:=cI h1;obtain rfl:=beq_true h1
  have rC:kL kk=ah:=by simpa using h4
  obtain⟨dd,xP,xL⟩:=(T.und_ok _ _ hu).agg
  have run:∀{j:Nat}(g1:j<lh.length),idx lh i=aa lh[j]->(execOp (ev ρ) ⟨aa d, .load t x,ty,pos,aft,ae⟩).run P w= .ok (.value (yz.lo.get lh[j])) w:=by
   intro j g1 pE;have xO:=(eK.at rfl e2 pE).path yz.lo _ rfl;obtain⟨es,hl,OH,hr,_⟩:=xO;rw[hr]at OH;exact yq xP (xL.trans rC) e5 (OH 0 _ rfl)
  split at h2
  .obtain⟨a,ha,hk⟩:=bind_some h2;obtain⟨j,hj,g1,g2,rfl,pE⟩:=Ad hlen ha;exact⟨_,hk,ct.val (run g1 pE) (B4 hs z8 cM e1 hj g2 eK.2 hlen xW dS)⟩
  .rename_i hh;obtain⟨hp,h3⟩:=aV h2;have hp:=rB hp;split at h3
   case isFalse=>cases h3
   rename_i hi;have hi:hh.i=i:=an hi;obtain⟨a,ha,hk⟩:=bind_some h3;obtain⟨j,hj,g1,g2,rfl,pE⟩:=Ad hlen ha;obtain⟨T'',e'',q'',k1,_,k3⟩:=(xW j g1 g2).2 (hi.trans hj);rw[hp,z8]at k1;cases k1;refine⟨_,hk,bP hs (run g1 pE) (nB k3 ?_)⟩;have xO:=(eK.at rfl e2 pE).path yz.lo _ rfl;obtain⟨es,_,_,_,A,m',c,GN⟩:=xO;rw[GN];rfl
 .cases h'
def UR(T:TypeId):(e:DR)->Th->Option (List e.row.den)
 | .leaf r, .own T1 r1 y=>bif aiJ T1 T then(if h:r1.beq r=af then aa (jH (r:= .slice r1) (s:= .slice r) (aw Row.slice (Row.eq_of_beq h)) y)else ae)else ae
 | .sl T2 e2, .deep T1 (.sl T3 e3) y ae=>bif aiJ T1 T then(if h:(DR.sl T3 e3).beq (.sl T2 e2)=af then aa (DR.eq_of_beq h▸y)else ae)else ae
 | .pair a b, .deep T1 (.pair a1 b1) y ae=>bif aiJ T1 T then(if h:(DR.pair a1 b1).beq (.pair a b)=af then aa (DR.eq_of_beq h▸y)else ae)else ae
 |_,_=>ae
def EQ{T:TypeId}{e:DR}{t:Th}{y:List e.row.den}(h:UR T e t=aa y):t=II T e y:=by
 unfold UR at h;split at h
 .obtain⟨h1,h2⟩:=aV h;split at h2
  .rename_i hb;obtain rfl:=Row.eq_of_beq hb;obtain rfl:=aiC h2;rw[beq_true h1];rfl
  .cases h2
 .obtain⟨h1,h2⟩:=aV h;split at h2
  .rename_i hb;cases DR.eq_of_beq hb;obtain rfl:=aiC h2;rw[beq_true h1];rfl
  .cases h2
 .obtain⟨h1,h2⟩:=aV h;split at h2
  .rename_i hb;cases DR.eq_of_beq hb;obtain rfl:=aiC h2;rw[beq_true h1];rfl
  .cases h2
 .cases h
def Ae(h:Option vU)(i:Int)(p:List Bool):Bool:=
 match h with
 |none=>af
 |some h=>oP h.p p&&decide (h.i=i)
def B5{h:Option vU}{i:Int}{p:List Bool}(hh:Ae h i p=af){dr e:DR}{T:TypeId}{q:gu dr (.sl T e)}(hq:dr.path p=aa ⟨_,q⟩){j:Nat}(hj:i=(j:Nat)){x':dr.low.den}{x:dr.row.den}{S:Nat->Prop}(hr:oN H F w dr h j x' x S):
 ∃B,(∀k,B k->S k)/\nN F w q x' x B:=by
 cases h with
 |none=>
  obtain⟨A,B,_,h2,h3⟩:=kI.out q (show kI F w dr x' x S from hr);exact⟨B,h3.right,h2⟩
 |some h=>
  have h':(oP h.p p&&decide (h.i=i))=af:=hh;obtain⟨h1,h2⟩:=cI h';obtain⟨T',e',q',k1,k2,_⟩:=hr.2 ((an h2).trans hj)
  grind [rB]
def wu{h:Option vU}{i:Int}{p:List Bool}(hh:Ae h i p=af){dr:DR}{j:Nat}(hj:i≠(j:Nat)){x':dr.low.den}{x:dr.row.den}{S:Nat->Prop}(hr:oN H F w dr h j x' x S):kI F w dr x' x S:=by
 cases h with
 |none=>exact hr
 |some h=>
  have h':(oP h.p p&&decide (h.i=i))=af:=hh;obtain⟨h1,h2⟩:=cI h';exact hr.1 (by grind)
end
end
end Go.Proofs.YtfeahmiobbjklaaGreatDoor
section
open _root_.Option renaming none->ae,some->aa
open _root_.Bool renaming true->af
open _root_.Nat renaming beq->aiJ,le_refl->aiH
open _root_.Option.some renaming inj->aiC
open _root_.Go.Value renaming ownBlock->aiY
namespace Go.Proofs.YtfeahmiobbjklaaGreatDoor
open Go Go.RowKit
section
variable {P:Program} {ρ:Nat->Value} {w w':World} {H H':aK} {F F':Nat->Prop} {U:Nat->Prop} {ob:Nat->Option (Nat×Th)} {n:Nat} {R:Type}
variable {op:Op} {ty:TypeId} {pos:String} {aft:Array Edge} {d:Nat}
noncomputable def qF(T:bj P)(ob:Nat->Option (Nat×Th))(n:Nat)(t:TypeId)(D V:aF)(k:ed->Option R):Option R:=
 match find T.row t with
 |none=>ae
 |some rt=>match V with
  | .val _ u=>match D with
    | .dlm o d0 i p off=>match ob o with
      |some (_, .deep T0 dr l h)=>bif d0.beq dr then(match dr.path p with
       |some ⟨.leaf r,q⟩=>bif aiJ q.lo.off off&&aiJ rt.size r.size then(match flat ob r u with
        |some y=>(idx l i).bind λx=>k {dst:= .dead,eat:=[o],make:=[(o,(n, .deep T0 dr (bg l i (q.hi.set x y)) h))]}
        |none=>ae)else ae
       |some ⟨.sl T' e',q⟩=>bif aiJ q.lo.off off&&aiJ rt.size 1 then(match u with
        | .own o1=>match ob o1 with
          |some (_,t1)=>match UR T' e' t1 with
           |some _=>if Ae h i p=af then(idx l i).bind λ_=>k {dst:= .dead,eat:=[o],make:=[(o,(n, .deep T0 dr l (aa ⟨i,p,o1,n⟩)))]}else ae
           |none=>ae
          |none=>ae
        | .nil=>if Ae h i p=af then(idx l i).bind λx=>k {dst:= .dead,eat:=[o],make:=[(o,(n, .deep T0 dr (bg l i (q.hi.set x ([]:List e'.row.den))) ae))]}else ae
        |_=>ae)else ae
       |_=>ae)else ae
      |_=>ae
    |_=>ae
  |_=>ae
def rF(T:bj P){t:TypeId}{rt:Row}(Iw:find T.row t=aa rt){x y:Operand}{o s:Nat}{T0:TypeId}{dr e:DR}{i:Int}{l l':List dr.row.den}{h h':Option vU}{q:gu dr e}{g o0 qq m cap j:Nat}{u:e.low.den}{cs:List Value}{x1:dr.row.den}
 (hs:aL U H F w ob n)(cM:ob o=aa (s, .deep T0 dr l h))(hv:H.val o=aa (.slice (aa ⟨g,o0,ae⟩) m cap))(hj:i=(j:Nat))(ER:j<l.length)(hx:ev ρ x= .pointer (aa ⟨g,o0+qq*dr.low.size+q.lo.off,ae⟩))(hqq:i=(qq:Nat))(hz:rt.size=e.low.size)
 (hr:cS F w e.low cs u)(yA:(ev ρ y).cells.toList=cs)(Oi:l'=l.set j x1)
 (xW:∀{w':World}{H1:aK},H.le H1->Step F w F w'->∀{x':dr.low.den}{S:Nat->Prop},(∀k,S k->w'.heap[k]? =w.heap[k]?)->oN H F w dr h j x' l[j] S->∃B,(∀k,B k->S k)/\oN H1 F w' dr h' j (q.lo.set x' u) x1 B)
 (YF:∀{H1:aK}{w':World}{i':Nat}{x':dr.low.den}{x:dr.row.den}{S:Nat->Prop},i'≠j->oN H1 F w' dr h i' x' x S->oN H1 F w' dr h' i' x' x S):
 cE P U H F w ρ ob n ⟨ae, .store t x y,ty,pos,aft,ae⟩ {dst:= .dead,eat:=[o],make:=[(o,(n, .deep T0 dr l' h'))]}:=by
 obtain⟨ti,z0,h1,_,_,h4,_⟩:=T.row_ok _ _ Iw;obtain⟨lh,Ss,eK,hlen,QL,dS⟩:=hs.low cM hv;obtain⟨v1,vx,cL⟩:=hs.obj _ _ _ cM;rw[hv]at vx;obtain rfl:=aiC vx
 have hjh:j<lh.length:=by omega
 obtain rfl:qq=j:=by omega
 obtain⟨cur,hh,hle,bS,gY⟩:=eK.put rfl hjh hs.lt q.lo hr;generalize hw':w.setRow g (cur.toList.take (o0+qq*dr.low.size+q.lo.off)++cs++cur.toList.drop (o0+qq*dr.low.size+q.lo.off+cs.length)).toArray=w' at bS gY;refine ct.unit (w':=w') (by rw[<-hw'];exact oM h1 (h4.trans (hz.trans hr.length.symm)) hx rfl yA hr.jR hh hle) ?_;have iq:Step F w F w':=Step.ext bS hs.lt eK.no
 have hblk:∀i',i'<l.length->∀k,Ss i' k->w'.heap[k]? =w.heap[k]? :=λi' kF k hk=>bS.block k (cL.lt k (dS.part kF k hk)) (dS.out i' k kF hk)
 have hf:=hs.fresh n (aiH _) (by omega)
 have ke:∀k,H.sub s k->cx H ob [o] k:=λk hk=>⟨o,by simp,s,_,_,cM,hv,hk⟩
 obtain⟨B0,hB0,_⟩:=xW (w':=w') (H1:=H) (aK.le.refl H) iq (hblk qq ER) (QL qq hjh ER)
 have main:∀{H1:aK},H.le H1->∃B,(∀k,B k->Ss qq k)/\oN H1 F w' dr h' qq (q.lo.set lh[qq] u) x1 B:=(by grind)
 have US:∃B,(∀k,B k->Ss qq k)/\∀{H1:aK},H.le H1->oN H1 F w' dr h' qq (q.lo.set lh[qq] u) x1 B:=by
  obtain⟨B,b1,b2⟩:=main (aK.le.refl H);exact⟨B,b1,λOT=>b2.keep OT (Step.refl F w') λ_ _=>rfl⟩
 obtain⟨B,b1,b2⟩:=US;have hSs:∀k,rD (bU (Value.slice (aa ⟨g,o0,ae⟩) m cap)) (λi=>if i=qq then B else Ss i) l.length k->H.sub s k:=dS.B3 qq b1;refine lD.Ac (t':= .deep T0 dr l' h') hs cM hv rfl (by simp) (rD (bU (Value.slice (aa ⟨g,o0,ae⟩) m cap)) (λi=>if i=qq then B else Ss i) l.length) (λk hk=>ke k (hSs k hk)) ⟨bS.os,bS.tape,bS.output,bS.size,λk hk hn=>bS.block k hk λe=>hn (ke k (dS.bU k e))⟩ ?_ trivial;have OT:=aK.qE (H:=H) (S:=rD (bU (Value.slice (aa ⟨g,o0,ae⟩) m cap)) (λi=>if i=qq then B else Ss i) l.length) (t:= .deep T0 dr l' h') hf.2
 have GO:l'.length=l.length:=by rw[Oi];simp
 refine⟨lh.set qq (q.lo.set lh[qq] u),(λi=>if i=qq then B else Ss i),gY.2,by grind,?_,?_⟩
 .intro i' a b
  have:=OR (rel:=oN ((H.eL n (rD (bU (Value.slice (aa ⟨g,o0,ae⟩) m cap)) (λi=>if i=qq then B else Ss i) l.length)).bG n (.deep T0 dr l' h')) F w' dr h') (lh:=lh) (l:=l) (Ss:=Ss) (j:=qq) (x':=q.lo.set lh[qq] u) (x:=x1) (B:=B)
   (λi2 c1 c2 dA=>YF dA ((QL i2 c1 c2).keep OT iq (hblk i2 c2))) (b2 OT) i' a (by grind)
  grind
 .rw[GO];exact dS.less qq b1
def ES(T:bj P){t:TypeId}{D V:aF}{x y:Operand}{k:ed->Option R}{q:R}(h:qF T ob n t D V k=aa q)(hs:aL U H F w ob n)(hx:aE H F w D (ev ρ x))(hy:aE H F w V (ev ρ y)):
 ∃e,k e=aa q/\cE P U H F w ρ ob n ⟨ae, .store t x y,ty,pos,aft,ae⟩ e:=by
 unfold qF at h;split at h
 .cases h
 rename_i rt Iw;split at h
 case h_2=>cases h
 rename_i agg u;split at h
 case h_2=>cases h
 rename_i o d0 i p off;split at h
 case h_2=>cases h
 rename_i s T0 dr l hh cM;obtain⟨hd,h'⟩:=aV h;clear h;obtain rfl:=DR.eq_of_beq hd;obtain⟨g,o0,qq,m,cap,e1,e2,e5⟩:=hx;obtain⟨cs,qw,yA⟩:=aS.cells hy;split at h'
 .rename_i r yz z8;obtain⟨h1,h2⟩:=aV h';obtain⟨h1,h3⟩:=cI h1;obtain rfl:=beq_true h1;split at h2
  case h_2=>cases h2
  rename_i z hz;obtain⟨a,ha,hk⟩:=bind_some h2;obtain⟨j,hj,ER,rfl⟩:=gX ha;refine⟨_,hk,rF (l':=bg l i (yz.hi.set l[j] z)) (x1:=yz.hi.set l[j] z) (u:=z) T Iw hs cM e1 hj ER e5 e2 (beq_true h3) (gO hs hz qw) yA ?_ ?_ ?_⟩
  .unfold bg;grind
  .intro w' H1 hle iq x' S hb hr;exact⟨S,λ_ h=>h,IJ yz z (hr.keep hle iq hb)⟩
  grind
 .rename_i T' e' yz z8;obtain⟨h1,h2⟩:=aV h';obtain⟨h1,h3⟩:=cI h1;obtain rfl:=beq_true h1;split at h2
  .rename_i o1;split at h2
   case h_2=>cases h2
   rename_i s1 t1 Af;split at h2
   case h_2=>cases h2
   rename_i y1 hD;split at h2
   case isFalse=>cases h2
   rename_i B6;obtain⟨a,ha,hk⟩:=bind_some h2;obtain⟨j,hj,ER,rfl⟩:=gX ha;obtain⟨u1,Ku,pA⟩:=hs.obj _ _ _ Af;obtain⟨v,hv,lW,rfl⟩:=qw;rw[Ku]at hv;obtain rfl:=aiC hv
   have YG:cS F w .lz [u1] u1:=by
    have:=pA.ok;rw[EQ hD]at this;obtain⟨lh1,_,g1,_⟩:=wo this;obtain⟨xs,⟨_,hx⟩,_⟩:=g1
    rcases hx with⟨rfl,_⟩|⟨gg,o0,cp,cur,rfl,_⟩<;>exact⟨rfl,_,_,_,rfl⟩
   refine⟨_,hk,rF (l':=l) (x1:=l[j]) (u:=u1) (e:= .sl T' e') T Iw hs cM e1 hj ER e5 e2 (beq_true h3) YG yA ?_ ?_ ?_⟩
   .simp_all
   .intro w' H1 hle iq x' S hb hr;obtain⟨B,b1,b2⟩:=B5 B6 z8 hj hr;refine⟨B,b1,λdA=>absurd hj dA,λ_=>⟨T',e',yz,z8,(b2.keep iq λk hk=>hb k (b1 k hk)).Lt yz u1,?_⟩⟩;rw[Path.Ab];exact hle.val _ _ Ku
   .intro H1 w' i' x' x S dA hr
    have IL:i≠(i':Int):=λe=>dA (by omega)
    exact⟨λ_=>wu B6 IL hr,λe=>absurd e IL⟩
  .split at h2
   case isFalse=>cases h2
   rename_i B6;obtain⟨a,ha,hk⟩:=bind_some h2;obtain⟨j,hj,ER,rfl⟩:=gX ha;have YH:cs=_:=qw;subst YH;refine⟨_,hk,rF (x1:=yz.hi.set l[j] ([]:List e'.row.den)) (u:=Value.slice ae 0 0) (e:= .sl T' e') T Iw hs cM e1 hj ER e5 e2 (beq_true h3) ⟨rfl,_,_,_,rfl⟩ yA ?_ ?_ ?_⟩
   .unfold bg;grind
   .intro w' H1 hle iq x' S hb hr;obtain⟨B,b1,b2⟩:=B5 B6 z8 hj hr;refine⟨B,b1,?_⟩;refine nN.put (e:= .sl T' e') yz (b2.keep iq λk hk=>hb k (b1 k hk)) (A:=λ_=>False) ?_ ⟨λk=>by simp,λ_ h=>h.elim⟩;exact⟨[],λ_ _=>False,mC.nil F w' T' e'.low,rfl,λi h=>absurd h (by simp),⟨λk=>by simp[bU,aiY],λ_ _ _ h=>absurd h (by simp),λ_ _ h=>absurd h (by simp)⟩⟩
   .intro H1 w' i' x' x S dA hr
    have IL:i≠(i':Int):=λe=>dA (by omega)
    exact wu B6 IL hr
  .cases h2
 .cases h'
end
end Go.Proofs.YtfeahmiobbjklaaGreatDoor
namespace Go.Proofs.YtfeahmiobbjklaaGreatDoor
open Go Go.RowKit
def sy{α:Type}(l:List α)(i:Int)(f:α->α):List α:=if 0<=i then l.modify i.toNat f else l
def iU{α:Type}(l:List α)(i:Int)(f:α->α):(sy l i f).length=l.length:=by unfold sy;split<;>simp
def vC{α:Type}{l:List α}{i:Int}{f:α->α}{j:Nat}(h:j<(sy l i f).length)(h':j<l.length):(sy l i f)[j]=if i=(j:Int)then f l[j]else l[j]:=by
 grind [sy]
def Path.Ag:{r s:Row}->(p:Path r s)->(x:r.den)->p.set x (p.get x)=x
 |_,_, .here,_=>rfl
 |_,_, .fst p,x=>by show(p.set x.1 (p.get x.1),x.2)=x;rw[Path.Ag p]
 |_,_, .snd p,x=>by show(x.1,p.set x.2 (p.get x.2))=x;rw[Path.Ag p]
section
variable {P:Program} {ρ:Nat->Value} {w w':World} {H H':aK} {F F':Nat->Prop} {U:Nat->Prop} {ob:Nat->Option (Nat×Th)} {n:Nat} {R:Type}
variable {op:Op} {ty:TypeId} {pos:String} {aft:Array Edge} {d:Nat}
def Lu(ob:Nat->Option (Nat×Th))(n o:Nat):Option ed:=
 match ob o with
 |some (_, .deep T0 dr l (aa h))=>match dr.path h.p with
  |some ⟨.sl T' e',q⟩=>match ob h.o with
   |some (_,t1)=>bif aiJ h.o o then ae else(match UR T' e' t1 with
    |some y=>aa {dst:= .dead,eat:=[o,h.o],make:=[(o,(n, .deep T0 dr (sy l h.i λx=>q.hi.set x y) ae))]}
    |none=>ae)
   |none=>ae
  |_=>ae
 |_=>ae
def IM(hs:aL U H F w ob n){o:Nat}{e:ed}(h:Lu ob n o=aa e):mz H F w ob n e undef w:=by
 unfold Lu at h;split at h
 case h_2=>cases h
 rename_i s T0 dr l hh cM;split at h
 case h_2=>cases h
 rename_i T' e' q hq;split at h
 case h_2=>cases h
 rename_i s1 t1 Af
 cases dA:aiJ hh.o o with
 |true=>grind
 |false=>
  rw[dA,cond_false]at h
  have dA:o≠hh.o:=λe=>by simp_all
  split at h
  case h_2=>cases h
  rename_i y hD;obtain rfl:=aiC h;have hD:=EQ hD;subst hD;obtain⟨v,hv,cL⟩:=hs.obj _ _ _ cM;obtain⟨u,hu,pA⟩:=hs.obj _ _ _ Af;obtain⟨lh,Ss,eK,hlen,xW,dS⟩:=hs.low cM hv;have hA:=wo pA.ok;generalize hAA:(λk=>fp (H.sub s1) u (II T' e' y) k)=A at hA
  have XA:∀k,A k->¬H.sub s k:=λk hk=>by
   rw[<-hAA]at hk
   exact λh2=>hs.apart _ _ _ _ _ _ _ _ dA cM Af hv hu k h2 hk
  have hf:=hs.fresh n (aiH _) (by omega)
  let UT:Nat->Nat->Prop:=λi k=>Ss i k\/(hh.i=(i:Int)/\A k)
  have ke:∀k,H.sub s k\/A k->cx H ob [o,hh.o] k:=by
   rintro k (hk|hk)
   .exact⟨o,by simp,s,_,v,cM,hv,hk⟩
   .rw[<-hAA]at hk;exact⟨hh.o,by simp,s1,_,u,Af,hu,hk⟩
  have hS:∀k,rD (bU v) UT l.length k->H.sub s k\/A k:=by
   rintro k (hk|⟨i,hi,hk|hk⟩)
   .exact .inl (dS.bU k hk)
   .exact .inl (dS.part hi k hk)
   .exact .inr hk.2
  refine lD.Ac (t':= .deep T0 dr (sy l hh.i λx=>q.hi.set x y) ae) hs cM hv rfl (by simp) (rD (bU v) UT l.length) (λk hk=>ke k (hS k hk)) ⟨rfl,⟨rfl,aiH _⟩,rfl,aiH _,λ_ _ _=>rfl⟩ ?_ trivial;have GO:(sy l hh.i λx=>q.hi.set x y).length=l.length:=iU ..;refine⟨lh,UT,eK.2,by grind,λi a b=>?_,?_⟩
  .have b':i<l.length:=by omega
   rw[vC b b'];have hr:=xW i a b'
   by_cases hi:hh.i=(i:Int)
   .rw[al hi];obtain⟨T'',e'',q'',k1,k2,k3⟩:=hr.2 hi;rw[hq]at k1;cases k1;rw[hu]at k3;have k3:=aiC k3;have:kI F w dr (q.lo.set lh[i] u) (q.hi.set l[i] y) (UT i):=k2.put q hA ⟨(by grind),λk hk h2=>XA k hk (dS.part b' k h2)⟩;rw[k3,Path.Ag]at this;exact this
   .rw[aj hi];have hr1:=hr.1 hi
    have:UT i=Ss i:=by
     funext k;exact(by grind)
    rw[this];exact hr1
  .rw[GO];refine⟨λk=>Iff.rfl,λi j k h1 h2 UP h3 h4=>?_,λi k h1 h3 h4=>?_⟩
   .rcases h3 with h3|h3<;>rcases h4 with h4|h4
    .exact dS.two i j k h1 h2 UP h3 h4
    .exact XA k h4.2 (dS.part h1 k h3)
    .exact XA k h3.2 (dS.part h2 k h4)
    grind
   .rcases h3 with h3|h3
    .exact dS.out i k h1 h3 h4
    .exact XA k h3.2 (dS.bU k h4)
end
end Go.Proofs.YtfeahmiobbjklaaGreatDoor
end
namespace Go.Proofs.YtfeahmiobbjklaaGreatDoor
open Go Go.RowKit
set_option maxRecDepth 100000
set_option linter.unusedSimpArgs false
set_option linter.unusedVariables false
set_option linter.defProp false
section
def DR.fi:(d:DR)->d.low.fi=d.row.fi
 | .leaf _=>rfl
 | .sl _ _=>rfl
 | .pair a b=>by show a.low.fi++b.low.fi=a.row.fi++b.row.fi;rw[a.fi,b.fi]
def TI.low{P:Program}{e:TypeId}{d:DR}(h:TI P e d.row):TI P e d.low:=by
 obtain⟨ti,z,h1,h2,h3,h4,h5⟩:=h;exact⟨ti,z,h1,h2,by rw[d.fi];exact h3,by rw[d.size];exact h4,h5⟩
def ET:List Nat->Bool
 |[]=>af
 |o::l=> !l.any (aiJ o)&&ET l
def yF:{l:List Nat}->ET l=af->l.Nodup
 |[],_=>List.nodup_nil
 |o::l,h=>by
  obtain⟨h1,h2⟩:=cI h;refine List.nodup_cons.2 ⟨λhm=>?_,yF h2⟩;rw[any_beq.2 hm]at h1;cases h1
def DR.mk2:DR->DR->DR
 | .leaf a, .leaf b=> .leaf (.pair a b)
 |a,b=> .pair a b
def RS(ob:Nat->Option (Nat×Th)):Row->Tree->DR
 | .slice e, .own o=>match ob o with
   |some (_, .own T r _)=> .sl T (.leaf r)
   |some (_, .deep T d _ ae)=> .sl T d
   |_=> .leaf (.slice e)
 | .pair a b,t=>match t.split with
   |some (x,y)=>DR.mk2 (RS ob a x) (RS ob b y)
   |none=> .leaf (.pair a b)
 |r,_=> .leaf r
def EU(ob:Nat->Option (Nat×Th)):(d:DR)->Tree->Option (d.row.den×List Nat)
 | .leaf r,t=>match flat ob r t with
   |some x=>aa (x,[])
   |none=>ae
 | .sl T e, .own o=>match ob o with
   |some (_,t1)=>match UR T e t1 with
    |some y=>aa (y,[o])
    |none=>ae
   |none=>ae
 | .sl _ _, .nil=>aa ([],[])
 | .sl _ _,_=>ae
 | .pair a b,t=>match t.split with
   |some (x,y)=>match EU ob a x with
    |some (u,os)=>match EU ob b y with
     |some (v,IN)=>aa ((u,v),os++IN)
     |none=>ae
    |none=>ae
   |none=>ae
def GP(ob:Nat->Option (Nat×Th))(d:DR):List aF->Option (List d.row.den×List Nat)
 |[]=>aa ([],[])
 | .val _ u::l=>match EU ob d u with
   |some (x,os)=>match GP ob d l with
    |some (xs,IN)=>aa (x::xs,os++IN)
    |none=>ae
   |none=>ae
 |_::_=>ae
section
variable {P:Program} {ρ:Nat->Value} {w w':World} {H H':aK} {F F':Nat->Prop} {U:Nat->Prop} {ob:Nat->Option (Nat×Th)} {n:Nat} {R:Type}
variable {op:Op} {ty:TypeId} {pos:String} {aft:Array Edge} {d:Nat}
def uB(hs:aL U H F w ob n){os IN:List Nat}(hd:∀o,o∈os->o∉IN):∀k,cx H ob os k->¬cx H ob IN k:=by
 rintro k ⟨o,ho,s,t,v,h1,h2,h3⟩ ⟨o',mf,s',t',v',g1,g2,g3⟩
 exact hs.apart o o' s s' t t' v v' (λe=>hd o ho (e▸mf)) h1 g1 h2 g2 k h3 g3
theorem qG{os IN:List Nat}(h:∀o,o∈os->o∈IN):∀k,cx H ob os k->cx H ob IN k:=λ_ ⟨o,ho,rest⟩=>⟨o,h o ho,rest⟩
def Ah(hs:aL U H F w ob n):{d:DR}->{t:Tree}->{x:d.row.den}->{os:List Nat}->{cs:List Value}->EU ob d t=aa (x,os)->Holds H F w t cs->os.Nodup->∃x' S,cS F w d.low cs x'/\kI F w d x' x S/\∀k,S k->cx H ob os k
 | .leaf r,t,x,os,cs,h,hh,EV=>by
   unfold EU at h
   split at h<;>cases h
   rename_i hf;exact⟨x,λ_=>False,gO hs hf hh,⟨rfl,λ_ h=>h⟩,λ_ h=>h.elim⟩
 | .sl T e, .own o,x,os,cs,h,hh,EV=>by
   unfold EU at h;split at h
   case h_2=>cases h
   rename_i s1 t1 ho
   split at h<;>cases h
   rename_i hD;obtain⟨v,hv,_,rfl⟩:=hh;obtain⟨v',eR,cL⟩:=hs.obj _ _ _ ho;rw[hv]at eR;obtain rfl:=aiC eR;have hD:=EQ hD;subst hD;have hb:=wo cL.ok;refine⟨v,_,?_,hb,λk hk=>⟨o,by simp,s1,_,v,ho,hv,hk⟩⟩;obtain⟨lh1,_,⟨xs,⟨_,hx⟩,_⟩,_⟩:=hb
   rcases hx with⟨rfl,_⟩|⟨gg,o0,cp,cur,rfl,_⟩<;>exact⟨rfl,_,_,_,rfl⟩
 | .sl T e, .nil,x,os,cs,h,hh,_=>by
   cases h;have XB:cs=_:=hh;subst XB;exact⟨.slice ae 0 0,λ_=>False,⟨rfl,_,_,_,rfl⟩,⟨[],λ_ _=>False,mC.nil F w T e.low,rfl,λi h=>absurd h (by simp),⟨λk=>by simp[bU,aiY],λ_ _ _ h=>absurd h (by simp),λ_ _ h=>absurd h (by simp)⟩⟩,λ_ h=>h.elim⟩
 | .pair a b,t,x,os,cs,h,hh,hn=>by
   unfold EU at h;split at h
   case h_2=>cases h
   rename_i t1 t2 u7;split at h
   case h_2=>cases h
   rename_i u os1 h1;split at h
   case h_2=>cases h
   rename_i v os2 h2;cases h;obtain⟨c1,c2,rfl,g1,g2,_⟩:=hh.split u7;obtain⟨n1,n2,n3⟩:=List.nodup_append.1 hn;obtain⟨x1,S1,r1,e1,s1⟩:=Ah hs h1 g1 n1;obtain⟨x2,S2,r2,e2,s2⟩:=Ah hs h2 g2 n2;refine⟨(x1,x2),λk=>S1 k\/S2 k,⟨c1,c2,rfl,r1,r2⟩,⟨S1,S2,e1,e2,λ_=>Iff.rfl,λk hk kG=>uB hs (λo ho mf=>n3 o ho o mf rfl) k (s1 k hk) (s2 k kG)⟩,λk hk=>hk.elim (λhk=>qG (λo ho=>by simp[ho]) k (s1 k hk)) λhk=>qG (λo ho=>by simp[ho]) k (s2 k hk)⟩
 | .sl _ _, .leaf _ _,_,_,_,h,_,_=>by cases h
 | .sl _ _, .pair _ _,_,_,_,h,_,_=>by cases h
 | .sl _ _, .view ..,_,_,_,h,_,_=>by cases h
def B7(hs:aL U H F w ob n){d:DR}:{ds:List aF}->{l:List d.row.den}->{os:List Nat}->{vs:List Value}->GP ob d ds=aa (l,os)->fP H F w ds vs->os.Nodup->
 ∃(lh:List d.low.den)(Ss:Nat->Nat->Prop),vS F w d.low vs lh/\lh.length=l.length/\(∀i(h1:i<lh.length)(h2:i<l.length),kI F w d lh[i] l[i] (Ss i))/\(∀i k,i<l.length->Ss i k->cx H ob os k)/\∀i j k,i<l.length->j<l.length->i≠j->Ss i k->¬Ss j k
 |[],l,os,vs,h,hd,_=>by
  cases h;rw[show vs=[]from hd];exact⟨[],λ_ _=>False, .nil,rfl,λi h=>absurd h (by simp),λ_ _ h=>absurd h (by simp),λ_ _ _ h=>absurd h (by simp)⟩
 | .val _ u::ds,l,os,vs,h,hd,hn=>by
   obtain⟨v,us,rfl,h1,h2⟩:=hd;unfold GP at h;split at h
   case h_2=>cases h
   rename_i x os1 hf;split at h
   case h_2=>cases h
   rename_i xs os2 hg;cases h;obtain⟨cs,qw,yA⟩:=aS.cells h1;obtain⟨n1,n2,n3⟩:=List.nodup_append.1 hn;obtain⟨x',S,r1,e1,s1⟩:=Ah hs hf qw n1;obtain⟨lh,Ss,k1,k2,k3,k4,k5⟩:=B7 hs hg h2 n2
   have ap:∀i k,i<xs.length->S k->¬Ss i k:=λi k hi hk kG=>uB hs (λo ho mf=>n3 o ho o mf rfl) k (s1 k hk) (k4 i k hi kG)
   refine⟨x'::lh,λi=>match i with|0=>S|i+1=>Ss i, .cons yA r1 k1,by simp[k2],λi a b=>?_,λi k hi hk=>?_,λi j k hi hj dA hk kG=>?_⟩
   .grind
   .cases i with
    |zero=>grind [qG]
    |succ i=>grind [qG]
   .cases i with
    |zero=>
     cases j<;>grind
    |succ i=>
     cases j<;>grind
 | .dead::_,_,_,_,h,_,_=>by cases h
 | .undef::_,_,_,_,h,_,_=>by cases h
 | .ptr .. ::_,_,_,_,h,_,_=>by cases h
 | .at .. ::_,_,_,_,h,_,_=>by cases h
 | .elem .. ::_,_,_,_,h,_,_=>by cases h
 | .tup _::_,_,_,_,h,_,_=>by cases h
 | .dlm .. ::_,_,_,_,h,_,_=>by cases h
 | .fn .. ::_,_,_,_,h,_,_=>by cases h
 | .ifc .. ::_,_,_,_,h,_,_=>by cases h
def lD.OU(hs:aL U H F w ob n){eat:List Nat}{t:Th}{v0:Value}{S:Nat->Prop}(hb:t.base=t)(h1:v0.oneCell'=af){D:aF}{v:Value}
 (bS:Ext (cx H ob eat) w w')(np:iQ (((H.eL n S).bG n t).cN n v0) F w' S v0 t)(Of:∀k,fp S v0 t k->¬F k/\k<w'.heap.size/\(w.heap.size<=k\/cx H ob eat k))
 (hd:aE (((H.eL n S).bG n t).cN n v0) F w' D v):mz H F w ob n {dst:=D,eat:=eat,make:=[(n,(n,t))]} v w':=by
 have hf:=hs.fresh n (aiH _) (by omega)
 have iS:(((H.eL n S).bG n t).cN n v0).sub n=S:=by simp[aK.cN,aK.bG,aK.eL]
 refine⟨((H.eL n S).bG n t).cN n v0,F,⟨(aK.qE hf.2).trans (aK.qy (by simp[aK.bG,aK.eL,hf.1])),bS,λ_ h=>h,λ_ h=> .inl h,λb hb=>ai1 (hs.lt b hb) bS.size⟩,λm hm=>?_,hd,⟨λo' s' q hq=>?_,λo1 o2 s1 s2 q1 q2 u1 u2 dA h1 h2=>?_⟩,λo' h=>?_⟩
 .simp[aK.bG,aK.cN,aK.eL,show m≠n from by omega]
 .obtain⟨rfl,e⟩:=fk hq;obtain⟨rfl,rfl⟩:=Prod.mk.inj e;exact⟨v0,by simp[aK.cN],h1,by simp[aK.bG,aK.cN,hb],by rw[iS];exact np,by grind⟩
 .grind [fk]
 .right
  obtain⟨y,hy⟩:=ajb.1 h
  grind [fk]
def Ai(ob:Nat->Option (Nat×Th))(r:Row):List aF->DR
 | .val _ u::_=>RS ob r u
 |_=> .leaf r
def pJ(e:TypeId)(dr:DR)(ob:Nat->Option (Nat×Th))(n:Nat)(ds:List aF)(k:ed->Option R):Option R:=
 match GP ob dr ds with
 |some (l,os)=>bif ET os then k {dst:= .val ah (.own n),eat:=os,make:=[(n,(n,II e dr l))]}else ae
 |none=>ae
def qH(T:bj P)(rd:Operand->Option aF)(ob:Nat->Option (Nat×Th))(n:Nat)(t:TypeId)(m:Nat)(parts:Array (Nat×Operand))(k:ed->Option R):Option R:=
 match find T.und t with
 |some (.slice e)=>match find T.row e with
  |some r=>bif GG 0 parts.toList&&aiJ m parts.toList.length&&Nat.ble (m*r.size) 16777216 then
    (match su rd (parts.toList.map (·.2))with
    |some ds=>bif (Ai ob r ds).row.beq r then pJ e (Ai ob r ds) ob n ds k else ae
    |none=>ae)else ae
  |none=>ae
 |_=>ae
def EW(T:bj P){rd:Operand->Option aF}(gJ:∀x d,rd x=aa d->aE H F w d (ev ρ x)){t:TypeId}{m:Nat}{parts:Array (Nat×Operand)}{k:ed->Option R}{q:R}(h:qH T rd ob n t m parts k=aa q)(hs:aL U H F w ob n):
 ∃e,k e=aa q/\cE P U H F w ρ ob n ⟨aa d, .buildSlice t m parts,ty,pos,aft,ae⟩ e:=by
 unfold qH at h;split at h
 case h_2=>cases h
 rename_i e hu;split at h
 case h_2=>cases h
 rename_i r hr;obtain⟨c0,h8⟩:=aV h;clear h;obtain⟨c1,c3⟩:=cI c0;obtain⟨h1,c2⟩:=cI c1;have h2:=beq_true c2
 have h3:m*r.size<=16777216:=by simpa using c3
 clear c0 c1 c2 c3;split at h8
 case h_2=>cases h8
 rename_i ds xU;obtain⟨UW,h⟩:=aV h8;clear h8;have lz:=Row.eq_of_beq UW;clear UW
 obtain⟨dr,OV⟩:∃dr,dr=Ai ob r ds:=⟨_,rfl⟩
 rw[<-OV]at h lz;clear OV;subst lz;unfold pJ at h;split at h
 case h_2=>cases h
 rename_i l os hl;obtain⟨hn,hk⟩:=aV h;clear h;obtain⟨lh,Ss,k1,k2,k3,k4,k5⟩:=B7 hs hl (oi gJ xU) (yF hn)
 have hp:parts=(((parts.toList.map (·.2)).zipIdx).map λp=>(p.2,p.1)).toArray:=by
  rw[<-wb h1,ajo]
 have hm:m=(parts.toList.map (·.2)).length:=by simpa using h2
 obtain⟨v,w',bD,bS,eK,xT⟩:=wa (d:=d) (ty:=ty) (pos:=pos) (aft:=aft) (T.und_ok _ _ hu) (TI.low (T.row_ok _ _ hr)) hp (by rw[<-hm,DR.size];exact h3) k1 hs;rw[<-hm]at bD;refine⟨_,hk,ct.val bD ?_⟩
 have aH:∀i k,i<l.length->Ss i k->k<w.heap.size:=λi k hi hk=>hs.vV k (k4 i k hi hk)
 have iq:Step F w F w':=λb hb=>⟨hb,(bS λ_=>False).block b (hs.lt b hb) λh=>h⟩
 have dS:od Ss l.length (bU v) (rD (bU v) Ss l.length):=⟨λ_=>Iff.rfl,k5,(by grind)⟩
 have uX:kI F w' (.sl e dr) v l (rD (bU v) Ss l.length):=⟨lh,Ss,eK.2,k2,λi a b=>(k3 i a b).keep iq λk hk=>(bS λ_=>False).block k (aH i k b hk) λh=>h,dS⟩
 have Of:∀k,rD (bU v) Ss l.length k->¬F k/\k<w'.heap.size/\(w.heap.size<=k\/cx H ob os k):=by
  rintro k (hk|⟨i,hi,hk⟩)
  .exact⟨eK.1 k hk,eK.lt k hk, .inl (xT k hk)⟩
  .have:=k4 i k hi hk;exact⟨hs.fj k this,ai1 (hs.vV k this) (bS λ_=>False).size, .inr this⟩
 refine lD.OU (S:=rD (bU v) Ss l.length) (v0:=v) hs (wm ..) (qz eK) (bS _) (tF uX).1 (λk hk=>Of k ((tF (H:=H) uX).2.1 k hk)) (nB (by simp[aK.cN]) (qz eK))
def Aj(T:bj P)(n:Nat)(t:TypeId)(same:Bool)(a b:Int)(k:ed->Option R):Option R:=
 match find T.und t with
 |some (.slice e)=>match find T.row e with
  |some (.slice r)=>match find T.und e with
   |some (.slice e')=>(bif same then nu a ([]:List r.den)else Xv a b ([]:List r.den)).bind λl=>k {dst:= .val ah (.own n),make:=[(n,(n, .deep e (.sl e' (.leaf r)) l ae))]}
   |_=>ae
  |_=>v8 T n t same a b k
 |_=>ae
def yG{e e' t:TypeId}{r:Row}{a b:Int}(ht:P.underlying t=aa (.slice e))(yx:TI P e (.slice r))(hs:aL U H F w ob n){ka kb:IntKind}{x y:Operand}(hx:ev ρ x= .int ka a)(hy:ev ρ y= .int kb b)(h0:0<=a)(h1:a<=b)(h2:b<=4294967296):
 cE P U H F w ρ ob n ⟨aa d, .makeSlice t x y,ty,pos,aft,ae⟩ {dst:= .val ah (.own n),make:=[(n,(n, .deep e (.sl e' (.leaf r)) (aiG a.toNat ([]:List r.den)) ae))]}:=by
 obtain⟨v,w',bD,bS,eK,xT⟩:=yB (d:=d) (ty:=ty) (pos:=pos) (aft:=aft) (r:= .lz) ht (TI.low (d:= .sl e' (.leaf r)) yx) hs hx hy h0 h1 h2
 have uX:kI F w' (.sl e (.sl e' (.leaf r))) v (aiG a.toNat ([]:List r.den)) (bU v):=by
  refine⟨aiG a.toNat (Value.slice ae 0 0),λ_ _=>False,eK.2,by simp,λi h1 h2=>?_,⟨λk=>by simp,λ_ _ _ _ _ _ h=>h.elim,λ_ _ _ h=>h.elim⟩⟩;simp only[List.getElem_replicate];exact⟨[],λ_ _=>False,mC.nil F w' e' r,rfl,λi h=>absurd h (by simp),⟨λk=>by simp[bU,aiY],λ_ _ _ h=>absurd h (by simp),λ_ _ h=>absurd h (by simp)⟩⟩
 refine ct.val bD (lD.OU (S:=bU v) (v0:=v) (eat:=[]) (t:=II e (.sl e' (.leaf r)) (aiG a.toNat ([]:List r.den))) hs (wm ..) (qz eK) (bS _) (tF uX).1 (λk hk=>?_) (nB (by simp[aK.cN]) (qz eK)));have hk:=(tF (H:=H) uX).2.1 k hk;exact⟨eK.1 k hk,eK.lt k hk, .inl (xT k hk)⟩
def IP(T:bj P){t:TypeId}{a b:Int}{ka kb:IntKind}{x y:Operand}{k:ed->Option R}{q:R}(h:Aj T n t (pH x y) a b k=aa q)(hs:aL U H F w ob n)(hx:ev ρ x= .int ka a)(hy:ev ρ y= .int kb b):
 ∃e,k e=aa q/\cE P U H F w ρ ob n ⟨aa d, .makeSlice t x y,ty,pos,aft,ae⟩ e:=by
 unfold Aj at h;split at h
 case h_2=>cases h
 rename_i e hu;split at h
 case h_2=>exact BP T h hs hx hy
 rename_i r hr;split at h
 case h_2=>cases h
 rename_i e' GN;obtain⟨l,hl,hk⟩:=bind_some h;have yx:=T.row_ok _ _ hr;have ht:=T.und_ok _ _ hu
 cases fO:pH x y with
 |true=>
  rw[fO,cond_true]at hl;unfold nu at hl;split at hl
  case isFalse=>cases hl
  rename_i hc;obtain rfl:=aiC hl;obtain rfl:=yC fO hx hy;exact⟨_,hk,yG ht yx hs hx hy hc.1 (ajz _) hc.2⟩
 |false=>
  rw[fO,cond_false]at hl;unfold Xv at hl;split at hl
  case isFalse=>cases hl
  rename_i hc;obtain rfl:=aiC hl;exact⟨_,hk,yG ht yx hs hx hy hc.1 hc.2.1 hc.2.2⟩
def wv(deep:Bool)(T:bj P)(n:Nat)(t:TypeId)(same:Bool)(a b:Int)(k:ed->Option R):Option R:=
 match deep with
 |true=>Aj T n t same a b k
 |false=>v8 T n t same a b k
def IQ(deep:Bool)(T:bj P){t:TypeId}{a b:Int}{ka kb:IntKind}{x y:Operand}{k:ed->Option R}{q:R}(h:wv deep T n t (pH x y) a b k=aa q)(hs:aL U H F w ob n)(hx:ev ρ x= .int ka a)(hy:ev ρ y= .int kb b):
 ∃e,k e=aa q/\cE P U H F w ρ ob n ⟨aa d, .makeSlice t x y,ty,pos,aft,ae⟩ e:=by
 cases deep with
 |true=>exact IP T h hs hx hy
 |false=>exact BP T h hs hx hy
def pK(T:bj P)(ob:Nat->Option (Nat×Th))(n:Nat)(t:TypeId)(D:aF)(k:ed->Option R):Option R:=
 match D with
 | .dlm .. =>rE T ob n t D k
 |_=>yy T ob t D k
def IR(T:bj P){t:TypeId}{D:aF}{x:Operand}{k:ed->Option R}{q:R}(h:pK T ob n t D k=aa q)(hs:aL U H F w ob n)(hx:aE H F w D (ev ρ x)):
 ∃e,k e=aa q/\cE P U H F w ρ ob n ⟨aa d, .load t x,ty,pos,aft,ae⟩ e:=by
 unfold pK at h;split at h
 .exact IK T h hs hx
 .exact Lj T h hs hx
noncomputable def qI(T:bj P)(ob:Nat->Option (Nat×Th))(n:Nat)(t:TypeId)(D V:aF)(k:ed->Option R):Option R:=
 match D with
 | .dlm .. =>qF T ob n t D V k
 |_=>tv T ob n t D V k
def EX(T:bj P){t:TypeId}{D V:aF}{x y:Operand}{k:ed->Option R}{q:R}(h:qI T ob n t D V k=aa q)(hs:aL U H F w ob n)(hx:aE H F w D (ev ρ x))(hy:aE H F w V (ev ρ y)):
 ∃e,k e=aa q/\cE P U H F w ρ ob n ⟨ae, .store t x y,ty,pos,aft,ae⟩ e:=by
 unfold qI at h;split at h
 .exact ES T h hs hx hy
 .exact Ix T h hs hx hy
def vD(deep:Bool)(T:bj P)(rd:Operand->Option aF)(ob:Nat->Option (Nat×Th))(n:Nat)(t:TypeId)(m:Nat)(parts:Array (Nat×Operand))(k:ed->Option R):Option R:=
 match deep with
 |true=>qH T rd ob n t m parts k
 |false=>kz T rd ob n t m parts k
def EY(deep:Bool)(T:bj P){rd:Operand->Option aF}(gJ:∀x d,rd x=aa d->aE H F w d (ev ρ x)){t:TypeId}{m:Nat}{parts:Array (Nat×Operand)}{k:ed->Option R}{q:R}(h:vD deep T rd ob n t m parts k=aa q)(hs:aL U H F w ob n):
 ∃e,k e=aa q/\cE P U H F w ρ ob n ⟨aa d, .buildSlice t m parts,ty,pos,aft,ae⟩ e:=by
 cases deep with
 |true=>exact EW T gJ h hs
 |false=>exact wc T gJ h hs
end
end
end Go.Proofs.YtfeahmiobbjklaaGreatDoor
