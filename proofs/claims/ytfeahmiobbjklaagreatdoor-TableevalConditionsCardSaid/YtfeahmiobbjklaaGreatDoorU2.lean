/- Joined texts: Effs2 Effs3 Effs4 Effs5 Effs6 Effs8 Effs9. -/
import Derived.Test.YtfeahmiobbjklaaGreatDoorU1
import Derived.Carry
set_option linter.defProp false
open _root_.Bool renaming false->ag,true->af
open _root_.Option renaming none->ae,some->aa,isSome_iff_exists->agY
open _root_.Array renaming toArray_toList->ahd,getElem?_eq_some_iff->agZ
open _root_.Int renaming eq_ofNat_of_zero_le->aha,le_refl->ahp,natCast_mul->ag1,toNat_natCast->agE,tdiv->agC,tmod->agD
open _root_.List renaming replicate->agv
open _root_.Nat renaming beq->agu,le_refl->agt,le_trans->agR,mul_le_mul_right->agA,add_mul->agP,min_eq_left->ahs,zero_add->agX,lt_of_lt_of_le->agK
open _root_.Option.some renaming inj->agq,injEq->agz
open _root_.Go.Result renaming andThen_ok->ahh,andThen->agB
open _root_.Go.Sem renaming run_bind->agL
open _root_.Go.Value renaming ownBlock->agI,int->ahb
open _root_.Go.IntKind renaming bits->ahL
open _root_.List.cons renaming injEq->ahl
open _root_.Go.Value.slice renaming injEq->ahH
open _root_.Go.Instr renaming findNow->ahe,lookup->ahU,mapUpdate->aht
open _root_.Go.MapKept renaming run_checkKey->ahw,run_findKey->ahB,run_getObj_map->ag3,run_setObj_map->ahA
section
open _root_.Bool renaming false->ag,true->af
open _root_.Option renaming none->ae,some->aa,isSome_iff_exists->agY
open _root_.Array renaming toArray_toList->ahd
open _root_.Int renaming toNat_natCast->agE
open _root_.Nat renaming beq->agu,blt->agW,le_refl->agt,lt_of_lt_of_le->agK
open _root_.Option.some renaming inj->agq,injEq->agz
open _root_.Go.Value renaming oneCell'->ahz
namespace Go.Proofs.YtfeahmiobbjklaaGreatDoor
open Go Go.RowKit
section
variable {P:Program} {ρ:Nat->Value} {w w':World} {H H':aG} {F F':Nat->Prop} {U:Nat->Prop} {ob:Nat->Option (Nat×Th)} {n:Nat} {R:Type}
variable {op:Op} {ty:TypeId} {pos:String} {aft:Array Edge} {d:Nat}
def aI.box(hs:aI U H F w ob n){o s:Nat}{T:TypeId}{t:Tree}(ho:ob o=aa (s, .box T t)){b:Nat}(hb:H.val o=aa (.pointer (aa ⟨b,0,ae⟩))):
 ∃es,w.heap[b]? =aa (.cells es.toArray T (0,0))/\Holds H F w t es:=by
 obtain⟨v,hv,hi⟩:=hs.obj _ _ _ ho;rw[hb]at hv;obtain rfl:=agq hv;obtain⟨b',es,e,h1,h2⟩:=hi.ok
 grind
def aI.own(hs:aI U H F w ob n){o s:Nat}{T:TypeId}{r:Row}{l:List r.den}(ho:ob o=aa (s, .own T r l)){v:Value}(hv:H.val o=aa v):lJ 0 F w T r v l:=by
 obtain⟨v',dX,hi⟩:=hs.obj _ _ _ ho;rw[hv]at dX;obtain rfl:=agq dX;exact⟨hi.no,hi.ok⟩
def Ao{fs:List (TypeId×Nat)}{arr:Array Field}(ha:arr.toList.map (λf=>(f.type,f.offset))=fs){f:Nat}{ft:TypeId}{off:Nat}(hf:fs[f]? =aa (ft,off)):∃fd,arr[f]? =aa fd/\fd.type=ft/\fd.offset=off:=by
 grind
def sub(r:Row)(x:r.den)(p:List Bool):Option ((s:Row)×s.den×Nat):=
 match Tree.get (.leaf r x) p with
 |some (.leaf s y,off)=>aa ⟨s,y,off⟩
 |_=>ae
def Da{r s:Row}{x:r.den}{y:s.den}{p:List Bool}{off b k:Nat}(h:sub r x p=aa ⟨s,y,off⟩)(ha:At F w r b k x):At F w s b (k+off) y:=by
 unfold sub at h;split at h
 .rename_i s' y' dK hg;simp only[agz,Sigma.mk.injEq]at h;obtain⟨rfl,h⟩:=h;obtain⟨rfl,rfl⟩:=Prod.mk.inj (eq_of_heq h);obtain⟨es,hl,hc,hr⟩:=ha;obtain⟨g1,g2⟩:=Holds.get (H:=⟨λ_=>ae,λ_=>ae,λ_ _=>False⟩) (F:=F) (w:=w) (cs:=es) hg hr;have Vk:cF F w s' ((es.drop dK).take s'.size) y':=g1;refine⟨_,Vk.length,λj u hu=>?_,Vk⟩
  grind
 .cases h
def Db(T:aX P)(t:TypeId)(f:Nat)(D:aC):Option aC:=
 match find T.und t with
 |some (.struct fs)=>match fs[f]? with
  |some (ft,off)=>match find T.row ft with
   |some _=>match D with
    | .ptr o p k=>aa (.ptr o (p++rI fs.length f) (k+off))
    | .at r x=>match sub r x (rI fs.length f)with
      |some ⟨s,y,dK⟩=>bif agu dK off then aa (.at s y)else ae
      |none=>ae
    | .elem o s r i x p k=>aa (.elem o s r i x (p++rI fs.length f) (k+off))
    | .dlm o d i p k=>aa (.dlm o d i (p++rI fs.length f) (k+off))
    |_=>ae
   |none=>ae
  |none=>ae
 |_=>ae
theorem beq_true{m k:Nat}(h:agu m k=af):m=k:=Nat.eq_of_beq_eq_true h
def rJ{α:Type}{b:Bool}{x:α}{y:α}(h:(bif b then aa x else ae)=aa y):b=af/\x=y:=by
 grind
def GH(T:aX P){t:TypeId}{f:Nat}{D D':aC}{x:Operand}(h:Db T t f D=aa D')(hs:aI U H F w ob n)(hx:aB H F w D (ev ρ x)):
 cd P U H F w ρ ob n ⟨aa d, .fieldAddr t x f,ty,pos,aft,ae⟩ {dst:=D'}:=by
 unfold Db at h;split at h
 case h_2=>cases h
 rename_i fs hu;obtain⟨arr,Dc,Mh⟩:=T.und_ok _ _ hu;split at h
 case h_2=>cases h
 rename_i ft off hf;obtain⟨fd,QU,rfl,rfl⟩:=Ao Mh hf;split at h
 case h_2=>cases h
 rename_i r' LP;have rK:=T.row_ok _ _ LP;split at h
 .obtain rfl:=agq h;obtain⟨b,h1,h2⟩:=hx;exact aQ hs (mC (r:=r') fd.offset Dc QU rK rfl h2) ⟨b,h1,rfl⟩
 .split at h
  .rename_i s y dK gZ;obtain⟨h1,rfl⟩:=rJ h;obtain rfl:=beq_true h1;obtain⟨b,k,h2,h3,h4⟩:=hx;exact aQ hs (mC (r:=r') fd.offset Dc QU rK rfl h2) ⟨b,_,rfl,h3,Da gZ h4⟩
  .cases h
 .obtain rfl:=agq h;obtain⟨g,o0,q,T',m,cap,l,h1,h2,h3,h4,h5⟩:=hx;exact aQ hs (mC (r:=r') fd.offset Dc QU rK rfl h5) ⟨g,o0,q,T',m,cap,l,h1,h2,h3,h4,by grind⟩
 .obtain rfl:=agq h;obtain⟨g,o0,q,m,cap,h1,h2,h5⟩:=hx;exact aQ hs (mC (r:=r') fd.offset Dc QU rK rfl h5) ⟨g,o0,q,m,cap,h1,h2,by grind⟩
 .cases h
def cF.elemAt{r:Row}{v:Value}{l:List r.den}(h:cF F w (.slice r) [v] l){i:Int}{y:r.den}(hi:idx l i=aa y):
 ∃b off cap k,v= .slice (aa ⟨b,off,ae⟩) l.length cap/\i=(k:Nat)/\k<l.length/\F b/\At F w r b (off+k*r.size) y:=by
 obtain⟨A,cap,hv,_,_,h4⟩:=h;obtain⟨k,hk,bi,rfl⟩:=gw hi;obtain⟨b,off,es,rfl,hF,uh,hc,hr⟩:=h4 k bi;exact⟨b,off,cap,k,by simpa using hv,hk,bi,hF,es,uh,hc,hr⟩
inductive Js where
 |read (r:Row) (l:List r.den)
 |own (o s:Nat) (T:TypeId) (r:Row) (l:List r.den)
 |nil
 |view (o s:Nat) (r:Row) (l:List r.den)
 |deep (o s:Nat) (T:TypeId) (d:DR) (l:List d.row.den) (h:Option vc)
def uu(ob:Nat->Option (Nat×Th)):aC->Option Js
 | .val ag (.leaf (.slice r) l)=>aa (.read r l)
 | .val ag .nil=>aa .nil
 | .val ag (.own o)=>match ob o with
   |some (s, .own T r l)=>aa (.own o s T r l)
   |some (_, .um _ r l)=>aa (.read r l)
   |some (_, .fdeep _ d l)=>aa (.read d.row l)
   |some (s, .deep T d l h)=>aa (.deep o s T d l h)
   |_=>ae
 | .val ag (.view o s r m)=>match ob o with
   |some (s', .um ..)=>bif agu s' s then aa (.read r m)else aa (.view o s r m)
   |_=>aa (.view o s r m)
 |_=>ae
def Mi(U:Nat->Prop)(H:aG)(F:Nat->Prop)(w:World)(ob:Nat->Option (Nat×Th))(v:Value):Js->Prop
 | .read r l=>cF F w (.slice r) [v] l
 | .own o s T r l=>H.val o=aa v/\ob o=aa (s, .own T r l)/\lJ 0 F w T r v l
 | .nil=>v= .slice ae 0 0
 | .view o s r m=>lF H o s r m v
 | .deep o s T d l h=>H.val o=aa v/\ob o=aa (s, .deep T d l h)/\C5 U H F w v s (.deep T d l h)
def iB(hs:aI U H F w ob n){D:aC}{k:Js}{v:Value}(h:uu ob D=aa k)(hd:aB H F w D v):Mi U H F w ob v k:=by
 unfold uu at h;split at h
 .cases h;exact aO.inv hd
 .cases h;obtain⟨cs,h1,_,h3⟩:=hd;have C7:cs=_:=h1
  grind [Mi]
 .rename_i o;obtain⟨cs,⟨u,hu,Dc,e⟩,_,h3⟩:=hd;rw[h3 rfl]at e
  obtain rfl:v=u:=by simpa using e
  split at h
  .rename_i s T r l vh;cases h;exact⟨hu,vh,hs.own vh hu⟩
  .rename_i s T r l vh;cases h;obtain⟨v',dX,hi⟩:=hs.obj _ _ _ vh;rw[hu]at dX;obtain rfl:=agq dX;exact hi.ok
  .rename_i s T d l vh;cases h;obtain⟨v',dX,hi⟩:=hs.obj _ _ _ vh;rw[hu]at dX;obtain rfl:=agq dX;exact hi.ok
  .rename_i s T d l h' vh;cases h;obtain⟨v',dX,hi⟩:=hs.obj _ _ _ vh;rw[hu]at dX;obtain rfl:=agq dX;exact⟨hu,vh,hi⟩
  .cases h
 .rename_i o s r m;obtain⟨cs,⟨u,e,hu⟩,_,h3⟩:=hd;rw[h3 rfl]at e
  obtain rfl:v=u:=by simpa using e
  split at h
  .rename_i s' T r' l' vh
   cases hb:agu s' s with
   |false=>rw[hb]at h;cases h;exact hu
   |true=>
    rw[hb]at h;obtain rfl:=Nat.eq_of_beq_eq_true hb;cases h;exact xn hs vh hu
  .cases h;exact hu
 .cases h
def lG:Nat->(r:Row)->r.den->(e:Row)->Option (List e.den)
 |1,r,x,e=>if h:r.beq e=af then aa [ja (Row.eq_of_beq h) x]else ae
 |m+2, .pair a b,x,e=>if h:a.beq e=af then(match lG (m+1) b x.2 e with
  |some l=>aa (ja (Row.eq_of_beq h) x.1::l)
  |none=>ae)else ae
 |_,_,_,_=>ae
def ET{e:Row}{b:Nat}:{m:Nat}->{r:Row}->{x:r.den}->{l:List e.den}->{off:Nat}->lG m r x e=aa l->At F w r b off x->l.length=m/\∀i(h:i<l.length),At F w e b (off+i*e.size) l[i]
 |0,r,x,l,off,h,_=>by unfold lG at h;cases h
 |1,r,x,l,off,h,ha=>by
  unfold lG at h;split at h
  case isFalse=>cases h
  rename_i hb;obtain rfl:=Row.eq_of_beq hb;obtain rfl:=agq h;refine⟨rfl,λi hi=>?_⟩
  obtain rfl:i=0:=by grind
  rw[Nat.zero_mul,Nat.add_zero];exact ha
 |m+2, .pair a b',x,l,off,h,ha=>by
  unfold lG at h;split at h
  case isFalse=>cases h
  rename_i hb;obtain rfl:=Row.eq_of_beq hb;split at h
  case h_2=>cases h
  rename_i l' hl;obtain rfl:=agq h;obtain⟨g1,g2⟩:=ET hl (ha.snd _ rfl);refine⟨by simp[g1],λi hi=>?_⟩
  cases i with
  |zero=>
   rw[Nat.zero_mul,Nat.add_zero];exact ha.fst
  |succ i=>
   grind
 |m+2, .int _,_,_,_,h,_=>by unfold lG at h;cases h
 |m+2, .bool,_,_,_,h,_=>by unfold lG at h;cases h
 |m+2, .str,_,_,_,h,_=>by unfold lG at h;cases h
 |m+2, .slice _,_,_,_,h,_=>by unfold lG at h;cases h
 |m+2, .lE,_,_,_,h,_=>by unfold lG at h;cases h
 |m+2, .nul _,_,_,_,h,_=>by unfold lG at h;cases h
 |m+2, .map ..,_,_,_,h,_=>by unfold lG at h;cases h
def qH{t e:TypeId}{x y:Operand}{kd:IntKind}{a:Int}{ti:TypeInfo}{m nA off i:Nat}(size:Nat)(ht:P.underlying t=aa (.array m e))(hi:P.info? e=aa ti)(mz:ti.size=size)
 (hx:ev ρ x= .pointer (aa ⟨nA,off,ae⟩))(hy:ev ρ y= .int kd a)(ha:a=(i:Int))(bi:i<m):
 Pure P ρ ⟨aa d, .indexAddr t x y,ty,pos,aft,ae⟩ (.pointer (aa ⟨nA,off+i*size,ae⟩)):=λw=>by
 subst mz;subst ha;simp[execOp,Instr.indexAt,Instr.sureAddr,asIntOf,run_underlying ht,sizeOf,typeInfo,hi,hx,hy,bi,cU]
def EU{α:Type}{b:Bool}{x:Option α}{y:α}(h:(bif b then x else ae)=aa y):b=af/\x=aa y:=by
 grind
def p5(T:aX P)(m:Nat)(e:TypeId)(D:aC)(i:Int)(k:dF->Option R):Option R:=
 match find T.row e with
 |some re=>match D with
  | .at r x=>match lG m r x re with
    |some l=>(idx l i).bind λy=>k {dst:= .at re y}
    |none=>ae
  | .ptr o p off=>match i with
    | .ofNat j=>bif agW j m then k {dst:= .ptr o (p++rI m j) (off+j*re.size)}else ae
    | .negSucc _=>ae
  |_=>ae
 |none=>ae
def Dd(T:aX P){t:TypeId}{m:Nat}{e:TypeId}(hu:P.underlying t=aa (.array m e)){D:aC}{x y:Operand}{kd:IntKind}{i:Int}{k:dF->Option R}{q:R}(h:p5 T m e D i k=aa q)(hs:aI U H F w ob n)(hx:aB H F w D (ev ρ x))(hy:ev ρ y= .int kd i):
 ∃e,k e=aa q/\cd P U H F w ρ ob n ⟨aa d, .indexAddr t x y,ty,pos,aft,ae⟩ e:=by
 unfold p5 at h;split at h
 case h_2=>cases h
 rename_i re hr;obtain⟨ti,z,h1,_,_,h4,_⟩:=T.row_ok _ _ hr;split at h
 case h_3=>cases h
 case h_2=>
  split at h
  case h_2=>cases h
  rename_i o p off _ j;obtain⟨bi,hk⟩:=EU h
  have bi:j<m:=by simpa using bi
  obtain⟨b,hb,hv⟩:=hx;exact⟨_,hk,aQ hs (qH re.size hu h1 h4 hv hy rfl bi) ⟨b,hb,rfl⟩⟩
 rename_i r v;split at h
 case h_2=>cases h
 rename_i l hl;obtain⟨a,ha,hk⟩:=bind_some h;obtain⟨b,off,hv,hF,CP⟩:=hx;obtain⟨g1,g2⟩:=ET hl CP;obtain⟨j,hj,bi,rfl⟩:=gw ha;exact⟨_,hk,aQ hs (qH re.size hu h1 h4 hv hy hj (by omega)) ⟨b,_,rfl,hF,g2 j bi⟩⟩
def sJ(T:aX P)(ob:Nat->Option (Nat×Th))(t:TypeId)(D:aC)(i:Int)(k:dF->Option R):Option R:=
 match find T.und t with
 |some (.slice e)=>match find T.row e with
  |some re=>match uu ob D with
   |some (.read r l)=>bif agu r.size re.size then(idx l i).bind λx=>k {dst:= .at r x}else ae
   |some (.own o s _ r l)=>bif agu r.size re.size then(idx l i).bind λx=>k {dst:= .elem o s r i x [] 0}else ae
   |some (.deep o _ _ d l _)=>bif agu d.low.size re.size then(idx l i).bind λ_=>k {dst:= .dlm o d i [] 0}else ae
   |_=>ae
  |none=>ae
 |some (.array m e)=>p5 T m e D i k
 |_=>ae
def GI(T:aX P){t:TypeId}{D:aC}{x y:Operand}{kd:IntKind}{i:Int}{k:dF->Option R}{q:R}(h:sJ T ob t D i k=aa q)(hs:aI U H F w ob n)(hx:aB H F w D (ev ρ x))(hy:ev ρ y= .int kd i):
 ∃e,k e=aa q/\cd P U H F w ρ ob n ⟨aa d, .indexAddr t x y,ty,pos,aft,ae⟩ e:=by
 unfold sJ at h;split at h
 case h_3=>cases h
 case h_2=>rename_i m e hu;exact Dd T (T.und_ok _ _ hu) h hs hx hy
 rename_i e hu;have hu:=T.und_ok _ _ hu;split at h
 case h_2=>cases h
 rename_i re hr;obtain⟨ti,z,h1,_,_,h4,_⟩:=T.row_ok _ _ hr;split at h
 .rename_i r l gE
  cases hz:agu r.size re.size with
  |false=>grind
  |true=>
   rw[hz,cond_true]at h;have hz:=beq_true hz;obtain⟨a,ha,hk⟩:=bind_some h;have gE:=iB hs gE hx;obtain⟨b,off,cap,j,hv,hj,bi,hF,CP⟩:=cF.elemAt gE ha;refine⟨_,hk,aQ hs (lZ r.size hu h1 (h4.trans hz.symm) hv hy hj bi) ⟨b,_,rfl,hF,CP⟩⟩
 .rename_i o s T' r l gE
  cases hz:agu r.size re.size with
  |false=>grind
  |true=>
   rw[hz,cond_true]at h;have hz:=beq_true hz;obtain⟨a,ha,hk⟩:=bind_some h;obtain⟨hv,cA,dS⟩:=iB hs gE hx;obtain⟨v',dX,cL⟩:=hs.obj _ _ _ cA;obtain⟨j,hj,bi,hja⟩:=gw ha;obtain⟨_,xs,ES,_⟩:=dS
   rcases ES.2 with⟨Jt,h0⟩|⟨g,o0,cap,cur,GJ,_,_,_⟩
   .omega
   .have hp:=lZ (P:=P) (d:=aa d) (ty:=ty) (pos:=pos) (aft:=aft) r.size hu h1 (h4.trans hz.symm) GJ hy hj bi;refine⟨_,hk,aQ hs hp ⟨g,o0,j,T',l.length,cap,l,?_,hj,cL.con,ha,rfl⟩⟩
    grind
 .rename_i o s T' d' l hh gE;obtain⟨hz,h⟩:=EU h;have hz:=beq_true hz;obtain⟨a,ha,hk⟩:=bind_some h;obtain⟨hv,cA,cL⟩:=iB hs gE hx;obtain⟨j,hj,bi,hja⟩:=gw ha;obtain⟨lh,_,⟨xs,ES,_⟩,Rq,_⟩:=cL.ok
  rcases ES.2 with⟨Jt,h0⟩|⟨g,o0,cap,cur,GJ,_,_,_⟩
  .omega
  .have hp:=lZ (P:=P) (d:=aa d) (ty:=ty) (pos:=pos) (aft:=aft) d'.low.size hu h1 (h4.trans hz.symm) GJ hy hj (by omega);refine⟨_,hk,aQ hs hp ⟨g,o0,j,lh.length,cap,?_,hj,rfl⟩⟩
   grind
 .cases h
theorem vi{b:Nat}{T:TypeId}{es:List Value}(hh:w.heap[b]? =aa (.cells es.toArray T (0,0)))(j:Nat):w.cell? ⟨b,j,ae⟩=es[j]? :=by
 rw[cell_of_row w b j _ T (0,0) hh];simp
theorem nF(T:aX P){t:TypeId}{kk:IE}(hu:find T.und t=aa kk){x:Operand}{b off:Nat}{s:Tree}{cs:List Value}(hx:ev ρ x= .pointer (aa ⟨b,off,ae⟩))(hs:aI U H F w ob n)
 (hh:Holds H F w s cs)(hc:∀j u,cs[j]? =aa u->w.cell? ⟨b,off+j,ae⟩=aa u)
 (hz:if jN kk=af then∃r,find T.row t=aa r/\r.size=s.size else s.size=1):
 cd P U H F w ρ ob n ⟨aa d, .load t x,ty,pos,aft,ae⟩ {dst:= .val (jN kk) s}:=by
 obtain⟨dd,uH,ul⟩:=(T.und_ok _ _ hu).agg;have hl:=hh.length
 cases ha:jN kk with
 |true=>
  rw[aj ha]at hz;obtain⟨r,hr,LQ⟩:=hz;obtain⟨ti,z,h1,_,_,h4,_⟩:=T.row_ok _ _ hr;exact bz hs (Gp uH (ul.trans ha) h1 (by omega) hx hc) ⟨cs,hh,rfl,by simp⟩
 |false=>
  rw[ai (by simp[ha])]at hz
  obtain⟨v,rfl⟩:∃v,cs=[v]:=by
   match cs,hl.trans hz with
   |[v],_=>grind
  exact bz hs (xi uH (ul.trans ha) hx (hc 0 v rfl)) ⟨[v],hh,rfl,λ_=>rfl⟩
def l7(T:aX P)(t:TypeId)(kk:IE)(m:Nat):Bool:=
 bif jN kk then(match find T.row t with|some r=>agu r.size m|none=>ag)else agu m 1
theorem jB(T:aX P){t:TypeId}{kk:IE}{m:Nat}(h:l7 T t kk m=af):if jN kk=af then∃r,find T.row t=aa r/\r.size=m else m=1:=by
 grind [l7,beq_true]
def xo(T:aX P)(ob:Nat->Option (Nat×Th))(t:TypeId)(D:aC)(k:dF->Option R):Option R:=
 match find T.und t with
 |none=>ae
 |some kk=>match D with
  | .at r x=>bif l7 T t kk r.size then k {dst:= .val (jN kk) (.leaf r x)}else ae
  | .ptr o p off=>match ob o with
    |some (_, .box _ tr)=>match tr.get p with
     |some (s,dK)=>bif agu dK off&&l7 T t kk s.size then k {dst:= .val (jN kk) s}else ae
     |none=>ae
    |_=>ae
  | .elem o s r i x p off=>match ob o with
    |some (s', .own _ r' l)=>bif agu s' s then
      (match sub r x p with
      |some ⟨q,y,dK⟩=>bif agu dK off&&l7 T t kk q.size then k {dst:= .val (jN kk) (.leaf q y)}else ae
      |none=>ae)
     else(idx l i).bind λx'=>match sub r' x' p with
      |some ⟨q,y,dK⟩=>bif agu dK off&&l7 T t kk q.size&&agu r'.size r.size then k {dst:= .val (jN kk) (.leaf q y)}else ae
      |none=>ae
    |_=>ae
  |_=>ae
def aP{α:Type}{b:Bool}{x:Option α}{y:α}(h:(bif b then x else ae)=aa y):b=af/\x=aa y:=by
 grind
def ct{a b:Bool}(h:(a&&b)=af):a=af/\b=af:=by simpa using h
def EV(hs:aI U H F w ob n){o s':Nat}{T':TypeId}{r':Row}{i:Int}{x':r'.den}{l:List r'.den}{g o0 q m cap:Nat}(cA:ob o=aa (s', .own T' r' l))(hv:H.val o=aa (.slice (aa ⟨g,o0,ae⟩) m cap))(hq:i=(q:Nat))(hi:idx l i=aa x'):
 At F w r' g (o0+q*r'.size) x':=(hs.own cA hv).at rfl hq hi
def Ju(T:aX P){t:TypeId}{D:aC}{x:Operand}{k:dF->Option R}{q:R}(h:xo T ob t D k=aa q)(hs:aI U H F w ob n)(hx:aB H F w D (ev ρ x)):
 ∃e,k e=aa q/\cd P U H F w ρ ob n ⟨aa d, .load t x,ty,pos,aft,ae⟩ e:=by
 unfold xo at h;split at h
 .cases h
 rename_i kk hu;split at h
 .rename_i r y;obtain⟨h1,h2⟩:=aP h;obtain⟨b,off,e,hF,es,hl,hc,hr⟩:=hx;exact⟨_,h2,nF T hu e hs (s:= .leaf r y) hr hc (jB T h1)⟩
 .rename_i o p off;split at h
  .rename_i st0 T0 tr cA;split at h
   .rename_i s dK hg;obtain⟨h1,h2⟩:=aP h;obtain⟨h1,h3⟩:=ct h1;obtain rfl:=beq_true h1;obtain⟨b,hb,e⟩:=hx;obtain⟨es,hh,NZ⟩:=hs.box cA hb;obtain⟨g1,g2⟩:=NZ.get hg
    grind [nF,jB,vi]
   .cases h
  .cases h
 .rename_i o s r i y p off;split at h
  .rename_i s' T0 r' l cA;obtain⟨g,o0,qq,T',m,cap,l0,e1,e2,e3,e4,e5⟩:=hx
   cases OM:agu s' s with
   |true=>
    rw[OM,cond_true]at h;obtain rfl:=beq_true OM;obtain⟨v,hv,cL⟩:=hs.obj _ _ _ cA;have hc:=cL.con;rw[e3]at hc
    obtain⟨rfl,Ag⟩:T'=T0/\(⟨r,l0⟩:(r:Row)×List r.den)=⟨r',l⟩:=by
     grind [Th.base]
    cases Ag;split at h
    .rename_i q' y' dK gZ;obtain⟨h1,h2⟩:=aP h;obtain⟨h1,h3⟩:=ct h1;obtain rfl:=beq_true h1;obtain⟨es,hl,Mj,hr⟩:=Da gZ (EV hs cA e1 e2 e4);exact⟨_,h2,nF T hu e5 hs (s:= .leaf q' y') hr Mj (jB T h3)⟩
    .cases h
   |false=>
    rw[OM,cond_false]at h;obtain⟨x',Mg,h⟩:=bind_some h;split at h
    .rename_i q' y' dK gZ;obtain⟨h1,h2⟩:=aP h;obtain⟨h1,h4⟩:=ct h1;obtain⟨h1,h3⟩:=ct h1;obtain rfl:=beq_true h1;have h4:=beq_true h4;obtain⟨es,hl,Mj,hr⟩:=Da gZ (EV hs cA e1 e2 Mg);rw[h4]at Mj;exact⟨_,h2,nF T hu e5 hs (s:= .leaf q' y') hr Mj (jB T h3)⟩
    .cases h
  .cases h
 .cases h
end
end Go.Proofs.YtfeahmiobbjklaaGreatDoor
namespace Go.Proofs.YtfeahmiobbjklaaGreatDoor
open Go Go.RowKit
def De:(r:Row)->List Bool->Option ((s:Row)×Path r s)
 |r,[]=>aa ⟨r, .here⟩
 | .pair a b,d::p=>match d with
   |false=>match De a p with
    |some ⟨s,q⟩=>aa ⟨s, .fst q⟩
    |none=>ae
   |true=>match De b p with
    |some ⟨s,q⟩=>aa ⟨s, .snd q⟩
    |none=>ae
 |_,_::_=>ae
section
variable {P:Program} {ρ:Nat->Value} {w w':World} {H H':aG} {F F':Nat->Prop} {U:Nat->Prop} {ob:Nat->Option (Nat×Th)} {n:Nat} {R:Type}
variable {op:Op} {ty:TypeId} {pos:String} {aft:Array Edge} {d:Nat}
def aG.bk(H:aG)(s:Nat)(t:Th):aG:=⟨H.val,λm=>if m=s then aa t else H.con m,H.sub⟩
def aG.cB(H:aG)(o:Nat)(v:Value):aG:=⟨λm=>if m=o then aa v else H.val m,H.con,H.sub⟩
def aG.dT(H:aG)(s:Nat)(S:Nat->Prop):aG:=⟨H.val,H.con,λm=>if m=s then S else H.sub m⟩
def aG.fJ{H:aG}{s:Nat}{t:Th}(h:H.con s=ae):H.le (H.bk s t):=⟨λ_ _ h=>h,λm q hq=>by
 grind [aG.bk],λ_ _ _=>rfl⟩
def aG.GK{H:aG}{s:Nat}{S:Nat->Prop}(h:H.con s=ae):H.le (H.dT s S):=⟨λ_ _ h=>h,λ_ _ h=>h,λm t hm=>by
 grind [aG.dT]⟩
def aG.p6{H:aG}{s:Nat}{t:Value}(h:H.val s=ae):H.le (H.cB s t):=⟨λm q hq=>by
 grind [aG.cB],λ_ _ h=>h,λ_ _ _=>rfl⟩
theorem eF{α:Type}{o o':Nat}{x y:α}(h:find [(o,x)] o'=aa y):o'=o/\y=x:=by
 rw[aS]at h;split at h
 .grind
 .cases h
def kI.uJ(hs:aI U H F w ob n){o s:Nat}{t t':Th}{v0:Value}(ho:ob o=aa (s,t))(hv:H.val o=aa v0)(hb:t'.base=t')(LR:∀k,fp (H.sub n) v0 t' k->fp (H.sub s) v0 t k){D:aC}{v:Value}
 (bC:Ext (fp (H.sub s) v0 t) w w')(mE:gX (H.bk n t') F w' (H.sub n) v0 t')(hd:aB (H.bk n t') F w' D v):lL H F w ob n {dst:=D,eat:=[o],make:=[(o,(n,t'))]} v w':=by
 obtain⟨v1,ry,cL⟩:=hs.obj _ _ _ ho;rw[hv]at ry;obtain rfl:=agq ry
 have jr:∀k,fp (H.sub s) v0 t k->bX H ob [o] k:=λk hk=>⟨o,by simp,s,t,v0,ho,hv,hk⟩
 refine⟨H.bk n t',F,⟨aG.fJ (hs.fresh n (agt _) (by omega)).2,⟨bC.os,bC.tape,bC.output,bC.size,λk hk hn=>bC.block k hk λe=>hn (jr k e)⟩,λ_ h=>h,λ_ h=> .inl h,λb hb=>agK (hs.lt b hb) bC.size⟩,λm hm=>?_,hd,⟨λo' s' q hq=>?_,λo1 o2 s1 s2 q1 q2 u1 u2 dJ h1 h2=>?_⟩,λo' h=>?_⟩
 .grind [aG.bk]
 .obtain⟨rfl,e⟩:=eF hq;obtain⟨rfl,rfl⟩:=Prod.mk.inj e;refine⟨v0,hv,cL.one,by simp[aG.bk,hb],mE,λk hk=>⟨cL.no k (LR k hk),agK (cL.lt k (LR k hk)) bC.size, .inr (jr k (LR k hk))⟩⟩
 all_goals grind [eF,agY]
def kI.new(hs:aI U H F w ob n){eat:List Nat}{t:Th}{v0:Value}(hb:t.base=t)(h1:v0.oneCell'=af){D:aC}{v:Value}
 (bC:Ext (bX H ob eat) w w')(mE:gX ((H.bk n t).cB n v0) F w' (H.sub n) v0 t)(LR:∀k,fp (H.sub n) v0 t k->¬F k/\k<w'.heap.size/\(w.heap.size<=k\/bX H ob eat k))
 (hd:aB ((H.bk n t).cB n v0) F w' D v):lL H F w ob n {dst:=D,eat:=eat,make:=[(n,(n,t))]} v w':=by
 have hf:=hs.fresh n (agt _) (by omega);refine⟨(H.bk n t).cB n v0,F,⟨(aG.fJ hf.2).trans (aG.p6 (by simp[aG.bk,hf.1])),bC,λ_ h=>h,λ_ h=> .inl h,λb hb=>agK (hs.lt b hb) bC.size⟩,λm hm=>?_,hd,⟨λo' s' q hq=>?_,λo1 o2 s1 s2 q1 q2 u1 u2 dJ h1 h2=>?_⟩,λo' h=>?_⟩
 .simp[aG.bk,aG.cB,show m≠n from by omega]
 .obtain⟨rfl,e⟩:=eF hq;obtain⟨rfl,rfl⟩:=Prod.mk.inj e;exact⟨v0,by simp[aG.cB],h1,by simp[aG.bk,aG.cB,hb],mE,LR⟩
 .grind [eF]
 .right
  obtain⟨y,hy⟩:=agY.1 h
  grind [eF]
def sK(T:aX P)(ob:Nat->Option (Nat×Th))(n:Nat)(t:TypeId)(D V:aC)(k:dF->Option R):Option R:=
 match find T.row t with
 |none=>ae
 |some rt=>match V with
  | .val _ u=>match D with
    | .ptr o p off=>match ob o with
      |some (_, .box T0 tr)=>match tr.get p with
       |some (s,dK)=>bif agu dK off&&agu rt.size s.size&&agu u.size s.size then
         (match tr.put p u with
         |some UH=>k {dst:= .dead,eat:=[o],make:=[(o,(n, .box T0 UH))]}
         |none=>ae)else ae
       |none=>ae
      |_=>ae
    | .elem o s r i x p off=>match ob o with
      |some (s', .own T0 r' l)=>match De r' p with
       |some ⟨q,xp⟩=>bif agu xp.off off&&agu rt.size q.size&&agu r'.size r.size then
         (match flat ob q u with
         |some y=>bif agu s' s then
           (if h:r.beq r'=af then k {dst:= .dead,eat:=[o],make:=[(o,(n, .own T0 r' (bG l i (xp.set (ja (Row.eq_of_beq h) x) y))))]}else ae)
          else(idx l i).bind λx'=>k {dst:= .dead,eat:=[o],make:=[(o,(n, .own T0 r' (bG l i (xp.set x' y))))]}
         |none=>ae)else ae
       |none=>ae
      |_=>ae
    |_=>ae
  |_=>ae
def aO.cells{agg:Bool}{t:Tree}{v:Value}(h:aO H F w agg t v):∃cs,Holds H F w t cs/\v.cells.toList=cs:=by
 obtain⟨cs,h1,h2,h3⟩:=h;refine⟨cs,h1,?_⟩
 cases agg with
 |true=>rw[h2];rfl
 |false=>
  have e:=h3 rfl;have h1c:=h1.jk v (by rw[e];simp);rw[e]
  cases v<;>first|rfl|simp[ahz]at h1c
def vj(T:aX P){t:TypeId}{rt:Row}(Jv:find T.row t=aa rt){x y:Operand}{o s':Nat}{T0:TypeId}{r q:Row}{i:Int}{x':r.den}{z:q.den}{l:List r.den}{p:Path r q}{off g o0 j m cap:Nat}{agg:Bool}{u:Tree}
 (hs:aI U H F w ob n)(cA:ob o=aa (s', .own T0 r l))(hv:H.val o=aa (.slice (aa ⟨g,o0,ae⟩) m cap))(hj:i=(j:Nat))(hi:idx l i=aa x')(hx:ev ρ x= .pointer (aa ⟨g,o0+j*r.size+off,ae⟩))(Mk:p.off=off)(hz:rt.size=q.size)
 (hf:flat ob q u=aa z)(hV:aO H F w agg u (ev ρ y)):
 cd P U H F w ρ ob n ⟨ae, .store t x y,ty,pos,aft,ae⟩ {dst:= .dead,eat:=[o],make:=[(o,(n, .own T0 r (bG l i (p.set x' z))))]}:=by
 obtain⟨ti,z0,h1,_,_,h4,_⟩:=T.row_ok _ _ Jv;obtain⟨cs,qQ,wQ⟩:=hV.cells;have hr:=gk hs hf qQ;have dS:=hs.own cA hv;obtain⟨k',hk,bi,rfl⟩:=gw hi
 obtain rfl:k'=j:=by omega
 obtain⟨cur,hh,hle,bC,gy⟩:=dS.put rfl bi hs.lt p hr;subst Mk;refine bT.unit (oj h1 (h4.trans (hz.trans hr.length.symm)) hx rfl wQ hr.jk hh hle) ?_;refine kI.uJ (t':= .own T0 r (bG l i (p.set l[k'] z))) (D:= .dead) hs cA hv rfl (λ_ h=>h) bC ?_ trivial;have:gX (H.bk n (.own T0 r (bG l i (p.set l[k'] z)))) F (w.setRow g (cur.toList.take (o0+k'*r.size+p.off)++cs++cur.toList.drop (o0+k'*r.size+p.off+cs.length)).toArray) (H.sub n) (.slice (aa ⟨g,o0,ae⟩) m cap) (.own T0 r (l.set k' (p.set l[k'] z))):=gy.2
 grind [bG,agE]
def GL(T:aX P){t:TypeId}{D V:aC}{x y:Operand}{k:dF->Option R}{q:R}(h:sK T ob n t D V k=aa q)(hs:aI U H F w ob n)(hx:aB H F w D (ev ρ x))(hy:aB H F w V (ev ρ y)):
 ∃e,k e=aa q/\cd P U H F w ρ ob n ⟨ae, .store t x y,ty,pos,aft,ae⟩ e:=by
 unfold sK at h;split at h
 .cases h
 rename_i rt Jv;split at h
 case h_2=>cases h
 rename_i agg u;split at h
 .rename_i o p off;split at h
  case h_2=>cases h
  rename_i s0 T0 tr cA;split at h
  case h_2=>cases h
  rename_i s dK hg;obtain⟨h1,h2⟩:=aP h;obtain⟨h1,EW⟩:=ct h1;obtain⟨h1,Df⟩:=ct h1;obtain rfl:=beq_true h1;have Df:=beq_true Df;have EW:=beq_true EW;split at h2
  case h_2=>cases h2
  rename_i UH hp;obtain⟨b,hb,e⟩:=hx;obtain⟨es,hh,NZ⟩:=hs.box cA hb;obtain⟨cs,qQ,wQ⟩:=aO.cells hy;have hl:=qQ.length;have hle:=(NZ.get hg).2;have sG:=Holds.put qQ hg hp EW.symm NZ;obtain⟨ti,z0,g1,_,_,g4,_⟩:=T.row_ok _ _ Jv;refine⟨_,h2,bT.unit (oj g1 (by omega) e rfl wQ qQ.jk hh (by simp;omega)) ?_⟩
  have ZM:¬F b:=by
   obtain⟨v1,ry,cL⟩:=hs.obj _ _ _ cA;rw[hb]at ry;obtain rfl:=agq ry;exact cL.no b rfl
  have bC:Ext (fp (H.sub s0) (.pointer (aa ⟨b,0,ae⟩)) (.box T0 tr)) w (w.setRow b (es.toArray.toList.take dK++cs++es.toArray.toList.drop (dK+cs.length)).toArray):=
   ⟨rfl,⟨rfl,agt _⟩,rfl,by simp,λk _ hk=>setRow_other w b k _ λe=>hk (by simp[fp,e])⟩
  refine kI.uJ (t':= .box T0 UH) (D:= .dead) hs cA hb rfl (λk hk=>hk) bC ⟨b,_,rfl,setRow_heap w b _ _ T0 (0,0) hh,?_⟩ trivial
  have hk:=sG.keep (H':=H.bk n (.box T0 UH)) (aG.fJ (hs.fresh n (agt _) (by omega)).2) (Step.ext bC hs.lt λk hk=>by
   grind [fp])
  grind
 .rename_i o s r i x0 p off;split at h
  case h_2=>cases h
  rename_i s' T0 r' l cA;split at h
  case h_2=>cases h
  rename_i q' xp yH;obtain⟨h1,h2⟩:=aP h;obtain⟨h1,EW⟩:=ct h1;obtain⟨h1,Df⟩:=ct h1;have h1:=beq_true h1;have Df:=beq_true Df;have EW:=beq_true EW;split at h2
  case h_2=>cases h2
  rename_i z hf;obtain⟨g,o0,qq,T',m,cap,l0,e1,e2,e3,e4,e5⟩:=hx;rw[<-EW]at e5
  cases OM:agu s' s with
  |true=>
   rw[OM,cond_true]at h2;obtain rfl:=beq_true OM;split at h2
   case isFalse=>cases h2
   rename_i Ap;obtain⟨v,hv,cL⟩:=hs.obj _ _ _ cA;have hc:=cL.con;rw[e3]at hc
   obtain⟨rfl,Ag⟩:T'=T0/\(⟨r,l0⟩:(r:Row)×List r.den)=⟨r',l⟩:=by
    grind [Th.base]
   cases Ag;exact⟨_,h2,vj T Jv hs cA e1 e2 e4 e5 h1 Df hf hy⟩
  |false=>
   rw[OM,cond_false]at h2;obtain⟨x',Mg,h2⟩:=bind_some h2;exact⟨_,h2,vj T Jv hs cA e1 e2 Mg e5 h1 Df hf hy⟩
 .cases h
def Jw(hs:aI U H F w ob n){t:TypeId}{tr:Tree}{cs:List Value}(hh:Holds H F w tr cs):
 lL H F w ob n {dst:= .ptr n [] 0,make:=[(n,(n, .box t tr))]} (.pointer (aa ⟨w.heap.size,0,ae⟩)) (w.alloc (.cells cs.toArray t)):=by
 have bC:Ext (bX H ob []) w (w.alloc (.cells cs.toArray t)):=⟨rfl,⟨rfl,agt _⟩,rfl,by simp,λk hk _=>Below.heap_alloc w _ k hk⟩
 have hf:=hs.fresh n (agt _) (by omega);refine kI.new (v0:= .pointer (aa ⟨w.heap.size,0,ae⟩)) hs rfl rfl bC ⟨_,cs,rfl,heap_alloc_new w _,?_⟩ (λk hk=>?_) ⟨w.heap.size,by simp[aG.cB],rfl⟩
 .exact hh.keep ((aG.fJ hf.2).trans (aG.p6 (by simp[aG.bk,hf.1]))) (Step.alloc hs.lt _)
 .simp only[fp,Value.pointer.injEq,agz,Addr.mk.injEq,and_true]at hk;subst hk;exact⟨λe=>by have:=hs.lt _ e;omega,by simp, .inl (agt _)⟩
def sL(T:aX P)(n:Nat)(t:TypeId)(k:dF->Option R):Option R:=
 match find T.row t with
 |some r=>k {dst:= .ptr n [] 0,make:=[(n,(n, .box t r.An))]}
 |none=>ae
def GM(T:aX P){t:TypeId}{k:dF->Option R}{q:R}(h:sL T n t k=aa q)(hs:aI U H F w ob n):
 ∃e,k e=aa q/\cd P U H F w ρ ob n ⟨aa d, .alloc t,ty,pos,aft,ae⟩ e:=by
 unfold sL at h;split at h
 case h_2=>cases h
 rename_i r hr;obtain⟨ti,z,h1,h2,h3,_,_⟩:=T.row_ok _ _ hr;refine⟨_,h,bT.val (Gu h1 h2) ?_⟩;have:=Jw (t:=t) hs (Row.mG H F w r);rw[<-h3,ahd]at this;exact this
def GN(n:Nat)(t:TypeId)(V:aC)(k:dF->Option R):Option R:=
 match V with
 | .val _ u=>k {dst:= .ptr n [] 0,make:=[(n,(n, .box t u))]}
 |_=>ae
def Ml{t:TypeId}{V:aC}{x:Operand}{k:dF->Option R}{q:R}(h:GN n t V k=aa q)(hs:aI U H F w ob n)(hx:aB H F w V (ev ρ x)):
 ∃e,k e=aa q/\cd P U H F w ρ ob n ⟨aa d, .box t x,ty,pos,aft,ae⟩ e:=by
 unfold GN at h;split at h
 case h_2=>cases h
 rename_i agg u;obtain⟨cs,qQ,wQ⟩:=aO.cells hx;refine⟨_,h,bT.val (Mb rfl) ?_⟩;have:=Jw (t:=t) hs qQ;rw[<-wQ,ahd]at this;exact this
end
end Go.Proofs.YtfeahmiobbjklaaGreatDoor
end
namespace Go.Proofs.YtfeahmiobbjklaaGreatDoor
open Go Go.RowKit
set_option maxRecDepth 100000
set_option linter.unusedSimpArgs false
set_option linter.unusedVariables false
set_option linter.defProp false
section
section
variable {P:Program} {ρ:Nat->Value} {w w':World} {H H':aG} {F F':Nat->Prop} {U:Nat->Prop} {ob:Nat->Option (Nat×Th)} {n:Nat} {R:Type}
variable {op:Op} {ty:TypeId} {pos:String} {aft:Array Edge} {d:Nat}
def p7{base:Nat}{T:TypeId}{r:Row}{v:Value}{l:List r.den}(h:lJ base F w T r v l):v.oneCell'=af:=by
 obtain⟨A,cap,rfl,_⟩:=h.reads;rfl
def mH{H:aG}{o:Nat}{v:Value}(h:H.val o=aa v)(h1:v.oneCell'=af):aB H F w (.val ag (.own o)) v:=⟨[v],⟨v,h,h1,rfl⟩,rfl,λ_=>rfl⟩
def sM(hs:aI U H F w ob n){e:TypeId}{r:Row}{v:Value}{l:List r.den}{eat:List Nat}(bC:Ext (bX H ob eat) w w')(ho:lJ 0 F w' e r v l)(hn:∀k,bF v k->bX H ob eat k\/w.heap.size<=k):
 lL H F w ob n {dst:= .val ag (.own n),eat:=eat,make:=[(n,(n, .own e r l))]} v w':=
 kI.new (v0:=v) hs rfl (p7 ho) bC ho.2 (λk hk=>⟨ho.1 k hk,ho.lt k hk,(hn k hk).symm⟩) (mH (by simp[aG.cB]) (p7 ho))
def nG{g:Nat->Prop}(o:Obj):Ext g w (w.alloc o):=⟨rfl,⟨rfl,agt _⟩,rfl,by simp,λk hk _=>Below.heap_alloc w _ k hk⟩
def UI{α:Type}(a b:Int)(z:α):Option (List α):=if 0<=a/\a<=b/\b<=4294967296 then aa (agv a.toNat z)else ae
def pj:Operand->Operand->Bool
 | .tmp a, .tmp b=>agu a b
 | .const (.int _ a), .const (.int _ b)=>decide (a=b)
 |_,_=>ag
def xq{e t:TypeId}{r:Row}{a b:Int}(ht:P.underlying t=aa (.slice e))(rK:TI P e r)(hs:aI U H F w ob n){ka kb:IntKind}{x y:Operand}(hx:ev ρ x= .int ka a)(hy:ev ρ y= .int kb b)(h0:0<=a)(h1:a<=b)(h2:b<=4294967296):
 ∃v w',(execOp (ev ρ) ⟨aa d, .makeSlice t x y,ty,pos,aft,ae⟩).run P w= .ok (.value v) w'/\(∀g,Ext g w w')/\lJ 0 F w' e r v (agv a.toNat r.zero)/\∀k,bF v k->w.heap.size<=k:=by
 obtain⟨ti,z,hi,hz,Vc,mz,IC⟩:=rK;obtain⟨ca,rfl⟩:=aha h0;obtain⟨cb,rfl⟩:=aha (Int.le_trans h0 h1)
 have hc:cb<=4294967296:=by omega
 have yB:ti.bytes*cb<=281474976710656:=agR (Nat.mul_le_mul IC hc) (by omega)
 have qR:(ti.bytes:Int)*(cb:Int)<=281474976710656:=by
  have h:((ti.bytes*cb:Nat):Int)<=281474976710656:=by omega
  rwa [ag1]at h
 have bj:=run_make (P:=P) w t e ti z ht hi hz ka kb ca cb (by omega) (by omega) qR (by omega)
 have hzl:z.cells=r.eD.toArray:=by rw[<-Vc,ahd]
 have hzn:r.eD.length=r.size:=(cF.zero F w r).length;have qA:=r.size_pos;simp only[agE]at bj;refine⟨.slice (aa ⟨w.heap.size,0,ae⟩) ca cb,w.alloc (.cells (madeCells z.cells (cb*ti.size)) e),by simp[execOp,hx,hy,bj],λ_=>nG _,⟨λq hq=>?_,(madeCells z.cells (cb*ti.size)).toList.take (ca*r.size),?_,?_⟩,λq hq=>?_⟩
 .simp only[bF,agI,agz]at hq;intro e;have:=hs.lt _ e;omega
 .have hle:ca*r.size<=cb*r.size:=agA _ (by omega);have Vm:=size_madeCells z.cells (cb*ti.size);refine mA.of ⟨by grind, .inr ⟨w.heap.size,cb,madeCells z.cells (cb*ti.size),by simp,Nat.zero_le _,heap_alloc_new w _,by simp;omega,by simp[maxLen];omega,by rw[Vm,mz],by simp⟩⟩
 .intro i bi;simp only[agE,List.length_replicate]at bi;have hle:(i+1)*r.size<=ca*r.size:=agA _ bi
  grind [Jb,cF.zero,List.drop_take]
 .simp only[bF,agI,agz]at hq;omega
def Aq{e t:TypeId}{r:Row}{a b:Int}(ht:P.underlying t=aa (.slice e))(rK:TI P e r)(hs:aI U H F w ob n){ka kb:IntKind}{x y:Operand}(hx:ev ρ x= .int ka a)(hy:ev ρ y= .int kb b)(h0:0<=a)(h1:a<=b)(h2:b<=4294967296):
 cd P U H F w ρ ob n ⟨aa d, .makeSlice t x y,ty,pos,aft,ae⟩ {dst:= .val ag (.own n),make:=[(n,(n, .own e r (agv a.toNat r.zero)))]}:=by
 obtain⟨v,w',bj,bC,dS,wR⟩:=xq (d:=d) (ty:=ty) (pos:=pos) (aft:=aft) ht rK hs hx hy h0 h1 h2;exact bT.val bj (sM hs (bC _) dS λq hq=> .inr (wR q hq))
def vl(T:aX P)(n:Nat)(t:TypeId)(same:Bool)(a b:Int)(k:dF->Option R):Option R:=
 match find T.und t with
 |some (.slice e)=>match find T.row e with
  |some r=>(bif same then og a r.zero else UI a b r.zero).bind λl=>k {dst:= .val ag (.own n),make:=[(n,(n, .own e r l))]}
  |none=>ae
 |_=>ae
def xr{x y:Operand}(h:pj x y=af){a b:Int}{ka kb:IntKind}(hx:ev ρ x= .int ka a)(hy:ev ρ y= .int kb b):a=b:=by
 unfold pj at h
 grind [beq_true,ev]
def Ar(T:aX P){t:TypeId}{a b:Int}{ka kb:IntKind}{x y:Operand}{k:dF->Option R}{q:R}(h:vl T n t (pj x y) a b k=aa q)(hs:aI U H F w ob n)(hx:ev ρ x= .int ka a)(hy:ev ρ y= .int kb b):
 ∃e,k e=aa q/\cd P U H F w ρ ob n ⟨aa d, .makeSlice t x y,ty,pos,aft,ae⟩ e:=by
 unfold vl at h;split at h
 case h_2=>cases h
 rename_i e hu;split at h
 case h_2=>cases h
 rename_i r hr;obtain⟨l,hl,hk⟩:=bind_some h;have rK:=T.row_ok _ _ hr;have ht:=T.und_ok _ _ hu
 cases GO:pj x y with
 |true=>
  rw[GO,cond_true]at hl;unfold og at hl;split at hl
  case isFalse=>cases hl
  rename_i hc;obtain rfl:=agq hl;obtain rfl:=xr GO hx hy;exact⟨_,hk,Aq ht rK hs hx hy hc.1 (ahp _) hc.2⟩
 |false=>
  rw[GO,cond_false]at hl;unfold UI at hl;split at hl
  case isFalse=>cases hl
  rename_i hc;obtain rfl:=agq hl;exact⟨_,hk,Aq ht rK hs hx hy hc.1 hc.2.1 hc.2.2⟩
def Vn(ob:Nat->Option (Nat×Th))(r:Row)(D:aC):Option (List r.den):=
 match uu ob D with
 |some (.read s l)=>if h:s.beq r=af then aa (ja (r:= .slice s) (s:= .slice r) (av Row.slice (Row.eq_of_beq h)) l)else ae
 |some (.own _ _ _ s l)=>if h:s.beq r=af then aa (ja (r:= .slice s) (s:= .slice r) (av Row.slice (Row.eq_of_beq h)) l)else ae
 |some .nil=>aa []
 |some (.view ..)=>ae
 |some (.deep ..)=>ae
 |none=>ae
def ON(hs:aI U H F w ob n){r:Row}{D:aC}{l:List r.den}{v:Value}(h:Vn ob r D=aa l)(hd:aB H F w D v):Reads F w r v l:=by
 unfold Vn at h;split at h
 .rename_i s m gE;split at h
  case isFalse=>cases h
  rename_i hb;obtain rfl:=Row.eq_of_beq hb;obtain rfl:=agq h;exact cF.reads (iB hs gE hd)
 .rename_i o s0 T s m gE;split at h
  case isFalse=>cases h
  rename_i hb;obtain rfl:=Row.eq_of_beq hb;obtain rfl:=agq h;exact(iB hs gE hd).2.2.reads
 .rename_i gE;obtain rfl:=agq h;have:v=_:=iB hs gE hd;subst this;exact(cF.nil F w r).reads
 all_goals grind
def tJ:Js->Int
 | .read _ l=>(l.length:Int)
 | .own _ _ _ _ l=>(l.length:Int)
 | .nil=>0
 | .view _ _ _ l=>(l.length:Int)
 | .deep _ _ _ _ l _=>(l.length:Int)
def Jx{v:Value}{k:Js}(h:Mi U H F w ob v k):∃A m cap,v= .slice A m cap/\tJ k=(m:Int):=by
 cases k with
 |read r l=>
  obtain⟨A,cap,e,_⟩:=cF.CZ h;exact⟨A,_,cap,e,rfl⟩
 |own o s T r l=>
  obtain⟨A,cap,e,_⟩:=h.2.2.reads;exact⟨A,_,cap,e,rfl⟩
 |nil=>exact⟨ae,0,0,h,rfl⟩
 |view o s r m=>
  obtain⟨A,cap,T,l,a,b,_,_,h3,h4,rfl,rfl⟩:=h;refine⟨_,_,_,rfl,?_⟩
  grind [tJ]
 |deep o s T d l hh=>
  obtain⟨lh,_,⟨xs,ES,_⟩,Rq,_⟩:=h.2.2.ok
  rcases ES.2 with⟨Jt,h0⟩|⟨g,o0,cap,cur,GJ,_,_,_⟩
  all_goals grind [tJ]
def GP(T:aX P)(ob:Nat->Option (Nat×Th))(t:TypeId)(D:aC):Option aC:=
 match find T.und t with
 |some (.slice _)=>match uu ob D with
  |some k=>aa (l4 .i64 (tJ k))
  |none=>ae
 |some .str=>match Aj D with
  |some s=>aa (l4 .i64 (s.size:Int))
  |none=>ae
 |_=>ae
def EX(T:aX P){t:TypeId}{D D':aC}{x:Operand}(h:GP T ob t D=aa D')(hs:aI U H F w ob n)(hx:aB H F w D (ev ρ x)):
 cd P U H F w ρ ob n ⟨aa d, .call {callee:= .builtin .len,args:= #[x],argTypes:= #[t]},ty,pos,aft,ae⟩ {dst:=D'}:=by
 unfold GP at h;split at h
 .rename_i e hu;split at h
  case h_2=>cases h
  rename_i k hk;obtain rfl:=agq h;obtain⟨A,m,cap,e1,e2⟩:=Jx (iB hs hk hx);rw[e2];exact aQ hs (I8 rfl (T.und_ok _ _ hu) e1) (aO.jA ..)
 .rename_i hu;split at h
  case h_2=>cases h
  rename_i s hk;obtain rfl:=agq h;exact aQ hs (Gl (T.und_ok _ _ hu) (vg hk hx)) (aO.jA ..)
 .cases h
def p8(T:aX P)(ob:Nat->Option (Nat×Th))(n:Nat)(t:TypeId)(X Y:aC)(k:dF->Option R):Option R:=
 match find T.und t with
 |some (.slice e)=>match find T.row e with
  |some r=>match Vn ob r Y with
   |some m=>match uu ob X with
    |some .nil=>(cr ([]:List r.den) m).bind λl=>k {dst:= .val ag (.own n),make:=[(n,(n, .own e r l))]}
    |some (.own o _ T0 s l0)=>bif agu T0 e then
      (if h:s.beq r=af then(cr (ja (r:= .slice s) (s:= .slice r) (av Row.slice (Row.eq_of_beq h)) l0) m).bind λl=>k {dst:= .val ag (.own n),eat:=[o],make:=[(n,(n, .own e r l))]}else ae)else ae
    |_=>ae
   |none=>ae
  |none=>ae
 |_=>ae
def Dg(T:aX P){t:TypeId}{X Y:aC}{x y:Operand}{k:dF->Option R}{q:R}(h:p8 T ob n t X Y k=aa q)(hs:aI U H F w ob n)(hx:aB H F w X (ev ρ x))(hy:aB H F w Y (ev ρ y)):
 ∃e,k e=aa q/\cd P U H F w ρ ob n ⟨aa d, .call {callee:= .builtin .append,args:= #[x,y],argTypes:= #[t,t]},ty,pos,aft,ae⟩ e:=by
 unfold p8 at h;split at h
 case h_2=>cases h
 rename_i e hu;split at h
 case h_2=>cases h
 rename_i r hr;obtain⟨ti,z,h1,h2,h3,h4,h5⟩:=T.row_ok _ _ hr;have ht:=T.und_ok _ _ hu;split at h
 case h_2=>cases h
 rename_i m hm;have fU:=ON hs hm hy
 have key:∀{l out:List r.den},lJ 0 F w e r (ev ρ x) l->cr l m=aa out->∃v' w',(execOp (ev ρ) ⟨aa d, .call {callee:= .builtin .append,args:= #[x,y],argTypes:= #[t,t]},ty,pos,aft,ae⟩).run P w= .ok (.value v') w'/\Ext (bF (ev ρ x)) w w'/\lJ 0 F w' e r v' out/\(∀k,bF v' k->bF (ev ρ x) k\/w.heap.size<=k):=by
  intro l out ho ha;obtain⟨v',w',bj,he,lD,Rp⟩:=u9 ty ht h1 h2 h3 h4 h5 ho fU ha hs.lt (Nat.zero_le _);refine⟨v',w',by simp[execOp,resolve,invoke,builtin,bj],he,lD,λk hk=>?_⟩
  rcases Rp with g|g
  .exact .inl (g▸hk)
  .simp_all
 split at h
 .rename_i gE;obtain⟨l,hl,hk⟩:=bind_some h;have hv:ev ρ x=_:=iB hs gE hx;obtain⟨v',w',bj,he,lD,hn⟩:=key (by rw[hv];exact lJ.nil 0 F w e r) hl
  have no:∀k,¬bF (ev ρ x) k:=λk hk=>by rw[hv]at hk;simp[bF,agI]at hk
  exact⟨_,hk,bT.val bj (sM hs ⟨he.os,he.tape,he.output,he.size,λk hk _=>he.block k hk (no k)⟩ lD (by grind))⟩
 .rename_i o s0 T0 s l0 gE;obtain⟨hb,h⟩:=aP h;obtain rfl:=beq_true hb;split at h
  case isFalse=>cases h
  rename_i Ap;obtain rfl:=Row.eq_of_beq Ap;obtain⟨l,hl,hk⟩:=bind_some h;obtain⟨hv,cA,dS⟩:=iB hs gE hx;obtain⟨v',w',bj,he,lD,hn⟩:=key dS hl
  have jr:∀k,bF (ev ρ x) k->bX H ob [o] k:=λk hk=>⟨o,by simp,_,_,_,cA,hv,hk⟩
  exact⟨_,hk,bT.val bj (sM hs ⟨he.os,he.tape,he.output,he.size,λk hk CO=>he.block k hk λhm=>CO (jr k hm)⟩ lD λk hk=>(hn k hk).imp (jr k) id)⟩
 .cases h
def As(ob:Nat->Option (Nat×Th))(r:Row):List aC->Option (List r.den)
 |[]=>aa []
 | .val _ u::l=>match flat ob r u with
   |some x=>match As ob r l with
    |some xs=>aa (x::xs)
    |none=>ae
   |none=>ae
 |_::_=>ae
def rL(rd:Operand->Option aC):List Operand->Option (List aC)
 |[]=>aa []
 |x::xs=>match rd x with
  |some d=>match rL rd xs with
   |some ds=>aa (d::ds)
   |none=>ae
  |none=>ae
def fh(H:aG)(F:Nat->Prop)(w:World):List aC->List Value->Prop
 |[],vs=>vs=[]
 |d::ds,vs=>∃v us,vs=v::us/\aB H F w d v/\fh H F w ds us
def nH{rd:Operand->Option aC}(h:∀x d,rd x=aa d->aB H F w d (ev ρ x)):{xs:List Operand}->{ds:List aC}->rL rd xs=aa ds->fh H F w ds (xs.map (ev ρ))
 |[],ds,e=>by obtain rfl:=agq e;rfl
 |x::xs,ds,e=>by
  unfold rL at e
  cases h1:rd x with
  |none=>grind
  |some d=>
   cases h2:rL rd xs with
   |none=>grind
   |some Vo=>
    simp only[h1,h2,agz]at e;subst e;exact⟨_,_,rfl,h _ _ h1,nH h h2⟩
def Au(hs:aI U H F w ob n){r:Row}:{ds:List aC}->{l:List r.den}->{vs:List Value}->As ob r ds=aa l->fh H F w ds vs->va F w r vs l
 |[],l,vs,e,h=>by
  obtain rfl:=agq e;rw[show vs=[]from h];exact .nil
 | .val _ u::ds,l,vs,e,h=>by
   obtain⟨v,us,rfl,h1,h2⟩:=h;unfold As at e
   cases hf:flat ob r u with
   |none=>grind
   |some x=>
    cases hg:As ob r ds with
    |none=>grind
    |some xs=>
     simp only[hf,hg,agz]at e;subst e;obtain⟨cs,qQ,wQ⟩:=aO.cells h1;exact .cons wQ (gk hs hf qQ) (Au hs hg h2)
 | .dead::_,_,_,e,_=>by cases e
 | .undef::_,_,_,e,_=>by cases e
 | .ptr .. ::_,_,_,e,_=>by cases e
 | .at .. ::_,_,_,e,_=>by cases e
 | .elem .. ::_,_,_,e,_=>by cases e
 | .tup _::_,_,_,e,_=>by cases e
 | .dlm .. ::_,_,_,e,_=>by cases e
def vm{e t:TypeId}{r:Row}{xs:List Operand}{l:List r.den}{parts:Array (Nat×Operand)}(ht:P.underlying t=aa (.slice e))(rK:TI P e r)(dx:parts=((xs.zipIdx).map λp=>(p.2,p.1)).toArray)(GO:xs.length*r.size<=16777216)
 (hl:va F w r (xs.map (ev ρ)) l)(hs:aI U H F w ob n):
 ∃v w',(execOp (ev ρ) ⟨aa d, .buildSlice t xs.length parts,ty,pos,aft,ae⟩).run P w= .ok (.value v) w'/\(∀g,Ext g w w')/\lJ 0 F w' e r v l/\∀k,bF v k->w.heap.size<=k:=by
 obtain⟨ti,z,h1,h2,h3,h4,h5⟩:=rK
 have QV:(xs.map (ev ρ)).length=xs.length:=by simp
 have Rq:=hl.length;have qA:=r.size_pos
 have Rk:z.cells.size=r.size:=by rw[<-(cF.zero F w r).length,<-h3];simp
 have rM:(parts.map λ(i,q)=>(i,ev ρ q)).toList=((xs.map (ev ρ)).zipIdx).map λp=>(p.2,p.1):=by
  subst dx;simp[List.zipIdx_map,Function.comp_def]
 generalize hm:xs.length=m at*;generalize xs.map (ev ρ)=vs at*
 have key:∀zz:Array Value,zz.size=m*r.size->∃CR:List Value,Instr.fill (λi=>aa (i*r.size,r.size)) zz ((vs.zipIdx).map λp=>(p.2,p.1))=aa CR.toArray/\CR.length=l.length*r.size/\∀i(hi:i<l.length),cF F w r ((CR.drop (i*r.size)).take r.size) l[i]:=by
  intro zz Ru;obtain⟨CR,a1,a2,a3⟩:=hl.fill 0 [] zz.toList (by simp) (by rw[Array.length_toList,Ru,QV]);exact⟨CR,by simpa using a1,a2,a3⟩
 have bj:∃CR:List Value,(execOp (ev ρ) ⟨aa d, .buildSlice t m parts,ty,pos,aft,ae⟩).run P w= .ok (.value (.slice (aa ⟨w.heap.size,0,ae⟩) m m)) (w.alloc (.cells CR.toArray e))/\CR.length=l.length*r.size/\∀i(hi:i<l.length),cF F w r ((CR.drop (i*r.size)).take r.size) l[i]:=by
  by_cases h0:m*r.size=0
  .obtain⟨CR,a1,a2,a3⟩:=key #[] (by simp[h0]);refine⟨CR,?_,a2,a3⟩;simp only[execOp,Instr.buildSlice,agL,run_underlying ht,ahh];rw[rM]
   have QW:Array.range 0=(#[]:Array Nat):=by rfl
   simp[sizeOf,typeInfo,h1,h4,h0,newRow,QW,a1]
  .obtain⟨CR,a1,a2,a3⟩:=key ((Array.range (m*r.size)).map (z.cells[· %z.cells.size]!)) (by simp);refine⟨CR,?_,a2,a3⟩;simp only[execOp,Instr.buildSlice,agL,run_underlying ht,ahh];rw[rM];simp[sizeOf,typeInfo,h1,h4,h0,zeroValue,h2,newRow,a1,show¬(16777216<m*r.size)from by omega]
 obtain⟨CR,bj,a2,a3⟩:=bj
 have LS:m=l.length:=by omega
 have aa5:m<=16777216:=agR (Nat.le_mul_of_pos_right m qA) GO;refine⟨_,_,bj,λg=>nG _,⟨λk hk=>?_,CR,?_,λi hi=>(a3 i hi).step (Step.alloc hs.lt _)⟩,λk hk=>?_⟩
 .simp only[bF,agI,agz]at hk;intro e;have:=hs.lt _ e;omega
 .have:=World.ownsRow_lit (base:=0) (e:=e) (size:=r.size) w CR.toArray m (Nat.zero_le _) (by simp[maxLen];omega) (by simp[a2,LS]);rw[LS]at this⊢;simpa using mA.of this
 .simp only[bF,agI,agz]at hk;omega
def run_build{e t:TypeId}{r:Row}{xs:List Operand}{l:List r.den}{parts:Array (Nat×Operand)}(ht:P.underlying t=aa (.slice e))(rK:TI P e r)(dx:parts=((xs.zipIdx).map λp=>(p.2,p.1)).toArray)(GO:xs.length*r.size<=16777216)
 (hl:va F w r (xs.map (ev ρ)) l)(hs:aI U H F w ob n):
 cd P U H F w ρ ob n ⟨aa d, .buildSlice t xs.length parts,ty,pos,aft,ae⟩ {dst:= .val ag (.own n),make:=[(n,(n, .own e r l))]}:=by
 obtain⟨v,w',h1,h2,h3,h4⟩:=vm (d:=d) (ty:=ty) (pos:=pos) (aft:=aft) ht rK dx GO hl hs;exact bT.val h1 (sM hs (h2 _) h3 λk hk=> .inr (h4 k hk))
def EY:Nat->List (Nat×Operand)->Bool
 |_,[]=>af
 |k,p::l=>agu p.1 k&&EY (k+1) l
def vn:{k:Nat}->{l:List (Nat×Operand)}->EY k l=af->l=((l.map (·.2)).zipIdx k).map λp=>(p.2,p.1)
 |_,[],_=>rfl
 |k,p::l,h=>by
  obtain⟨h1,h2⟩:=ct h;have h1:=beq_true h1;have ih:=vn h2
  grind [List.zipIdx_cons]
def jC(T:aX P)(rd:Operand->Option aC)(ob:Nat->Option (Nat×Th))(n:Nat)(t:TypeId)(m:Nat)(parts:Array (Nat×Operand))(k:dF->Option R):Option R:=
 match find T.und t with
 |some (.slice e)=>match find T.row e with
  |some r=>bif EY 0 parts.toList&&agu m parts.toList.length&&Nat.ble (m*r.size) 16777216 then
    (match rL rd (parts.toList.map (·.2))with
    |some ds=>match As ob r ds with
     |some l=>k {dst:= .val ag (.own n),make:=[(n,(n, .own e r l))]}
     |none=>ae
    |none=>ae)else ae
  |none=>ae
 |_=>ae
def vo(T:aX P){rd:Operand->Option aC}(fU:∀x d,rd x=aa d->aB H F w d (ev ρ x)){t:TypeId}{m:Nat}{parts:Array (Nat×Operand)}{k:dF->Option R}{q:R}(h:jC T rd ob n t m parts k=aa q)(hs:aI U H F w ob n):
 ∃e,k e=aa q/\cd P U H F w ρ ob n ⟨aa d, .buildSlice t m parts,ty,pos,aft,ae⟩ e:=by
 unfold jC at h;split at h
 case h_2=>cases h
 rename_i e hu;split at h
 case h_2=>cases h
 rename_i r hr;obtain⟨h1,h⟩:=aP h;obtain⟨h1,h3⟩:=ct h1;obtain⟨h1,h2⟩:=ct h1;have h2:=beq_true h2
 have h3:m*r.size<=16777216:=by simpa using h3
 split at h
 case h_2=>cases h
 rename_i ds wS;split at h
 case h_2=>cases h
 rename_i l hl;have Rv:=Au hs hl (nH fU wS)
 have hp:parts=(((parts.toList.map (·.2)).zipIdx).map λp=>(p.2,p.1)).toArray:=by
  rw[<-vn h1,ahd]
 have hm:m=(parts.toList.map (·.2)).length:=by simpa using h2
 refine⟨_,h,?_⟩;have:=run_build (d:=d) (ty:=ty) (pos:=pos) (aft:=aft) (T.und_ok _ _ hu) (T.row_ok _ _ hr) hp (by grind) Rv hs
 grind
def EZ{P:Program}(T:aX P)(fs:List (TypeId×Nat)):Tree->List (Nat×aC)->Option Tree
 |t,[]=>aa t
 |t,(f, .val _ u)::l=>match t.get (rI fs.length f)with
  |some (s,off)=>match fs[f]? with
   |some (ft,dK)=>bif agu off dK&&agu u.size s.size&&(match find T.row ft with|some r=>agu r.size u.size|none=>ag)then
     (match t.put (rI fs.length f) u with
     |some t'=>EZ T fs t' l
     |none=>ae)else ae
   |none=>ae
  |none=>ae
 |_,_::_=>ae
def uK(T:aX P):List (TypeId×Nat)->Bool
 |[]=>af
 |p::fs=>(match find T.row p.1 with|some _=>af|none=>ag)&&uK T fs
def place(T:aX P)(fs:List (TypeId×Nat))(i:Nat):Option (Nat×Nat):=
 match fs[i]? with
 |some (ft,off)=>match find T.row ft with
  |some r=>aa (off,r.size)
  |none=>ae
 |none=>ae
def vp(T:aX P):{l:List Field}->{fs:List (TypeId×Nat)}->l.map (λf=>(f.type,f.offset))=fs->uK T fs=af->
 ∃pl:List (Nat×Nat),(l.mapM λ(f:Field)=>(do pure (f.offset,<-sizeOf f.type):Sem (Nat×Nat))).run P w= .ok pl w/\∀i,pl[i]? =place T fs i
 |[],fs,h,_=>by
  subst h;exact⟨[],by simp,λi=>by simp[place]⟩
 |f::l,fs,h,hz=>by
  subst h;obtain⟨h1,h2⟩:=ct hz;obtain⟨pl,Rw,Jy⟩:=vp T (l:=l) rfl h2
  cases hr:find T.row f.type with
  |none=>grind
  |some r=>
   obtain⟨ti,z,g1,_,_,g4,_⟩:=T.row_ok _ _ hr;refine⟨(f.offset,r.size)::pl,?_,λi=>?_⟩
   .have Df:(sizeOf f.type).run P w= .ok r.size w:=by simp[sizeOf,typeInfo,g1,g4]
    simp_all
   grind [place]
end
end
section
section
variable {P:Program} {ρ:Nat->Value} {w w':World} {H H':aG} {F F':Nat->Prop} {U:Nat->Prop} {ob:Nat->Option (Nat×Th)} {n:Nat} {R:Type}
variable {op:Op} {ty:TypeId} {pos:String} {aft:Array Edge} {d:Nat}
def Av(T:aX P){fs:List (TypeId×Nat)}{pl:List (Nat×Nat)}(hz:uK T fs=af)(vq:∀i,pl[i]? =place T fs i)(mz:∀ft off r,(ft,off)∈fs->find T.row ft=aa r->True):
 {parts:List (Nat×aC)}->{t t':Tree}->{cs:List Value}->{vs:List (Nat×Value)}->EZ T fs t parts=aa t'->Holds H F w t cs->parts.map (·.1)=vs.map (·.1)->fh H F w (parts.map (·.2)) (vs.map (·.2))->
 ∃uk,Instr.fill (pl[·]?) cs.toArray vs=aa uk.toArray/\Holds H F w t' uk
 |[],t,t',cs,vs,h,hh,h1,h2=>by
  obtain rfl:=agq h
  have:vs=[]:=by simpa using h1.symm
  subst this;exact⟨cs,by simp[Instr.fill],hh⟩
 |(f, .val agg u)::parts,t,t',cs,vs,h,hh,h1,h2=>by
  obtain⟨v,us,e,hv,h3⟩:=h2
  cases vs with
  |nil=>simp at e
  |cons fv vs=>
   obtain⟨f',v'⟩:=fv;simp only[List.map_cons,ahl]at h1 e;obtain⟨rfl,h1⟩:=h1;obtain⟨rfl,rfl⟩:=e;unfold EZ at h;split at h
   case h_2=>cases h
   rename_i s off hg;split at h
   case h_2=>cases h
   rename_i ft dK hf;obtain⟨hb,h'⟩:=aP h;clear h;obtain⟨hb,Vp⟩:=ct hb;obtain⟨IF,QX⟩:=ct hb;have IF:=beq_true IF;subst IF;have QX:=beq_true QX;split at h'
   case h_2=>cases h'
   rename_i tp hp;obtain⟨c1,xl,wQ⟩:=aO.cells hv;have hl:=xl.length;have hle:=(hh.get hg).2
   cases hr:find T.row ft with
   |none=>grind
   |some r=>
    simp only[hr]at Vp;have Vp:=beq_true Vp
    have OP:pl[f]? =aa (off,r.size):=by rw[vq];simp[place,hf,hr]
    rw[xj OP wQ (by omega) (by omega)];have sG:=Holds.put xl hg hp QX.symm hh;rw[show u.size=r.size from by omega]at sG;exact Av T hz vq mz h' sG h1 h3
 |(_, .dead)::_,_,_,_,_,h,_,_,_=>by cases h
 |(_, .undef)::_,_,_,_,_,h,_,_,_=>by cases h
 |(_, .ptr ..)::_,_,_,_,_,h,_,_,_=>by cases h
 |(_, .at ..)::_,_,_,_,_,h,_,_,_=>by cases h
 |(_, .elem ..)::_,_,_,_,_,h,_,_,_=>by cases h
 |(_, .tup _)::_,_,_,_,_,h,_,_,_=>by cases h
 |(_, .dlm ..)::_,_,_,_,_,h,_,_,_=>by cases h
def sN(T:aX P)(rd:Operand->Option aC)(t:TypeId)(parts:Array (Nat×Operand))(k:dF->Option R):Option R:=
 match find T.und t with
 |some (.struct fs)=>match find T.row t with
  |some r=>bif uK T fs then
    (match rL rd (parts.toList.map (·.2))with
    |some ds=>match EZ T fs r.An ((parts.toList.map (·.1)).zip ds)with
     |some tr=>k {dst:= .val af tr}
     |none=>ae
    |none=>ae)else ae
  |none=>ae
 |_=>ae
def jO:{ds:List aC}->{vs:List Value}->fh H F w ds vs->ds.length=vs.length
 |[],_,h=>by rw[show _=[]from h];rfl
 |_::_,_,h=>by obtain⟨v,us,rfl,_,h2⟩:=h;simp[jO h2]
def GQ(T:aX P){rd:Operand->Option aC}(fU:∀x d,rd x=aa d->aB H F w d (ev ρ x)){t:TypeId}{parts:Array (Nat×Operand)}{k:dF->Option R}{q:R}(h:sN T rd t parts k=aa q)(hs:aI U H F w ob n):
 ∃e,k e=aa q/\cd P U H F w ρ ob n ⟨aa d, .build t parts,ty,pos,aft,ae⟩ e:=by
 unfold sN at h;split at h
 case h_2=>cases h
 rename_i fs hu;obtain⟨arr,Dc,Mh⟩:=T.und_ok _ _ hu;split at h
 case h_2=>cases h
 rename_i r hr;obtain⟨ti,z,h1,h2,h3,h4,h5⟩:=T.row_ok _ _ hr;obtain⟨hz,h⟩:=aP h;split at h
 case h_2=>cases h
 rename_i ds wS;split at h
 case h_2=>cases h
 rename_i tr Rx;have hd:=nH (w:=w) (H:=H) (F:=F) (ρ:=ρ) fU wS;have hlen:=jO hd;obtain⟨pl,Rw,Jy⟩:=vp (w:=w) T Mh hz
 have hn:∀(a:List Nat)(b:List aC),a.length=b.length->(a.zip b).map (·.1)=a/\(a.zip b).map (·.2)=b:=λa b N0=>⟨List.map_fst_zip (by omega),List.map_snd_zip (by omega)⟩
 have Vq:=hn (parts.toList.map (·.1)) ds (by simp at hlen⊢;omega);obtain⟨uk,hf,hh⟩:=Av (w:=w) (H:=H) (F:=F) T hz Jy (λ_ _ _ _ _=>trivial) (vs:=parts.toList.map λ(i,q)=>(i,ev ρ q)) Rx (Row.mG H F w r) (by rw[Vq.1];simp[Function.comp_def]) (by grind [Function.comp_def]);refine⟨_,h,bz hs (v:= .agg uk.toArray) ?_ ⟨uk,hh,rfl,by simp⟩⟩
 have hzc:z.cells=r.eD.toArray:=by rw[<-h3,ahd]
 have GR:(arr.mapM λ(f:Field)=>(do pure (f.offset,<-sizeOf f.type):Sem (Nat×Nat))).run P w= .ok pl.toArray w:=by
  rw[<-ahd (xs:=arr),List.mapM_toArray];simp only[Sem.run_map,Rw];rfl
 have hpp:(parts.map λ(i,q)=>(i,ev ρ q)).toList=parts.toList.map λ(i,q)=>(i,ev ρ q):=by simp
 have Vr:(λ(x:Nat)=>pl.toArray[x]?)=λx=>pl[x]? :=by funext x;simp
 simp only[execOp,Instr.build,agL,zeroValue,typeInfo,h1,h2,run_program,Sem.run_pure,ahh,run_underlying Dc,hzc,hpp,GR,Vr,hf]
def Mm(rd:Operand->Option aC):Option Operand->Option (Option Int)
 |none=>aa ae
 |some x=>match rd x with
  |some d=>match asInt d with
   |some (_,i)=>aa (aa i)
   |none=>ae
  |none=>ae
def E0{rd:Operand->Option aC}(fU:∀x d,rd x=aa d->aB H F w d (ev ρ x)){lo:Option Operand}{a:Option Int}(h:Mm rd lo=aa a):OL ρ lo a:=by
 unfold Mm at h;split at h
 .obtain rfl:=agq h;exact .none
 .split at h
  .split at h
   .obtain rfl:=agq h;rename_i hD _ _ _ hi;exact .some (hZ hi (fU _ _ hD))
   .cases h
  .cases h
def sO(dr:Bool)(T:aX P)(rd:Operand->Option aC)(ob:Nat->Option (Nat×Th))(n:Nat)(t:TypeId)(D:aC)(lo hi:Option Operand)(k:dF->Option R):Option R:=
 match find T.und t with
 |some (.slice e)=>match find T.row e with
  |some re=>match Mm rd lo with
   |some a=>match Mm rd hi with
    |some b=>match uu ob D with
     |some (.read r l)=>bif agu r.size re.size then(gK l (a.getD 0) (b.getD (l.length:Int))).bind λm=>k {dst:= .val ag (.leaf (.slice r) m)}else ae
     |some .nil=>(gK ([]:List re.den) (a.getD 0) (b.getD 0)).bind λ_=>k {dst:= .val ag .nil}
     |some (.own o s T0 r l)=>bif agu r.size re.size&&agu T0 e&&(lo.isNone||dr)then(gK l (a.getD 0) (b.getD (l.length:Int))).bind λm=>k {dst:= .val ag (.own n),eat:=[o],make:=[(n,(n, .own T0 r m))]}
       else bif agu r.size re.size then(gK l (a.getD 0) (b.getD (l.length:Int))).bind λm=>k {dst:= .val ag (.view o s r m)}else ae
     |_=>ae
    |none=>ae
   |none=>ae
  |none=>ae
 |_=>ae
def GS{e T0:TypeId}{ti:TypeInfo}{r:Row}{t:TypeId}{x:Operand}{lo hi:Option Operand}{a b:Option Int}{l m:List r.den}{o s:Nat}{v:Value}(ht:P.underlying t=aa (.slice e))(h1:P.info? e=aa ti)(h4:ti.size=r.size)(hx:ev ρ x=v)
 (hs:aI U H F w ob n)(cA:ob o=aa (s, .own T0 r l))(GU:H.val o=aa v)(ha:OL ρ lo a)(hb:OL ρ hi b)(hm:gK l (a.getD 0) (b.getD l.length)=aa m):
 cd P U H F w ρ ob n ⟨aa d, .slice t x lo hi ae,ty,pos,aft,ae⟩ {dst:= .val ag (.own n),eat:=[o],make:=[(n,(n, .own T0 r m))]}:=by
 have hv:=hs.own cA GU;obtain⟨p,q,ep,eq,QY,hq,rfl⟩:=sF hm;obtain⟨A,cap,rfl,hlen,OI,_⟩:=hv.reads;have bj:=uI (P:=P) (w:=w) (d:=d) (ty:=ty) (pos:=pos) (aft:=aft) ht h1 hx ha hb (by omega) (by omega) (by omega) hlen;rw[ep,eq,agE,agE,h4]at bj;obtain⟨CO,xs,⟨Gw,LU⟩,hr⟩:=hv
 have Vs:((l.take q).drop p).length=q-p:=by simp;omega
 have hmul:q*r.size<=l.length*r.size:=agA _ hq;have ZN:p*r.size<=q*r.size:=agA _ QY;have ZO:(q-p)*r.size=q*r.size-p*r.size:=Nat.sub_mul ..
 have bC:Ext (bX H ob [o]) w w:=⟨rfl,⟨rfl,agt _⟩,rfl,agt _,λ_ _ _=>rfl⟩
 rcases LU with⟨Jt,h0⟩|⟨g,o0,Jc,cur,gE,qR,hh,hn1,hn2,qQ,Mn⟩
 .simp only[ahH]at Jt;obtain⟨rfl,_,rfl⟩:=Jt
  have hq0:q=0:=by omega
  subst hq0
  obtain rfl:p=0:=by omega
  refine bT.val bj (sM hs bC ?_ ?_)
  .simpa[sliced]using lJ.nil 0 F w T0 r
  .intro k hk;simp[sliced,bF,agI]at hk
 .simp only[ahH,true_and]at gE;obtain⟨rfl,rfl⟩:=gE
  obtain⟨o1,pk,ho1,Ry⟩:∃o1,sliced (aa ⟨g,o0,ae⟩) p q cap r.size= .slice (aa ⟨g,o1,ae⟩) (q-p) (cap-p)/\o1+(cap-p)*r.size<=cur.size/\(cur.toList.drop o1).take ((q-p)*r.size)=(xs.drop (p*r.size)).take ((q-p)*r.size):=by
   have hcp:p*r.size<=cap*r.size:=agA _ (by omega);have aba:(cap-p)*r.size=cap*r.size-p*r.size:=Nat.sub_mul ..;unfold sliced;by_cases hc:cap=p
   .refine⟨o0,by rw[aj hc],by omega,?_⟩
    have:q=p:=by omega
    subst this;simp
   .refine⟨o0+p*r.size,by rw[ai hc,Option.map_some,cU],by omega,?_⟩;rw[<-Mn,List.drop_take,List.take_take,List.drop_drop]
    congr 1
    omega
  rw[pk]at bj
  have ZP:∀k,bF (.slice (aa ⟨g,o1,ae⟩) (q-p) (cap-p)) k->bF (.slice (aa ⟨g,o0,ae⟩) l.length cap) k:=λk hk=>by simpa[bF,agI]using hk
  refine bT.val bj (sM hs bC ⟨λk hk=>CO k (ZP k hk),(xs.drop (p*r.size)).take ((q-p)*r.size),⟨by rw[Vs];simp;omega, .inr ⟨g,o1,cap-p,cur,by rw[Vs],qR,hh,by omega,by omega,ho1,?_⟩⟩,λi hi=>?_⟩ λk hk=> .inl ⟨o,by simp,_,_,_,cA,GU,ZP k hk⟩)
  .rw[Vs];exact Ry
  .have hi2:i<q-p:=by omega
   have hle:(i+1)*r.size<=(q-p)*r.size:=agA _ hi2;rw[agP]at hle;have:=hr (p+i) (by omega)
   have hg:((l.take q).drop p)[i]=l[p+i]'(by omega):=by simp
   rw[hg,List.drop_take,List.take_take,ahs (by omega),List.drop_drop,show p*r.size+i*r.size=(p+i)*r.size from(agP ..).symm];exact this
def GV(dr:Bool)(T:aX P){rd:Operand->Option aC}(fU:∀x d,rd x=aa d->aB H F w d (ev ρ x)){t:TypeId}{D:aC}{x:Operand}{lo hi:Option Operand}{k:dF->Option R}{q:R}(h:sO dr T rd ob n t D lo hi k=aa q)(hs:aI U H F w ob n)(hx:aB H F w D (ev ρ x)):
 ∃e,k e=aa q/\cd P U H F w ρ ob n ⟨aa d, .slice t x lo hi ae,ty,pos,aft,ae⟩ e:=by
 unfold sO at h;split at h
 case h_2=>cases h
 rename_i e hu;have ht:=T.und_ok _ _ hu;split at h
 case h_2=>cases h
 rename_i re Vt;obtain⟨ti,z,h1,_,_,h4,_⟩:=T.row_ok _ _ Vt;split at h
 case h_2=>cases h
 rename_i a ha;split at h
 case h_2=>cases h
 rename_i b hb;have UJ:=E0 (w:=w) (H:=H) (F:=F) (ρ:=ρ) fU ha;have qR:=E0 (w:=w) (H:=H) (F:=F) (ρ:=ρ) fU hb
 have OQ:∀{r:Row}{l m:List r.den},cF F w (.slice r) [ev ρ x] l->r.size=re.size->gK l (a.getD 0) (b.getD (l.length:Int))=aa m->cd P U H F w ρ ob n ⟨aa d, .slice t x lo hi ae,ty,pos,aft,ae⟩ {dst:= .val ag (.leaf (.slice r) m)}:=by
  intro r l m hv hz hm;obtain⟨p,q',ep,eq,QY,hq,rfl⟩:=sF hm;have dX:=hv;obtain⟨A,cap,he,hc,Mo,_⟩:=hv;simp only[ahl,and_true]at he;have bj:=uI (P:=P) (w:=w) (d:=d) (ty:=ty) (pos:=pos) (aft:=aft) ht h1 he UJ qR (by omega) (by omega) (by omega) hc;rw[ep,eq,agE,agE,h4,<-hz]at bj;rw[he]at dX;exact bz hs bj (aO.nD (dX.cut QY hq))
 split at h
 .rename_i r l gE;obtain⟨hz,h⟩:=aP h;obtain⟨m,hm,hk⟩:=bind_some h;exact⟨_,hk,OQ (iB hs gE hx) (beq_true hz) hm⟩
 .rename_i gE;obtain⟨m,hm,hk⟩:=bind_some h;have hv:ev ρ x=_:=iB hs gE hx;unfold gK at hm;split at hm
  case isFalse=>cases hm
  rename_i hc
  have ea:a.getD 0=0:=by have:=hc.2.1;have:=hc.2.2;simp at this;omega
  have eb:b.getD ((0:Nat):Int)=0:=by have:=hc.2.1;have:=hc.2.2;simp at this⊢;omega
  have bj:=uI (P:=P) (w:=w) (d:=d) (ty:=ty) (pos:=pos) (aft:=aft) ht h1 hv UJ qR (by omega) (by omega) (by omega) (agt _);rw[ea,eb]at bj;exact⟨_,hk,bz hs bj ⟨_,rfl,rfl,λ_=>rfl⟩⟩
 .rename_i o s T0 r l gE;obtain⟨hv,cA,dS⟩:=iB hs gE hx
  cases Vu:(agu r.size re.size&&agu T0 e&&(lo.isNone||dr))with
  |true=>
   rw[Vu,cond_true]at h;obtain⟨Df,ZQ⟩:=ct Vu;obtain⟨EW,hT⟩:=ct Df;have Ru:=beq_true EW;obtain⟨m,hm,hk⟩:=bind_some h;exact⟨_,hk,GS ht h1 (h4.trans Ru.symm) rfl hs cA hv UJ qR hm⟩
  |false=>
   rw[Vu,cond_false]at h;obtain⟨EW,h'⟩:=aP h;clear h;have Ru:=beq_true EW;obtain⟨m,hm,hk⟩:=bind_some h';obtain⟨p,q',ep,eq,QY,hq,rfl⟩:=sF hm;obtain⟨A,cap,he,hc,Mo,_⟩:=dS.reads;have bj:=uI (P:=P) (w:=w) (d:=d) (ty:=ty) (pos:=pos) (aft:=aft) ht h1 he UJ qR (by omega) (by omega) (by omega) hc;rw[ep,eq,agE,agE,h4,<-Ru]at bj;obtain⟨v',dX,cL⟩:=hs.obj _ _ _ cA;refine⟨_,hk,bz hs bj ⟨_,⟨_,rfl,A,cap,T0,l,p,q',by rw[hv,he],cL.con,QY,hq,rfl,rfl⟩,rfl,λ_=>rfl⟩⟩
 .cases h
noncomputable def OR(T:aX P)(ob:Nat->Option (Nat×Th))(o:BinOp)(t:TypeId)(X Y:aC):Option aC:=
 match X,Y with
 | .val ag (.leaf .bool a), .val ag (.leaf .bool b)=>match find T.und t with
   |some .bool=>match o with
    | .eql=>aa (dC (decide (a=b)))
    | .neq=>aa (dC (!decide (a=b)))
    |_=>ae
   |_=>ae
 | .val ag (.leaf .str a), .val ag (.leaf .str b)=>match o with
   | .eql=>aa (dC (decide (a=b)))
   | .neq=>aa (dC (!decide (a=b)))
   |_=>ae
 | .val af u, .val af v=>match find T.eqs t with
   |some r=>match flat ob r u with
    |some x=>match flat ob r v with
     |some y=>match o with
      | .eql=>aa (dC (nz r x y))
      | .neq=>aa (dC (!(nz r x y)))
      |_=>ae
     |none=>ae
    |none=>ae
   |none=>ae
 |_,_=>ae
theorem Mp(T:aX P){o:BinOp}{t u:TypeId}{X Y D:aC}{x y:Operand}(h:OR T ob o t X Y=aa D)(hs:aI U H F w ob n)(hx:aB H F w X (ev ρ x))(hy:aB H F w Y (ev ρ y)):
 cd P U H F w ρ ob n ⟨aa d, .binOp o t x y u,ty,pos,aft,ae⟩ {dst:=D}:=by
 unfold OR at h;split at h
 .rename_i a b;split at h
  case h_2=>cases h
  rename_i hu;have hu:=T.und_ok _ _ hu;have ha:ev ρ x= .bool a:=aO.bool hx;have hb:ev ρ y= .bool b:=aO.bool hy
  split at h<;>cases h
  .exact aQ hs (Gg hu ha hb) (aO.fx ..)
  .exact aQ hs (Gh hu ha hb) (aO.fx ..)
 .rename_i a b;have ha:ev ρ x= .string a:=aO.str hx;have hb:ev ρ y= .string b:=aO.str hy
  split at h<;>cases h
  .exact aQ hs (Gi ha hb) (aO.fx ..)
  .exact aQ hs (Gj ha hb) (aO.fx ..)
 .rename_i u v;split at h
  case h_2=>cases h
  rename_i r hr;obtain⟨K,dd,hE,hd,hg,hD⟩:=T.eqs_ok _ _ hr;split at h
  case h_2=>cases h
  rename_i a ha;split at h
  case h_2=>cases h
  rename_i b hb;obtain⟨c1,g1,e1,_⟩:=hx;obtain⟨c2,g2,e2,_⟩:=hy;have r1:=gk hs ha g1;have r2:=gk hs hb g2
  split at h<;>cases h
  .exact aQ hs (Gz hE hd hg hD e1 e2 r1 r2) (aO.fx ..)
  .exact aQ hs (GA hE hd hg hD e1 e2 r1 r2) (aO.fx ..)
 .cases h
def OT(a b:ByteArray):Option ByteArray:=if a.size+b.size<=9223372036854775807 then aa (a++b)else ae
def Dh(o:BinOp)(X Y:aC):Option (ByteArray×ByteArray):=
 match o,X,Y with
 | .add, .val ag (.leaf .str a), .val ag (.leaf .str b)=>aa (a,b)
 |_,_,_=>ae
def OU{t u:TypeId}{o:BinOp}{X Y:aC}{x y:Operand}{a b c:ByteArray}(h:Dh o X Y=aa (a,b))(hc:OT a b=aa c)(hs:aI U H F w ob n)(hx:aB H F w X (ev ρ x))(hy:aB H F w Y (ev ρ y)):
 cd P U H F w ρ ob n ⟨aa d, .binOp o t x y u,ty,pos,aft,ae⟩ {dst:= .val ag (.leaf .str c)}:=by
 unfold Dh at h
 split at h<;>cases h
 unfold OT at hc;split at hc
 case isFalse=>cases hc
 rename_i hle;obtain rfl:=agq hc;have ha:ev ρ x= .string a:=aO.str hx;have hb:ev ρ y= .string b:=aO.str hy;refine bz hs (v:= .string (a++b)) ?_ (aO.nD rfl)
 have:¬(9223372036854775807:Int)<(a.size:Int)+(b.size:Int):=by omega
 simp[execOp,eqGuard,binOp,Op.stringOp,ha,hb,IntKind.max,IntKind.signed,ahL,this]
noncomputable def GW(T:aX P)(ob:Nat->Option (Nat×Th))(o:BinOp)(t:TypeId)(lit:Bool)(X Y:aC)(k:dF->Option R):Option R:=
 match asInt X with
 |some (kx,a)=>match asInt Y with
  |some (ky,b)=>match o with
   | .shl=>bif lit then(bif !decide (b<0)then k {dst:=l4 kx (sI kx a b)}else ae)else(qC kx a b).bind λc=>k {dst:=l4 kx c}
   | .shr=>bif lit then(bif !decide (b<0)then k {dst:=l4 kx (bx kx a b)}else ae)else(ur kx a b).bind λc=>k {dst:=l4 kx c}
   |o=>bif decide (kx=ky)then
    (match o with
    | .quo=>bif lit then(bif decide (b≠0)then k {dst:=l4 kx (kx.wrap (agC a b))}else ae)else(kB a b).bind λc=>k {dst:=l4 kx (kx.wrap c)}
    | .rem=>bif lit then(bif decide (b≠0)then k {dst:=l4 kx (agD a b)}else ae)else(ph a b).bind λc=>k {dst:=l4 kx c}
    |_=>match arith o kx a b with
     |some D=>k {dst:=D}
     |none=>ae)else ae
  |none=>ae
 |none=>match Dh o X Y with
  |some (a,b)=>(OT a b).bind λc=>k {dst:= .val ag (.leaf .str c)}
  |none=>match OR T ob o t X Y with
   |some D=>k {dst:=D}
   |none=>ae
def Mq(T:aX P){o:BinOp}{t u:TypeId}{lit:Bool}{X Y:aC}{x y:Operand}{k:dF->Option R}{q:R}(h:GW T ob o t lit X Y k=aa q)(hs:aI U H F w ob n)(hx:aB H F w X (ev ρ x))(hy:aB H F w Y (ev ρ y)):
 ∃e,k e=aa q/\cd P U H F w ρ ob n ⟨aa d, .binOp o t x y u,ty,pos,aft,ae⟩ e:=by
 unfold GW at h;split at h
 .rename_i kx a hX;split at h
  case h_2=>cases h
  rename_i ky b hY;have ha:=hZ hX hx;have hb:=hZ hY hy;split at h
  .cases lit with
   |true=>
    rw[cond_true]at h;obtain⟨dJ,h⟩:=aP h;exact⟨_,h,aQ hs (Al ha hb (by simpa using dJ)) (aO.jA ..)⟩
   |false=>
    rw[cond_false]at h;obtain⟨c,hc,h⟩:=bind_some h;unfold qC at hc;split at hc
    .cases hc
    .rename_i dJ;obtain rfl:=agq hc;exact⟨_,h,aQ hs (Al ha hb dJ) (aO.jA ..)⟩
  .cases lit with
   |true=>
    rw[cond_true]at h;obtain⟨dJ,h⟩:=aP h;exact⟨_,h,aQ hs (Am ha hb (by simpa using dJ)) (aO.jA ..)⟩
   |false=>
    rw[cond_false]at h;obtain⟨c,hc,h⟩:=bind_some h;unfold ur at hc;split at hc
    .cases hc
    .rename_i dJ;obtain rfl:=agq hc;exact⟨_,h,aQ hs (Am ha hb dJ) (aO.jA ..)⟩
  obtain⟨hk,h'⟩:=aP h;clear h;have hk:=al hk;subst hk;revert h';intro h;split at h
  .cases lit with
   |true=>
    rw[cond_true]at h;obtain⟨dJ,h⟩:=aP h
    grind [Jq]
   |false=>
    grind [kB,Jq]
  .cases lit with
   |true=>
    rw[cond_true]at h;obtain⟨dJ,h⟩:=aP h
    grind [Jr]
   |false=>
    grind [ph,Jr]
  grind [Jp]
 .split at h
  .rename_i a b N0;obtain⟨c,hc,h⟩:=bind_some h;exact⟨_,h,OU N0 hc hs hx hy⟩
  grind [Mp]
def Vv(o:UnOp)(X:aC):Option aC:=
 match o with
 | .not=>match asBool X with
   |some b=>aa (dC (!b))
   |none=>ae
 | .neg=>match asInt X with
   |some (k,a)=>aa (l4 k (k.wrap (0-a)))
   |none=>ae
 |_=>ae
theorem OV{o:UnOp}{t:TypeId}{X D:aC}{x:Operand}(h:Vv o X=aa D)(hs:aI U H F w ob n)(hx:aB H F w X (ev ρ x)):
 cd P U H F w ρ ob n ⟨aa d, .unOp o t x,ty,pos,aft,ae⟩ {dst:=D}:=by
 unfold Vv at h;split at h
 .split at h<;>cases h
  rename_i b hb;exact aQ hs (I6 (nE hb hx)) (aO.fx ..)
 .split at h<;>cases h
  rename_i k a ha;exact aQ hs (I7 (hZ ha hx)) (aO.jA ..)
 .cases h
def Jz(T:aX P)(s t:TypeId)(X:aC):Option aC:=
 match find T.und s with
 |some _=>match find T.und t with
  |some (.int k)=>match asInt X with
   |some (_,a)=>aa (l4 k (k.wrap a))
   |none=>ae
  |some .str=>match Aj X with
   |some a=>aa (Vj a)
   |none=>ae
  |_=>ae
 |none=>ae
def JA(T:aX P){s t:TypeId}{X D:aC}{x:Operand}(h:Jz T s t X=aa D)(hs:aI U H F w ob n)(hx:aB H F w X (ev ρ x)):
 cd P U H F w ρ ob n ⟨aa d, .convert s t x,ty,pos,aft,ae⟩ {dst:=D}:=by
 unfold Jz at h;split at h
 case h_2=>cases h
 rename_i ks hsu;obtain⟨dd,uH,_⟩:=(T.und_ok _ _ hsu).agg;split at h
 .rename_i k Vw
  split at h<;>cases h
  rename_i k' a ha;exact aQ hs (Gk uH (T.und_ok _ _ Vw) (hZ ha hx)) (aO.jA ..)
 .rename_i Vw
  split at h<;>cases h
  rename_i a ha;have hv:=vg ha hx;have Vx:P.underlying t=aa .string:=T.und_ok _ _ Vw;refine bz hs (v:= .string a) ?_ (aO.mkStr ..);simp[execOp,convert,run_underlying uH,run_underlying Vx,hv]
 .cases h
def vr(D:aC)(i:Nat):Option aC:=
 match D with
 | .tup ds=>match ds[i]? with
   |some (a,t)=>aa (.val a t)
   |none=>ae
 |_=>ae
def rH.get:{ds:List (Bool×Tree)}->{vs:List Value}->{i:Nat}->{a:Bool}->{t:Tree}->rH H F w ds vs->ds[i]? =aa (a,t)->∃v,vs[i]? =aa v/\aO H F w a t v
 |[],_,_,_,_,_,h=>by cases h
 |d::ds,_,0,a,t,hh,h=>by
  obtain⟨v,us,rfl,h1,h2⟩:=hh
  grind
 |d::ds,_,i+1,a,t,hh,h=>by
  obtain⟨v,us,rfl,h1,h2⟩:=hh;obtain⟨v',e,hv⟩:=rH.get h2 (by simpa using h)
  grind
theorem Aw{D D':aC}{i:Nat}{x:Operand}(h:vr D i=aa D')(hs:aI U H F w ob n)(hx:aB H F w D (ev ρ x)):
 cd P U H F w ρ ob n ⟨aa d, .extract x i,ty,pos,aft,ae⟩ {dst:=D'}:=by
 unfold vr at h;split at h
 case h_2=>cases h
 split at h<;>cases h
 rename_i ds a t hd;obtain⟨vs,e,ht⟩:=hx;obtain⟨v,hv,mE⟩:=ht.get hd;exact aQ hs (yD e (by simpa using hv)) mE
def uL(mx:Bool)(X Y:aC):Option aC:=
 match asInt X,asInt Y with
 |some (k,a),aa (k',b)=>bif decide (k=k')then aa (l4 k (bif mx then(if a<b then b else a)else(if b<a then b else a)))else ae
 |_,_=>ae
theorem vu{mx:Bool}{t t':TypeId}{X Y D:aC}{x y:Operand}(h:uL mx X Y=aa D)(hs:aI U H F w ob n)(hx:aB H F w X (ev ρ x))(hy:aB H F w Y (ev ρ y)):
 cd P U H F w ρ ob n ⟨aa d, .call {callee:= .builtin (bif mx then .max else .min),args:= #[x,y],argTypes:= #[t,t']},ty,pos,aft,ae⟩ {dst:=D}:=by
 unfold uL at h;split at h
 case h_2=>cases h
 rename_i k a k' b ha hb;obtain⟨hk,h'⟩:=aP h;clear h;have hk:=al hk;subst hk;obtain rfl:=agq h';have ha:=hZ ha hx;have hb:=hZ hb hy
 cases mx with
 |true=>exact aQ hs (Gm ha hb) (aO.jA ..)
 |false=>exact aQ hs (Gn ha hb) (aO.jA ..)
theorem GX{D:aC}{x:Operand}(hs:aI U H F w ob n)(hx:aB H F w D (ev ρ x)):cd P U H F w ρ ob n ⟨aa d, .move x,ty,pos,aft,ae⟩ {dst:=D}:=aQ hs (Gf rfl) hx
theorem Ax{D:aC}{x:Operand}(hs:aI U H F w ob n)(hx:aB H F w D (ev ρ x)):cd P U H F w ρ ob n ⟨aa d, .assign x,ty,pos,aft,ae⟩ {dst:=D}:=aQ hs (Ae rfl) hx
def yI(T:aX P)(t:TypeId)(f:Nat)(X:aC):Option aC:=
 match find T.und t with
 |some (.struct fs)=>match fs[f]? with
  |some (ft,off)=>match find T.und ft with
   |some kk=>match X with
    | .val af u=>match u.get (rI fs.length f)with
      |some (s,dK)=>bif agu dK off&&l7 T ft kk s.size then aa (.val (jN kk) s)else ae
      |none=>ae
    |_=>ae
   |none=>ae
  |none=>ae
 |_=>ae
def Di(T:aX P){t:TypeId}{f:Nat}{X D:aC}{x:Operand}(h:yI T t f X=aa D)(hs:aI U H F w ob n)(hx:aB H F w X (ev ρ x)):
 cd P U H F w ρ ob n ⟨aa d, .field t x f,ty,pos,aft,ae⟩ {dst:=D}:=by
 unfold yI at h;split at h
 case h_2=>cases h
 rename_i fs hu;obtain⟨arr,Dc,Mh⟩:=T.und_ok _ _ hu;split at h
 case h_2=>cases h
 rename_i ft off hf;obtain⟨fd,QU,rfl,rfl⟩:=Ao Mh hf;split at h
 case h_2=>cases h
 rename_i kk hft;obtain⟨dd,uH,ul⟩:=(T.und_ok _ _ hft).agg;split at h
 case h_2=>cases h
 rename_i u;split at h
 case h_2=>cases h
 rename_i s dK hg;obtain⟨hb,rfl⟩:=rJ h;obtain⟨IF,QX⟩:=ct hb;obtain rfl:=beq_true IF;have hz:=jB T QX;obtain⟨cs,qQ,e,_⟩:=hx;obtain⟨g1,g2⟩:=qQ.get hg;have hl:=g1.length;have e':ev ρ x= .agg cs.toArray:=e
 have Rz:∃v,(part fd.type cs.toArray fd.offset).run P w= .ok v w/\aO H F w (jN kk) s v:=by
  cases ha:jN kk with
  |true=>
   rw[aj ha]at hz;obtain⟨r,hr,LQ⟩:=hz;obtain⟨ti,z,h1,_,_,h4,_⟩:=T.row_ok _ _ hr;refine⟨.agg ((cs.drop fd.offset).take s.size).toArray,?_,_,g1,rfl,by simp⟩;unfold part;rw[agL,eW uH,ul,ha];simp[sizeOf,typeInfo,h1,h4,LQ]
  |false=>
   rw[ai (by simp[ha])]at hz
   have bi:fd.offset<cs.length:=by omega
   refine⟨cs[fd.offset],?_,_,g1,?_,λ_=>?_⟩
   .unfold part;rw[agL,eW uH,ul,ha];simp[bi]
   all_goals grind [List.take_one,List.head?_drop]
 obtain⟨v,hv,mE⟩:=Rz;refine bz hs (v:=v) ?_ mE;simp[execOp,Instr.field,run_underlying Dc,QU,e',asAgg,hv]
end
end
section
open Go Go.RowKit Go.MapKept
noncomputable def bH{α:Type}(K:Row):List (K.den×α)->K.den->Option α
 |[],_=>ae
 |p::l,k=>if dY K p.1 k=af then aa p.2 else bH K l k
noncomputable def nI{α:Type}(K:Row):List (K.den×α)->K.den->α->List (K.den×α)
 |[],k,v=>[(k,v)]
 |p::l,k,v=>if dY K p.1 k=af then(p.1,v)::l else p::nI K l k v
theorem iC{K:Row}{a b:K.den}{u v:Value}(ha:jM K a=aa u)(hb:jM K b=aa v):dY K a b=af↔u=v:=by
 unfold jM at ha
 split at ha<;>first|cases ha|skip
 all_goals grind [jM,dY]
def Ay{P:Program}(T:aX P)(kt:TypeId):Row->Bool
 | .int k=>match find T.und kt with
   |some (.int k')=>decide (k=k')
   |_=>ag
 | .bool=>match find T.und kt with
   |some .bool=>af
   |_=>ag
 | .str=>match find T.und kt with
   |some .str=>af
   |_=>ag
 |_=>ag
section
variable {P:Program} {ρ:Nat->Value} {w w':World} {H H':aG} {F F':Nat->Prop} {U:Nat->Prop} {ob:Nat->Option (Nat×Th)} {n:Nat} {R:Type}
variable {op:Op} {ty:TypeId} {pos:String} {aft:Array Edge} {d:Nat}
def vv(T:aX P){kt:TypeId}{K:Row}(h:Ay T kt K=af):∃d,P.underlying kt=aa d/\(∀x v,jM K x=aa v->IsKey d v)/\(∀x v,cF F w K [v] x->jM K x=aa v):=by
 unfold Ay at h;split at h
 .split at h
  .rename_i k _ k' hu;obtain rfl:=al h;refine⟨_,T.und_ok _ _ hu,λx v hx=>?_,λx v hr=>?_⟩
   .obtain rfl:=agq hx;rfl
   .have LP:[v]=[ahb k x]:=hr;simp only[ahl,and_true]at LP;rw[LP];rfl
  .cases h
 .split at h
  .rename_i hu;refine⟨_,T.und_ok _ _ hu,λx v hx=>?_,λx v hr=>?_⟩
   .obtain rfl:=agq hx;trivial
   .have LP:[v]=[Value.bool x]:=hr;simp only[ahl,and_true]at LP;rw[LP];rfl
  .cases h
 .split at h
  .rename_i hu;refine⟨_,T.und_ok _ _ hu,λx v hx=>?_,λx v hr=>?_⟩
   .obtain rfl:=agq hx;trivial
   .have LP:[v]=[Value.string x]:=hr;simp only[ahl,and_true]at LP;rw[LP];rfl
  .cases h
 .cases h
def sP{K:Row}{agg:Bool}{V:Row}{dd:TypeDesc}{x:K.den}{kv:Value}(hK:∀x v,jM K x=aa v->IsKey dd v)(hx:jM K x=aa kv):{es:List MapEntry}->{l:List (K.den×V.den)}->(i:Nat)->fG H F w K agg V es l->
 (ahe dd kv es i=aa ae/\bH K l x=ae/\(∀e∈es,e.key≠kv)/\∀H' F' w' y(e:MapEntry),e.key=kv->H.le H'->Step F w F' w'->aO H' F' w' agg (.leaf V y) e.val->fG H' F' w' K agg V (es++[e]) (nI K l x y))\/
 ∃j e y,ahe dd kv es i=aa (aa (i+j,e.val))/\es[j]? =aa e/\e.key=kv/\bH K l x=aa y/\aO H F w agg (.leaf V y) e.val/\
  ∀H' F' w' y(f:MapEntry->MapEntry),(f e).key=kv->H.le H'->Step F w F' w'->aO H' F' w' agg (.leaf V y) (f e).val->fG H' F' w' K agg V (es.modify j f) (nI K l x y)
 |[],l,i,h=>by
  obtain rfl:l=[]:=h;refine .inl ⟨rfl,rfl,by simp,λH' F' w' y e he hH hs hv=>⟨x,y,[],rfl,by grind,hv,rfl⟩⟩
 |e::es,l,i,h=>by
  obtain⟨k,y,l',rfl,h1,h2,h3⟩:=h;obtain⟨r,hr,OW⟩:=sameNow_of_keys (hK x kv hx) (hK k _ h1);have ID:=iC h1 hx
  cases r with
  |true=>
   have ZR:kv=e.key:=OW.1 rfl;have hq:dY K k x=af:=ID.2 ZR.symm;refine .inr ⟨0,e,y,by simp[ahe,hr],rfl,ZR.symm,by simp[bH,hq],h2,λH' F' w' y' f hf hH hs hv=>?_⟩;refine⟨k,y',l',by simp[nI,hq],?_,hv,h3.keep hH hs⟩
   grind
  |false=>
   have dJ:¬e.key=kv:=(by grind)
   have hq:¬dY K k x=af:=λq=>dJ (ID.1 q)
   rcases sP hK hx (i+1) h3 with⟨a1,a2,a3,a4⟩|⟨j,e',z,a1,a2,a3,a4,a5,a6⟩
   .refine .inl ⟨by simp[ahe,hr,a1],by simp[bH,hq,a2],λe' CU=>?_,λH' F' w' y' e' CU hH hs hv=>?_⟩
    .grind
    .exact⟨k,y,_,by simp[nI,hq],h1,h2.keep hH hs,a4 H' F' w' y' e' CU hH hs hv⟩
   .refine .inr ⟨j+1,e',z,by simp[ahe,hr,a1];omega,by simpa using a2,a3,by simp[bH,hq,a4],a5,λH' F' w' y' f hf hH hs hv=>?_⟩;refine⟨k,y,_,by simp[nI,hq],?_,?_,a6 H' F' w' y' f hf hH hs hv⟩
    .exact h1
    .exact h2.keep hH hs
noncomputable def asKey(ob:Nat->Option (Nat×Th))(K:Row):aC->Option K.den
 | .val ag t=>flat ob K t
 |_=>ae
def vw(hs:aI U H F w ob n){K:Row}{D:aC}{x:K.den}{v:Value}(h:asKey ob K D=aa x)(hd:aB H F w D v):cF F w K [v] x:=by
 unfold asKey at h;split at h
 .obtain⟨cs,h1,_,h3⟩:=hd
  grind [gk]
 .cases h
def E1(ob:Nat->Option (Nat×Th)):aC->Option (Nat×Nat×Th)
 | .val ag (.own o)=>match ob o with
   |some (s, .map T K agg V l)=>aa (o,s, .map T K agg V l)
   |_=>ae
 |_=>ae
def Az(hs:aI U H F w ob n){D:aC}{o s:Nat}{t:Th}{v:Value}(h:E1 ob D=aa (o,s,t))(hd:aB H F w D v):∃T K agg V l b es clock,t= .map T K agg V l/\ob o=aa (s,t)/\H.val o=aa v/\v= .map (aa b)/\
 w.heap[b]? =aa (.map es clock)/\Stamped es clock/\fG H F w K agg V es.toList l:=by
 unfold E1 at h;split at h
 .rename_i o';split at h
  .rename_i s' T K agg V l cA;simp only[agz,Prod.mk.injEq]at h;obtain⟨rfl,rfl,rfl⟩:=h;obtain⟨cs,⟨u,hu,_,e⟩,_,h3⟩:=hd;rw[h3 rfl]at e
   obtain rfl:v=u:=by simpa using e
   obtain⟨v',dX,cL⟩:=hs.obj _ _ _ cA;rw[hu]at dX;obtain rfl:=agq dX;obtain⟨b,es,clock,e,h1,h2,h3⟩:=cL.ok
   grind
  .cases h
 .cases h
def nJ(T:aX P)(n:Nat)(t:TypeId)(k:dF->Option R):Option R:=
 match find T.und t with
 |some (.map kt vt)=>match find T.row kt with
  |some K=>match find T.row vt with
   |some V=>match find T.und vt with
    |some kk=>k {dst:= .val ag (.own n),make:=[(n,(n, .map t K (jN kk) V []))]}
    |none=>ae
   |none=>ae
  |none=>ae
 |_=>ae
def AA(T:aX P){t:TypeId}{k:dF->Option R}{q:R}(h:nJ T n t k=aa q)(hs:aI U H F w ob n):
 ∃e,k e=aa q/\cd P U H F w ρ ob n ⟨aa d, .makeMap t ae,ty,pos,aft,ae⟩ e:=by
 unfold nJ at h;split at h
 case h_2=>cases h
 split at h
 case h_2=>cases h
 rename_i K _;split at h
 case h_2=>cases h
 rename_i V _;split at h
 case h_2=>cases h
 rename_i kk _
 have bj:(execOp (ev ρ) ⟨aa d, .makeMap t ae,ty,pos,aft,ae⟩).run P w= .ok (.value (.map (aa w.heap.size))) (w.alloc (.map #[] 0)):=by
  simp[execOp,Instr.makeMap,agB]
 refine⟨_,h,bT.val bj ?_⟩
 have hv:((H.bk n (.map t K (jN kk) V [])).cB n (.map (aa w.heap.size))).val n=aa (.map (aa w.heap.size)):=by simp[aG.cB]
 refine kI.new (v0:= .map (aa w.heap.size)) hs rfl rfl (nG _) ⟨_, #[],0,rfl,(heap_alloc w _).1,stamped_empty 0,rfl⟩ (λk hk=>?_) (mH hv rfl);simp only[fp,Value.map.injEq,agz]at hk;subst hk;exact⟨λe=>by have:=hs.lt _ e;omega,by simp, .inl (agt _)⟩
noncomputable def kJ(T:aX P)(ob:Nat->Option (Nat×Th))(n:Nat)(t:TypeId)(M X Y:aC)(k:dF->Option R):Option R:=
 match find T.und t with
 |some (.map kt _)=>match E1 ob M with
  |some (o,_, .map T0 K agg V l)=>bif Ay T kt K then(match asKey ob K X with
   |some x=>match Y with
    | .val dZ tr=>bif (bif agg then dZ else !dZ)then(match flat ob V tr with
      |some y=>k {dst:= .dead,eat:=[o],make:=[(o,(n, .map T0 K agg V (nI K l x y)))]}
      |none=>ae)else ae
    |_=>ae
   |none=>ae)else ae
  |_=>ae
 |_=>ae
def sQ{OX kt et:TypeId}{dd:TypeDesc}{b clock:Nat}{es:Array MapEntry}{key val:Value}(hm:P.underlying OX=aa (.map kt et))(hd:P.underlying kt=aa dd)(hb:w.heap[b]? =aa (.map es clock))(hk:IsKey dd key):
 (ahe dd key es.toList 0=aa ae->(aht OX (.map (aa b)) key val).run P w= .ok () {w with heap:=w.heap.setIfInBounds b (.map (es.push {key,val,born:=clock}) (clock+1))})/\
 (∀j e,ahe dd key es.toList 0=aa (aa (j,e))->((es[j]?).map (·.key)).getD key=key->(aht OX (.map (aa b)) key val).run P w= .ok () {w with heap:=w.heap.setIfInBounds b (.map (es.modify j λe=>{e with key,val}) clock)}):=by
 refine⟨λh1=>?_,λj e h1 h2=>?_⟩
 .simp[aht,run_underlying hm,ag3 hb,ahw hd hk,ahB hd h1,ahA _ hb,agB]
 .simp[aht,run_underlying hm,ag3 hb,ahw hd hk,ahB hd h1,h2,run_keyThatStays hk,ahA _ hb,agB]
def wT(T:aX P){t:TypeId}{M X Y:aC}{m x y:Operand}{k:dF->Option R}{q:R}(h:kJ T ob n t M X Y k=aa q)(hs:aI U H F w ob n)(hm:aB H F w M (ev ρ m))(hx:aB H F w X (ev ρ x))(hy:aB H F w Y (ev ρ y)):
 ∃e,k e=aa q/\cd P U H F w ρ ob n ⟨ae, .mapUpdate t m x y,ty,pos,aft,ae⟩ e:=by
 unfold kJ at h;split at h
 case h_2=>cases h
 rename_i kt vt hu;split at h
 case h_2=>cases h
 rename_i o s T0 K agg V l rM;obtain⟨hk,h'⟩:=aP h;clear h;split at h'
 case h_2=>cases h'
 rename_i a ha;split at h'
 case h_2=>cases h'
 rename_i dZ tr;obtain⟨qT,h⟩:=aP h';clear h'
 have qT:agg=dZ:=by cases agg<;>cases dZ<;>simp_all
 subst qT;split at h
 case h_2=>cases h
 rename_i b hb;refine⟨_,h,?_⟩;obtain⟨dd,hd,hK,hR⟩:=vv (F:=F) (w:=w) T hk;obtain⟨T1,K1,Vy,V1,l1,r,es,clock,e0,cA,hv,mD,hh,gx,vx⟩:=Az hs rM hm;cases e0;have o4:=hR _ _ (vw hs ha hx)
 have pk:aO H F w agg (.leaf V b) (ev ρ y):=by
  obtain⟨cs,h1,h2⟩:=hy;exact⟨cs,gk hs hb h1,h2⟩
 have Vz:r<w.heap.size:=(agZ.1 hh).1
 have fin:∀o',(aht t (.map (aa r)) (ev ρ x) (ev ρ y)).run P w= .ok () {w with heap:=w.heap.setIfInBounds r o'}->
  (∀w',(∀k,k≠r->w'.heap[k]? =w.heap[k]?)->∃lK mZ,o'= .map lK mZ/\Stamped lK mZ/\fG (H.bk n (.map T0 K agg V (nI K l a b))) F w' K agg V lK.toList (nI K l a b))->
  cd P U H F w ρ ob n ⟨ae, .mapUpdate t m x y,ty,pos,aft,ae⟩ {dst:= .dead,eat:=[o],make:=[(o,(n, .map T0 K agg V (nI K l a b)))]}:=by
  intro o' bj JB;refine bT.unit (w':={w with heap:=w.heap.setIfInBounds r o'}) ?_ ?_
  .simp[execOp,mD,bj,agB]
  .have nf:∀k,k≠r->(w.heap.setIfInBounds r o')[k]? =w.heap[k]? :=(heap_set hh).2;obtain⟨lK,mZ,rfl,g1,g2⟩:=JB {w with heap:=w.heap.setIfInBounds r o'} nf;refine kI.uJ (t':= .map T0 K agg V (nI K l a b)) (w':={w with heap:=w.heap.setIfInBounds r (.map lK mZ)}) hs cA hv rfl (λk hk=>hk) ⟨rfl,⟨rfl,agt _⟩,rfl,by simp,λk hk hn=>nf k λe=>hn (by subst e;exact mD)⟩ ⟨r,lK,mZ,mD,(heap_set hh).1,g1,g2⟩ trivial
 have JC:H.le (H.bk n (.map T0 K agg V (nI K l a b))):=aG.fJ (hs.fresh n (agt _) (by omega)).2
 have dB:∀w':World,(∀k,k≠r->w'.heap[k]? =w.heap[k]?)->Step F w F w':=by
  intro w' hw b hb;refine⟨hb,hw b λe=>?_⟩;subst e;obtain⟨v',dX,cL⟩:=hs.obj _ _ _ cA;rw[hv]at dX;obtain rfl:=agq dX;exact cL.no b mD hb
 obtain⟨r1,r2⟩:=sQ (val:=ev ρ y) (T.und_ok _ _ hu) hd hh (hK _ _ o4)
 rcases sP hK o4 0 vx with⟨a1,a2,a3,a4⟩|⟨j,e,z,a1,a2,a3,a4,a5,a6⟩
 .refine fin _ (r1 a1) λw' hw=>⟨_,_,rfl,stamped_push gx a3,?_⟩
  rw[Array.toList_push];exact a4 _ F w' b _ rfl JC (dB w' hw) (pk.keep JC (dB w' hw))
 .rw[agX]at a1
  have hj:es[j]? =aa e:=by simpa using a2
  refine fin _ (r2 j _ a1 (by grind)) λw' hw=>⟨_,_,rfl,stamped_modify gx _ _ (λ_ _=>rfl) (λe' _ CU=>?_),?_⟩
  .grind
  .rw[Array.toList_modify];exact a6 _ F w' b _ rfl JC (dB w' hw) (pk.keep JC (dB w' hw))
noncomputable def o5{α:Type}(K:Row):List (K.den×α)->K.den->List (K.den×α)
 |[],_=>[]
 |p::l,k=>if dY K p.1 k=af then l else p::o5 K l k
def xu{K:Row}{agg:Bool}{V:Row}{dd:TypeDesc}{x:K.den}{kv:Value}(hK:∀x v,jM K x=aa v->IsKey dd v)(hx:jM K x=aa kv):{es:List MapEntry}->{l:List (K.den×V.den)}->(i:Nat)->fG H F w K agg V es l->
 (ahe dd kv es i=aa ae/\o5 K l x=l)\/
 ∃(j:Nat)(e:MapEntry),ahe dd kv es i=aa (aa (i+j,e.val))/\j<es.length/\∀H' F' w',H.le H'->Step F w F' w'->fG H' F' w' K agg V (es.eraseIdx j) (o5 K l x)
 |[],l,i,h=>by
  obtain rfl:l=[]:=h;exact .inl ⟨rfl,rfl⟩
 |e::es,l,i,h=>by
  obtain⟨k,y,l',rfl,h1,h2,h3⟩:=h;obtain⟨r,hr,OW⟩:=sameNow_of_keys (hK x kv hx) (hK k _ h1);have ID:=iC h1 hx
  cases r with
  |true=>
   have hq:dY K k x=af:=ID.2 (OW.1 rfl).symm;exact .inr ⟨0,e,by simp[ahe,hr],by simp,λH' F' w' hH hs=>by simpa[o5,hq]using h3.keep hH hs⟩
  |false=>
   have hq:¬dY K k x=af:=(by grind)
   rcases xu hK hx (i+1) h3 with⟨a1,a2⟩|⟨j,e',a1,a2,a3⟩
   .exact .inl ⟨by simp[ahe,hr,a1],by simp[o5,hq,a2]⟩
   .exact .inr ⟨j+1,e',by simp[ahe,hr,a1];omega,by simpa using a2,λH' F' w' hH hs=>⟨k,y,_,by simp[o5,hq],h1,h2.keep hH hs,a3 H' F' w' hH hs⟩⟩
noncomputable def p9(T:aX P)(ob:Nat->Option (Nat×Th))(n:Nat)(t:TypeId)(M X:aC)(k:dF->Option R):Option R:=
 match find T.und t with
 |some (.map kt _)=>match E1 ob M with
  |some (o,_, .map T0 K agg V l)=>bif Ay T kt K then(match asKey ob K X with
   |some x=>k {dst:= .dead,eat:=[o],make:=[(o,(n, .map T0 K agg V (o5 K l x)))]}
   |none=>ae)else ae
  |_=>ae
 |_=>ae
def Dj(T:aX P){t t':TypeId}{M X:aC}{m x:Operand}{k:dF->Option R}{q:R}{dst:Option Nat}(h:p9 T ob n t M X k=aa q)(hs:aI U H F w ob n)(hm:aB H F w M (ev ρ m))(hx:aB H F w X (ev ρ x)):
 ∃e,k e=aa q/\cd P U H F w ρ ob n ⟨dst, .call {callee:= .builtin .delete,args:= #[m,x],argTypes:= #[t,t']},ty,pos,aft,ae⟩ e:=by
 unfold p9 at h;split at h
 case h_2=>cases h
 rename_i kt vt hu;split at h
 case h_2=>cases h
 rename_i o s T0 K agg V l rM;obtain⟨hk,h'⟩:=aP h;clear h;split at h'
 case h_2=>cases h'
 rename_i a ha;refine⟨_,h',?_⟩;obtain⟨dd,hd,hK,hR⟩:=vv (F:=F) (w:=w) T hk;obtain⟨T1,K1,Vy,V1,l1,r,es,clock,e0,cA,hv,mD,hh,gx,vx⟩:=Az hs rM hm;cases e0;have o4:=hR _ _ (vw hs ha hx);have JC:H.le (H.bk n (.map T0 K agg V (o5 K l a))):=aG.fJ (hs.fresh n (agt _) (by omega)).2
 have fin:∀lK,(Builtin.delete_ #[t,t'] ty #[.map (aa r),ev ρ x]).run P w= .ok (.tuple #[]) {w with heap:=w.heap.setIfInBounds r (.map lK clock)}->Stamped lK clock->
  (∀w',Step F w F w'->fG (H.bk n (.map T0 K agg V (o5 K l a))) F w' K agg V lK.toList (o5 K l a))->
  cd P U H F w ρ ob n ⟨dst, .call {callee:= .builtin .delete,args:= #[m,x],argTypes:= #[t,t']},ty,pos,aft,ae⟩ {dst:= .dead,eat:=[o],make:=[(o,(n, .map T0 K agg V (o5 K l a)))]}:=by
  intro lK bj OY JB;have nf:∀k,k≠r->(w.heap.setIfInBounds r (.map lK clock))[k]? =w.heap[k]? :=(heap_set hh).2;refine bT.val (v:= .tuple #[]) (w':={w with heap:=w.heap.setIfInBounds r (.map lK clock)}) (by simp[execOp,resolve,invoke,builtin,mD,bj,agB]) ?_;refine kI.uJ (t':= .map T0 K agg V (o5 K l a)) (w':={w with heap:=w.heap.setIfInBounds r (.map lK clock)}) hs cA hv rfl (λk hk=>hk) ⟨rfl,⟨rfl,agt _⟩,rfl,by simp,λk hk hn=>nf k λe=>hn (by subst e;exact mD)⟩ ⟨r,lK,clock,mD,(heap_set hh).1,OY,JB _ λb hb=>?_⟩ trivial;refine⟨hb,nf b λe=>?_⟩;subst e;obtain⟨v',dX,cL⟩:=hs.obj _ _ _ cA;rw[hv]at dX;obtain rfl:=agq dX;exact cL.no b mD hb
 rcases xu hK o4 0 vx with⟨a1,a2⟩|⟨j,e,a1,a2,a3⟩
 .refine fin es ?_ gx λw' hw=>?_
  .simp[Builtin.delete_,run_underlying (T.und_ok _ _ hu),ag3 hh,ahw hd (hK _ _ o4),ahB hd a1,ahA _ hh,agB]
  .rw[a2];exact vx.keep (by grind) hw
 .rw[agX]at a1
  refine fin (es.eraseIdxIfInBounds j) ?_ (MapKept.stamped_erase gx j) λw' hw=>?_
  .simp[Builtin.delete_,run_underlying (T.und_ok _ _ hu),ag3 hh,ahw hd (hK _ _ o4),ahB hd a1,ahA _ hh,agB]
  simp_all
def AB{t:TypeId}{agg:Bool}{V:Row}(h:yG P t agg V)(h1:agg=ag->V.size=1):∃z,(zeroValue t).run P w= .ok z w/\aO H F w agg (.leaf V V.zero) z:=by
 obtain⟨z,hz,e⟩:=h
 cases hi:P.info? t with
 |none=>grind
 |some ti=>
  rw[hi]at hz;refine⟨z,?_,V.eD,cF.zero F w V,e,λha=>?_⟩
  .have hz':ti.zero=aa z:=hz;simp[zeroValue,typeInfo,hi,hz',agB]
  .have hl:V.eD.length=V.size:=(cF.zero F w V).length;rw[h1 ha]at hl;subst ha;rw[cond_false]at e
   match hv:V.eD,hl with
   |[u],_=>grind
theorem E2{K:Row}{agg:Bool}{V:Row}:{es:List MapEntry}->{l:List (K.den×V.den)}->es.length=l.length->(∀i(h:i<l.length),∃(e:MapEntry)(cs:List Value),es[i]? =aa e/\jM K l[i].1=aa e.key/\cF F w V cs l[i].2/\e.val=(bif agg then .agg cs.toArray else cs.headD undef)/\(agg=ag->cs=[e.val]))->fG H F w K agg V es l
 |[],[],_,_=>rfl
 |[],_::_,h,_=>by cases h
 |_::_,[],h,_=>by cases h
 |e::es,(k,x)::l,hl,h=>by
  obtain⟨e',cs,h1,h2,h3,h4,h5⟩:=h 0 (by simp)
  obtain rfl:e=e':=by simpa using h1
  exact⟨k,x,l,rfl,h2,⟨cs,h3,h4,h5⟩,E2 (by simpa using hl) λi hi=>by
   obtain⟨e',uk,q1,q2,q3,q4⟩:=h (i+1) (by simpa using hi)
   grind⟩
def E3{K:Row}{agg:Bool}{V:Row}:{es:List MapEntry}->{l:List (K.den×V.den)}->fG H F w K agg V es l->es.length=l.length/\∀i(h:i<l.length),∃(e:MapEntry)(cs:List Value),es[i]? =aa e/\jM K l[i].1=aa e.key/\cF F w V cs l[i].2/\e.val=(bif agg then .agg cs.toArray else cs.headD undef)/\(agg=ag->cs=[e.val])
 |[],l,h=>by obtain rfl:l=[]:=h;grind
 |e::es,l,h=>by
  obtain⟨k,x,l',rfl,h1,⟨cs,h2,h3,h4⟩,h5⟩:=h;obtain⟨g1,g2⟩:=E3 h5;refine⟨by simp[g1],λi hi=>?_⟩
  cases i with
  |zero=>exact⟨e,cs,rfl,h1,h2,h3,h4⟩
  |succ i=>
   obtain⟨e',uk,q1,q2,q3,q4⟩:=g2 i (by simpa using hi)
   grind
structure RA where
 K:Row
 agg:Bool
 V:Row
 l:List (K.den×V.den)
def Dk(ob:Nat->Option (Nat×Th)):aC->Option RA
 | .val ag (.leaf (.map K agg V) l)=>aa ⟨K,agg,V,l⟩
 | .val ag (.own o)=>match ob o with
   |some (_, .map _ K agg V l)=>aa ⟨K,agg,V,l⟩
   |some (_, .fmap _ K agg V l)=>aa ⟨K,agg,V,l⟩
   |_=>ae
 |_=>ae
def E4{K:Row}{agg:Bool}{V:Row}{l:List (K.den×V.den)}{v:Value}(h:cF F w (.map K agg V) [v] l):(v= .map ae/\l=[])\/∃b es clock,v= .map (aa b)/\w.heap[b]? =aa (.map es clock)/\Stamped es clock/\fG H F w K agg V es.toList l:=by
 obtain⟨u,e,h⟩:=h
 grind [E2]
def GY(hs:aI U H F w ob n){D:aC}{m:RA}{v:Value}(h:Dk ob D=aa m)(hd:aB H F w D v):(v= .map ae/\m.l=[])\/∃b es clock,v= .map (aa b)/\w.heap[b]? =aa (.map es clock)/\Stamped es clock/\fG H F w m.K m.agg m.V es.toList m.l:=by
 unfold Dk at h;split at h
 .cases h;exact E4 hd.inv
 .rename_i o;obtain⟨cs,⟨u,hu,_,e⟩,_,h3⟩:=hd;rw[h3 rfl]at e
  obtain rfl:v=u:=by simpa using e
  split at h
  .rename_i s T K agg V l cA;cases h;obtain⟨v',dX,cL⟩:=hs.obj _ _ _ cA;rw[hu]at dX;obtain rfl:=agq dX;obtain⟨b,es,clock,e,h1,h2,h3⟩:=cL.ok
   grind
  .rename_i s T K agg V l cA;cases h;obtain⟨v',dX,cL⟩:=hs.obj _ _ _ cA;rw[hu]at dX;obtain rfl:=agq dX;exact E4 cL.ok
  .cases h
 .cases h
noncomputable def qa(T:aX P)(ob:Nat->Option (Nat×Th))(t:TypeId)(ok:Bool)(M X:aC)(k:dF->Option R):Option R:=
 match find T.und t with
 |some (.map kt vt)=>match Dk ob M with
  |some ⟨K,agg,V,l⟩=>match find T.zer vt with
   |some (dZ,V')=>bif Ay T kt K&&(bif agg then dZ else !dZ)&&V'.beq V&&(agg||agu V.size 1)then(match asKey ob K X with
    |some x=>bif ok then k {dst:= .tup [(agg, .leaf V ((bH K l x).getD V.zero)),(ag, .leaf .bool (bH K l x).isSome)]}
     else k {dst:= .val agg (.leaf V ((bH K l x).getD V.zero))}
    |none=>ae)else ae
   |none=>ae
  |none=>ae
 |_=>ae
def Dl(T:aX P){t:TypeId}{ok:Bool}{M X:aC}{m x:Operand}{k:dF->Option R}{q:R}(h:qa T ob t ok M X k=aa q)(hs:aI U H F w ob n)(hm:aB H F w M (ev ρ m))(hx:aB H F w X (ev ρ x)):
 ∃e,k e=aa q/\cd P U H F w ρ ob n ⟨aa d, .lookup t m x ok,ty,pos,aft,ae⟩ e:=by
 unfold qa at h;split at h
 case h_2=>cases h
 rename_i kt vt hu;split at h
 case h_2=>cases h
 rename_i K agg V l rM;split at h
 case h_2=>cases h
 rename_i dZ V' hz;obtain⟨hc,h'⟩:=aP h;clear h;obtain⟨hc,QZ⟩:=ct hc;obtain⟨hc,JD⟩:=ct hc;obtain⟨xl,Ag⟩:=ct hc
 have qT:agg=dZ:=by cases agg<;>cases dZ<;>simp_all
 subst qT;obtain rfl:=Row.eq_of_beq JD;split at h'
 case h_2=>cases h'
 rename_i a ha;obtain⟨dd,hd,hK,hR⟩:=vv (F:=F) (w:=w) T xl;have o4:=hR _ _ (vw hs ha hx)
 have mz:agg=ag->V'.size=1:=λe=>by simp_all
 obtain⟨z,Df,EW⟩:=AB (w:=w) (H:=H) (F:=F) (T.zer_ok _ _ _ hz) mz
 have main:∃v,(ahU t (ev ρ m) (ev ρ x) ok).run P w= .ok (if ok then .tuple #[v, .bool (bH K l a).isSome]else v) w/\aO H F w agg (.leaf V' ((bH K l a).getD V'.zero)) v:=by
  have VA:=hK _ _ o4;have E5:=T.und_ok _ _ hu
  rcases GY hs rM hm with⟨mD,hl⟩|⟨r,es,clock,mD,hh,gx,vx⟩
  .dsimp only at hl;subst hl;refine⟨z,?_,EW⟩;rw[mD];have hf:=ahB (w:=w) hd (show ahe dd (ev ρ x) [] 0=aa ae from rfl)
   cases ok<;>simp[ahU,run_underlying E5,ahw hd VA,hf,Df,bH,agB]
  .dsimp only at vx
   rcases sP hK o4 0 vx with⟨a1,a2,_⟩|⟨j,e,y,a1,_,_,a4,a5,_⟩
   .refine⟨z,?_,by grind⟩;rw[mD,a2];simp[ahU,run_underlying E5,ag3 hh,ahw hd VA,ahB hd a1,Df,agB]
   .refine⟨e.val,?_,by grind⟩;rw[mD,a4];simp[ahU,run_underlying E5,ag3 hh,ahw hd VA,ahB hd a1,agB]
 obtain⟨v,bj,mE⟩:=main
 cases ok with
 |true=>
  refine⟨_,h',bz hs (v:= .tuple #[v, .bool (bH K l a).isSome]) (by simp[execOp,bj,agB]) ⟨[v, .bool (bH K l a).isSome],rfl,_,_,rfl,mE,_,_,rfl,aO.fx ..,rfl⟩⟩
 |false=>exact⟨_,h',bz hs (v:=v) (by simp[execOp,bj,agB]) mE⟩
def oQ(s:ByteArray)(i:Int):Option Int:=(if 0<=i then s[i.toNat]? else ae).map λb=>(b.toNat:Int)
def AD{e:Row}:{m:Nat}->{r:Row}->{x:r.den}->{l:List e.den}->{cs:List Value}->lG m r x e=aa l->cF F w r cs x->l.length=m/\cs.length=m*e.size/\∀i(h:i<l.length),cF F w e ((cs.drop (i*e.size)).take e.size) l[i]
 |0,r,x,l,cs,h,_=>by unfold lG at h;cases h
 |1,r,x,l,cs,h,ha=>by
  unfold lG at h;split at h
  case isFalse=>cases h
  rename_i hb;obtain rfl:=Row.eq_of_beq hb;obtain rfl:=agq h;have hl:=ha.length;refine⟨rfl,by simp[hl],λi hi=>?_⟩
  obtain rfl:i=0:=by grind
  rw[Nat.zero_mul,List.drop_zero,<-hl,List.take_length];exact ha
 |m+2, .pair a b,x,l,cs,h,ha=>by
  unfold lG at h;split at h
  case isFalse=>cases h
  rename_i hb;obtain rfl:=Row.eq_of_beq hb;split at h
  case h_2=>cases h
  rename_i l' hl;obtain rfl:=agq h;obtain⟨c1,c2,rfl,h1,h2⟩:=ha;have NY:=h1.length;obtain⟨g1,g2,g3⟩:=AD hl h2;refine⟨by simp[g1],by grind,λi hi=>?_⟩
  cases i with
  |zero=>
   rw[Nat.zero_mul,List.drop_zero,List.take_append_of_le_length (by omega),<-NY,List.take_length];exact h1
  |succ i=>
   grind [List.drop_drop,List.drop_left]
 |m+2, .int _,_,_,_,h,_=>by unfold lG at h;cases h
 |m+2, .bool,_,_,_,h,_=>by unfold lG at h;cases h
 |m+2, .str,_,_,_,h,_=>by unfold lG at h;cases h
 |m+2, .slice _,_,_,_,h,_=>by unfold lG at h;cases h
 |m+2, .lE,_,_,_,h,_=>by unfold lG at h;cases h
 |m+2, .nul _,_,_,_,h,_=>by unfold lG at h;cases h
 |m+2, .map ..,_,_,_,h,_=>by unfold lG at h;cases h
def qb(T:aX P)(ob:Nat->Option (Nat×Th))(t:TypeId)(D:aC)(i:Int)(k:dF->Option R):Option R:=
 match find T.und t with
 |some .str=>match Aj D with
  |some s=>(oQ s i).bind λc=>k {dst:=l4 .u8 c}
  |none=>ae
 |some (.array m e)=>match find T.row t with
  |some r=>match find T.row e with
   |some re=>match find T.und e with
    |some kk=>match D with
     | .val af tr=>match flat ob r tr with
       |some x=>match lG m r x re with
        |some l=>bif jN kk||agu re.size 1 then(idx l i).bind λy=>k {dst:= .val (jN kk) (.leaf re y)}else ae
        |none=>ae
       |none=>ae
     |_=>ae
    |none=>ae
   |none=>ae
  |none=>ae
 |_=>ae
def Dm(T:aX P){t:TypeId}{D:aC}{x y:Operand}{kd:IntKind}{i:Int}{k:dF->Option R}{q:R}(h:qb T ob t D i k=aa q)(hs:aI U H F w ob n)(hx:aB H F w D (ev ρ x))(hy:ev ρ y= .int kd i):
 ∃e,k e=aa q/\cd P U H F w ρ ob n ⟨aa d, .index t x y,ty,pos,aft,ae⟩ e:=by
 unfold qb at h;split at h
 .rename_i hu;have hu:=T.und_ok _ _ hu;split at h
  case h_2=>cases h
  rename_i s hS;obtain⟨c,hc,hk⟩:=bind_some h;have hv:=vg hS hx;unfold oQ at hc;obtain⟨b,hb,rfl⟩:=Option.map_eq_some_iff.1 hc;refine⟨_,hk,bz hs (v:= .int .u8 b.toNat) ?_ (aO.jA ..)⟩;have E5:P.underlying t=aa .string:=hu;simp[execOp,Instr.index,asIntOf,run_underlying E5,hv,hy,hb]
 .rename_i m e hu;have hu:P.underlying t=aa (.array m e):=T.und_ok _ _ hu;split at h
  case h_2=>cases h
  rename_i r hr;split at h
  case h_2=>cases h
  rename_i re Vt;split at h
  case h_2=>cases h
  rename_i kk ID;split at h
  case h_2=>cases h
  rename_i tr;split at h
  case h_2=>cases h
  rename_i z hz;split at h
  case h_2=>cases h
  rename_i l hl;obtain⟨ZS,h'⟩:=aP h;clear h;obtain⟨a,ha,hk⟩:=bind_some h';obtain⟨cs,hh,hv,_⟩:=hx;rw[cond_true]at hv;obtain⟨g1,g2,g3⟩:=AD hl (gk hs hz hh);obtain⟨j,hj,bi,rfl⟩:=gw ha;obtain⟨ti,z0,h1,_,_,h4,_⟩:=T.row_ok _ _ Vt;obtain⟨dd,uH,ul⟩:=(T.und_ok _ _ ID).agg;have sR:=g3 j bi
  have mz:(j+1)*re.size<=cs.length:=by rw[g2];exact agA _ (by omega)
  rw[agP]at mz;refine⟨_,hk,?_⟩
  cases qT:jN kk with
  |true=>
   refine bz hs (v:= .agg ((cs.drop (j*re.size)).take re.size).toArray) ?_ ⟨_,sR,rfl,by simp⟩;subst hj;simp[execOp,Instr.index,asIntOf,run_underlying hu,hv,hy,show j<m by omega,part,agL,eW uH,ul,qT,sizeOf,typeInfo,h1,h4,List.extract_eq_take_drop]
  |false=>
   rw[qT,Bool.false_or]at ZS;have kA:=beq_true ZS;have hlen:=sR.length;rw[kA,Nat.mul_one]at sR mz;rw[kA]at hlen
   obtain⟨v,wQ⟩:∃v,(cs.drop j).take 1=[v]:=by
    match hq:(cs.drop j).take 1,E6:((cs.drop j).take 1).length with
    |[v],_=>grind
    |[],_=>grind
    |_::_::_,_=>grind
   rw[wQ]at sR
   have Mc:cs[j]? =aa v:=by
    have:(cs.drop j)[0]? =aa v:=by
     have h0:((cs.drop j).take 1)[0]? =aa v:=by rw[wQ];rfl
     rwa [List.getElem?_take_of_lt (by omega)]at h0
    simpa using this
   refine bz hs (v:=v) ?_ (aO.nD sR);subst hj;simp[execOp,Instr.index,asIntOf,run_underlying hu,hv,hy,show j<m by omega,part,agL,eW uH,ul,qT,sizeOf,typeInfo,h1,h4,kA,Mc]
 .cases h
end
end
section
def GZ(T:TypeId):(e:DR)->List e.row.den->Th
 | .leaf r,y=> .own T r y
 | .sl T' e,y=> .deep T (.sl T' e) y ae
 | .pair a b,y=> .deep T (.pair a b) y ae
section
variable {P:Program} {ρ:Nat->Value} {w w':World} {H H':aG} {F F':Nat->Prop} {U:Nat->Prop} {ob:Nat->Option (Nat×Th)} {n:Nat} {R:Type}
variable {op:Op} {ty:TypeId} {pos:String} {aft:Array Edge} {d:Nat}
def vy(T:TypeId)(e:DR)(y:List e.row.den):(GZ T e y).base=GZ T e y:=by cases e<;>rfl
def sS{T:TypeId}{e:DR}{u:Value}{y:List e.row.den}{A:Nat->Prop}(h:jK F w (.sl T e) u y A):gX H F w A u (GZ T e y)/\(∀k,fp A u (GZ T e y) k->A k)/\u.oneCell'=af:=by
 obtain⟨lh,Ss,h1,h2,h3,h4⟩:=h;have kA:=h1.one
 cases e with
 |leaf r=>
  have hl:lh=y:=List.ext_getElem h2 λi a b=>(h3 i a b).1
  subst hl;exact⟨h1,λk hk=>h4.bF k hk,kA⟩
 |sl T' e=>exact⟨⟨lh,Ss,h1,h2,h3,h4⟩,λk hk=>hk,kA⟩
 |pair a b=>exact⟨⟨lh,Ss,h1,h2,h3,h4⟩,λk hk=>hk,kA⟩
def vz{T:TypeId}{e:DR}{u:Value}{y:List e.row.den}{A:Nat->Prop}(h:gX H F w A u (GZ T e y)):jK F w (.sl T e) u y (λk=>fp A u (GZ T e y) k):=by
 cases e with
 |leaf r=>
  have h':lR F w T r u y:=h;refine⟨y,λ_ _=>False,h',rfl,λi a b=>⟨rfl,λ_ h=>h⟩,⟨λk=>?_,λ_ _ _ _ _ _ h=>h.elim,λ_ _ _ h=>h.elim⟩⟩
  show bF u k↔_
  simp
 |sl T' e=>exact h
 |pair a b=>exact h
def uM{d:DR}{r:Row}(q:fH d (.leaf r)){x':d.low.den}{x:d.row.den}{S:Nat->Prop}(h:jK F w d x' x S):q.lo.get x'=q.hi.get x:=by
 obtain⟨A,B,h1,_⟩:=h.out q;exact h1.1
def vA:{d e:DR}->{T:TypeId}->{r:Row}->(p:fH d (.sl T e))->(q:fH d (.leaf r))->{x':d.low.den}->{x:d.row.den}->{S:Nat->Prop}->mX F w p x' x S->q.lo.get x'=q.hi.get x
 |_,_,_,_, .fst p, .fst q,_,_,_,h=>by obtain⟨A,B,h1,_⟩:=h;exact vA p q h1
 |_,_,_,_, .fst p, .snd q,_,_,_,h=>by obtain⟨A,B,_,h2,_⟩:=h;exact uM q h2
 |_,_,_,_, .snd p, .fst q,_,_,_,h=>by obtain⟨A,B,h1,_⟩:=h;exact uM q h1
 |_,_,_,_, .snd p, .snd q,_,_,_,h=>by obtain⟨A,B,_,h2,_⟩:=h;exact vA p q h2
def JE{d:DR}{h:Option vc}{i:Nat}{x':d.low.den}{x:d.row.den}{S:Nat->Prop}{r:Row}(q:fH d (.leaf r))(hr:ol H F w d h i x' x S):q.lo.get x'=q.hi.get x:=by
 cases h with
 |none=>exact uM q hr
 |some h=>
  by_cases hi:h.i=(i:Int)
  .obtain⟨T',e,p,_,h2,_⟩:=hr.2 hi;exact vA p q h2
  .exact uM q (hr.1 hi)
def rN{d:DR}{r:Row}(q:fH d (.leaf r)){x':d.low.den}{x:d.row.den}{S:Nat->Prop}(y:r.den)(h:jK F w d x' x S):jK F w d (q.lo.set x' y) (q.hi.set x y) S:=by
 obtain⟨A,B,h1,h2,h3⟩:=h.out q;exact h2.put q (y':=y) (A:=A) ⟨rfl,h1.2⟩ h3
theorem sT:{d e:DR}->{T:TypeId}->{r:Row}->(p:fH d (.sl T e))->(q:fH d (.leaf r))->{x':d.low.den}->{x:d.row.den}->{S:Nat->Prop}->(y:r.den)->mX F w p x' x S->mX F w p (q.lo.set x' y) (q.hi.set x y) S/\p.lo.get (q.lo.set x' y)=p.lo.get x'
 |_,_,_,_, .fst p, .fst q,_,_,_,y,h=>by
  obtain⟨A,B,h1,h2,h3⟩:=h;obtain⟨g1,g2⟩:=sT p q y h1;exact⟨⟨A,B,g1,h2,h3⟩,g2⟩
 |_,_,_,_, .fst p, .snd q,_,_,_,y,h=>by
  obtain⟨A,B,h1,h2,h3⟩:=h;exact⟨⟨A,B,h1,rN q y h2,h3⟩,rfl⟩
 |_,_,_,_, .snd p, .fst q,_,_,_,y,h=>by
  obtain⟨A,B,h1,h2,h3⟩:=h;exact⟨⟨A,B,rN q y h1,h2,h3⟩,rfl⟩
 |_,_,_,_, .snd p, .snd q,_,_,_,y,h=>by
  obtain⟨A,B,h1,h2,h3⟩:=h;obtain⟨g1,g2⟩:=sT p q y h2;exact⟨⟨A,B,h1,g1,h3⟩,g2⟩
def G0{d:DR}{h:Option vc}{i:Nat}{x':d.low.den}{x:d.row.den}{S:Nat->Prop}{r:Row}(q:fH d (.leaf r))(y:r.den)(hr:ol H F w d h i x' x S):ol H F w d h i (q.lo.set x' y) (q.hi.set x y) S:=by
 cases h with
 |none=>exact rN q y hr
 |some h=>
  refine⟨λhi=>rN q y (hr.1 hi),λhi=>?_⟩;obtain⟨T',e,p,h1,h2,h3⟩:=hr.2 hi
  grind [sT]
def aI.low(hs:aI U H F w ob n){o s:Nat}{T:TypeId}{dr:DR}{l:List dr.row.den}{h:Option vc}(ho:ob o=aa (s, .deep T dr l h)){v:Value}(hv:H.val o=aa v):
 ∃(lh:List dr.low.den)(Ss:Nat->Nat->Prop),lJ 0 F w T dr.low v lh/\lh.length=l.length/\(∀i(h1:i<lh.length)(h2:i<l.length),ol H F w dr h i lh[i] l[i] (Ss i))/\nC Ss l.length (bF v) (H.sub s):=by
 obtain⟨v',dX,cL⟩:=hs.obj _ _ _ ho;rw[hv]at dX;obtain rfl:=agq dX;obtain⟨lh,Ss,h1,h2,h3,h4⟩:=cL.ok;exact⟨lh,Ss,⟨λk hk=>cL.no k (h4.bF k hk),h1⟩,h2,h3,h4⟩
def Path.yJ:{r s:Row}->(p:Path r s)->(x:r.den)->(y:s.den)->p.get (p.set x y)=y
 |_,_, .here,_,_=>rfl
 |_,_, .fst p,x,y=>Path.yJ p x.1 y
 |_,_, .snd p,x,y=>Path.yJ p x.2 y
def mX.JF:{d e:DR}->(p:fH d e)->{x':d.low.den}->{x:d.row.den}->{S:Nat->Prop}->(y':e.low.den)->mX F w p x' x S->mX F w p (p.lo.set x' y') x S
 |_,_, .here,_,_,_,_,h=>h
 |_,_, .fst p,_,_,_,y',h=>by
  obtain⟨A,B,h1,h2,h3⟩:=h;exact⟨A,B,h1.JF p y',h2,h3⟩
 |_,_, .snd p,_,_,_,y',h=>by
  obtain⟨A,B,h1,h2,h3⟩:=h;exact⟨A,B,h1,h2.JF p y',h3⟩
def qU(m:Nat->Prop)(Ss:Nat->Nat->Prop)(c:Nat)(k:Nat):Prop:=m k\/∃i,i<c/\Ss i k
def nC.less{Ss:Nat->Nat->Prop}{c:Nat}{m S:Nat->Prop}(h:nC Ss c m S)(j:Nat){B:Nat->Prop}(hB:∀k,B k->Ss j k):nC (λi=>if i=j then B else Ss i) c m (qU m (λi=>if i=j then B else Ss i) c):=by
 have sub:∀i k,(if i=j then B else Ss i) k->Ss i k:=by
  intro i k hk;by_cases e:i=j
  .grind
  .grind
 exact⟨λk=>Iff.rfl,λi i' k h1 h2 dJ h3 h4=>h.two i i' k h1 h2 dJ (sub i k h3) (sub i' k h4),λi k h1 h2=>h.out i k h1 (sub i k h2)⟩
def nC.AE{Ss:Nat->Nat->Prop}{c:Nat}{m S:Nat->Prop}(h:nC Ss c m S)(j:Nat){B:Nat->Prop}(hB:∀k,B k->Ss j k):∀k,qU m (λi=>if i=j then B else Ss i) c k->S k:=by
 rintro k (hk|⟨i,hi,hk⟩)
 .exact h.bF k hk
 .by_cases e:i=j
  .subst e;rw[aj rfl]at hk;exact h.part hi k (hB k hk)
  .rw[ai e]at hk;exact h.part hi k hk
def Mr{α β:Type}{rel:Nat->α->β->(Nat->Prop)->Prop}{lh:List α}{l:List β}{Ss:Nat->Nat->Prop}{j:Nat}{x':α}{x:β}{B:Nat->Prop}(h:∀i(h1:i<lh.length)(h2:i<l.length),i≠j->rel i lh[i] l[i] (Ss i))(hj:rel j x' x B):
 ∀i(h1:i<(lh.set j x').length)(h2:i<(l.set j x).length),rel i (lh.set j x')[i] (l.set j x)[i] ((λi=>if i=j then B else Ss i) i):=by
 grind
def aG.qc{H:aG}{n:Nat}{S:Nat->Prop}{t:Th}(h:H.con n=ae):H.le ((H.dT n S).bk n t):=(aG.GK h).trans (aG.fJ h)
def kI.yK(hs:aI U H F w ob n){o s:Nat}{t t':Th}{v0:Value}(ho:ob o=aa (s,t))(hv:H.val o=aa v0)(hb:t'.base=t'){eat:List Nat}(hoe:o∈eat)(S':Nat->Prop)(LR:∀k,fp S' v0 t' k->bX H ob eat k){D:aC}{v:Value}
 (bC:Ext (bX H ob eat) w w')(mE:gX ((H.dT n S').bk n t') F w' S' v0 t')(hd:aB ((H.dT n S').bk n t') F w' D v):lL H F w ob n {dst:=D,eat:=eat,make:=[(o,(n,t'))]} v w':=by
 obtain⟨v1,ry,cL⟩:=hs.obj _ _ _ ho;rw[hv]at ry;obtain rfl:=agq ry;have hf:=hs.fresh n (agt _) (by omega)
 have gZ:((H.dT n S').bk n t').sub n=S':=by simp[aG.bk,aG.dT]
 refine⟨(H.dT n S').bk n t',F,⟨aG.qc hf.2,bC,λ_ h=>h,λ_ h=> .inl h,λb hb=>agK (hs.lt b hb) bC.size⟩,λm hm=>?_,hd,⟨λo' s' q hq=>?_,λo1 o2 s1 s2 q1 q2 u1 u2 dJ h1 h2=>?_⟩,λo' h=>?_⟩
 .refine⟨id,λh=>?_⟩;simp[aG.bk,aG.dT,show m≠n from by omega,h]
 .obtain⟨rfl,e⟩:=eF hq;obtain⟨rfl,rfl⟩:=Prod.mk.inj e;refine⟨v0,hv,cL.one,by simp[aG.bk,hb],by grind,λk hk=>?_⟩;rw[gZ]at hk;have:=LR k hk;exact⟨hs.eE k this,agK (hs.vd k this) bC.size, .inr this⟩
 all_goals grind [eF,agY]
def qV(T:aX P)(ob:Nat->Option (Nat×Th))(n:Nat)(t:TypeId)(D:aC)(k:dF->Option R):Option R:=
 match find T.und t with
 |none=>ae
 |some kk=>match D with
  | .dlm o d0 i p off=>match ob o with
    |some (_, .deep T0 dr l h)=>bif d0.beq dr then(match dr.path p with
     |some ⟨.leaf r,q⟩=>bif agu q.lo.off off&&l7 T t kk r.size then(idx l i).bind λx=>k {dst:= .val (jN kk) (.leaf r (q.hi.get x))}else ae
     |some ⟨.sl T' e',q⟩=>bif agu q.lo.off off&&l7 T t kk 1&& !jN kk then(match h with
       |none=>(idx l i).bind λx=>k {dst:= .val ag (.own n),eat:=[o],make:=[(o,(n, .deep T0 dr l (aa ⟨i,p,n,n+1⟩))),(n,(n+1,GZ T' e' (q.hi.get x)))]}
       |some hh=>bif oo hh.p p then(if decide (hh.i=i)=af then(idx l i).bind λ_=>k {dst:= .val ag (.own hh.o)}else ae)else ae)else ae
     |_=>ae)else ae
    |_=>ae
  |_=>ae
def AF(hs:aI U H F w ob n){o s:Nat}{T0 T':TypeId}{dr e':DR}{l:List dr.row.den}{i:Int}{p:List Bool}{q:fH dr (.sl T' e')}(hq:dr.path p=aa ⟨_,q⟩)(cA:ob o=aa (s, .deep T0 dr l ae)){v:Value}(hv:H.val o=aa v)
 {j:Nat}(UK:i=(j:Nat))(hj:j<l.length){lh:List dr.low.den}{Ss:Nat->Nat->Prop}(hm:lR F w T0 dr.low v lh)(hlen:lh.length=l.length)(wU:∀i(h1:i<lh.length)(h2:i<l.length),ol H F w dr ae i lh[i] l[i] (Ss i))(dx:nC Ss l.length (bF v) (H.sub s)):
 lL H F w ob n {dst:= .val ag (.own n),eat:=[o],make:=[(o,(n, .deep T0 dr l (aa ⟨i,p,n,n+1⟩))),(n,(n+1,GZ T' e' (q.hi.get l[j])))]} (q.lo.get (lh[j]'(by omega))) w:=by
 have N1:j<lh.length:=by omega
 obtain⟨v1,ry,cL⟩:=hs.obj _ _ _ cA;rw[hv]at ry;obtain rfl:=agq ry;obtain⟨A,B,hA,hB,h2⟩:=jK.out q (wU j N1 hj);obtain⟨_,m2,m3⟩:=sS (H:=H) hA;have ZT:∀k,B k->Ss j k:=h2.right;obtain⟨f1,f2⟩:=hs.fresh n (agt _) (by omega);obtain⟨f3,f4⟩:=hs.fresh (n+1) (by omega) (by omega)
 have CO:o≠n:=λe=>by grind
 generalize UL:Th.deep T0 dr l (aa ⟨i,p,n,n+1⟩)=t1;generalize Q0:GZ T' e' (q.hi.get l[j])=t2;generalize hu:q.lo.get lh[j]=u;generalize VB:qU (bF v) (λi=>if i=j then B else Ss i) l.length=So
 have VC:∀k,So k->H.sub s k:=by rw[<-VB];exact dx.AE j ZT
 have hAS:∀k,A k->H.sub s k:=λk hk=>dx.part hj k (h2.left k hk)
 have hAo:∀k,So k->¬A k:=by
  rw[<-VB]
  rintro k (hk|⟨i',jJ,hk⟩) ha
  .exact dx.out j k hj (h2.left k ha) hk
  .by_cases e:i'=j
   .subst e;rw[aj rfl]at hk;exact h2.off k ha hk
   .rw[ai e]at hk;exact dx.two i' j k jJ hj e hk (h2.left k ha)
 let H1:aG:=⟨λm=>if m=n then aa u else H.val m,λm=>if m=n then aa t1 else if m=n+1 then aa t2 else H.con m,λm=>if m=n then So else if m=n+1 then A else H.sub m⟩
 have hle:H.le H1:=by
  refine⟨λo v ho=>?_,λs t gx=>?_,λs t gx=>?_⟩
  .grind
  .grind
  .grind
 have ZU:H1.val n=aa u:=by simp[H1]
 have jr:∀k,H.sub s k->bX H ob [o] k:=λk hk=>⟨o,by simp,s,_,v,cA,hv,hk⟩
 have kA:u.oneCell'=af:=by rw[<-hu];exact m3
 refine⟨H1,F,⟨hle,⟨rfl,⟨rfl,agt _⟩,rfl,agt _,λ_ _ _=>rfl⟩,λ_ h=>h,λ_ h=> .inl h,hs.lt⟩,λm hm=>?_,mH ZU kA,⟨λo' s' t hf=>?_,λo1 o2 s1 s2 q1 q2 u1 u2 dJ g1 g2 e1 e2 k hk gD=>?_⟩,λo' lD=>?_⟩
 .grind
 .rw[aS]at hf;split at hf
  .rename_i e;subst e;simp only[agz,Prod.mk.injEq]at hf;obtain⟨rfl,rfl⟩:=hf
   have UM:H1.sub n=So:=by simp[H1]
   refine⟨v,hle.val _ _ hv,cL.one,?_,?_,λk hk=>?_⟩
   .rw[<-UL];simp[H1,Th.base,UL]
   .rw[UM,<-UL,<-VB];refine⟨lh,_,hm,hlen,λi' a b=>?_,dx.less j ZT⟩;have hr:jK F w dr lh[i'] l[i'] (Ss i'):=wU i' a b;refine⟨λhi=>?_,λhi=>?_⟩
    all_goals grind
   .rw[UM,<-UL]at hk;have hk:So k:=hk;have:=VC k hk;exact⟨cL.no k this,cL.lt k this, .inr (jr k this)⟩
  .obtain⟨e0,e⟩:=eF hf;obtain⟨rfl,rfl⟩:=Prod.mk.inj e;rw[e0]
   have UM:H1.sub (n+1)=A:=by simp[H1]
   obtain⟨m1,ZV,_⟩:=sS (H:=H1) hA;rw[Q0,hu]at m1 ZV;refine⟨u,ZU,kA,?_,by grind,λk hk=>?_⟩
   .rw[<-Q0,vy,Q0];simp[H1]
   .rw[UM]at hk;have:=hAS k (ZV k hk);exact⟨cL.no k this,cL.lt k this, .inr (jr k this)⟩
 all_goals grind [fp,find,aS]
def yL{α β:Type}{l:List α}{lh:List β}(h:lh.length=l.length){i:Int}{x:α}(hi:idx l i=aa x):∃j,i=(j:Nat)/\∃(h1:j<lh.length)(h2:j<l.length),x=l[j]/\idx lh i=aa lh[j]:=by
 grind [idx]
def G1(T:aX P){t:TypeId}{D:aC}{x:Operand}{k:dF->Option R}{q:R}(h:qV T ob n t D k=aa q)(hs:aI U H F w ob n)(hx:aB H F w D (ev ρ x)):
 ∃e,k e=aa q/\cd P U H F w ρ ob n ⟨aa d, .load t x,ty,pos,aft,ae⟩ e:=by
 unfold qV at h;split at h
 .cases h
 rename_i kk hu;split at h
 case h_2=>cases h
 rename_i o d0 i p off;split at h
 case h_2=>cases h
 rename_i s T0 dr l hh cA;obtain⟨hd,h'⟩:=aP h;clear h;obtain rfl:=DR.eq_of_beq hd;obtain⟨g,o0,qq,m,cap,e1,e2,e5⟩:=hx;obtain⟨lh,Ss,dS,hlen,wU,dx⟩:=hs.low cA e1;split at h'
 .rename_i r xp yH;obtain⟨h1,h2⟩:=aP h';obtain⟨h1,h3⟩:=ct h1;obtain rfl:=beq_true h1;obtain⟨a,ha,hk⟩:=bind_some h2;obtain⟨j,hj,g1,g2,rfl,pe⟩:=yL hlen ha;have CP:=(dS.at rfl e2 pe).path xp.lo _ rfl;rw[JE xp (wU j g1 g2)]at CP;obtain⟨es,hl,Mj,hr⟩:=CP;exact⟨_,hk,nF T hu e5 hs (s:= .leaf r _) hr Mj (jB T h3)⟩
 .rename_i T' e' xp yH;obtain⟨h1,h2⟩:=aP h';obtain⟨h1,h4⟩:=ct h1;obtain⟨h1,h3⟩:=ct h1;obtain rfl:=beq_true h1
  have qT:jN kk=ag:=by simpa using h4
  obtain⟨dd,uH,ul⟩:=(T.und_ok _ _ hu).agg
  have run:∀{j:Nat}(g1:j<lh.length),idx lh i=aa lh[j]->(execOp (ev ρ) ⟨aa d, .load t x,ty,pos,aft,ae⟩).run P w= .ok (.value (xp.lo.get lh[j])) w:=by
   intro j g1 pe;have CP:=(dS.at rfl e2 pe).path xp.lo _ rfl;obtain⟨es,hl,Mj,hr,_⟩:=CP;rw[hr]at Mj;exact xi uH (ul.trans qT) e5 (Mj 0 _ rfl)
  split at h2
  .obtain⟨a,ha,hk⟩:=bind_some h2;obtain⟨j,hj,g1,g2,rfl,pe⟩:=yL hlen ha;exact⟨_,hk,bT.val (run g1 pe) (AF hs yH cA e1 hj g2 dS.2 hlen wU dx)⟩
  .rename_i hh;obtain⟨hp,h3⟩:=aP h2;have hp:=qS hp;split at h3
   case isFalse=>cases h3
   rename_i hi;have hi:hh.i=i:=al hi;obtain⟨a,ha,hk⟩:=bind_some h3;obtain⟨j,hj,g1,g2,rfl,pe⟩:=yL hlen ha;obtain⟨T'',e'',q'',k1,_,k3⟩:=(wU j g1 g2).2 (hi.trans hj);rw[hp,yH]at k1;cases k1;refine⟨_,hk,bz hs (run g1 pe) (mH k3 ?_)⟩;have CP:=(dS.at rfl e2 pe).path xp.lo _ rfl;obtain⟨es,_,_,_,A,m',c,E5⟩:=CP;rw[E5];rfl
 .cases h'
def RC(T:TypeId):(e:DR)->Th->Option (List e.row.den)
 | .leaf r, .own T1 r1 y=>bif agu T1 T then(if h:r1.beq r=af then aa (ja (r:= .slice r1) (s:= .slice r) (av Row.slice (Row.eq_of_beq h)) y)else ae)else ae
 | .sl T2 e2, .deep T1 (.sl T3 e3) y ae=>bif agu T1 T then(if h:(DR.sl T3 e3).beq (.sl T2 e2)=af then aa (DR.eq_of_beq h▸y)else ae)else ae
 | .pair a b, .deep T1 (.pair a1 b1) y ae=>bif agu T1 T then(if h:(DR.pair a1 b1).beq (.pair a b)=af then aa (DR.eq_of_beq h▸y)else ae)else ae
 |_,_=>ae
def Dn{T:TypeId}{e:DR}{t:Th}{y:List e.row.den}(h:RC T e t=aa y):t=GZ T e y:=by
 unfold RC at h;split at h
 .obtain⟨h1,h2⟩:=aP h;split at h2
  .rename_i hb;obtain rfl:=Row.eq_of_beq hb;obtain rfl:=agq h2;rw[beq_true h1];rfl
  .cases h2
 .obtain⟨h1,h2⟩:=aP h;split at h2
  .rename_i hb;cases DR.eq_of_beq hb;obtain rfl:=agq h2;rw[beq_true h1];rfl
  .cases h2
 .obtain⟨h1,h2⟩:=aP h;split at h2
  .rename_i hb;cases DR.eq_of_beq hb;obtain rfl:=agq h2;rw[beq_true h1];rfl
  .cases h2
 .cases h
def yM(h:Option vc)(i:Int)(p:List Bool):Bool:=
 match h with
 |none=>af
 |some h=>oo h.p p&&decide (h.i=i)
def AG{h:Option vc}{i:Int}{p:List Bool}(hh:yM h i p=af){dr e:DR}{T:TypeId}{q:fH dr (.sl T e)}(hq:dr.path p=aa ⟨_,q⟩){j:Nat}(hj:i=(j:Nat)){x':dr.low.den}{x:dr.row.den}{S:Nat->Prop}(hr:ol H F w dr h j x' x S):
 ∃B,(∀k,B k->S k)/\mX F w q x' x B:=by
 cases h with
 |none=>
  obtain⟨A,B,_,h2,h3⟩:=jK.out q (show jK F w dr x' x S from hr);exact⟨B,h3.right,h2⟩
 |some h=>
  have h':(oo h.p p&&decide (h.i=i))=af:=hh;obtain⟨h1,h2⟩:=ct h';obtain⟨T',e',q',k1,k2,_⟩:=hr.2 ((al h2).trans hj)
  grind [qS]
def vB{h:Option vc}{i:Int}{p:List Bool}(hh:yM h i p=af){dr:DR}{j:Nat}(hj:i≠(j:Nat)){x':dr.low.den}{x:dr.row.den}{S:Nat->Prop}(hr:ol H F w dr h j x' x S):jK F w dr x' x S:=by
 cases h with
 |none=>exact hr
 |some h=>
  have h':(oo h.p p&&decide (h.i=i))=af:=hh;obtain⟨h1,h2⟩:=ct h';exact hr.1 (by grind)
end
end
end Go.Proofs.YtfeahmiobbjklaaGreatDoor
section
open _root_.Option renaming none->ae,some->aa
open _root_.Bool renaming true->af
open _root_.Nat renaming beq->agu,le_refl->agt
open _root_.Option.some renaming inj->agq
open _root_.Go.Value renaming ownBlock->agI
namespace Go.Proofs.YtfeahmiobbjklaaGreatDoor
open Go Go.RowKit
section
variable {P:Program} {ρ:Nat->Value} {w w':World} {H H':aG} {F F':Nat->Prop} {U:Nat->Prop} {ob:Nat->Option (Nat×Th)} {n:Nat} {R:Type}
variable {op:Op} {ty:TypeId} {pos:String} {aft:Array Edge} {d:Nat}
noncomputable def qd(T:aX P)(ob:Nat->Option (Nat×Th))(n:Nat)(t:TypeId)(D V:aC)(k:dF->Option R):Option R:=
 match find T.row t with
 |none=>ae
 |some rt=>match V with
  | .val _ u=>match D with
    | .dlm o d0 i p off=>match ob o with
      |some (_, .deep T0 dr l h)=>bif d0.beq dr then(match dr.path p with
       |some ⟨.leaf r,q⟩=>bif agu q.lo.off off&&agu rt.size r.size then(match flat ob r u with
        |some y=>(idx l i).bind λx=>k {dst:= .dead,eat:=[o],make:=[(o,(n, .deep T0 dr (bG l i (q.hi.set x y)) h))]}
        |none=>ae)else ae
       |some ⟨.sl T' e',q⟩=>bif agu q.lo.off off&&agu rt.size 1 then(match u with
        | .own o1=>match ob o1 with
          |some (_,t1)=>match RC T' e' t1 with
           |some _=>if yM h i p=af then(idx l i).bind λ_=>k {dst:= .dead,eat:=[o],make:=[(o,(n, .deep T0 dr l (aa ⟨i,p,o1,n⟩)))]}else ae
           |none=>ae
          |none=>ae
        | .nil=>if yM h i p=af then(idx l i).bind λx=>k {dst:= .dead,eat:=[o],make:=[(o,(n, .deep T0 dr (bG l i (q.hi.set x ([]:List e'.row.den))) ae))]}else ae
        |_=>ae)else ae
       |_=>ae)else ae
      |_=>ae
    |_=>ae
  |_=>ae
def qW(T:aX P){t:TypeId}{rt:Row}(Jv:find T.row t=aa rt){x y:Operand}{o s:Nat}{T0:TypeId}{dr e:DR}{i:Int}{l l':List dr.row.den}{h h':Option vc}{q:fH dr e}{g o0 qq m cap j:Nat}{u:e.low.den}{cs:List Value}{x1:dr.row.den}
 (hs:aI U H F w ob n)(cA:ob o=aa (s, .deep T0 dr l h))(hv:H.val o=aa (.slice (aa ⟨g,o0,ae⟩) m cap))(hj:i=(j:Nat))(N2:j<l.length)(hx:ev ρ x= .pointer (aa ⟨g,o0+qq*dr.low.size+q.lo.off,ae⟩))(hqq:i=(qq:Nat))(hz:rt.size=e.low.size)
 (hr:cF F w e.low cs u)(wQ:(ev ρ y).cells.toList=cs)(hl':l'=l.set j x1)
 (wU:∀{w':World}{H1:aG},H.le H1->Step F w F w'->∀{x':dr.low.den}{S:Nat->Prop},(∀k,S k->w'.heap[k]? =w.heap[k]?)->ol H F w dr h j x' l[j] S->∃B,(∀k,B k->S k)/\ol H1 F w' dr h' j (q.lo.set x' u) x1 B)
 (VD:∀{H1:aG}{w':World}{i':Nat}{x':dr.low.den}{x:dr.row.den}{S:Nat->Prop},i'≠j->ol H1 F w' dr h i' x' x S->ol H1 F w' dr h' i' x' x S):
 cd P U H F w ρ ob n ⟨ae, .store t x y,ty,pos,aft,ae⟩ {dst:= .dead,eat:=[o],make:=[(o,(n, .deep T0 dr l' h'))]}:=by
 obtain⟨ti,z0,h1,_,_,h4,_⟩:=T.row_ok _ _ Jv;obtain⟨lh,Ss,dS,hlen,N3,dx⟩:=hs.low cA hv;obtain⟨v1,ry,cL⟩:=hs.obj _ _ _ cA;rw[hv]at ry;obtain rfl:=agq ry
 have ZW:j<lh.length:=by omega
 obtain rfl:qq=j:=by omega
 obtain⟨cur,hh,hle,bC,gy⟩:=dS.put rfl ZW hs.lt q.lo hr;generalize RD:w.setRow g (cur.toList.take (o0+qq*dr.low.size+q.lo.off)++cs++cur.toList.drop (o0+qq*dr.low.size+q.lo.off+cs.length)).toArray=w' at bC gy;refine bT.unit (w':=w') (by rw[<-RD];exact oj h1 (h4.trans (hz.trans hr.length.symm)) hx rfl wQ hr.jk hh hle) ?_;have gx:Step F w F w':=Step.ext bC hs.lt dS.no
 have hblk:∀i',i'<l.length->∀k,Ss i' k->w'.heap[k]? =w.heap[k]? :=λi' jJ k hk=>bC.block k (cL.lt k (dx.part jJ k hk)) (dx.out i' k jJ hk)
 have hf:=hs.fresh n (agt _) (by omega)
 have jr:∀k,H.sub s k->bX H ob [o] k:=λk hk=>⟨o,by simp,s,_,_,cA,hv,hk⟩
 obtain⟨B0,RE,_⟩:=wU (w':=w') (H1:=H) (aG.le.refl H) gx (hblk qq N2) (N3 qq ZW N2)
 have main:∀{H1:aG},H.le H1->∃B,(∀k,B k->Ss qq k)/\ol H1 F w' dr h' qq (q.lo.set lh[qq] u) x1 B:=(by grind)
 have RF:∃B,(∀k,B k->Ss qq k)/\∀{H1:aG},H.le H1->ol H1 F w' dr h' qq (q.lo.set lh[qq] u) x1 B:=by
  obtain⟨B,b1,b2⟩:=main (aG.le.refl H);exact⟨B,b1,λMt=>b2.keep Mt (Step.refl F w') λ_ _=>rfl⟩
 obtain⟨B,b1,b2⟩:=RF;have hSs:∀k,qU (bF (Value.slice (aa ⟨g,o0,ae⟩) m cap)) (λi=>if i=qq then B else Ss i) l.length k->H.sub s k:=dx.AE qq b1;refine kI.yK (t':= .deep T0 dr l' h') hs cA hv rfl (by simp) (qU (bF (Value.slice (aa ⟨g,o0,ae⟩) m cap)) (λi=>if i=qq then B else Ss i) l.length) (λk hk=>jr k (hSs k hk)) ⟨bC.os,bC.tape,bC.output,bC.size,λk hk hn=>bC.block k hk λe=>hn (jr k (dx.bF k e))⟩ ?_ trivial;have Mt:=aG.qc (H:=H) (S:=qU (bF (Value.slice (aa ⟨g,o0,ae⟩) m cap)) (λi=>if i=qq then B else Ss i) l.length) (t:= .deep T0 dr l' h') hf.2
 have E6:l'.length=l.length:=by rw[hl'];simp
 refine⟨lh.set qq (q.lo.set lh[qq] u),(λi=>if i=qq then B else Ss i),gy.2,by grind,?_,?_⟩
 .intro i' a b
  have:=Mr (rel:=ol ((H.dT n (qU (bF (Value.slice (aa ⟨g,o0,ae⟩) m cap)) (λi=>if i=qq then B else Ss i) l.length)).bk n (.deep T0 dr l' h')) F w' dr h') (lh:=lh) (l:=l) (Ss:=Ss) (j:=qq) (x':=q.lo.set lh[qq] u) (x:=x1) (B:=B)
   (λi2 c1 c2 dJ=>VD dJ ((N3 i2 c1 c2).keep Mt gx (hblk i2 c2))) (b2 Mt) i' a (by grind)
  grind
 .rw[E6];exact dx.less qq b1
def Dp(T:aX P){t:TypeId}{D V:aC}{x y:Operand}{k:dF->Option R}{q:R}(h:qd T ob n t D V k=aa q)(hs:aI U H F w ob n)(hx:aB H F w D (ev ρ x))(hy:aB H F w V (ev ρ y)):
 ∃e,k e=aa q/\cd P U H F w ρ ob n ⟨ae, .store t x y,ty,pos,aft,ae⟩ e:=by
 unfold qd at h;split at h
 .cases h
 rename_i rt Jv;split at h
 case h_2=>cases h
 rename_i agg u;split at h
 case h_2=>cases h
 rename_i o d0 i p off;split at h
 case h_2=>cases h
 rename_i s T0 dr l hh cA;obtain⟨hd,h'⟩:=aP h;clear h;obtain rfl:=DR.eq_of_beq hd;obtain⟨g,o0,qq,m,cap,e1,e2,e5⟩:=hx;obtain⟨cs,qQ,wQ⟩:=aO.cells hy;split at h'
 .rename_i r xp yH;obtain⟨h1,h2⟩:=aP h';obtain⟨h1,h3⟩:=ct h1;obtain rfl:=beq_true h1;split at h2
  case h_2=>cases h2
  rename_i z hz;obtain⟨a,ha,hk⟩:=bind_some h2;obtain⟨j,hj,N2,rfl⟩:=gw ha;refine⟨_,hk,qW (l':=bG l i (xp.hi.set l[j] z)) (x1:=xp.hi.set l[j] z) (u:=z) T Jv hs cA e1 hj N2 e5 e2 (beq_true h3) (gk hs hz qQ) wQ ?_ ?_ ?_⟩
  .unfold bG;grind
  .intro w' H1 hle gx x' S hb hr;exact⟨S,λ_ h=>h,G0 xp z (hr.keep hle gx hb)⟩
  grind
 .rename_i T' e' xp yH;obtain⟨h1,h2⟩:=aP h';obtain⟨h1,h3⟩:=ct h1;obtain rfl:=beq_true h1;split at h2
  .rename_i o1;split at h2
   case h_2=>cases h2
   rename_i s1 t1 yN;split at h2
   case h_2=>cases h2
   rename_i y1 hD;split at h2
   case isFalse=>cases h2
   rename_i AH;obtain⟨a,ha,hk⟩:=bind_some h2;obtain⟨j,hj,N2,rfl⟩:=gw ha;obtain⟨u1,Dc,o6⟩:=hs.obj _ _ _ yN;obtain⟨v,hv,kA,rfl⟩:=qQ;rw[Dc]at hv;obtain rfl:=agq hv
   have VE:cF F w .lE [u1] u1:=by
    have:=o6.ok;rw[Dn hD]at this;obtain⟨lh1,_,g1,_⟩:=vz this;obtain⟨xs,⟨_,hx⟩,_⟩:=g1
    rcases hx with⟨rfl,_⟩|⟨gg,o0,cp,cur,rfl,_⟩<;>exact⟨rfl,_,_,_,rfl⟩
   refine⟨_,hk,qW (l':=l) (x1:=l[j]) (u:=u1) (e:= .sl T' e') T Jv hs cA e1 hj N2 e5 e2 (beq_true h3) VE wQ ?_ ?_ ?_⟩
   .simp_all
   .intro w' H1 hle gx x' S hb hr;obtain⟨B,b1,b2⟩:=AG AH yH hj hr;refine⟨B,b1,λdJ=>absurd hj dJ,λ_=>⟨T',e',xp,yH,(b2.keep gx λk hk=>hb k (b1 k hk)).JF xp u1,?_⟩⟩;rw[Path.yJ];exact hle.val _ _ Dc
   .intro H1 w' i' x' x S dJ hr
    have G2:i≠(i':Int):=λe=>dJ (by omega)
    exact⟨λ_=>vB AH G2 hr,λe=>absurd e G2⟩
  .split at h2
   case isFalse=>cases h2
   rename_i AH;obtain⟨a,ha,hk⟩:=bind_some h2;obtain⟨j,hj,N2,rfl⟩:=gw ha;have VF:cs=_:=qQ;subst VF;refine⟨_,hk,qW (x1:=xp.hi.set l[j] ([]:List e'.row.den)) (u:=Value.slice ae 0 0) (e:= .sl T' e') T Jv hs cA e1 hj N2 e5 e2 (beq_true h3) ⟨rfl,_,_,_,rfl⟩ wQ ?_ ?_ ?_⟩
   .unfold bG;grind
   .intro w' H1 hle gx x' S hb hr;obtain⟨B,b1,b2⟩:=AG AH yH hj hr;refine⟨B,b1,?_⟩;refine mX.put (e:= .sl T' e') xp (b2.keep gx λk hk=>hb k (b1 k hk)) (A:=λ_=>False) ?_ ⟨λk=>by simp,λ_ h=>h.elim⟩;exact⟨[],λ_ _=>False,lR.nil F w' T' e'.low,rfl,λi h=>absurd h (by simp),⟨λk=>by simp[bF,agI],λ_ _ _ h=>absurd h (by simp),λ_ _ h=>absurd h (by simp)⟩⟩
   .intro H1 w' i' x' x S dJ hr
    have G2:i≠(i':Int):=λe=>dJ (by omega)
    exact vB AH G2 hr
  .cases h2
 .cases h'
end
end Go.Proofs.YtfeahmiobbjklaaGreatDoor
namespace Go.Proofs.YtfeahmiobbjklaaGreatDoor
open Go Go.RowKit
def sU{α:Type}(l:List α)(i:Int)(f:α->α):List α:=if 0<=i then l.modify i.toNat f else l
def AI{α:Type}(l:List α)(i:Int)(f:α->α):(sU l i f).length=l.length:=by unfold sU;split<;>simp
def Mu{α:Type}{l:List α}{i:Int}{f:α->α}{j:Nat}(h:j<(sU l i f).length)(h':j<l.length):(sU l i f)[j]=if i=(j:Int)then f l[j]else l[j]:=by
 grind [sU]
def Path.yO:{r s:Row}->(p:Path r s)->(x:r.den)->p.set x (p.get x)=x
 |_,_, .here,_=>rfl
 |_,_, .fst p,x=>by show(p.set x.1 (p.get x.1),x.2)=x;rw[Path.yO p]
 |_,_, .snd p,x=>by show(x.1,p.set x.2 (p.get x.2))=x;rw[Path.yO p]
section
variable {P:Program} {ρ:Nat->Value} {w w':World} {H H':aG} {F F':Nat->Prop} {U:Nat->Prop} {ob:Nat->Option (Nat×Th)} {n:Nat} {R:Type}
variable {op:Op} {ty:TypeId} {pos:String} {aft:Array Edge} {d:Nat}
def JG(ob:Nat->Option (Nat×Th))(n o:Nat):Option dF:=
 match ob o with
 |some (_, .deep T0 dr l (aa h))=>match dr.path h.p with
  |some ⟨.sl T' e',q⟩=>match ob h.o with
   |some (_,t1)=>bif agu h.o o then ae else(match RC T' e' t1 with
    |some y=>aa {dst:= .dead,eat:=[o,h.o],make:=[(o,(n, .deep T0 dr (sU l h.i λx=>q.hi.set x y) ae))]}
    |none=>ae)
   |none=>ae
  |_=>ae
 |_=>ae
def G3(hs:aI U H F w ob n){o:Nat}{e:dF}(h:JG ob n o=aa e):lL H F w ob n e undef w:=by
 unfold JG at h;split at h
 case h_2=>cases h
 rename_i s T0 dr l hh cA;split at h
 case h_2=>cases h
 rename_i T' e' q hq;split at h
 case h_2=>cases h
 rename_i s1 t1 yN
 cases dJ:agu hh.o o with
 |true=>grind
 |false=>
  rw[dJ,cond_false]at h
  have dJ:o≠hh.o:=λe=>by simp_all
  split at h
  case h_2=>cases h
  rename_i y hD;obtain rfl:=agq h;have hD:=Dn hD;subst hD;obtain⟨v,hv,cL⟩:=hs.obj _ _ _ cA;obtain⟨u,hu,o6⟩:=hs.obj _ _ _ yN;obtain⟨lh,Ss,dS,hlen,wU,dx⟩:=hs.low cA hv;have hA:=vz o6.ok;generalize ZX:(λk=>fp (H.sub s1) u (GZ T' e' y) k)=A at hA
  have UN:∀k,A k->¬H.sub s k:=λk hk=>by
   rw[<-ZX]at hk
   exact λh2=>hs.apart _ _ _ _ _ _ _ _ dJ cA yN hv hu k h2 hk
  have hf:=hs.fresh n (agt _) (by omega)
  let RG:Nat->Nat->Prop:=λi k=>Ss i k\/(hh.i=(i:Int)/\A k)
  have jr:∀k,H.sub s k\/A k->bX H ob [o,hh.o] k:=by
   rintro k (hk|hk)
   .exact⟨o,by simp,s,_,v,cA,hv,hk⟩
   .rw[<-ZX]at hk;exact⟨hh.o,by simp,s1,_,u,yN,hu,hk⟩
  have hS:∀k,qU (bF v) RG l.length k->H.sub s k\/A k:=by
   rintro k (hk|⟨i,hi,hk|hk⟩)
   .exact .inl (dx.bF k hk)
   .exact .inl (dx.part hi k hk)
   .exact .inr hk.2
  refine kI.yK (t':= .deep T0 dr (sU l hh.i λx=>q.hi.set x y) ae) hs cA hv rfl (by simp) (qU (bF v) RG l.length) (λk hk=>jr k (hS k hk)) ⟨rfl,⟨rfl,agt _⟩,rfl,agt _,λ_ _ _=>rfl⟩ ?_ trivial;have E6:(sU l hh.i λx=>q.hi.set x y).length=l.length:=AI ..;refine⟨lh,RG,dS.2,by grind,λi a b=>?_,?_⟩
  .have b':i<l.length:=by omega
   rw[Mu b b'];have hr:=wU i a b'
   by_cases hi:hh.i=(i:Int)
   .rw[aj hi];obtain⟨T'',e'',q'',k1,k2,k3⟩:=hr.2 hi;rw[hq]at k1;cases k1;rw[hu]at k3;have k3:=agq k3;have:jK F w dr (q.lo.set lh[i] u) (q.hi.set l[i] y) (RG i):=k2.put q hA ⟨(by grind),λk hk h2=>UN k hk (dx.part b' k h2)⟩;rw[k3,Path.yO]at this;exact this
   .rw[ai hi];have LV:=hr.1 hi
    have:RG i=Ss i:=by
     funext k;exact(by grind)
    rw[this];exact LV
  .rw[E6];refine⟨λk=>Iff.rfl,λi j k h1 h2 UK h3 h4=>?_,λi k h1 h3 h4=>?_⟩
   .rcases h3 with h3|h3<;>rcases h4 with h4|h4
    .exact dx.two i j k h1 h2 UK h3 h4
    .exact UN k h4.2 (dx.part h1 k h3)
    .exact UN k h3.2 (dx.part h2 k h4)
    grind
   .rcases h3 with h3|h3
    .exact dx.out i k h1 h3 h4
    .exact UN k h3.2 (dx.bF k h4)
end
end Go.Proofs.YtfeahmiobbjklaaGreatDoor
end
namespace Go.Proofs.YtfeahmiobbjklaaGreatDoor
open Go Go.RowKit
set_option maxRecDepth 100000
set_option linter.unusedSimpArgs false
set_option linter.unusedVariables false
set_option linter.defProp false
section
def DR.eD:(d:DR)->d.low.eD=d.row.eD
 | .leaf _=>rfl
 | .sl _ _=>rfl
 | .pair a b=>by show a.low.eD++b.low.eD=a.row.eD++b.row.eD;rw[a.eD,b.eD]
def TI.low{P:Program}{e:TypeId}{d:DR}(h:TI P e d.row):TI P e d.low:=by
 obtain⟨ti,z,h1,h2,h3,h4,h5⟩:=h;exact⟨ti,z,h1,h2,by rw[d.eD];exact h3,by rw[d.size];exact h4,h5⟩
def Dq:List Nat->Bool
 |[]=>af
 |o::l=> !l.any (agu o)&&Dq l
def xv:{l:List Nat}->Dq l=af->l.Nodup
 |[],_=>List.nodup_nil
 |o::l,h=>by
  obtain⟨h1,h2⟩:=ct h;refine List.nodup_cons.2 ⟨λhm=>?_,xv h2⟩;rw[any_beq.2 hm]at h1;cases h1
def DR.mk2:DR->DR->DR
 | .leaf a, .leaf b=> .leaf (.pair a b)
 |a,b=> .pair a b
def OZ(ob:Nat->Option (Nat×Th)):Row->Tree->DR
 | .slice e, .own o=>match ob o with
   |some (_, .own T r _)=> .sl T (.leaf r)
   |some (_, .deep T d _ ae)=> .sl T d
   |_=> .leaf (.slice e)
 | .pair a b,t=>match t.split with
   |some (x,y)=>DR.mk2 (OZ ob a x) (OZ ob b y)
   |none=> .leaf (.pair a b)
 |r,_=> .leaf r
def Dr(ob:Nat->Option (Nat×Th)):(d:DR)->Tree->Option (d.row.den×List Nat)
 | .leaf r,t=>match flat ob r t with
   |some x=>aa (x,[])
   |none=>ae
 | .sl T e, .own o=>match ob o with
   |some (_,t1)=>match RC T e t1 with
    |some y=>aa (y,[o])
    |none=>ae
   |none=>ae
 | .sl _ _, .nil=>aa ([],[])
 | .sl _ _,_=>ae
 | .pair a b,t=>match t.split with
   |some (x,y)=>match Dr ob a x with
    |some (u,os)=>match Dr ob b y with
     |some (v,G4)=>aa ((u,v),os++G4)
     |none=>ae
    |none=>ae
   |none=>ae
def E7(ob:Nat->Option (Nat×Th))(d:DR):List aC->Option (List d.row.den×List Nat)
 |[]=>aa ([],[])
 | .val _ u::l=>match Dr ob d u with
   |some (x,os)=>match E7 ob d l with
    |some (xs,G4)=>aa (x::xs,os++G4)
    |none=>ae
   |none=>ae
 |_::_=>ae
section
variable {P:Program} {ρ:Nat->Value} {w w':World} {H H':aG} {F F':Nat->Prop} {U:Nat->Prop} {ob:Nat->Option (Nat×Th)} {n:Nat} {R:Type}
variable {op:Op} {ty:TypeId} {pos:String} {aft:Array Edge} {d:Nat}
def tK(hs:aI U H F w ob n){os G4:List Nat}(hd:∀o,o∈os->o∉G4):∀k,bX H ob os k->¬bX H ob G4 k:=by
 rintro k ⟨o,ho,s,t,v,h1,h2,h3⟩ ⟨o',lD,s',t',v',g1,g2,g3⟩
 exact hs.apart o o' s s' t t' v v' (λe=>hd o ho (e▸lD)) h1 g1 h2 g2 k h3 g3
theorem qe{os G4:List Nat}(h:∀o,o∈os->o∈G4):∀k,bX H ob os k->bX H ob G4 k:=λ_ ⟨o,ho,rest⟩=>⟨o,h o ho,rest⟩
def yP(hs:aI U H F w ob n):{d:DR}->{t:Tree}->{x:d.row.den}->{os:List Nat}->{cs:List Value}->Dr ob d t=aa (x,os)->Holds H F w t cs->os.Nodup->∃x' S,cF F w d.low cs x'/\jK F w d x' x S/\∀k,S k->bX H ob os k
 | .leaf r,t,x,os,cs,h,hh,JH=>by
   unfold Dr at h
   split at h<;>cases h
   rename_i hf;exact⟨x,λ_=>False,gk hs hf hh,⟨rfl,λ_ h=>h⟩,λ_ h=>h.elim⟩
 | .sl T e, .own o,x,os,cs,h,hh,JH=>by
   unfold Dr at h;split at h
   case h_2=>cases h
   rename_i s1 t1 ho
   split at h<;>cases h
   rename_i hD;obtain⟨v,hv,_,rfl⟩:=hh;obtain⟨v',dX,cL⟩:=hs.obj _ _ _ ho;rw[hv]at dX;obtain rfl:=agq dX;have hD:=Dn hD;subst hD;have hb:=vz cL.ok;refine⟨v,_,?_,hb,λk hk=>⟨o,by simp,s1,_,v,ho,hv,hk⟩⟩;obtain⟨lh1,_,⟨xs,⟨_,hx⟩,_⟩,_⟩:=hb
   rcases hx with⟨rfl,_⟩|⟨gg,o0,cp,cur,rfl,_⟩<;>exact⟨rfl,_,_,_,rfl⟩
 | .sl T e, .nil,x,os,cs,h,hh,_=>by
   cases h;have UO:cs=_:=hh;subst UO;exact⟨.slice ae 0 0,λ_=>False,⟨rfl,_,_,_,rfl⟩,⟨[],λ_ _=>False,lR.nil F w T e.low,rfl,λi h=>absurd h (by simp),⟨λk=>by simp[bF,agI],λ_ _ _ h=>absurd h (by simp),λ_ _ h=>absurd h (by simp)⟩⟩,λ_ h=>h.elim⟩
 | .pair a b,t,x,os,cs,h,hh,hn=>by
   unfold Dr at h;split at h
   case h_2=>cases h
   rename_i t1 t2 qE;split at h
   case h_2=>cases h
   rename_i u os1 h1;split at h
   case h_2=>cases h
   rename_i v os2 h2;cases h;obtain⟨c1,c2,rfl,g1,g2,_⟩:=hh.split qE;obtain⟨n1,n2,n3⟩:=List.nodup_append.1 hn;obtain⟨x1,S1,r1,e1,s1⟩:=yP hs h1 g1 n1;obtain⟨x2,S2,r2,e2,s2⟩:=yP hs h2 g2 n2;refine⟨(x1,x2),λk=>S1 k\/S2 k,⟨c1,c2,rfl,r1,r2⟩,⟨S1,S2,e1,e2,λ_=>Iff.rfl,λk hk gD=>tK hs (λo ho lD=>n3 o ho o lD rfl) k (s1 k hk) (s2 k gD)⟩,λk hk=>hk.elim (λhk=>qe (λo ho=>by simp[ho]) k (s1 k hk)) λhk=>qe (λo ho=>by simp[ho]) k (s2 k hk)⟩
 | .sl _ _, .leaf _ _,_,_,_,h,_,_=>by cases h
 | .sl _ _, .pair _ _,_,_,_,h,_,_=>by cases h
 | .sl _ _, .view ..,_,_,_,h,_,_=>by cases h
def AJ(hs:aI U H F w ob n){d:DR}:{ds:List aC}->{l:List d.row.den}->{os:List Nat}->{vs:List Value}->E7 ob d ds=aa (l,os)->fh H F w ds vs->os.Nodup->
 ∃(lh:List d.low.den)(Ss:Nat->Nat->Prop),va F w d.low vs lh/\lh.length=l.length/\(∀i(h1:i<lh.length)(h2:i<l.length),jK F w d lh[i] l[i] (Ss i))/\(∀i k,i<l.length->Ss i k->bX H ob os k)/\∀i j k,i<l.length->j<l.length->i≠j->Ss i k->¬Ss j k
 |[],l,os,vs,h,hd,_=>by
  cases h;rw[show vs=[]from hd];exact⟨[],λ_ _=>False, .nil,rfl,λi h=>absurd h (by simp),λ_ _ h=>absurd h (by simp),λ_ _ _ h=>absurd h (by simp)⟩
 | .val _ u::ds,l,os,vs,h,hd,hn=>by
   obtain⟨v,us,rfl,h1,h2⟩:=hd;unfold E7 at h;split at h
   case h_2=>cases h
   rename_i x os1 hf;split at h
   case h_2=>cases h
   rename_i xs os2 hg;cases h;obtain⟨cs,qQ,wQ⟩:=aO.cells h1;obtain⟨n1,n2,n3⟩:=List.nodup_append.1 hn;obtain⟨x',S,r1,e1,s1⟩:=yP hs hf qQ n1;obtain⟨lh,Ss,k1,k2,k3,k4,k5⟩:=AJ hs hg h2 n2
   have ap:∀i k,i<xs.length->S k->¬Ss i k:=λi k hi hk gD=>tK hs (λo ho lD=>n3 o ho o lD rfl) k (s1 k hk) (k4 i k hi gD)
   refine⟨x'::lh,λi=>match i with|0=>S|i+1=>Ss i, .cons wQ r1 k1,by simp[k2],λi a b=>?_,λi k hi hk=>?_,λi j k hi hj dJ hk gD=>?_⟩
   .grind
   .cases i with
    |zero=>grind [qe]
    |succ i=>grind [qe]
   .cases i with
    |zero=>
     cases j<;>grind
    |succ i=>
     cases j<;>grind
 | .dead::_,_,_,_,h,_,_=>by cases h
 | .undef::_,_,_,_,h,_,_=>by cases h
 | .ptr .. ::_,_,_,_,h,_,_=>by cases h
 | .at .. ::_,_,_,_,h,_,_=>by cases h
 | .elem .. ::_,_,_,_,h,_,_=>by cases h
 | .tup _::_,_,_,_,h,_,_=>by cases h
 | .dlm .. ::_,_,_,_,h,_,_=>by cases h
 | .fn .. ::_,_,_,_,h,_,_=>by cases h
 | .ifc .. ::_,_,_,_,h,_,_=>by cases h
def kI.Mv(hs:aI U H F w ob n){eat:List Nat}{t:Th}{v0:Value}{S:Nat->Prop}(hb:t.base=t)(h1:v0.oneCell'=af){D:aC}{v:Value}
 (bC:Ext (bX H ob eat) w w')(mE:gX (((H.dT n S).bk n t).cB n v0) F w' S v0 t)(LR:∀k,fp S v0 t k->¬F k/\k<w'.heap.size/\(w.heap.size<=k\/bX H ob eat k))
 (hd:aB (((H.dT n S).bk n t).cB n v0) F w' D v):lL H F w ob n {dst:=D,eat:=eat,make:=[(n,(n,t))]} v w':=by
 have hf:=hs.fresh n (agt _) (by omega)
 have gZ:(((H.dT n S).bk n t).cB n v0).sub n=S:=by simp[aG.cB,aG.bk,aG.dT]
 refine⟨((H.dT n S).bk n t).cB n v0,F,⟨(aG.qc hf.2).trans (aG.p6 (by simp[aG.bk,aG.dT,hf.1])),bC,λ_ h=>h,λ_ h=> .inl h,λb hb=>agK (hs.lt b hb) bC.size⟩,λm hm=>?_,hd,⟨λo' s' q hq=>?_,λo1 o2 s1 s2 q1 q2 u1 u2 dJ h1 h2=>?_⟩,λo' h=>?_⟩
 .simp[aG.bk,aG.cB,aG.dT,show m≠n from by omega]
 .obtain⟨rfl,e⟩:=eF hq;obtain⟨rfl,rfl⟩:=Prod.mk.inj e;exact⟨v0,by simp[aG.cB],h1,by simp[aG.bk,aG.cB,hb],by rw[gZ];exact mE,by grind⟩
 .grind [eF]
 .right
  obtain⟨y,hy⟩:=agY.1 h
  grind [eF]
def yQ(ob:Nat->Option (Nat×Th))(r:Row):List aC->DR
 | .val _ u::_=>OZ ob r u
 |_=> .leaf r
def pn(e:TypeId)(dr:DR)(ob:Nat->Option (Nat×Th))(n:Nat)(ds:List aC)(k:dF->Option R):Option R:=
 match E7 ob dr ds with
 |some (l,os)=>bif Dq os then k {dst:= .val ag (.own n),eat:=os,make:=[(n,(n,GZ e dr l))]}else ae
 |none=>ae
def qf(T:aX P)(rd:Operand->Option aC)(ob:Nat->Option (Nat×Th))(n:Nat)(t:TypeId)(m:Nat)(parts:Array (Nat×Operand))(k:dF->Option R):Option R:=
 match find T.und t with
 |some (.slice e)=>match find T.row e with
  |some r=>bif EY 0 parts.toList&&agu m parts.toList.length&&Nat.ble (m*r.size) 16777216 then
    (match rL rd (parts.toList.map (·.2))with
    |some ds=>bif (yQ ob r ds).row.beq r then pn e (yQ ob r ds) ob n ds k else ae
    |none=>ae)else ae
  |none=>ae
 |_=>ae
def Ds(T:aX P){rd:Operand->Option aC}(fU:∀x d,rd x=aa d->aB H F w d (ev ρ x)){t:TypeId}{m:Nat}{parts:Array (Nat×Operand)}{k:dF->Option R}{q:R}(h:qf T rd ob n t m parts k=aa q)(hs:aI U H F w ob n):
 ∃e,k e=aa q/\cd P U H F w ρ ob n ⟨aa d, .buildSlice t m parts,ty,pos,aft,ae⟩ e:=by
 unfold qf at h;split at h
 case h_2=>cases h
 rename_i e hu;split at h
 case h_2=>cases h
 rename_i r hr;obtain⟨c0,h8⟩:=aP h;clear h;obtain⟨c1,c3⟩:=ct c0;obtain⟨h1,c2⟩:=ct c1;have h2:=beq_true c2
 have h3:m*r.size<=16777216:=by simpa using c3
 clear c0 c1 c2 c3;split at h8
 case h_2=>cases h8
 rename_i ds wS;obtain⟨RH,h⟩:=aP h8;clear h8;have lE:=Row.eq_of_beq RH;clear RH
 obtain⟨dr,Q1⟩:∃dr,dr=yQ ob r ds:=⟨_,rfl⟩
 rw[<-Q1]at h lE;clear Q1;subst lE;unfold pn at h;split at h
 case h_2=>cases h
 rename_i l os hl;obtain⟨hn,hk⟩:=aP h;clear h;obtain⟨lh,Ss,k1,k2,k3,k4,k5⟩:=AJ hs hl (nH fU wS) (xv hn)
 have hp:parts=(((parts.toList.map (·.2)).zipIdx).map λp=>(p.2,p.1)).toArray:=by
  rw[<-vn h1,ahd]
 have hm:m=(parts.toList.map (·.2)).length:=by simpa using h2
 obtain⟨v,w',bj,bC,dS,wR⟩:=vm (d:=d) (ty:=ty) (pos:=pos) (aft:=aft) (T.und_ok _ _ hu) (TI.low (T.row_ok _ _ hr)) hp (by rw[<-hm,DR.size];exact h3) k1 hs;rw[<-hm]at bj;refine⟨_,hk,bT.val bj ?_⟩
 have bi:∀i k,i<l.length->Ss i k->k<w.heap.size:=λi k hi hk=>hs.vd k (k4 i k hi hk)
 have gx:Step F w F w':=λb hb=>⟨hb,(bC λ_=>False).block b (hs.lt b hb) λh=>h⟩
 have dx:nC Ss l.length (bF v) (qU (bF v) Ss l.length):=⟨λ_=>Iff.rfl,k5,(by grind)⟩
 have uh:jK F w' (.sl e dr) v l (qU (bF v) Ss l.length):=⟨lh,Ss,dS.2,k2,λi a b=>(k3 i a b).keep gx λk hk=>(bC λ_=>False).block k (bi i k b hk) λh=>h,dx⟩
 have LR:∀k,qU (bF v) Ss l.length k->¬F k/\k<w'.heap.size/\(w.heap.size<=k\/bX H ob os k):=by
  rintro k (hk|⟨i,hi,hk⟩)
  .exact⟨dS.1 k hk,dS.lt k hk, .inl (wR k hk)⟩
  .have:=k4 i k hi hk;exact⟨hs.eE k this,agK (hs.vd k this) (bC λ_=>False).size, .inr this⟩
 refine kI.Mv (S:=qU (bF v) Ss l.length) (v0:=v) hs (vy ..) (p7 dS) (bC _) (sS uh).1 (λk hk=>LR k ((sS (H:=H) uh).2.1 k hk)) (mH (by simp[aG.cB]) (p7 dS))
def yR(T:aX P)(n:Nat)(t:TypeId)(same:Bool)(a b:Int)(k:dF->Option R):Option R:=
 match find T.und t with
 |some (.slice e)=>match find T.row e with
  |some (.slice r)=>match find T.und e with
   |some (.slice e')=>(bif same then og a ([]:List r.den)else UI a b ([]:List r.den)).bind λl=>k {dst:= .val ag (.own n),make:=[(n,(n, .deep e (.sl e' (.leaf r)) l ae))]}
   |_=>ae
  |_=>vl T n t same a b k
 |_=>ae
def xw{e e' t:TypeId}{r:Row}{a b:Int}(ht:P.underlying t=aa (.slice e))(rK:TI P e (.slice r))(hs:aI U H F w ob n){ka kb:IntKind}{x y:Operand}(hx:ev ρ x= .int ka a)(hy:ev ρ y= .int kb b)(h0:0<=a)(h1:a<=b)(h2:b<=4294967296):
 cd P U H F w ρ ob n ⟨aa d, .makeSlice t x y,ty,pos,aft,ae⟩ {dst:= .val ag (.own n),make:=[(n,(n, .deep e (.sl e' (.leaf r)) (agv a.toNat ([]:List r.den)) ae))]}:=by
 obtain⟨v,w',bj,bC,dS,wR⟩:=xq (d:=d) (ty:=ty) (pos:=pos) (aft:=aft) (r:= .lE) ht (TI.low (d:= .sl e' (.leaf r)) rK) hs hx hy h0 h1 h2
 have uh:jK F w' (.sl e (.sl e' (.leaf r))) v (agv a.toNat ([]:List r.den)) (bF v):=by
  refine⟨agv a.toNat (Value.slice ae 0 0),λ_ _=>False,dS.2,by simp,λi h1 h2=>?_,⟨λk=>by simp,λ_ _ _ _ _ _ h=>h.elim,λ_ _ _ h=>h.elim⟩⟩;simp only[List.getElem_replicate];exact⟨[],λ_ _=>False,lR.nil F w' e' r,rfl,λi h=>absurd h (by simp),⟨λk=>by simp[bF,agI],λ_ _ _ h=>absurd h (by simp),λ_ _ h=>absurd h (by simp)⟩⟩
 refine bT.val bj (kI.Mv (S:=bF v) (v0:=v) (eat:=[]) (t:=GZ e (.sl e' (.leaf r)) (agv a.toNat ([]:List r.den))) hs (vy ..) (p7 dS) (bC _) (sS uh).1 (λk hk=>?_) (mH (by simp[aG.cB]) (p7 dS)));have hk:=(sS (H:=H) uh).2.1 k hk;exact⟨dS.1 k hk,dS.lt k hk, .inl (wR k hk)⟩
def G5(T:aX P){t:TypeId}{a b:Int}{ka kb:IntKind}{x y:Operand}{k:dF->Option R}{q:R}(h:yR T n t (pj x y) a b k=aa q)(hs:aI U H F w ob n)(hx:ev ρ x= .int ka a)(hy:ev ρ y= .int kb b):
 ∃e,k e=aa q/\cd P U H F w ρ ob n ⟨aa d, .makeSlice t x y,ty,pos,aft,ae⟩ e:=by
 unfold yR at h;split at h
 case h_2=>cases h
 rename_i e hu;split at h
 case h_2=>exact Ar T h hs hx hy
 rename_i r hr;split at h
 case h_2=>cases h
 rename_i e' E5;obtain⟨l,hl,hk⟩:=bind_some h;have rK:=T.row_ok _ _ hr;have ht:=T.und_ok _ _ hu
 cases GO:pj x y with
 |true=>
  rw[GO,cond_true]at hl;unfold og at hl;split at hl
  case isFalse=>cases hl
  rename_i hc;obtain rfl:=agq hl;obtain rfl:=xr GO hx hy;exact⟨_,hk,xw ht rK hs hx hy hc.1 (ahp _) hc.2⟩
 |false=>
  rw[GO,cond_false]at hl;unfold UI at hl;split at hl
  case isFalse=>cases hl
  rename_i hc;obtain rfl:=agq hl;exact⟨_,hk,xw ht rK hs hx hy hc.1 hc.2.1 hc.2.2⟩
def vC(deep:Bool)(T:aX P)(n:Nat)(t:TypeId)(same:Bool)(a b:Int)(k:dF->Option R):Option R:=
 match deep with
 |true=>yR T n t same a b k
 |false=>vl T n t same a b k
def G6(deep:Bool)(T:aX P){t:TypeId}{a b:Int}{ka kb:IntKind}{x y:Operand}{k:dF->Option R}{q:R}(h:vC deep T n t (pj x y) a b k=aa q)(hs:aI U H F w ob n)(hx:ev ρ x= .int ka a)(hy:ev ρ y= .int kb b):
 ∃e,k e=aa q/\cd P U H F w ρ ob n ⟨aa d, .makeSlice t x y,ty,pos,aft,ae⟩ e:=by
 cases deep with
 |true=>exact G5 T h hs hx hy
 |false=>exact Ar T h hs hx hy
def po(T:aX P)(ob:Nat->Option (Nat×Th))(n:Nat)(t:TypeId)(D:aC)(k:dF->Option R):Option R:=
 match D with
 | .dlm .. =>qV T ob n t D k
 |_=>xo T ob t D k
def G7(T:aX P){t:TypeId}{D:aC}{x:Operand}{k:dF->Option R}{q:R}(h:po T ob n t D k=aa q)(hs:aI U H F w ob n)(hx:aB H F w D (ev ρ x)):
 ∃e,k e=aa q/\cd P U H F w ρ ob n ⟨aa d, .load t x,ty,pos,aft,ae⟩ e:=by
 unfold po at h;split at h
 .exact G1 T h hs hx
 .exact Ju T h hs hx
noncomputable def qg(T:aX P)(ob:Nat->Option (Nat×Th))(n:Nat)(t:TypeId)(D V:aC)(k:dF->Option R):Option R:=
 match D with
 | .dlm .. =>qd T ob n t D V k
 |_=>sK T ob n t D V k
def Dt(T:aX P){t:TypeId}{D V:aC}{x y:Operand}{k:dF->Option R}{q:R}(h:qg T ob n t D V k=aa q)(hs:aI U H F w ob n)(hx:aB H F w D (ev ρ x))(hy:aB H F w V (ev ρ y)):
 ∃e,k e=aa q/\cd P U H F w ρ ob n ⟨ae, .store t x y,ty,pos,aft,ae⟩ e:=by
 unfold qg at h;split at h
 .exact Dp T h hs hx hy
 .exact GL T h hs hx hy
def uN(deep:Bool)(T:aX P)(rd:Operand->Option aC)(ob:Nat->Option (Nat×Th))(n:Nat)(t:TypeId)(m:Nat)(parts:Array (Nat×Operand))(k:dF->Option R):Option R:=
 match deep with
 |true=>qf T rd ob n t m parts k
 |false=>jC T rd ob n t m parts k
def Du(deep:Bool)(T:aX P){rd:Operand->Option aC}(fU:∀x d,rd x=aa d->aB H F w d (ev ρ x)){t:TypeId}{m:Nat}{parts:Array (Nat×Operand)}{k:dF->Option R}{q:R}(h:uN deep T rd ob n t m parts k=aa q)(hs:aI U H F w ob n):
 ∃e,k e=aa q/\cd P U H F w ρ ob n ⟨aa d, .buildSlice t m parts,ty,pos,aft,ae⟩ e:=by
 cases deep with
 |true=>exact Ds T fU h hs
 |false=>exact vo T fU h hs
end
end
end Go.Proofs.YtfeahmiobbjklaaGreatDoor
