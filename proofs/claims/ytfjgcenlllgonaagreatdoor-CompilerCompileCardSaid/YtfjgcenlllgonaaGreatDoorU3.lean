/- Joined texts: Grp Pack2 Call Call2 Ifc Exec. -/
import Derived.Test.YtfjgcenlllgonaaGreatDoorU2
open _root_.Bool renaming false->ag,true->af
open _root_.Option renaming none->ae,some->aa,isSome_iff_exists->apA
open _root_.List renaming getElem_append_left->aoK,getElem_append_right->ao1,length_append->aoH,append_nil->apq
open _root_.Nat renaming beq->aoL,lt_of_lt_of_le->api,zero_le->aoR,le_refl->aoJ,blt->aps,lt_or_ge->aph
open _root_.Option.some renaming inj->aoB,injEq->aoW
open _root_.Go.Value renaming ownBlock->apg
open _root_.List.cons renaming injEq->ap5
open _root_.Go.Value.slice renaming injEq->aqj
open _root_.Go.Result renaming andThen->aqt
open _root_.Go.Sem renaming run_bind->ao9
open _root_.Array renaming toArray_toList->apF
namespace Go.Proofs.YtfjgcenlllgonaaGreatDoor
open Go Go.RowKit
set_option maxRecDepth 100000
set_option linter.unusedSimpArgs false
set_option linter.unusedVariables false
set_option linter.defProp false
section
open Go Go.RowKit Go.MapKept
section
variable {P:Program} {ρ:Nat->Value} {w w':World} {H H':aR} {F F':Nat->Prop} {U:Nat->Prop} {ob:Nat->Option (Nat×Th)} {n:Nat} {R:Type}
variable {op:Op} {ty:TypeId} {pos:String} {aft:Array Edge} {d:Nat}
variable {K:Row} {E:TypeId} {r:Row}
theorem Hf.none(A:Nat->Prop):Hf (λ_=>False) A A:=⟨λk=>by simp,λ_ h=>h.elim⟩
theorem EQ:{es:List MapEntry}->{l:List (K.den×List r.den)}->{S:Nat->Prop}->sj H F w K E r ae es l S->es.length=l.length/\∀i(h:i<l.length),∃(e:MapEntry)(A:Nat->Prop),es[i]? =aa e/\Lb K l[i].1=aa e.key/\LB F w E r e.val l[i].2 A/\∀k,A k->S k
 |[],l,S,h=>by obtain⟨rfl,_⟩:=h;exact⟨rfl,λi h=>by simp at h⟩
 |e::es,l,S,h=>by
  obtain⟨k,y,l',A,B,rfl,h1,h2,h3,h4⟩:=h;obtain⟨g1,g2⟩:=EQ h3;refine⟨by simp[g1],λi hi=>?_⟩
  cases i with
  |zero=>exact⟨e,A,rfl,h1,h2,h4.left⟩
  |succ i=>
   obtain⟨e',A',q1,q2,q3,q4⟩:=g2 i (by simpa using hi);exact⟨e',A',by simpa only[List.getElem?_cons_succ]using q1,q2,q3,λk hk=>h4.right k (q4 k hk)⟩
def qP(deep:Bool)(T:bU P)(n:Nat)(t:TypeId)(k:gw->Option R):Option R:=
 none
theorem C1(deep:Bool)(T:bU P){t:TypeId}{k:gw->Option R}{q:R}(h:qP deep T n t k=aa q)(hs:aS U H F w ob n):
 ∃e,k e=aa q/\dZ P U H F w ρ ob n ⟨aa d, .makeMap t ae,ty,pos,aft,ae⟩ e:=by
 unfold qP at h;cases h
noncomputable def sU(T:bU P)(ob:Nat->Option (Nat×Th))(n:Nat)(t:TypeId)(ok:Bool)(M X:aM)(k:gw->Option R):Option R:=
 none
theorem ER(T:bU P){t:TypeId}{ok:Bool}{M X:aM}{m x:Operand}{k:gw->Option R}{q:R}(h:sU T ob n t ok M X k=aa q)(hs:aS U H F w ob n)(hm:aN H F w M (ev ρ m))(hx:aN H F w X (ev ρ x)):
 ∃e,k e=aa q/\dZ P U H F w ρ ob n ⟨aa d, .lookup t m x ok,ty,pos,aft,ae⟩ e:=by
 unfold sU at h;cases h
noncomputable def oD(T:bU P)(ob:Nat->Option (Nat×Th))(n:Nat)(t:TypeId)(M X Y:aM)(k:gw->Option R):Option R:=
 none
theorem zq(T:bU P){t:TypeId}{M X Y:aM}{m x y:Operand}{k:gw->Option R}{q:R}(h:oD T ob n t M X Y k=aa q)(hs:aS U H F w ob n)(hm:aN H F w M (ev ρ m))(hx:aN H F w X (ev ρ x))(hy:aN H F w Y (ev ρ y)):
 ∃e,k e=aa q/\dZ P U H F w ρ ob n ⟨ae, .mapUpdate t m x y,ty,pos,aft,ae⟩ e:=by
 unfold oD at h;cases h
noncomputable def Ul(ob:Nat->Option (Nat×Th))(n o:Nat):Option gw:=OH ob n o
theorem HN(hs:aS U H F w ob n){o:Nat}{e:gw}(h:Ul ob n o=aa e):o8 H F w ob n e undef w:=L0 hs h
theorem DR.wZ:(d:DR)->d.low.iK=d.row.iK
 | .leaf _=>rfl
 | .sl _ _=>rfl
 | .pair a b=>by show a.low.iK++b.low.iK=a.row.iK++b.row.iK;rw[a.wZ,b.wZ]
theorem OI{α β:Type}{l m out:List α}{lx ly:List β}(h:bR l m=aa out)(h1:lx.length=l.length)(h2:ly.length=m.length):bR lx ly=aa (lx++ly)/\out=l++m:=by
 unfold bR at h⊢;split at h
 case isFalse=>cases h
 rename_i hle;exact⟨by rw[aj (by omega)],(aoB h).symm⟩
theorem xG(T:bU P){t e:TypeId}{r:Row}(hu:find T.und t=aa (.slice e))(hr:find T.row e=aa r){dr:DR}(mI:dr.row=r){x y:Operand}{l m out:List dr.row.den}{Sx:Nat->Prop}{eat:List Nat}{o2 s2:Nat}
 (hs:aS U H F w ob n)(hx:LA F w e dr.low (λ_=>mL F w dr) (ev ρ x) l Sx)(hxF:∀k,Sx k->¬F k)(hxe:∀k,Sx k->dt H ob eat k)(He:∀k,Sx k->k<w.heap.size)
 (yl:ob o2=aa (s2, .deep e dr m ae))(Lu:H.val o2=aa (ev ρ y))(ho2:o2∈eat)(R3:∀k,Sx k->¬H.sub s2 k)(ha:bR l m=aa out):
 dZ P U H F w ρ ob n ⟨aa d, .call {callee:= .builtin .append,args:= #[x,y],argTypes:= #[t,t]},ty,pos,aft,ae⟩ {dst:= .val ag (.own n),eat:=eat,make:=[(n,(n, .deep e dr out ae))]}:=by
 obtain⟨lx,Sx',Vc,X6,hrx,HO⟩:=hx;obtain⟨ly,Sy,hoy,hly,hry,Vm⟩:=hs.low yl Lu;obtain⟨v2,Lv,R4⟩:=hs.obj _ _ _ yl;rw[Lu]at Lv;obtain rfl:=aoB Lv;obtain⟨OJ,rfl⟩:=OI ha X6 hly;obtain⟨ti,z,h1,h2,h3,h4,h5⟩:=T.row_ok _ _ hr;have ht:=T.und_ok _ _ hu;subst mI;obtain⟨v',w',cD,cG,lI,hm⟩:=yR ty ht h1 h2 (h3.trans dr.wZ.symm) (h4.trans dr.size.symm) h5 (base:=0) (l:=lx) ⟨λk hk=>hxF k (HO.cc k hk),Vc⟩ hoy.reads OJ hs.lt (aoR _)
 have lm:Step F w F w':=Step.ext cG hs.lt λk hk=>hxF k (HO.cc k hk)
 have hye:∀k,H.sub s2 k->dt H ob eat k:=λk hk=>⟨o2,ho2,s2,_,_,yl,Lu,hk⟩
 have Yv:∀i,i<l.length->∀k,Sx' i k->w'.heap[k]? =w.heap[k]? :=λi hi k hk=>cG.block k (He k (HO.part hi k hk)) (HO.out i k hi hk)
 have Yw:∀i,i<m.length->∀k,Sy i k->w'.heap[k]? =w.heap[k]? :=λi hi k hk=>cG.block k (R4.lt k (Vm.part hi k hk)) λOK=>R3 k (HO.cc k OK) (Vm.part hi k hk)
 have hlen:(l++m).length=l.length+m.length:=aoH
 have hvb:∀k,cc v' k->(Sx k/\cc (ev ρ x) k)\/k=w.heap.size:=by
  intro k hk
  rcases hm with g|g
  .rw[g]at hk;exact .inl ⟨HO.cc k hk,hk⟩
  .rw[g]at hk;exact .inr hk.symm
 let SS:Nat->Nat->Prop:=λi=>if i<l.length then Sx' i else Sy (i-l.length)
 have XF:∀i k,i<l.length->SS i k->Sx' i k:=λi k hi hk=>by simpa only[SS,aj hi]using hk
 have XG:∀i k,¬i<l.length->SS i k->Sy (i-l.length) k:=λi k hi hk=>by simpa only[SS,ai hi]using hk
 have hSS:∀i k,i<(l++m).length->SS i k->Sx k\/H.sub s2 k:=by
  intro i k hi hk;by_cases aJ:i<l.length
  .exact .inl (HO.part aJ k (XF i k aJ hk))
  .exact .inr (Vm.part (by omega) k (XG i k aJ hk))
 have pd:v'.oneCell'=af:=nQ.one (T:=e) (r:=dr.low) lI.2;refine dL.val (v:=v') (w':=w') (by simp[execOp,resolve,invoke,builtin,cD]) (qB.Vk (t:= .deep e dr (l++m) ae) (S:=uZ (cc v') SS (l++m).length) hs rfl pd ⟨cG.os,cG.tape,cG.output,cG.size,λk hk hn=>cG.block k hk λX7=>hn (hxe k (HO.cc k X7))⟩ ?_ (λk hk=>?_) (tP (o:=n) (v:=v') (by simp[aR.fJ]) pd))
 .refine⟨lx++ly,SS,lI.2,by simp[X6,hly],λi a b=>?_,⟨λk=>Iff.rfl,λi j k hi hj dS hk dT=>?_,λi k hi hk X7=>?_⟩⟩
  .show mL F w' dr (lx++ly)[i] (l++m)[i] (SS i)
   by_cases aJ:i<l.length
   .have e1:(lx++ly)[i]=lx[i]'(by omega):=aoK (by omega);have e2:(l++m)[i]=l[i]:=aoK aJ
    have e3:SS i=Sx' i:=by simp only[SS,aj aJ]
    rw[e1,e2,e3];exact mL.keep lm (hrx i (by omega) aJ) (Yv i aJ)
   .have e1:(lx++ly)[i]=ly[i-l.length]'(by simp at a;omega):=by rw[ao1 (by omega)];simp only[X6]
    have e2:(l++m)[i]=m[i-l.length]'(by omega):=ao1 (by omega)
    have e3:SS i=Sy (i-l.length):=by simp only[SS,ai aJ]
    rw[e1,e2,e3];exact mL.keep lm (hry (i-l.length) _ (by omega)) (Yw _ (by omega))
  .by_cases h1:i<l.length<;>by_cases h2:j<l.length
   .exact HO.two i j k h1 h2 dS (XF i k h1 hk) (XF j k h2 dT)
   .exact R3 k (HO.part h1 k (XF i k h1 hk)) (Vm.part (by omega) k (XG j k h2 dT))
   .exact R3 k (HO.part h2 k (XF j k h2 dT)) (Vm.part (by omega) k (XG i k h1 hk))
   .exact Vm.two (i-l.length) (j-l.length) k (by omega) (by omega) (by omega) (XG i k h1 hk) (XG j k h2 dT)
  .rcases hvb k X7 with⟨g1,g2⟩|g
   .by_cases h1:i<l.length
    .exact HO.out i k h1 (XF i k h1 hk) g2
    .exact R3 k g1 (Vm.part (by omega) k (XG i k h1 hk))
   .rcases hSS i k hi hk with h1|h1
    .have:=He k h1;omega
    .have:=R4.lt k h1;omega
 .have hk:uZ (cc v') SS (l++m).length k:=hk
  have fin:Sx k\/H.sub s2 k->¬F k/\k<w'.heap.size/\(w.heap.size<=k\/dt H ob eat k):=by
   rintro(h1|h1)
   .exact⟨hxF k h1,api (He k h1) cG.size, .inr (hxe k h1)⟩
   .exact⟨R4.no k h1,api (R4.lt k h1) cG.size, .inr (hye k h1)⟩
  rcases hk with hk|⟨i,hi,hk⟩
  .rcases hvb k hk with⟨g,_⟩|g
   .exact fin (.inl g)
   .exact⟨λe=>by have:=hs.lt k e;omega,lI.lt k hk, .inl (by omega)⟩
  .exact fin (hSS i k hi hk)
def vL(T:bU P)(ob:Nat->Option (Nat×Th))(n:Nat)(t:TypeId)(X Y:aM)(k:gw->Option R):Option R:=
 match find T.und t with
 |some (.slice e)=>match find T.row e with
  |some r=>match Y with
   | .val ag (.own o2)=>match ob o2 with
     |some (_, .deep T2 d2 m ae)=>bif aoL T2 e&&d2.row.beq r then(match X with
      | .val ag .nil=>(bR ([]:List d2.row.den) m).bind λl=>k {dst:= .val ag (.own n),eat:=[o2],make:=[(n,(n, .deep e d2 l ae))]}
      | .val ag (.own o1)=>match ob o1 with
        |some (_, .deep T1 d1 l0 ae)=>bif aoL o1 o2 then ae else bif aoL T1 e then(if h:d1.beq d2=af then(bR (DR.eq_of_beq h▸l0) m).bind λl=>k {dst:= .val ag (.own n),eat:=[o1,o2],make:=[(n,(n, .deep e d2 l ae))]}else ae)else ae
        |_=>ae
      |_=>ae)else ae
     |_=>ae
   |_=>ae
  |none=>ae
 |_=>ae
theorem ES(T:bU P){t:TypeId}{X Y:aM}{x y:Operand}{k:gw->Option R}{q:R}(h:vL T ob n t X Y k=aa q)(hs:aS U H F w ob n)(hx:aN H F w X (ev ρ x))(hy:aN H F w Y (ev ρ y)):
 ∃e,k e=aa q/\dZ P U H F w ρ ob n ⟨aa d, .call {callee:= .builtin .append,args:= #[x,y],argTypes:= #[t,t]},ty,pos,aft,ae⟩ e:=by
 unfold vL at h;split at h
 case h_2=>cases h
 rename_i e hu;split at h
 case h_2=>cases h
 rename_i r hr;split at h
 case h_2=>cases h
 rename_i o2;split at h
 case h_2=>cases h
 rename_i s2 T2 d2 m yl;obtain⟨hc,h'⟩:=bo h;clear h;obtain⟨Nw,CO⟩:=eG hc;obtain rfl:=beq_true Nw;have mI:=Row.eq_of_beq CO;obtain⟨cs,⟨u,RM,_,e2⟩,_,h3⟩:=hy;rw[h3 rfl]at e2
 obtain rfl:ev ρ y=u:=by simpa using e2
 split at h'
 .obtain⟨l,hl,hk⟩:=bind_some h';refine⟨_,hk,xG (Sx:=λ_=>False) T hu hr mI hs ?_ (λ_ h=>h.elim) (λ_ h=>h.elim) (λ_ h=>h.elim) yl RM (by simp) (λ_ h=>h.elim) hl⟩;obtain⟨cs,h1,_,h4⟩:=hx;rw[h4 rfl]at h1;have Ef:[ev ρ x]=[Value.slice ae 0 0]:=h1;rw[show ev ρ x= .slice ae 0 0 by simpa using Ef];exact⟨[],λ_ _=>False,nQ.nil F w T2 d2.low,rfl,λi h=>absurd h (by simp),⟨λk=>by simp[cc,apg],λ_ _ _ h=>absurd h (by simp),λ_ _ h=>absurd h (by simp)⟩⟩
 .rename_i o1;split at h'
  case h_2=>cases h'
  rename_i s1 T1 d1 l0 CW
  cases dS:aoL o1 o2 with
  |true=>rw[dS]at h';cases h'
  |false=>
   rw[dS,cond_false]at h'
   have dS:o1≠o2:=λe=>by rw[e]at dS;simp at dS
   obtain⟨hT,h⟩:=bo h';clear h';obtain rfl:=beq_true hT;split at h
   case isFalse=>cases h
   rename_i hb;obtain rfl:=DR.eq_of_beq hb;obtain⟨l,hl,hk⟩:=bind_some h;obtain⟨cs,⟨v,yj,_,e1⟩,_,h4⟩:=hx;rw[h4 rfl]at e1
   obtain rfl:ev ρ x=v:=by simpa using e1
   obtain⟨v',gQ,rF⟩:=hs.obj _ _ _ CW;rw[yj]at gQ;obtain rfl:=aoB gQ;exact⟨_,hk,xG (Sx:=H.sub s1) T hu hr mI hs rF.ok rF.no (λk hk=>⟨o1,by simp,s1,_,_,CW,yj,hk⟩) rF.lt yl RM (by simp) (λk hk=>hs.apart _ _ _ _ _ _ _ _ dS CW yl yj RM k hk) hl⟩
 .cases h'
def OL(ob:Nat->Option (Nat×Th)):aM->Bool
 | .val ag (.own o)=>match ob o with
   |some (_, .deep ..)=>af
   |_=>ag
 |_=>ag
def qQ(T:bU P)(ob:Nat->Option (Nat×Th))(n:Nat)(t:TypeId)(X Y:aM)(k:gw->Option R):Option R:=
 bif OL ob Y then vL T ob n t X Y k else tQ T ob n t X Y k
theorem ET(T:bU P){t:TypeId}{X Y:aM}{x y:Operand}{k:gw->Option R}{q:R}(h:qQ T ob n t X Y k=aa q)(hs:aS U H F w ob n)(hx:aN H F w X (ev ρ x))(hy:aN H F w Y (ev ρ y)):
 ∃e,k e=aa q/\dZ P U H F w ρ ob n ⟨aa d, .call {callee:= .builtin .append,args:= #[x,y],argTypes:= #[t,t]},ty,pos,aft,ae⟩ e:=by
 unfold qQ at h
 cases hb:OL ob Y with
 |true=>rw[hb,cond_true]at h;exact ES T h hs hx hy
 |false=>rw[hb,cond_false]at h;exact HC T h hs hx hy
end
end
end Go.Proofs.YtfjgcenlllgonaaGreatDoor
section
open _root_.Bool renaming false->ag,true->af
open _root_.Option renaming none->ae,some->aa
open _root_.List renaming append_assoc->ape,length_cons->apa
open _root_.Nat renaming beq->aoL,blt->aps,le_refl->aoJ,lt_or_ge->aph
open _root_.Option.some renaming inj->aoB,injEq->aoW
open _root_.Go.Value renaming ownBlock->apg
namespace Go.Proofs.YtfjgcenlllgonaaGreatDoor
open Go Go.RowKit
def gz(objs:List (Nat×(Nat×Th))):List Nat->Option (List (Nat×(Nat×Th)))
 |[]=>aa objs
 |o::os=>match find objs o with
  |some (s, .own T r l)=>gz ((o,(s, .yf T r l))::del [o] objs) os
  |some (s, .map T K agg V l)=>gz ((o,(s, .fmap T K agg V l))::del [o] objs) os
  |some (s, .deep T d l ae)=>gz ((o,(s, .fdeep T d l))::del [o] objs) os
  |some (s, .dmap T K E r l ae)=>gz ((o,(s, .fdmap T K E r l))::del [o] objs) os
  |some (_, .yf ..)=>gz objs os
  |some (_, .fmap ..)=>gz objs os
  |some (_, .fdeep ..)=>gz objs os
  |some (_, .fdmap ..)=>gz objs os
  |_=>ae
def gN:Th->Bool
 | .yf .. =>af
 | .fmap .. =>af
 | .fdeep .. =>af
 | .fdmap .. =>af
 |_=>ag
structure XH(t t':Th):Prop where
 froz:gN t'=af
 base:t'.base=t.base
 fp:∀S v k,¬fp S v t' k
 ok:∀{H:aR}{F:Nat->Prop}{w:World}{S:Nat->Prop}{v:Value},(∀k,Go.Proofs.YtfjgcenlllgonaaGreatDoor.fp S v t k->¬F k)->lK H F w S v t->lK H (λb=>F b\/Go.Proofs.YtfjgcenlllgonaaGreatDoor.fp S v t b) w S v t'
structure dk(H:aR)(F:Nat->Prop)(w:World)(H':aR)(F':Nat->Prop)(w':World):Prop where
 lJ:H.le H'
 step:Step F w F' w'
theorem dk.refl(H:aR)(F:Nat->Prop)(w:World):dk H F w H F w:=⟨aR.le.refl H,Step.refl F w⟩
theorem dk.trans{H H' wO:aR}{F F' EU:Nat->Prop}{w w' yz:World}(h:dk H F w H' F' w')(k:dk H' F' w' wO EU yz):dk H F w wO EU yz:=⟨h.lJ.trans k.lJ,h.step.trans k.step⟩
structure OM(G:Nat->Prop)(w0:World)(F0:Nat->Prop)(w:World)(F:Nat->Prop):Prop where
 ext:Ext G w0 w
 le:∀b,F0 b->F b
 new:∀b,F b->F0 b\/w0.heap.size<=b\/G b
section
variable {U:Nat->Prop} {H:aR} {F:Nat->Prop} {w:World} {n:Nat}
theorem R5(T:TypeId)(r:Row)(l:List r.den):XH (.own T r l) (.yf T r l) where
 froz:=rfl
 base:=rfl
 fp _ _ _ h:=h
 ok hn h:=lV.freeze (base:=0) (T:=T) (l:=l) ⟨hn,h⟩
theorem R6(T:TypeId)(K:Row)(agg:Bool)(V:Row)(l:List (K.den×V.den)):XH (.map T K agg V l) (.fmap T K agg V l) where
 froz:=rfl
 base:=rfl
 fp _ _ _ h:=h
 ok {H F w S v} _ h:=by
  obtain⟨b,es,clock,h1,h2,h3,h4⟩:=h;obtain⟨g1,g2⟩:=JG h4;refine⟨v,rfl, .inr ⟨b,es,clock,h1, .inr h1,h2,h3,by simpa using g1,λi hi=>?_⟩⟩;obtain⟨e,cs,q1,q2,q3,q4,q5⟩:=g2 i hi;exact⟨e,cs,by simpa using q1,q2,q3.step (Step.freeze F w _),q4,q5⟩
theorem nQ.mI{F:Nat->Prop}{w:World}{T:TypeId}{r:Row}{v:Value}{l:List r.den}(h:nQ F w T r v l):dF F w .mI [v] v:=by
 obtain⟨xs,⟨_,h⟩,_⟩:=h
 rcases h with⟨rfl,_⟩|⟨gg,o0,cap,cur,rfl,_⟩<;>exact⟨rfl,_,_,_,rfl⟩
theorem ON(T:TypeId)(d:DR)(l:List d.row.den):XH (.deep T d l ae) (.fdeep T d l) where
 froz:=rfl
 base:=rfl
 fp _ _ _ h:=h
 ok {H F w S v} hn h:=by
  have h':mL F w (.sl T d) v l S:=h;obtain⟨lh,Ss,h1,_⟩:=h;exact mL.freeze h' hn h1.mI
theorem OO(T:TypeId)(K:Row)(E:TypeId)(r:Row)(l:List (K.den×List r.den)):XH (.dmap T K E r l ae) (.fdmap T K E r l) where
 froz:=rfl
 base:=rfl
 fp _ _ _ h:=h
 ok {H F w S v} hn h:=by
  obtain⟨b,es,clock,B,h1,h2,h3,h4,h5,_⟩:=h;obtain⟨g1,g2⟩:=EQ h4;refine⟨v,rfl, .inr ⟨b,es,clock,h1, .inr (h5.left b rfl),h2,h3,by simpa using g1,λi hi=>?_⟩⟩;obtain⟨e,A,q1,q2,q3,q4⟩:=g2 i hi
  have hAS:∀k,A k->S k:=λk hk=>h5.right k (q4 k hk)
  have hf:=lV.freeze (base:=0) (T:=E) (l:=l[i].2) ⟨λk hk=>hn k (hAS k ((q3.2 k).2 hk)),q3.1⟩;exact⟨e,[e.val],by simpa using q1,q2,hf.step (r:= .slice r) λk hk=>⟨hk.imp id λh=>hAS k ((q3.2 k).2 h),rfl⟩,rfl,λ_=>rfl⟩
theorem R7{objs:List (Nat×(Nat×Th))}{o s:Nat}{t0 t1:Th}(hf:XH t0 t1)(hs:aS U H F w (find objs) n)(ho:find objs o=aa (s,t0)):
 ∃F',aS U H F' w (find ((o,(s,t1))::del [o] objs)) n/\(∀b,F b->F' b)/\(∀b,F' b->F b\/∃v,H.val o=aa v/\fp (H.sub s) v t0 b):=by
 obtain⟨v,hv,eK⟩:=hs.obj _ _ _ ho;refine⟨λb=>F b\/fp (H.sub s) v t0 b,?_,λ_ h=> .inl h,(by grind)⟩
 have part:∀o' s' t',find ((o,(s,t1))::del [o] objs) o'=aa (s',t')->(o'=o/\s'=s/\t'=t1)\/(o'≠o/\find objs o'=aa (s',t')):=by
  intro o' s' t' h;rw[bp]at h;split at h
  .grind
  .grind [jW]
 have fz:Step F w (λb=>F b\/fp (H.sub s) v t0 b) w:=Step.freeze F w _;refine⟨λo' s' t' h=>?_,λo1 o2 s1 s2 t1' t2 v1 v2 dS h1 h2 e1 e2 k hk dT=>?_,hs.fresh,λb hb=>hb.elim (hs.lt b) (eK.lt b),hs.new,hs.gl.step fz⟩
 .rcases part o' s' t' h with⟨rfl,rfl,rfl⟩|⟨dS,h'⟩
  .exact⟨v,hv,eK.one,by rw[hf.base];exact eK.con,hf.ok eK.no eK.ok,λk hk=>(hf.fp _ _ _ hk).elim,λk hk=>(hf.fp _ _ _ hk).elim,λk hk=>(hf.fp _ _ _ hk).elim⟩
  .obtain⟨v',gQ,EV⟩:=hs.obj _ _ _ h';refine⟨v',gQ,EV.one,EV.con,EV.ok.heap (aR.le.refl H) fz λ_ _=>rfl,λk hk hF=>?_,EV.lt,EV.use⟩
   rcases hF with hF|hF
   .exact EV.no k hk hF
   .exact hs.apart _ _ _ _ _ _ _ _ dS h' ho gQ hv k hk hF
 .rcases part o1 s1 t1' h1 with⟨rfl,rfl,rfl⟩|⟨ajK,Ef⟩
  .exact hf.fp _ _ _ hk
  .rcases part o2 s2 t2 h2 with⟨rfl,rfl,rfl⟩|⟨ajL,Ra⟩
   .exact hf.fp _ _ _ dT
   .exact hs.apart _ _ _ _ _ _ _ _ dS Ef Ra e1 e2 k hk dT
theorem qR:{os:List Nat}->{F:Nat->Prop}->{objs p6:List (Nat×(Nat×Th))}->gz objs os=aa p6->aS U H F w (find objs) n->
 ∃F',aS U H F' w (find p6) n/\(∀b,F b->F' b)/\(∀b,F' b->F b\/dt H (find objs) os b)
 |[],F,objs,p6,h,hs=>by obtain rfl:=aoB h;grind
 |o::os,F,objs,p6,h,hs=>by
  have main:∀s t t',XH t t'->find objs o=aa (s,t)->gz ((o,(s,t'))::del [o] objs) os=aa p6->
   ∃F',aS U H F' w (find p6) n/\(∀b,F b->F' b)/\(∀b,F' b->F b\/dt H (find objs) (o::os) b):=by
   intro s t t' hf ho h;obtain⟨F1,a1,a2,a3⟩:=R7 hf hs ho;obtain⟨F2,b1,b2,b3⟩:=qR h a1;refine⟨F2,b1,λb hb=>b2 b (a2 b hb),λb hb=>?_⟩
   rcases b3 b hb with h1|⟨o',py,s',t',v,h1,h2,h3⟩
   .rcases a3 b h1 with h2|⟨v,hv,hm⟩
    .exact .inl h2
    .exact .inr ⟨o,by simp,s,_,v,ho,hv,hm⟩
   .rw[bp]at h1;split at h1
    .simp only[aoW,Prod.mk.injEq]at h1;rw[<-h1.2]at h3;exact(hf.fp _ _ _ h3).elim
    .exact .inr ⟨o',by simp[py],s',t',v,(jW.1 h1).2,h2,h3⟩
  have same:gz objs os=aa p6->∃F',aS U H F' w (find p6) n/\(∀b,F b->F' b)/\(∀b,F' b->F b\/dt H (find objs) (o::os) b):=by
   intro h;obtain⟨F2,b1,b2,b3⟩:=qR h hs;exact⟨F2,b1,b2,λb hb=>(b3 b hb).imp id λ⟨o',py,rest⟩=>⟨o',by simp[py],rest⟩⟩
  unfold gz at h;split at h
  .rename_i ho;exact main _ _ _ (R5 ..) ho h
  .rename_i ho;exact main _ _ _ (R6 ..) ho h
  .rename_i ho;exact main _ _ _ (ON ..) ho h
  .rename_i ho;exact main _ _ _ (OO ..) ho h
  .exact same h
  .exact same h
  .exact same h
  .exact same h
  .cases h
end
theorem jF{S:Nat->Prop}{v:Value}{t:Th}{k:Nat}(h:gN t=af)(hk:fp S v t k):False:=by
 cases t<;>first|(exact hk)|(cases h)
theorem kh:{os:List Nat}->{objs p6:List (Nat×(Nat×Th))}->gz objs os=aa p6->∀o s t,find p6 o=aa (s,t)->
 find objs o=aa (s,t)\/gN t=af
 |[],objs,p6,h,o,s,t,ho=>by obtain rfl:=aoB h;exact .inl ho
 |o0::os,objs,p6,h,o,s,t,ho=>by
  have main:∀s0 t1,gN t1=af->gz ((o0,(s0,t1))::del [o0] objs) os=aa p6->find objs o=aa (s,t)\/gN t=af:=by
   intro s0 t1 hf h
   rcases kh h o s t ho with h1|g
   .grind [bp,jW]
   .exact .inr g
  unfold gz at h;split at h
  .exact main _ _ rfl h
  .exact main _ _ rfl h
  .exact main _ _ rfl h
  .exact main _ _ rfl h
  .exact kh h o s t ho
  .exact kh h o s t ho
  .exact kh h o s t ho
  .exact kh h o s t ho
  .cases h
inductive Sh where
 |leaf (r:Row)
 |own (j:Nat)
 |nil
 |pair (a b:Sh)
 |junk (n:Nat)
inductive SS where
 |val (agg:Bool) (t:Sh)
 |ptr (j:Nat) (p:List Bool) (off:Nat)
 |at (r:Row)
 |undef
 |fn (f:FuncId) (js:List (Nat×List Bool×Nat))
 |ifc (T:TypeId) (s:SS)
inductive OS where
 |box (T:TypeId) (t:Sh)
 |own (T:TypeId) (r:Row)
 |map (T:TypeId) (K:Row) (agg:Bool) (V:Row)
 |deep (T:TypeId) (d:DR)
 |dmap (T:TypeId) (K:Row) (E:TypeId) (r:Row)
structure JS where
 aH:List (Nat×SS)
 objs:List (Nat×OS):=[]
 drop:List Nat:=[]
 nxt:Nat
def Sh.rows:Sh->List Row
 | .leaf r=>[r]
 | .own _=>[]
 | .nil=>[]
 | .pair a b=>a.rows++b.rows
 | .junk _=>[]
def SS.rows:SS->List Row
 | .val _ t=>t.rows
 | .ptr .. =>[]
 | .at r=>[r]
 | .undef=>[]
 | .fn .. =>[]
 | .ifc _ s=>s.rows
def OS.rows:OS->List Row
 | .box _ t=>t.rows
 | .own _ r=>[.slice r]
 | .map _ K _ V=>[.slice (.pair K V)]
 | .deep _ d=>[.slice d.row]
 | .dmap _ K _ r=>[.slice (.pair K (.slice r))]
def EW:List (Nat×SS)->List Row
 |[]=>[]
 |p::l=>p.2.rows++EW l
def JJ:List (Nat×OS)->List Row
 |[]=>[]
 |p::l=>p.2.rows++JJ l
def JS.rows(J:JS):List Row:=EW J.aH++JJ J.objs
abbrev nF:=(r:Row)×r.den
@[reducible] def cY:List Row->Type
  |[]=>Unit
  |[r]=>r.den
  |r::s::rs=>r.den×cY (s::rs)
def fe:(rs:List Row)->cY rs->List nF
 |[],_=>[]
 |[r],x=>[⟨r,x⟩]
 |r::s::rs,x=>⟨r,x.1⟩::fe (s::rs) x.2
def EX:(rs:List Row)->List nF->Option (cY rs)
 |[],[]=>aa ()
 |[r],[⟨s,x⟩]=>if h:s.beq r=af then aa (lg (Row.eq_of_beq h) x)else ae
 |r::r'::rs,⟨s,x⟩::vs=>if h:s.beq r=af then(match EX (r'::rs) vs with
  |some y=>aa (lg (Row.eq_of_beq h) x,y)
  |none=>ae)else ae
 |_,_=>ae
theorem BK{r s:Row}(h:s=r)(x:s.den):(⟨r,lg h x⟩:nF)=⟨s,x⟩:=by subst h;rfl
theorem xH:{rs:List Row}->{vs:List nF}->{x:cY rs}->EX rs vs=aa x->fe rs x=vs
 |[],[],x,_=>rfl
 |[],_::_,_,h=>by cases h
 |[r],[],_,h=>by cases h
 |[r],[⟨s,x⟩],y,h=>by
  unfold EX at h;split at h
  .rename_i hb;obtain rfl:=aoB h
   show[(⟨r,_⟩:nF)]=_
   rw[BK]
  .cases h
 |[r],_::_::_,_,h=>by cases h
 |r::r'::rs,[],_,h=>by cases h
 |r::r'::rs,⟨s,x⟩::vs,y,h=>by
  unfold EX at h;split at h
  .rename_i hb;split at h
   .rename_i z hz;obtain rfl:=aoB h;have:=xH hz
    show(⟨r,_⟩:nF)::fe (r'::rs) z=_
    rw[BK,this]
   .cases h
  .cases h
def sC:Sh->List nF->Tree×List nF
 | .leaf r,⟨s,x⟩::vs=>(bif s.beq r then .leaf s x else .nil,vs)
 | .leaf _,[]=>(.nil,[])
 | .own j,vs=>(.own j,vs)
 | .nil,vs=>(.nil,vs)
 | .pair a b,vs=>(.pair (sC a vs).1 (sC b (sC a vs).2).1,(sC b (sC a vs).2).2)
 | .junk n,vs=>(.junk n,vs)
def fV:SS->List nF->aM×List nF
 | .val agg t,vs=>(.val agg (sC t vs).1,(sC t vs).2)
 | .ptr j p off,vs=>(.ptr j p off,vs)
 | .at r,⟨s,x⟩::vs=>(bif s.beq r then .at s x else .dead,vs)
 | .at _,[]=>(.dead,[])
 | .undef,vs=>(.undef,vs)
 | .fn f js,vs=>(.fn f js,vs)
 | .ifc T s,vs=>(.ifc T (fV s vs).1,(fV s vs).2)
def eD:List (Nat×SS)->List nF->List (Nat×aM)×List nF
 |[],vs=>([],vs)
 |(t,s)::l,vs=>((t,(fV s vs).1)::(eD l (fV s vs).2).1,(eD l (fV s vs).2).2)
def du:OS->List nF->Th×List nF
 | .box T t,vs=>(.box T (sC t vs).1,(sC t vs).2)
 | .own T r,⟨.slice s,l⟩::vs=>(bif s.beq r then .own T s l else .own T r [],vs)
 | .own T r,vs=>(.own T r [],vs)
 | .map T K agg V,⟨.slice (.pair K' V'),l⟩::vs=>(if h:K'.beq K=af/\V'.beq V=af then .map T K agg V (lg (r:= .slice (.pair K' V')) (s:= .slice (.pair K V)) (by rw[Row.eq_of_beq h.1,Row.eq_of_beq h.2]) l)else .map T K agg V [],vs)
 | .map T K agg V,vs=>(.map T K agg V [],vs)
 | .deep T d,⟨.slice s,l⟩::vs=>(if h:s.beq d.row=af then .deep T d (lg (r:= .slice s) (s:= .slice d.row) (aw Row.slice (Row.eq_of_beq h)) l) ae else .deep T d [] ae,vs)
 | .deep T d,vs=>(.deep T d [] ae,vs)
 | .dmap T K E r,⟨.slice (.pair K' (.slice s)),l⟩::vs=>(if h:K'.beq K=af/\s.beq r=af then .dmap T K E r (lg (r:= .slice (.pair K' (.slice s))) (s:= .slice (.pair K (.slice r))) (by rw[Row.eq_of_beq h.1,Row.eq_of_beq h.2]) l) ae else .dmap T K E r [] ae,vs)
 | .dmap T K E r,vs=>(.dmap T K E r [] ae,vs)
def kN(m:Nat):List (Nat×OS)->List nF->List (Nat×(Nat×Th))
 |[],_=>[]
 |(j,s)::l,vs=>(j,(m,(du s vs).1))::kN (m+1) l (du s vs).2
abbrev Bs:=List (Nat×Option Nat)
def HP:Option Nat->Option Nat->Bool
 |some a,aa b=>aoL a b
 |none,ae=>af
 |_,_=>ag
theorem BL{a b:Option Nat}(h:HP a b=af):a=b:=by
 cases a<;>cases b<;>first|rfl|cases h|(rw[beq_true h])
def BM(bs:Bs)(j:Nat)(v:Option Nat):Option Bs:=
 match find bs j with
 |none=>aa ((j,v)::bs)
 |some u=>bif HP u v then aa bs else ae
def Hj(ob:Nat->Option (Nat×Th)):Sh->Tree->Bs->Option (List nF×Bs)
 | .leaf r,t,bs=>match flat ob r t with
   |some x=>aa ([⟨r,x⟩],bs)
   |none=>ae
 | .own j, .own o,bs=>match BM bs j (aa o)with
   |some ja=>aa ([],ja)
   |none=>ae
 | .own j, .nil,bs=>match BM bs j ae with
   |some ja=>aa ([],ja)
   |none=>ae
 | .nil, .nil,bs=>aa ([],bs)
 | .junk n,t,bs=>bif aoL t.size n then aa ([],bs)else ae
 | .pair a b,t,bs=>match t.split with
   |some (x,y)=>match Hj ob a x bs with
    |some (vs,HQ)=>match Hj ob b y HQ with
     |some (us,JK)=>aa (vs++us,JK)
     |none=>ae
    |none=>ae
   |none=>ae
 |_,_,_=>ae
def w4:List (Nat×List Bool×Nat)->List (Nat×List Bool×Nat)->Bs->Option Bs
 |[],[],bs=>aa bs
 |(j,_,off)::js,(o,_,fI)::cs,bs=>bif aoL off fI then(match BM bs j (aa o)with
  |some ja=>w4 js cs ja
  |none=>ae)else ae
 |_,_,_=>ae
def OP(ob:Nat->Option (Nat×Th))(s:SS)(d:aM)(bs:Bs):Option (List nF×Bs):=
 match s,d with
 | .val agg sh, .val vH t=>bif (bif agg then vH else !vH)then Hj ob sh t bs else ae
 | .ptr j _ off, .ptr o _ fI=>bif aoL off fI then(match BM bs j (aa o)with
   |some ja=>aa ([],ja)
   |none=>ae)else ae
 | .at r, .at s x=>if h:s.beq r=af then aa ([⟨r,lg (Row.eq_of_beq h) x⟩],bs)else ae
 | .undef, .undef=>aa ([],bs)
 | .fn f js, .fn f' cs=>bif aoL f f' then(match w4 js cs bs with
   |some ja=>aa ([],ja)
   |none=>ae)else ae
 |_,_=>ae
def L4(ob:Nat->Option (Nat×Th)):SS->aM->Bs->Option (List nF×Bs)
 | .ifc T s,d,bs=>match d with
   | .ifc T' d'=>bif aoL T T' then L4 ob s d' bs else ae
   |_=>ae
 |s,d,bs=>OP ob s d bs
def XI(ob:Nat->Option (Nat×Th))(aH:List (Nat×aM)):List (Nat×SS)->Bs->Option (List nF×Bs)
 |[],bs=>aa ([],bs)
 |(t,s)::l,bs=>match find aH t with
  |some d=>match L4 ob s d bs with
   |some (vs,HQ)=>match XI ob aH l HQ with
    |some (us,JK)=>aa (vs++us,JK)
    |none=>ae
   |none=>ae
  |none=>ae
def OQ(ob:Nat->Option (Nat×Th))(j:Nat)(s:OS)(bs:Bs):Option (List nF×Bs):=
 match find bs j with
 |some (aa o)=>match ob o with
  |some (_,t)=>match s,t with
   | .own T r, .own T' r' l=>bif aoL T T' then(if h:r'.beq r=af then aa ([⟨.slice r,lg (r:= .slice r') (s:= .slice r) (aw Row.slice (Row.eq_of_beq h)) l⟩],bs)else ae)else ae
   | .box T sh, .box T' t=>bif aoL T T' then Hj ob sh t bs else ae
   | .map T K agg V, .map T' K' vH V' l=>bif aoL T T'&&(bif agg then vH else !vH)then(if h:K'.beq K=af/\V'.beq V=af then aa ([⟨.slice (.pair K V),lg (r:= .slice (.pair K' V')) (s:= .slice (.pair K V)) (by rw[Row.eq_of_beq h.1,Row.eq_of_beq h.2]) l⟩],bs)else ae)else ae
   | .deep T d, .deep T' d' l ae=>bif aoL T T'&&d'.beq d then aa ([⟨.slice d'.row,l⟩],bs)else ae
   | .dmap T K E r, .dmap T' K' E' r' l ae=>bif aoL T T'&&aoL E E'&&K'.beq K&&r'.beq r then aa ([⟨.slice (.pair K' (.slice r')),l⟩],bs)else ae
   |_,_=>ae
  |none=>ae
 |some ae=>match s with
  | .own _ r=>aa ([⟨.slice r,([]:List r.den)⟩],bs)
  | .deep _ d=>aa ([⟨.slice d.row,([]:List d.row.den)⟩],bs)
  |_=>ae
 |none=>ae
def XJ(ob:Nat->Option (Nat×Th)):List (Nat×OS)->Bs->Option (List nF×Bs)
 |[],bs=>aa ([],bs)
 |(j,s)::l,bs=>match OQ ob j s bs with
  |some (vs,HQ)=>match XJ ob l HQ with
   |some (us,JK)=>aa (vs++us,JK)
   |none=>ae
  |none=>ae
section
variable {U:Nat->Prop} {H H':aR} {F:Nat->Prop} {w:World} {n:Nat} {ob:Nat->Option (Nat×Th)}
def EY(bs ja:Bs):Prop:=∀j v,find bs j=aa v->find ja j=aa v
theorem oE{bs ja:Bs}{j:Nat}{v:Option Nat}(h:BM bs j v=aa ja):EY bs ja/\find ja j=aa v:=by
 unfold BM at h;split at h
 .rename_i hn;obtain rfl:=aoB h;refine⟨λi u hu=>?_,by rw[bp,aj rfl]⟩
  grind [bp]
 .rename_i u hu;obtain⟨h1,rfl⟩:=pF h;obtain rfl:=BL h1;exact⟨λ_ _ h=>h,hu⟩
def valOf(H:aR):Option Nat->Option Value
 |some o=>H.val o
 |none=>aa (.slice ae 0 0)
def qS(H H':aR)(bs:Bs):Prop:=∀j v,find bs j=aa v->∀u,valOf H v=aa u->H'.val j=aa u
theorem zr:{sh:Sh}->{t:Tree}->{bs ja:Bs}->{vs:List nF}->Hj ob sh t bs=aa (vs,ja)->EY bs ja
 | .leaf r,t,bs,ja,vs,h=>by
   unfold Hj at h
   split at h<;>cases h
   exact λ_ _ h=>h
 | .own j, .own o,bs,ja,vs,h=>by
   unfold Hj at h
   split at h<;>cases h
   rename_i hb;exact(oE hb).1
 | .own j, .nil,bs,ja,vs,h=>by
   unfold Hj at h
   split at h<;>cases h
   rename_i hb;exact(oE hb).1
 | .nil, .nil,bs,ja,vs,h=>by cases h;exact λ_ _ h=>h
 | .pair a b,t,bs,ja,vs,h=>by
   unfold Hj at h;split at h
   case h_2=>cases h
   split at h
   case h_2=>cases h
   rename_i h1;split at h
   case h_2=>cases h
   rename_i h2;cases h
   exact λj v hj=>zr h2 j v (zr h1 j v hj)
 | .own _, .leaf _ _,_,_,_,h=>by cases h
 | .own _, .pair _ _,_,_,_,h=>by cases h
 | .nil, .leaf _ _,_,_,_,h=>by cases h
 | .nil, .own _,_,_,_,h=>by cases h
 | .nil, .pair _ _,_,_,_,h=>by cases h
 | .own _, .view ..,_,_,_,h=>by cases h
 | .nil, .view ..,_,_,_,h=>by cases h
 | .own _, .junk _,_,_,_,h=>by cases h
 | .nil, .junk _,_,_,_,h=>by cases h
 | .junk n,t,bs,ja,vs,h=>by
   unfold Hj at h;obtain⟨_,h⟩:=bo h;cases h
   exact λ_ _ h=>h
theorem C2(hs:aS U H F w ob n):{sh:Sh}->{t:Tree}->{bs ja:Bs}->{vs:List nF}->{cs:List Value}->Hj ob sh t bs=aa (vs,ja)->Holds H F w t cs->qS H H' ja->∀rest,
 Holds H' F w (sC sh (vs++rest)).1 cs/\(sC sh (vs++rest)).2=rest
 | .leaf r,t,bs,ja,vs,cs,h,hh,hb,rest=>by
   unfold Hj at h
   split at h<;>cases h
   rename_i x hf;refine⟨?_,rfl⟩
   show Holds H' F w (bif r.beq r then Tree.leaf r x else .nil) cs
   rw[Row.beq_refl,cond_true];exact mM hs hf hh
 | .own j, .own o,bs,ja,vs,cs,h,hh,hb,rest=>by
   unfold Hj at h
   split at h<;>cases h
   rename_i CK;obtain⟨v,hv,h1,rfl⟩:=hh;exact⟨⟨v,hb _ _ (oE CK).2 v hv,h1,rfl⟩,rfl⟩
 | .own j, .nil,bs,ja,vs,cs,h,hh,hb,rest=>by
   unfold Hj at h
   split at h<;>cases h
   rename_i CK;rw[show cs=_ from hh];exact⟨⟨_,hb _ _ (oE CK).2 _ rfl,rfl,rfl⟩,rfl⟩
 | .nil, .nil,bs,ja,vs,cs,h,hh,hb,rest=>by cases h;exact⟨hh,rfl⟩
 | .pair a b,t,bs,ja,vs,cs,h,hh,hb,rest=>by
   unfold Hj at h;split at h
   case h_2=>cases h
   rename_i x y BA;split at h
   case h_2=>cases h
   rename_i vs1 HQ h1;split at h
   case h_2=>cases h
   rename_i us JK h2;cases h;obtain⟨c1,c2,rfl,g1,g2,_⟩:=hh.split BA
   have Hh:qS H H' HQ:=λj v hj=>hb j v (zr h2 j v hj)
   obtain⟨k1,k2⟩:=C2 hs h1 g1 Hh (us++rest);obtain⟨m1,m2⟩:=C2 hs h2 g2 hb rest;rw[ape];unfold sC;rw[k2];exact⟨⟨c1,c2,rfl,k1,m1⟩,m2⟩
 | .own _, .leaf _ _,_,_,_,_,h,_,_,_=>by cases h
 | .own _, .pair _ _,_,_,_,_,h,_,_,_=>by cases h
 | .nil, .leaf _ _,_,_,_,_,h,_,_,_=>by cases h
 | .nil, .own _,_,_,_,_,h,_,_,_=>by cases h
 | .nil, .pair _ _,_,_,_,_,h,_,_,_=>by cases h
 | .own _, .view ..,_,_,_,_,h,_,_,_=>by cases h
 | .nil, .view ..,_,_,_,_,h,_,_,_=>by cases h
 | .own _, .junk _,_,_,_,_,h,_,_,_=>by cases h
 | .nil, .junk _,_,_,_,_,h,_,_,_=>by cases h
 | .junk n,t,bs,ja,vs,cs,h,hh,hb,rest=>by
   unfold Hj at h;obtain⟨hn,h⟩:=bo h;cases h;exact⟨⟨hh.length.trans (Nat.eq_of_beq_eq_true hn),hh.lU⟩,rfl⟩
theorem w5:{js cs:List (Nat×List Bool×Nat)}->{bs ja:Bs}->w4 js cs bs=aa ja->EY bs ja
 |[],[],bs,ja,h=>by obtain rfl:=aoB h;exact λ_ _ h=>h
 |(j,p,off)::js,(o,p',fI)::cs,bs,ja,h=>by
  unfold w4 at h;obtain⟨_,h⟩:=bo h;split at h
  case h_2=>cases h
  rename_i hb
  exact λi v hi=>w5 h i v ((oE hb).1 i v hi)
 |[],_::_,_,_,h=>by cases h
 |_::_,[],_,_,h=>by cases h
theorem BN:{js cs:List (Nat×List Bool×Nat)}->{bs ja:Bs}->{vs:List Value}->w4 js cs bs=aa ja->nR H cs vs->qS H H' ja->nR H' js vs
 |[],[],bs,ja,vs,h,hc,hb=>hc
 |(j,p,off)::js,(o,p',fI)::cs,bs,ja,vs,h,hc,hb=>by
  unfold w4 at h;obtain⟨ho,h'⟩:=bo h;clear h;split at h'
  case h_2=>cases h'
  rename_i b1 CK;obtain⟨v,us,rfl,⟨b,h1,rfl⟩,h2⟩:=hc;have ho:=beq_true ho;subst ho;exact⟨_,us,rfl,⟨b,hb _ _ (w5 h' _ _ (oE CK).2) _ h1,rfl⟩,BN h' h2 hb⟩
 |[],_::_,_,_,_,h,_,_=>by cases h
 |_::_,[],_,_,_,h,_,_=>by cases h
theorem R8{s:SS}{d:aM}{bs ja:Bs}{vs:List nF}(h:OP ob s d bs=aa (vs,ja)):EY bs ja:=by
 unfold OP at h;split at h
 .obtain⟨_,h⟩:=bo h;exact zr h
 .obtain⟨_,h⟩:=bo h
  split at h<;>cases h
  rename_i hb;exact(oE hb).1
 .split at h<;>cases h
  exact λ_ _ h=>h
 .cases h
  exact λ_ _ h=>h
 .obtain⟨_,h'⟩:=bo h
  grind [w5]
 .cases h
theorem R9{s:SS}{d:aM}{bs ja:Bs}{vs:List nF}(h:L4 ob s d bs=aa (vs,ja)):EY bs ja:=by
 induction s generalizing d with
 |ifc T s ih=>
  cases d with
  |ifc T' d'=>
   obtain⟨_,h'⟩:=bo (show(bif aoL T T' then L4 ob s d' bs else ae)=aa (vs,ja)from h);exact ih h'
  |_=>cases h
 |_=>exact R8 h
theorem Sa(hs:aS U H F w ob n){s:SS}{d:aM}{bs ja:Bs}{vs:List nF}{v:Value}(h:OP ob s d bs=aa (vs,ja))(hd:aN H F w d v)(hb:qS H H' ja)(rest:List nF):
 aN H' F w (fV s (vs++rest)).1 v/\(fV s (vs++rest)).2=rest:=by
 unfold OP at h;split at h
 .rename_i agg sh vH t;obtain⟨ha,h'⟩:=bo h;clear h
  have:agg=vH:=by cases agg<;>cases vH<;>simp_all
  subst this;obtain⟨cs,h1,h2⟩:=hd;obtain⟨k1,k2⟩:=C2 hs h' h1 hb rest;exact⟨⟨cs,k1,h2⟩,k2⟩
 .rename_i j p off o p' fI;obtain⟨ho,h'⟩:=bo h;clear h
  split at h'<;>cases h'
  rename_i CK;obtain⟨b,h1,h2⟩:=hd;refine⟨⟨b,hb _ _ (oE CK).2 _ h1,?_⟩,rfl⟩
  simp_all
 .rename_i r s x
  split at h<;>cases h
  rename_i EB;obtain rfl:=Row.eq_of_beq EB;refine⟨?_,rfl⟩
  show aN H' F w (bif s.beq s then aM.at s x else .dead) v
  rw[Row.beq_refl,cond_true];exact hd
 .cases h;exact⟨hd,rfl⟩
 .rename_i f js f' cs;obtain⟨hf,h'⟩:=bo h
  split at h'<;>cases h'
  rename_i CK;obtain⟨us,h1,h2⟩:=hd;refine⟨⟨us,?_,BN CK h2 hb⟩,rfl⟩
  simp_all
 .cases h
theorem Sb(hs:aS U H F w ob n){s:SS}{d:aM}{bs ja:Bs}{vs:List nF}{v:Value}(h:L4 ob s d bs=aa (vs,ja))(hd:aN H F w d v)(hb:qS H H' ja)(rest:List nF):
 aN H' F w (fV s (vs++rest)).1 v/\(fV s (vs++rest)).2=rest:=by
 induction s generalizing d v with
 |ifc T s ih=>
  cases d with
  |ifc T' d'=>
   obtain⟨hT,h'⟩:=bo (show(bif aoL T T' then L4 ob s d' bs else ae)=aa (vs,ja)from h);obtain⟨u,e,h2⟩:=hd;obtain⟨k1,k2⟩:=ih h' h2;exact⟨⟨u,by simp_all,k1⟩,k2⟩
  |_=>cases h
 |_=>exact Sa hs h hd hb rest
theorem OR:{l:List (Nat×SS)}->{aH:List (Nat×aM)}->{bs ja:Bs}->{vs:List nF}->XI ob aH l bs=aa (vs,ja)->EY bs ja
 |[],_,_,_,_,h=>by cases h;exact λ_ _ h=>h
 |(t,s)::l,aH,bs,ja,vs,h=>by
  unfold XI at h;split at h
  case h_2=>cases h
  split at h
  case h_2=>cases h
  rename_i h1;split at h
  case h_2=>cases h
  rename_i h2;cases h
  exact λj v hj=>OR h2 j v (R9 h1 j v hj)
theorem OT(hs:aS U H F w ob n){aH:List (Nat×aM)}{ρ:Nat->Value}(iP:∀t d,find aH t=aa d->aN H F w d (ρ t)):{l:List (Nat×SS)}->{bs ja:Bs}->{vs:List nF}->XI ob aH l bs=aa (vs,ja)->qS H H' ja->∀rest,
 (∀t d,find (eD l (vs++rest)).1 t=aa d->aN H' F w d (ρ t))/\(eD l (vs++rest)).2=rest
 |[],bs,ja,vs,h,_,rest=>by cases h;exact⟨λ_ _ h=>(by cases h),rfl⟩
 |(t,s)::l,bs,ja,vs,h,hb,rest=>by
  unfold XI at h;split at h
  case h_2=>cases h
  rename_i d hd;split at h
  case h_2=>cases h
  rename_i vs1 HQ h1;split at h
  case h_2=>cases h
  rename_i us JK h2;cases h
  have Hh:qS H H' HQ:=λj v hj=>hb j v (OR h2 j v hj)
  obtain⟨k1,k2⟩:=Sb hs h1 (iP t d hd) Hh (us++rest);obtain⟨m1,m2⟩:=OT hs iP h2 hb rest
  grind [eD,bp]
end
end Go.Proofs.YtfjgcenlllgonaaGreatDoor
namespace Go.Proofs.YtfjgcenlllgonaaGreatDoor
open Go Go.RowKit
def Tree.owns:Tree->List Nat
 | .own o=>[o]
 | .pair a b=>a.owns++b.owns
 | .view o _ _ _=>[o]
 |_=>[]
def EZ:Sh->Tree->List Nat
 | .leaf _,t=>t.owns
 | .pair a b,t=>match t.split with
   |some (x,y)=>EZ a x++EZ b y
   |none=>[]
 |_,_=>[]
def JL(aH:List (Nat×aM)):List (Nat×SS)->List Nat
 |[]=>[]
 |(t, .val _ sh)::l=>(match find aH t with
  |some (.val _ tr)=>EZ sh tr
  |_=>[])++JL aH l
 |(t, .ifc _ (.val _ sh))::l=>(match find aH t with
  |some (.ifc _ (.val _ tr))=>EZ sh tr
  |_=>[])++JL aH l
 |_::l=>JL aH l
def Um(j:Nat):List (Nat×List Bool×Nat)->List (Nat×List Bool×Nat)->Option Nat
 |(j',_)::js,(o,_)::cs=>bif aoL j' j then aa o else Um j js cs
 |_,_=>ae
def E0(aH:List (Nat×aM))(j:Nat):List (Nat×SS)->Option Nat
 |[]=>ae
 |(t, .ptr j' _ _)::l=>bif aoL j' j then(match find aH t with
  |some (.ptr o _ _)=>aa o
  |_=>ae)else E0 aH j l
 |(t, .ifc _ (.ptr j' _ _))::l=>bif aoL j' j then(match find aH t with
  |some (.ifc _ (.ptr o _ _))=>aa o
  |_=>ae)else E0 aH j l
 |(t, .fn _ js)::l=>match(match find aH t with
    |some (.fn _ cs)=>Um j js cs
    |_=>ae)with
  |some o=>aa o
  |none=>E0 aH j l
 |_::l=>E0 aH j l
def OU(nb:Nat)(aH:List (Nat×aM))(ss:List (Nat×SS))(objs:List (Nat×(Nat×Th))):List (Nat×OS)->List Nat
 |[]=>[]
 |(j, .box _ sh)::l=>(match(bif aps j nb then aa j else E0 aH j ss)with
  |some o=>(match find objs o with
   |some (_, .box _ tr)=>EZ sh tr
   |_=>[])
  |none=>[])++OU nb aH ss objs l
 |_::l=>OU nb aH ss objs l
def idB(nb:Nat):List (Nat×OS)->Bs
 |[]=>[]
 |(j,_)::l=>bif aps j nb then(j,aa j)::idB nb l else idB nb l
def jK:Bs->List Nat
 |[]=>[]
 |(_,aa o)::l=>o::jK l
 |(_,ae)::l=>jK l
def rG(o:Nat)(l:List Nat):Bool:=l.any (aoL o)
def HR:List Nat->Bool
 |[]=>af
 |o::l=> !rG o l&&HR l
def OV(nb nxt:Nat):Bs->Bool
 |[]=>af
 |(j,u)::l=>(bif aps j nb then HP u (aa j)else aps j nxt)&&OV nb nxt l
def HS(objs:List (Nat×(Nat×Th)))(E1:List Nat):List (Nat×(Nat×Th))->Bool
 |[]=>af
 |(o,(s,t))::l=>(match find objs o with
  |some (s',t')=>aoL s s'&&(bif gN t then gN t' else !gN t')
  |none=>ag)&& !rG o E1&&HS objs E1 l
def BO(nb:Nat)(J:JS)(aH:List (Nat×aM))(objs:List (Nat×(Nat×Th))):List Nat:=JL aH J.aH++OU nb aH J.aH objs J.objs
def BP(nb:Nat)(frame:List (Nat×(Nat×Th)))(J:JS)(aH:List (Nat×aM))(objs:List (Nat×(Nat×Th))):Option (cY J.rows×Bs×List (Nat×(Nat×Th))):=
 match gz objs (BO nb J aH objs)with
 |none=>ae
 |some br=>match XI (find br) aH J.aH (idB nb J.objs)with
  |none=>ae
  |some (vs,HQ)=>match XJ (find br) J.objs HQ with
   |none=>ae
   |some (us,JK)=>bif HR (jK JK)&&OV nb J.nxt JK&&Nat.ble (nb+J.objs.length) J.nxt&&HS br (jK JK) frame then
     (match EX J.rows (vs++us)with
     |some x=>aa (x,JK,br)
     |none=>ae)else ae
def vM:List (Nat×(Nat×Th))->Nat->Option Th
 |[],_=>ae
 |(_,(s,t))::l,m=>bif aoL s m then aa t else vM l m
def Vn:List (Nat×(Nat×Th))->Nat->Option Nat
 |[],_=>ae
 |(j,(s,_))::l,m=>bif aoL s m then aa j else Vn l m
def zt(H:aR)(ob:Nat->Option (Nat×Th)):Option (Option Nat)->Nat->Prop
 |some (aa o)=>match ob o with
  |some (s,_)=>H.sub s
  |none=>λ_=>False
 |_=>λ_=>False
def fK(H:aR)(nb:Nat)(bs:Bs)(cons:List (Nat×(Nat×Th)))(ob:Nat->Option (Nat×Th)):aR where
 val m:=if m<nb then H.val m else match find bs m with
  |some u=>valOf H u
  |none=>ae
 con m:=if m<nb then H.con m else vM cons m
 sub m:=if m<nb then H.sub m else match Vn cons m with
  |some j=>zt H ob (find bs j)
  |none=>λ_=>False
section
variable {U:Nat->Prop} {H H':aR} {F:Nat->Prop} {w:World} {n:Nat} {ob:Nat->Option (Nat×Th)}
theorem JM{j:Nat}{s:OS}{bs ja:Bs}{vs:List nF}(h:OQ ob j s bs=aa (vs,ja)):EY bs ja:=by
 unfold OQ at h;split at h
 .split at h
  case h_2=>cases h
  split at h
  .obtain⟨_,h'⟩:=bo h
   split at h'<;>cases h'
   exact λ_ _ h=>h
  .obtain⟨_,h'⟩:=bo h;exact zr h'
  .obtain⟨_,h'⟩:=bo h
   split at h'<;>cases h'
   exact λ_ _ h=>h
  .obtain⟨_,h'⟩:=bo h;cases h'
   exact λ_ _ h=>h
  .obtain⟨_,h'⟩:=bo h;cases h'
   exact λ_ _ h=>h
  .cases h
 .split at h<;>cases h
  .exact λ_ _ h=>h
  .exact λ_ _ h=>h
 .cases h
theorem C3:{l:List (Nat×OS)}->{bs ja:Bs}->{vs:List nF}->XJ ob l bs=aa (vs,ja)->EY bs ja
 |[],_,_,_,h=>by cases h;exact λ_ _ h=>h
 |(j,s)::l,bs,ja,vs,h=>by
  unfold XJ at h;split at h
  case h_2=>cases h
  rename_i h1;split at h
  case h_2=>cases h
  rename_i h2;cases h
  exact λj v hj=>C3 h2 j v (JM h1 j v hj)
def pg(H H':aR)(F:Nat->Prop)(w:World)(ob:Nat->Option (Nat×Th))(bs:Bs)(j:Nat)(t:Th):Prop:=
 ∃u v,find bs j=aa u/\valOf H u=aa v/\v.oneCell'=af/\t.base=t/\lK H' F w (zt H ob (find bs j)) v t/\∀k,fp (zt H ob (find bs j)) v t k->∃o s0 t0,u=aa o/\ob o=aa (s0,t0)/\H.val o=aa v/\fp (H.sub s0) v t0 k
theorem Sc(hs:aS U H F w ob n){j:Nat}{s:OS}{bs ja:Bs}{vs:List nF}(h:OQ ob j s bs=aa (vs,ja))(hb:qS H H' ja)(rest:List nF):
 pg H H' F w ob bs j (du s (vs++rest)).1/\(du s (vs++rest)).2=rest:=by
 unfold OQ at h;split at h
 .rename_i o XK;split at h
  case h_2=>cases h
  rename_i s0 t0 fR;obtain⟨v,hv,eK⟩:=hs.obj _ _ _ fR
  have jY:zt H ob (find bs j)=H.sub s0:=by rw[XK];simp[zt,fR]
  have mk:∀t,t.base=t->lK H' F w (H.sub s0) v t->(∀k,fp (H.sub s0) v t k->fp (H.sub s0) v t0 k)->pg H H' F w ob bs j t:=by
   intro t hb sJ hf;refine⟨aa o,v,XK,hv,eK.one,hb,by rw[jY];exact sJ,λk hk=>?_⟩;rw[jY]at hk;exact⟨o,_,_,rfl,fR,hv,hf k hk⟩
  split at h
  .rename_i T r T' r' l;obtain⟨hT,h'⟩:=bo h;clear h
   split at h'<;>cases h'
   rename_i EB;obtain rfl:=Row.eq_of_beq EB;obtain rfl:=beq_true hT;refine⟨?_,rfl⟩
   show pg H H' F w ob bs j (bif r'.beq r' then Th.own T r' l else .own T r' [])
   rw[Row.beq_refl,cond_true]
   exact mk _ rfl eK.ok λk hk=>hk
  .rename_i T sh T' t;obtain⟨hT,h'⟩:=bo h;clear h;obtain rfl:=beq_true hT;obtain⟨b,es,e,h1,h2⟩:=eK.ok;obtain⟨k1,k2⟩:=C2 hs h' h2 hb rest;exact⟨mk _ rfl ⟨b,es,e,h1,k1⟩ λk hk=>hk,k2⟩
  .rename_i T K agg V T' K' vH V' l;obtain⟨hT,h'⟩:=bo h;clear h
   split at h'<;>cases h'
   rename_i EB;obtain⟨Yx,ha⟩:=eG hT;clear hT
   have ha:agg=vH:=by cases agg<;>cases vH<;>simp_all
   subst ha;obtain⟨hK,hV⟩:=EB;obtain rfl:=Row.eq_of_beq hK;obtain rfl:=Row.eq_of_beq hV;obtain rfl:=beq_true Yx;refine⟨?_,rfl⟩
   show pg H H' F w ob bs j (if h:K'.beq K'=af/\V'.beq V'=af then Th.map T K' agg V' l else .map T K' agg V' [])
   rw[dif_pos ⟨Row.beq_refl _,Row.beq_refl _⟩];obtain⟨b,es,clock,e,h1,h2,h3⟩:=eK.ok
   exact mk _ rfl ⟨b,es,clock,e,h1,h2,h3.lJ⟩ λk hk=>hk
  .rename_i T d T' d' l;obtain⟨hT,h'⟩:=bo h;clear h;obtain⟨Yx,hd⟩:=eG hT;obtain rfl:=DR.eq_of_beq hd;obtain rfl:=beq_true Yx;cases h';refine⟨?_,rfl⟩
   show pg H H' F w ob bs j (if h:d'.row.beq d'.row=af then Th.deep T d' l ae else .deep T d' [] ae)
   rw[dif_pos (Row.beq_refl _)]
   exact mk _ rfl eK.ok λk hk=>hk
  .rename_i T K E r T' K' E' r' l;obtain⟨hT,h'⟩:=bo h;clear h;obtain⟨hT,hd⟩:=eG hT;obtain⟨hT,yT⟩:=eG hT;obtain⟨Yx,hE⟩:=eG hT;obtain rfl:=Row.eq_of_beq hd;obtain rfl:=Row.eq_of_beq yT;obtain rfl:=beq_true Yx;obtain rfl:=beq_true hE;cases h';refine⟨?_,rfl⟩
   show pg H H' F w ob bs j (if h:K'.beq K'=af/\r'.beq r'=af then Th.dmap T K' E r' l ae else .dmap T K' E r' [] ae)
   rw[dif_pos ⟨Row.beq_refl _,Row.beq_refl _⟩];obtain⟨b,es,clock,B,e,h1,h2,h3,h4,_⟩:=eK.ok
   exact mk _ rfl ⟨b,es,clock,B,e,h1,h2,h3.keep (Step.refl F w) (λ_ _ _ e=>by cases e) (λ_ _=>rfl),h4,λ_ _ e=>by cases e⟩ λk hk=>hk
  .cases h
 .rename_i XK
  split at h<;>cases h
  .rename_i T r;refine⟨?_,rfl⟩
   show pg H H' F w ob bs j (bif r.beq r then Th.own T r []else .own T r [])
   rw[Row.beq_refl,cond_true];refine⟨ae,_,XK,rfl,rfl,rfl,(lV.nil 0 F w T r).2,λk hk=>?_⟩;have dT:cc (.slice ae 0 0) k:=hk;simp[cc,apg]at dT
  .rename_i T d;refine⟨?_,rfl⟩
   show pg H H' F w ob bs j (if h:d.row.beq d.row=af then Th.deep T d [] ae else .deep T d [] ae)
   rw[dif_pos (Row.beq_refl _)]
   have jY:zt H ob (find bs j)=λ_=>False:=by rw[XK];rfl
   refine⟨ae,_,XK,rfl,rfl,rfl,?_,λk hk=>?_⟩
   .rw[jY];exact⟨[],λ_ _=>False,nQ.nil F w T d.low,rfl,λi h=>absurd h (by simp),⟨λk=>by simp[cc,apg],λ_ _ _ h=>absurd h (by simp),λ_ _ h=>absurd h (by simp)⟩⟩
   .rw[jY]at hk;exact hk.elim
 .cases h
theorem E2:{l:List (Nat×OS)}->{m k:Nat}->{vs:List nF}->m+l.length<=k->vM (kN m l vs) k=ae
 |[],_,_,_,_=>rfl
 |(j,s)::l,m,k,vs,h=>by
  show(bif aoL m k then _ else vM (kN (m+1) l _) k)=ae
  rw[apa]at h
  have:aoL m k=ag:=by
   cases hb:aoL m k with
   |false=>rfl
   |true=>have:=beq_true hb;omega
  rw[this,cond_false];exact E2 (by omega)
theorem OW(hs:aS U H F w ob n):{l:List (Nat×OS)}->{bs ja:Bs}->{vs:List nF}->XJ ob l bs=aa (vs,ja)->qS H H' ja->∀m,
 ∀j s t,find (kN m l vs) j=aa (s,t)->m<=s/\s<m+l.length/\vM (kN m l vs) s=aa t/\Vn (kN m l vs) s=aa j/\pg H H' F w ob ja j t
 |[],_,_,_,h,_,m=>by cases h;intro j s t h;cases h
 |(j0,s0)::l,bs,ja,vs,h,hb,m=>by
  unfold XJ at h;split at h
  case h_2=>cases h
  rename_i vs1 HQ h1;split at h
  case h_2=>cases h
  rename_i us JK h2;cases h
  have Hh:qS H H' HQ:=λj v hj=>hb j v (C3 h2 j v hj)
  obtain⟨⟨u,v,g1,g2⟩,k2⟩:=Sc hs h1 Hh us;intro j s t hf;unfold kN at hf⊢;rw[bp]at hf;rw[k2]at hf⊢;split at hf
  .rename_i e;subst e;simp only[aoW,Prod.mk.injEq]at hf;obtain⟨rfl,rfl⟩:=hf;have e1:=C3 h2 _ _ (JM h1 _ _ g1);rw[g1]at g2;refine⟨aoJ _,by simp,?_,?_,u,v,e1,?_⟩
   .show(bif aoL m m then _ else _)=_
    simp
   .show(bif aoL m m then _ else _)=_
    simp
   grind
  .obtain⟨a1,a2,a3,a4,a5⟩:=OW hs h2 hb (m+1) j s t hf
   have:aoL m s=ag:=by
    cases hb:aoL m s with
    |false=>rfl
    |true=>have:=beq_true hb;omega
   refine⟨by omega,by grind,?_,?_,a5⟩
   .show(bif aoL m s then _ else _)=_
    grind
   .show(bif aoL m s then _ else _)=_
    grind
theorem ie{o:Nat}{l:List Nat}:rG o l=af↔o∈l:=any_beq
theorem mi:{bs:Bs}->{j o:Nat}->find bs j=aa (aa o)->o∈jK bs
 |[],_,_,h=>by cases h
 |(i,u)::bs,j,o,h=>by
  rw[bp]at h;split at h
  .obtain rfl:=aoB h;exact List.mem_cons_self
  .have:=mi h
   cases u with
   |none=>exact this
   |some q=>exact List.mem_cons_of_mem _ this
theorem w6:{bs:Bs}->HR (jK bs)=af->{j j' o:Nat}->find bs j=aa (aa o)->find bs j'=aa (aa o)->j=j'
 |[],_,_,_,_,h,_=>by cases h
 |(i,u)::bs,hn,j,j',o,h,h'=>by
  rw[bp]at h h'
  cases u with
  |none=>
   split at h
   .cases h
   .split at h'
    .cases h'
    .exact w6 (bs:=bs) hn h h'
  |some q=>
   obtain⟨hq,RH⟩:=eG hn
   have hq:q∉jK bs:=λe=>by rw[ie.2 e]at hq;cases hq
   split at h
   .grind [mi]
   .split at h'
    .grind [mi]
    .exact w6 RH h h'
theorem zu{nb nxt:Nat}:{bs:Bs}->OV nb nxt bs=af->{j:Nat}->{u:Option Nat}->find bs j=aa u->(j<nb->u=aa j)/\(nb<=j->j<nxt)
 |[],_,_,_,h=>by cases h
 |(i,v)::bs,hk,j,u,h=>by
  obtain⟨h1,h2⟩:=eG hk;rw[bp]at h;split at h
  .rename_i e;subst e;obtain rfl:=aoB h
   cases hb:aps i nb with
   |true=>
    rw[hb,cond_true]at h1
    have:i<nb:=by simpa using hb
    grind [BL]
   |false=>
    rw[hb,cond_false]at h1
    have hge:¬i<nb:=λe=>by have:aps i nb=af:=by simpa using e
                           grind
    exact⟨λe=>absurd e hge,λ_=>by simpa using h1⟩
  .exact zu h2 h
theorem BQ{objs:List (Nat×(Nat×Th))}{E1:List Nat}:{fr:List (Nat×(Nat×Th))}->HS objs E1 fr=af->{o s:Nat}->{t:Th}->find fr o=aa (s,t)->
 o∉E1/\∃t',find objs o=aa (s,t')/\gN t'=gN t
 |[],_,_,_,_,h=>by cases h
 |(i,(s0,t0))::fr,hf,o,s,t,h=>by
  obtain⟨h1,h2⟩:=eG hf;obtain⟨h1,h3⟩:=eG h1;rw[bp]at h;split at h
  .rename_i e;subst e;simp only[aoW,Prod.mk.injEq]at h;obtain⟨rfl,rfl⟩:=h;split at h1
   .rename_i s' t' ho;obtain⟨h4,h5⟩:=eG h1
    grind [beq_true,ie]
   .cases h1
  .exact BQ h2 h
theorem OX{t t':Th}(h:t.base=t'.base)(hf:gN t=gN t'):t=t':=by
 cases t<;>cases t'<;>simp_all[Th.base,gN]
theorem zw{U':Nat->Prop}{H0:aR}{F0:Nat->Prop}{w0:World}{objs0:List (Nat×(Nat×Th))}{nb:Nat}{ns:List Nat}{J:JS}{aH:List (Nat×aM)}{objs br:List (Nat×(Nat×Th))}{x:cY J.rows}{bs:Bs}{ρ:Nat->Value}
 (h:BP nb (del ns objs0) J aH objs=aa (x,bs,br))(Sd:aS U H0 F0 w0 (find objs0) nb)(Un:ln H0 nb)(hk:dk H0 F0 w0 H F w)(hs:aS U H F w (find objs) n)(iP:∀t d,find aH t=aa d->aN H F w d (ρ t)):
 ∃F1 H1,aS U H F1 w (find br) n/\(∀b,F b->F1 b)/\(∀b,F1 b->F b\/dt H (find objs) (BO nb J aH objs) b)/\gz objs (BO nb J aH objs)=aa br/\H0.le H1/\qS H H1 bs/\ln H1 J.nxt/\
  (∀t d,find (eD J.aH (fe J.rows x)).1 t=aa d->aN H1 F1 w d (ρ t))/\
  ((∀b,w.heap.size<=b->U' b)->(∀o s t v k,o∈jK bs->find br o=aa (s,t)->H.val o=aa v->fp (H.sub s) v t k->U' k)->(∀o s t v k,find (del ns objs0) o=aa (s,t)->H.val o=aa v->fp (H.sub s) v t k->U' k)->
    aS U' H1 F1 w (find (kN nb J.objs (eD J.aH (fe J.rows x)).2++del ns objs0)) J.nxt):=by
 unfold BP at h;split at h
 case h_1=>cases h
 rename_i acj A4;split at h
 case h_1=>cases h
 rename_i vs HQ hS;split at h
 case h_1=>cases h
 rename_i us JK hO;obtain⟨hc,h'⟩:=bo h;clear h;split at h'
 case h_2=>cases h'
 rename_i x' hx;cases h';obtain⟨hc,hc4⟩:=eG hc;obtain⟨hc,Se⟩:=eG hc;obtain⟨Nw,CO⟩:=eG hc
 have Se:nb+J.objs.length<=J.nxt:=by simpa using Se
 obtain⟨F1,yF,Ep,Rj⟩:=qR A4 hs
 have lm:Step F w F1 w:=λb hb=>⟨Ep b hb,rfl⟩
 have ack:∀t d,find aH t=aa d->aN H F1 w d (ρ t):=λt d hd=>(iP t d hd).keep (aR.le.refl H) lm
 rw[xH hx]
 have OY:∃cons,cons=kN nb J.objs us:=⟨_,rfl⟩
 obtain⟨cons,JN⟩:=OY
 have E3:H0.le (fK H nb bs cons (find br)):=by
  have aJ:∀s t,H0.con s=aa t->s<nb:=λs t lm=>by
   rcases aph s nb with h|h
   .exact h
   .rw[(Un s h).2]at lm;cases lm
  refine⟨λo v ho=>?_,λs t lm=>?_,λs t lm=>?_⟩
  .have:o<nb:=by
    rcases aph o nb with h|h
    .exact h
    .rw[(Un o h).1]at ho;cases ho
   simp[fK,this,hk.lJ.val _ _ ho]
  .simp[fK,aJ s t lm,hk.lJ.con _ _ lm]
  .simp[fK,aJ s t lm,hk.lJ.sub _ _ lm]
 have w7:qS H (fK H nb bs cons (find br)) bs:=by
  intro j u hj v hv;obtain⟨a1,a2⟩:=zu CO hj;by_cases aJ:j<nb
  .grind [fK,valOf]
  .simpa[fK,aJ,hj]using hv
 have Sf:qS H (fK H nb bs cons (find br)) HQ:=λj v hj=>w7 j v (C3 hO j v hj)
 obtain⟨p1,p2⟩:=OT yF ack hS Sf us
 have JO:ln (fK H nb bs cons (find br)) J.nxt:=λm hm=>by
  have Rh:¬m<nb:=by omega
  refine⟨?_,?_⟩
  .simp only[fK,ai Rh];split
   .rename_i u hu;have:=(zu CO hu).2 (by omega);omega
   .rfl
  grind [fK,E2]
 refine⟨F1,fK H nb bs cons (find br),yF,Ep,Rj,A4,E3,w7,JO,p1,λhU1 hU2 hU3=>?_⟩;rw[p2,<-JN];have Yy:=OW (H':=fK H nb bs cons (find br)) yF hO w7 nb;rw[<-JN]at Yy
 have part:∀o s t,find (cons++del ns objs0) o=aa (s,t)->find cons o=aa (s,t)\/find (del ns objs0) o=aa (s,t):=by
  intro o s t ho;rw[jV]at ho
  cases hm:find cons o with
  |some y=>grind
  |none=>grind
 have Er:∀o s t,find (del ns objs0) o=aa (s,t)->o∉jK bs/\find br o=aa (s,t)/\∃v,H.val o=aa v/\(fK H nb bs cons (find br)).val o=aa v/\v.oneCell'=af/\(fK H nb bs cons (find br)).con s=aa t.base/\(fK H nb bs cons (find br)).sub s=H.sub s/\lK (fK H nb bs cons (find br)) F1 w (H.sub s) v t:=by
  intro o s t ho;obtain⟨q1,t',q2,q3⟩:=BQ hc4 ho;have ho0:=(jW.1 ho).2;obtain⟨v0,OA,HT⟩:=Sd.obj _ _ _ ho0;obtain⟨v1,yj,rF⟩:=yF.obj _ _ _ q2;have e1:=hk.lJ.val _ _ OA;rw[yj]at e1;obtain rfl:=aoB e1;have e2:=hk.lJ.con _ _ HT.con;rw[rF.con]at e2;have ht:=OX (aoB e2) q3;subst ht;refine⟨q1,q2,v1,yj,E3.val _ _ OA,rF.one,E3.con _ _ HT.con,(E3.sub _ _ HT.con).trans (hk.lJ.sub _ _ HT.con).symm,?_⟩
  cases t' with
  |fdeep T d l=>exact rF.ok
  |deep T d l hh=>
   obtain⟨lh0,_,_,e0,r0,_⟩:=HT.ok
   refine LA.mono (show LA F1 w T d.low _ v1 l (H.sub s)from rF.ok) (Step.refl F1 w) (λ_ _=>rfl) λi x' hi A hA hr=>?_
   cases hh with
   |none=>exact hr
   |some h=>
    refine⟨hr.1,λhh=>?_⟩;obtain⟨T',e,q,g1,g2,g3⟩:=hr.2 hh;obtain⟨_,_,q0,_,_,k3⟩:=(r0 i (by omega) hi).2 hh;have e3:=hk.lJ.val _ _ k3;rw[g3]at e3;exact⟨T',e,q,g1,g2,by rw[aoB e3];exact E3.val _ _ k3⟩
  |box T tr=>
   obtain⟨b,es,e,g1,g2⟩:=rF.ok;obtain⟨b',uW,e',Yf,g2'⟩:=HT.ok;exact⟨b,es,e,g1,Holds.back hk.lJ E3 g2' g2⟩
  |own T r l=>exact rF.ok
  |yf T r l=>exact rF.ok
  |fmap T K agg V l=>exact rF.ok
  |fdmap T K E r l=>exact rF.ok
  |dmap T K E r l hh=>
   obtain⟨b,es,clock,B,e,g1,g2,g3,g4,g5⟩:=rF.ok;obtain⟨_,_,_,_,_,_,_,_,_,r5⟩:=HT.ok
   have key:∀a o u,hh=aa (a,o)->H.val o=aa u->(fK H nb bs cons (find br)).val o=aa u:=by
    intro a o u e hu;obtain⟨u0,hu0⟩:=r5 a o e;have e3:=hk.lJ.val _ _ hu0;rw[hu]at e3;rw[aoB e3];exact E3.val _ _ hu0
   exact⟨b,es,clock,B,e,g1,g2,g3.keep (Step.refl F1 w) key (λ_ _=>rfl),g4,λa o e=>(g5 a o e).imp λu hu=>key a o u e hu⟩
  |map T K agg V l=>
   obtain⟨b,es,clock,e,g1,g2,g3⟩:=rF.ok;exact⟨b,es,clock,e,g1,g2,g3.lJ⟩
 have Yz:∀o s t,find cons o=aa (s,t)->∃v,(fK H nb bs cons (find br)).val o=aa v/\v.oneCell'=af/\(fK H nb bs cons (find br)).con s=aa t.base/\lK (fK H nb bs cons (find br)) F1 w ((fK H nb bs cons (find br)).sub s) v t/\
  ∀k,fp ((fK H nb bs cons (find br)).sub s) v t k->∃o' s0 t0,find bs o=aa (aa o')/\find br o'=aa (s0,t0)/\H.val o'=aa v/\fp (H.sub s0) v t0 k:=by
  intro o s t ho;obtain⟨a1,a2,a3,a4,u,v,b1,b2,b3,b4,b5,b6⟩:=Yy o s t ho
  have jY:(fK H nb bs cons (find br)).sub s=zt H (find br) (find bs o):=by
   simp only[fK];rw[ai (by omega),a4]
  rw[jY];refine⟨v,w7 o u b1 v b2,b3,?_,b5,λk hk=>?_⟩
  .grind [fK]
  .grind
 refine⟨λo s t ho=>?_,λo o' s s' t t' v v' dS ho py hv gQ k hk dT=>?_,λm hm _=>JO m hm,yF.lt,hU1,yF.gl⟩
 .rcases part o s t ho with h1|h1
  .obtain⟨v,a1,a2,a3,a4,a5⟩:=Yz o s t h1
   refine⟨v,a1,a2,a3,a4,λk hk hF=>?_,λk hk=>?_,λk hk=>?_⟩<;>obtain⟨o',s0,t0,b1,b2,b3,b4⟩:=a5 k hk<;>obtain⟨v',gQ,eK⟩:=yF.obj _ _ _ b2
   all_goals
    rw[b3]at gQ;obtain rfl:=aoB gQ
   .exact eK.no k b4 hF
   .exact eK.lt k b4
   grind [mi]
  .obtain⟨q1,q2,v,a1,a2,a3,a4,a6,a5⟩:=Er o s t h1;obtain⟨v',gQ,eK⟩:=yF.obj _ _ _ q2;rw[a1]at gQ;obtain rfl:=aoB gQ;exact⟨v,a2,a3,a4,by rw[a6];exact a5,by rw[a6];exact eK.no,by rw[a6];exact eK.lt,(by grind)⟩
 .rcases part o s t ho with h1|h1<;>rcases part o' s' t' py with h2|h2
  .obtain⟨u,a1,_,_,_,a5⟩:=Yz o s t h1;obtain⟨u',c1,_,_,_,c5⟩:=Yz o' s' t' h2;rw[hv]at a1;rw[gQ]at c1;obtain rfl:=aoB a1;obtain rfl:=aoB c1;obtain⟨p,s0,t0,d1,d2,d3,d4⟩:=a5 k hk;obtain⟨p',s0',t0',e1,e2,e3,e4⟩:=c5 k dT;refine yF.apart p p' _ _ _ _ _ _ (λe=>dS ?_) d2 e2 d3 e3 k d4 e4;subst e;exact w6 Nw d1 e1
  .obtain⟨u,a1,_,_,_,a5⟩:=Yz o s t h1;obtain⟨q1,q2,u',c1,c2,_,_,c6,_⟩:=Er o' s' t' h2;rw[c6]at dT;rw[hv]at a1;rw[gQ]at c2;obtain rfl:=aoB a1;obtain rfl:=aoB c2;obtain⟨p,s0,t0,d1,d2,d3,d4⟩:=a5 k hk;exact yF.apart p o' _ _ _ _ _ _ (λe=>q1 (e▸mi d1)) d2 q2 d3 c1 k d4 dT
  .obtain⟨u,a1,_,_,_,a5⟩:=Yz o' s' t' h2;obtain⟨q1,q2,u',c1,c2,_,_,c6,_⟩:=Er o s t h1;rw[c6]at hk;rw[gQ]at a1;rw[hv]at c2;obtain rfl:=aoB a1;obtain rfl:=aoB c2;obtain⟨p,s0,t0,d1,d2,d3,d4⟩:=a5 k dT;exact yF.apart o p _ _ _ _ _ _ (λe=>q1 (e▸mi d1)) q2 d2 c1 d3 k hk d4
  .obtain⟨q1,q2,u,c1,c2,_,_,c6,_⟩:=Er o s t h1;obtain⟨q1',q2',u',c1',YA,_,_,c6',_⟩:=Er o' s' t' h2;rw[c6]at hk;rw[c6']at dT;rw[hv]at c2;rw[gQ]at YA;obtain rfl:=aoB c2;obtain rfl:=aoB YA;exact yF.apart o o' _ _ _ _ _ _ dS q2 q2' c1 c1' k hk dT
end
end Go.Proofs.YtfjgcenlllgonaaGreatDoor
end
namespace Go.Proofs.YtfjgcenlllgonaaGreatDoor
open Go Go.RowKit
set_option maxRecDepth 100000
set_option linter.unusedSimpArgs false
set_option linter.unusedVariables false
set_option linter.defProp false
section
structure rH where
 inn:JS
 out:JS
 fn:cY inn.rows->Option (cY out.rows)
def A5:List Value->Value
 |[v]=>v
 |vs=> .tuple vs.toArray
structure kO(P:Program)(f:FuncId)(sg:rH):Prop where
 fn:∃fn,P.funcs[f]? =aa fn/\(fn.name== "runtime.NumGoroutine")=ag/\fn.body.isNone=ag
 ok:∀x y,sg.fn x=aa y->∀(args:List Value)(w:World)(H:aR)(F G:Nat->Prop),args.length=sg.inn.aH.length->
  (∀t d,find (eD sg.inn.aH (fe _ x)).1 t=aa d->aN H F w d (args.getD t undef))->
  aS (λk=>w.heap.size<=k\/G k) H F w (find (kN 0 sg.inn.objs (eD sg.inn.aH (fe _ x)).2)) sg.inn.nxt->ln H sg.inn.nxt->(∀k,G k->¬F k)->
  Calls P f args.toArray w λe w'=>∃vs,e= .returned (A5 vs)/\vs.length=sg.out.aH.length/\∃H' F',Ext G w w'/\H.le H'/\(∀b,F b->F' b)/\(∀b,F' b->F b\/w.heap.size<=b\/G b)/\
   (∀t d,find (eD sg.out.aH (fe _ y)).1 t=aa d->aN H' F' w' d (vs.getD t undef))/\
   aS (λk=>w.heap.size<=k\/G k) H' F' w' (find (kN sg.inn.nxt sg.out.objs (eD sg.out.aH (fe _ y)).2)) sg.out.nxt/\ln H' sg.out.nxt
def Sh.va(φ:Nat->Nat):Sh->Sh
 | .leaf r=> .leaf r
 | .own j=> .own (φ j)
 | .nil=> .nil
 | .pair a b=> .pair (a.va φ) (b.va φ)
 | .junk n=> .junk n
def SS.va(φ:Nat->Nat):SS->SS
 | .val agg t=> .val agg (t.va φ)
 | .ptr j p off=> .ptr (φ j) p off
 | .at r=> .at r
 | .undef=> .undef
 | .fn f js=> .fn f (js.map λc=>(φ c.1,c.2))
 | .ifc T s=> .ifc T (s.va φ)
def OS.va(φ:Nat->Nat):OS->OS
 | .box T t=> .box T (t.va φ)
 | .own T r=> .own T r
 | .map T K agg V=> .map T K agg V
 | .deep T d=> .deep T d
 | .dmap T K E r=> .dmap T K E r
def vN(φ:Nat->Nat):List (Nat×SS)->List (Nat×SS)
 |[]=>[]
 |(t,s)::l=>(t,s.va φ)::vN φ l
def E4(φ:Nat->Nat):List (Nat×OS)->List (Nat×OS)
 |[]=>[]
 |(j,s)::l=>(φ j,s.va φ)::E4 φ l
def Row.E5:Row->Bool
 | .slice _=>ag
 | .map .. =>ag
 | .pair a b=>a.E5&&b.E5
 |_=>af
def DR.lq(p:Row->Bool):DR->Bool
 | .leaf r=>p r
 | .sl _ d=>d.lq p
 | .pair a b=>a.lq p&&b.lq p
def Sh.lq(p:Row->Bool):Sh->Bool
 | .leaf r=>p r
 | .pair a b=>a.lq p&&b.lq p
 |_=>af
def SS.lq(p:Row->Bool):SS->Bool
 | .val _ t=>t.lq p
 | .at r=>p (.slice r)
 | .ifc _ s=>s.lq p
 |_=>af
def OS.lq(p:Row->Bool):OS->Bool
 | .box _ t=>t.lq p
 | .own _ r=>p r
 | .map _ _ _ V=>p V
 | .deep _ d=>d.lq p
 | .dmap _ _ _ r=>p r
def vb(p:Row->Bool):List (Nat×SS)->Bool
 |[]=>af
 |(_,s)::l=>s.lq p&&vb p l
def BR(p:Row->Bool):List (Nat×OS)->Bool
 |[]=>af
 |(_,s)::l=>s.lq p&&BR p l
section
variable {H H':aR} {F F':Nat->Prop} {w w':World} {φ:Nat->Nat} {p:Row->Bool}
theorem dF.HU:{r:Row}->{cs:List Value}->{x:r.den}->r.E5=af->dF F w r cs x->dF F' w' r cs x
 | .int _,_,_,_,h=>h
 | .bool,_,_,_,h=>h
 | .str,_,_,_,h=>h
 | .mI,_,_,_,h=>h
 | .nul _,_,_,_,h=>h
 | .map ..,_,_,hf,_=>by cases hf
 | .slice _,_,_,hf,_=>by cases hf
 | .pair a b,_,_,hf,h=>by
   obtain⟨c1,c2,e,h1,h2⟩:=h;obtain⟨f1,f2⟩:=eG hf;exact⟨c1,c2,e,dF.HU f1 h1,dF.HU f2 h2⟩
def Ren(H H':aR)(φ:Nat->Nat):Prop:=∀j v,H.val j=aa v->H'.val (φ j)=aa v
def vO(p:Row->Bool)(F F':Nat->Prop)(w:World):Prop:=∀r,p r=af->∀cs x,dF F w r cs x->dF F' w r cs x
theorem sV:(sh:Sh)->(vs:List nF)->(sC (sh.va φ) vs).2=(sC sh vs).2
 | .leaf r,[]=>rfl
 | .leaf r,_::_=>rfl
 | .own j,vs=>rfl
 | .nil,vs=>rfl
 | .pair a b,vs=>by
   show(sC (b.va φ) (sC (a.va φ) vs).2).2=_
   rw[sV a,sV b];rfl
 | .junk _,_=>rfl
theorem BS(s:SS)(vs:List nF):(fV (s.va φ) vs).2=(fV s vs).2:=by
 induction s with
 |ifc T s ih=>exact ih
 |val agg t=>exact sV t vs
 |ptr j p off=>rfl
 |«at» r=>cases vs<;>rfl
 |undef=>rfl
 |fn f js=>rfl
theorem BT(s:OS)(vs:List nF):(du (s.va φ) vs).2=(du s vs).2:=by
 cases s with
 |box T t=>exact sV t vs
 |own T r=>rfl
 |map T K agg V=>rfl
 |deep T d=>rfl
 |dmap T K E r=>rfl
theorem E6:(l:List (Nat×SS))->(vs:List nF)->(eD (vN φ l) vs).2=(eD l vs).2
 |[],_=>rfl
 |(t,s)::l,vs=>by
  show(eD (vN φ l) (fV (s.va φ) vs).2).2=(eD l (fV s vs).2).2
  rw[BS,E6 l]
theorem vP(hr:Ren H H' φ)(hm:vO p F F' w):{sh:Sh}->{vs:List nF}->{cs:List Value}->sh.lq p=af->Holds H F w (sC sh vs).1 cs->Holds H' F' w (sC (sh.va φ) vs).1 cs
 | .leaf r,[],cs,_,h=>h
 | .leaf r,⟨s,x⟩::vs,cs,hp,h=>by
   have h':Holds H F w (bif s.beq r then Tree.leaf s x else .nil) cs:=h
   show Holds H' F' w (bif s.beq r then Tree.leaf s x else .nil) cs
   cases hb:s.beq r with
   |true=>
    rw[hb,cond_true]at h';obtain rfl:=Row.eq_of_beq hb;exact hm _ hp _ _ h'
   |false=>rw[hb]at h';exact h'
 | .own j,vs,cs,_,h=>by obtain⟨v,h1,h2⟩:=h;exact⟨v,hr j v h1,h2⟩
 | .nil,vs,cs,_,h=>h
 | .pair a b,vs,cs,hp,h=>by
   obtain⟨c1,c2,e,h1,h2⟩:=h;obtain⟨p1,p2⟩:=eG hp;refine⟨c1,c2,e,vP hr hm p1 h1,?_⟩;rw[sV a];exact vP hr hm p2 h2
 | .junk _,vs,cs,_,h=>h
theorem nR.va(hr:Ren H H' φ):{cs:List (Nat×List Bool×Nat)}->{vs:List Value}->nR H cs vs->nR H' (cs.map λc=>(φ c.1,c.2)) vs
 |[],_,h=>h
 |_::_,_,h=>by obtain⟨v,us,e,⟨b,h1,h2⟩,h3⟩:=h;exact⟨v,us,e,⟨b,hr _ _ h1,h2⟩,nR.va hr h3⟩
theorem L5(hr:Ren H H' φ)(hm:vO p F F' w){s:SS}{vs:List nF}{v:Value}(hp:s.lq p=af)(h:aN H F w (fV s vs).1 v):aN H' F' w (fV (s.va φ) vs).1 v:=by
 induction s generalizing v with
 |ifc T s ih=>
  obtain⟨u,e,h2⟩:=h;exact⟨u,e,ih hp h2⟩
 |val agg t=>
  obtain⟨cs,h1,h2⟩:=h;exact⟨cs,vP hr hm hp h1,h2⟩
 |ptr j p off=>
  obtain⟨b,h1,h2⟩:=h;exact⟨b,hr _ _ h1,h2⟩
 |«at» r=>
  match vs,h with
  |[],h=>exact h
  |⟨s,x⟩::vs,h=>
   have h':aN H F w (bif s.beq r then aM.at s x else .dead) v:=h
   show aN H' F' w (bif s.beq r then aM.at s x else .dead) v
   cases hb:s.beq r with
   |false=>trivial
   |true=>
    rw[hb,cond_true]at h';obtain rfl:=Row.eq_of_beq hb;obtain⟨b,off,rfl,hF,es,h1,h2,h3⟩:=h'
    have iP:dF F w (.slice s) [.slice (aa ⟨b,off,ae⟩) 1 1] [x]:=⟨aa ⟨b,off,ae⟩,1,rfl,aoJ _,by unfold maxLen;omega,λi hi=>by
     have e:i=0:=by simp at hi;omega
     subst e
     grind⟩
    obtain⟨A,cap,e1,_,_,wJ⟩:=hm (.slice s) hp _ _ iP;obtain⟨b',fI,uW,hA,g1,g2,g3,g4⟩:=wJ 0 (by simp);simp only[ap5,aqj,and_true]at e1;obtain⟨e1,_,_⟩:=e1;rw[<-e1]at hA;simp only[aoW,Addr.mk.injEq,and_true]at hA;obtain⟨rfl,rfl⟩:=hA;exact⟨b,off,rfl,g1,uW,g2,(by grind),g4⟩
 |undef=>exact h
 |fn f js=>
  obtain⟨us,h1,h2⟩:=h;exact⟨us,h1,h2.va hr⟩
theorem uy.sr{K:Row}{agg:Bool}{V:Row}(hm:∀cs x,dF F w V cs x->dF F' w' V cs x):{es:List MapEntry}->{l:List (K.den×V.den)}->uy H F w K agg V es l->uy H' F' w' K agg V es l
 |[],_,h=>h
 |_::_,_,h=>by
  obtain⟨k,x,l',e,h1,⟨cs,h2,Ra⟩,h3⟩:=h;exact⟨k,x,l',e,h1,⟨cs,hm _ _ h2,Ra⟩,uy.sr hm h3⟩
theorem dF.zx(hm:vO p F F' w):{d:DR}->{cs:List Value}->{x:d.low.den}->d.lq p=af->dF F w d.low cs x->dF F' w d.low cs x
 | .leaf r,_,_,hp,h=>hm r hp _ _ h
 | .sl _ _,_,_,_,h=>h
 | .pair a b,_,_,hp,h=>by
   obtain⟨p1,p2⟩:=eG hp;obtain⟨c1,c2,e,h1,h2⟩:=h;exact⟨c1,c2,e,dF.zx hm p1 h1,dF.zx hm p2 h2⟩
theorem nQ.sr(hm:vO p F F' w){d:DR}(hp:d.lq p=af){T:TypeId}{v:Value}{l:List d.low.den}(h:nQ F w T d.low v l):nQ F' w T d.low v l:=by
 obtain⟨xs,h1,h2⟩:=h;exact⟨xs,h1,λi hi=>dF.zx hm hp (h2 i hi)⟩
theorem mL.sr(hm:vO p F F' w):{d:DR}->{x':d.low.den}->{x:d.row.den}->{S:Nat->Prop}->d.lq p=af->mL F w d x' x S->mL F' w d x' x S
 | .leaf _,_,_,_,_,h=>h
 | .sl _ d,_,_,_,hp,h=>by
   obtain⟨lh,Ss,h1,h2,h3,h4⟩:=h;exact⟨lh,Ss,h1.sr hm (show d.lq p=af from hp),h2,λi a b=>mL.sr hm (show d.lq p=af from hp) (h3 i a b),h4⟩
 | .pair a b,_,_,_,hp,h=>by
   obtain⟨p1,p2⟩:=eG hp;obtain⟨A,B,h1,h2,h3⟩:=h;exact⟨A,B,mL.sr hm p1 h1,mL.sr hm p2 h2,h3⟩
theorem HV(T:TypeId)(d:DR):(vs:List nF)->∃l,(du (.deep T d) vs).1= .deep T d l ae
 |[]=>⟨[],rfl⟩
 |⟨.slice s,l⟩::vs=>by
  unfold du;simp only
  split<;>exact⟨_,rfl⟩
 |⟨.int _,_⟩::_|⟨.bool,_⟩::_|⟨.str,_⟩::_|⟨.mI,_⟩::_|⟨.nul _,_⟩::_|⟨.pair _ _,_⟩::_|⟨.map ..,_⟩::_=>⟨[],rfl⟩
theorem L6(T:TypeId)(K:Row)(agg:Bool)(V:Row):(vs:List nF)->∃l,(du (.map T K agg V) vs).1= .map T K agg V l
 |[]=>⟨[],rfl⟩
 |⟨.slice (.pair K' V'),l⟩::vs=>by
  unfold du;simp only
  split<;>exact⟨_,rfl⟩
 |⟨.slice (.int _),_⟩::_|⟨.slice .bool,_⟩::_|⟨.slice .str,_⟩::_|⟨.slice (.slice _),_⟩::_|⟨.slice .mI,_⟩::_|⟨.slice (.nul _),_⟩::_|⟨.slice (.map ..),_⟩::_=>⟨[],rfl⟩
 |⟨.int _,_⟩::_|⟨.bool,_⟩::_|⟨.str,_⟩::_|⟨.mI,_⟩::_|⟨.nul _,_⟩::_|⟨.pair _ _,_⟩::_|⟨.map ..,_⟩::_=>⟨[],rfl⟩
theorem sj.sr(hm:vO p F F' w){K:Row}{E:TypeId}{r:Row}(hp:p r=af):{es:List MapEntry}->{l:List (K.den×List r.den)}->{S:Nat->Prop}->sj H F w K E r ae es l S->sj H' F' w K E r ae es l S
 |[],_,_,h=>h
 |_::_,_,_,h=>by
  obtain⟨k,y,l',A,B,e,h1,⟨⟨xs,h2,h3⟩,h4⟩,h5,h6⟩:=h;exact⟨k,y,l',A,B,e,h1,⟨⟨xs,h2,λi hi=>hm r hp _ _ (h3 i hi)⟩,h4⟩,sj.sr hm hp h5,h6⟩
theorem HW(T:TypeId)(K:Row)(E:TypeId)(r:Row):(vs:List nF)->∃l,(du (.dmap T K E r) vs).1= .dmap T K E r l ae
 |[]=>⟨[],rfl⟩
 |⟨.slice (.pair K' (.slice s)),l⟩::vs=>by
  unfold du;simp only
  split<;>exact⟨_,rfl⟩
 |⟨.slice (.pair _ (.int _)),_⟩::_|⟨.slice (.pair _ .bool),_⟩::_|⟨.slice (.pair _ .str),_⟩::_|⟨.slice (.pair _ .mI),_⟩::_|⟨.slice (.pair _ (.nul _)),_⟩::_|⟨.slice (.pair _ (.pair _ _)),_⟩::_|⟨.slice (.pair _ (.map ..)),_⟩::_=>⟨[],rfl⟩
 |⟨.slice (.int _),_⟩::_|⟨.slice .bool,_⟩::_|⟨.slice .str,_⟩::_|⟨.slice (.slice _),_⟩::_|⟨.slice .mI,_⟩::_|⟨.slice (.nul _),_⟩::_|⟨.slice (.map ..),_⟩::_=>⟨[],rfl⟩
 |⟨.int _,_⟩::_|⟨.bool,_⟩::_|⟨.str,_⟩::_|⟨.mI,_⟩::_|⟨.nul _,_⟩::_|⟨.pair _ _,_⟩::_|⟨.map ..,_⟩::_=>⟨[],rfl⟩
theorem w8(hr:Ren H H' φ)(hm:vO p F F' w){s:OS}{vs:List nF}{S:Nat->Prop}{v:Value}(hp:s.lq p=af)(h:lK H F w S v (du s vs).1):
 lK H' F' w S v (du (s.va φ) vs).1/\(du (s.va φ) vs).1.base=(du (s.va φ) vs).1/\(∀k,fp S v (du (s.va φ) vs).1 k->fp S v (du s vs).1 k):=by
 have own:∀(T:TypeId)(q:Row)(l:List q.den),p q=af->lK H F w S v (.own T q l)->lK H' F' w S v (.own T q l):=λT q l hq ⟨xs,hx,h3⟩=>⟨xs,hx,λi hi=>hm q hq _ _ (h3 i hi)⟩
 cases s with
 |box T t=>
  obtain⟨b,es,e,h1,h2⟩:=h;exact⟨⟨b,es,e,h1,vP hr hm hp h2⟩,rfl,λk hk=>hk⟩
 |own T r=>
  match vs,h with
  |[],h=>exact⟨own T r [] hp h,rfl,λ_ h=>h⟩
  |⟨.slice s,l⟩::vs,h=>
   have h':lK H F w S v (bif s.beq r then Th.own T s l else .own T r []):=h
   show lK H' F' w S v (bif s.beq r then Th.own T s l else .own T r [])/\Th.base (bif s.beq r then Th.own T s l else .own T r [])=(bif s.beq r then Th.own T s l else .own T r [])/\∀k,fp S v (bif s.beq r then Th.own T s l else .own T r []) k->fp S v (bif s.beq r then Th.own T s l else .own T r []) k
   cases hb:s.beq r with
   |true=>
    rw[hb,cond_true]at h';obtain rfl:=Row.eq_of_beq hb;exact⟨own T s l hp h',rfl,λ_ h=>h⟩
   |false=>
    rw[hb,cond_false]at h';exact⟨own T r [] hp h',rfl,λ_ h=>h⟩
  |⟨.int _,_⟩::vs,h=>exact⟨own T r [] hp h,rfl,λ_ h=>h⟩
  |⟨.bool,_⟩::vs,h=>exact⟨own T r [] hp h,rfl,λ_ h=>h⟩
  |⟨.str,_⟩::vs,h=>exact⟨own T r [] hp h,rfl,λ_ h=>h⟩
  |⟨.mI,_⟩::vs,h=>exact⟨own T r [] hp h,rfl,λ_ h=>h⟩
  |⟨.nul _,_⟩::vs,h=>exact⟨own T r [] hp h,rfl,λ_ h=>h⟩
  |⟨.map ..,_⟩::vs,h=>exact⟨own T r [] hp h,rfl,λ_ h=>h⟩
  |⟨.pair _ _,_⟩::vs,h=>exact⟨own T r [] hp h,rfl,λ_ h=>h⟩
 |map T K agg V=>
  have gen:∀l:List (K.den×V.den),lK H F w S v (.map T K agg V l)->lK H' F' w S v (.map T K agg V l):=by
   rintro l ⟨b,es,clock,e,h1,h2,h3⟩
   exact⟨b,es,clock,e,h1,h2,uy.sr (λcs x hr=>hm V hp cs x hr) h3⟩
  obtain⟨l,hl⟩:=L6 T K agg V vs
  show lK H' F' w S v (du (OS.map T K agg V) vs).1/\(du (OS.map T K agg V) vs).1.base=(du (OS.map T K agg V) vs).1/\∀k,fp S v (du (OS.map T K agg V) vs).1 k->fp S v (du (OS.map T K agg V) vs).1 k
  rw[hl]at h⊢;exact⟨gen l h,rfl,λ_ h=>h⟩
 |deep T d=>
  obtain⟨l,hl⟩:=HV T d vs
  show lK H' F' w S v (du (OS.deep T d) vs).1/\(du (OS.deep T d) vs).1.base=(du (OS.deep T d) vs).1/\∀k,fp S v (du (OS.deep T d) vs).1 k->fp S v (du (OS.deep T d) vs).1 k
  rw[hl]at h⊢;refine⟨?_,rfl,λ_ h=>h⟩;have h':mL F w (.sl T d) v l S:=h;exact(mL.sr (d:= .sl T d) hm hp h':mL F' w (.sl T d) v l S)
 |dmap T K E r=>
  obtain⟨l,hl⟩:=HW T K E r vs
  show lK H' F' w S v (du (OS.dmap T K E r) vs).1/\(du (OS.dmap T K E r) vs).1.base=(du (OS.dmap T K E r) vs).1/\∀k,fp S v (du (OS.dmap T K E r) vs).1 k->fp S v (du (OS.dmap T K E r) vs).1 k
  rw[hl]at h⊢;refine⟨?_,rfl,λ_ h=>h⟩;obtain⟨b,es,clock,B,e,h1,h2,h3,h4,_⟩:=h;exact⟨b,es,clock,B,e,h1,h2,h3.sr hm hp,h4,λ_ _ e=>by cases e⟩
theorem BU:{l:List (Nat×SS)}->{vs:List nF}->{t:Nat}->{d:aM}->vb p l=af->find (eD (vN φ l) vs).1 t=aa d->∃s us,d=(fV (s.va φ) us).1/\find (eD l vs).1 t=aa (fV s us).1/\s.lq p=af
 |[],_,_,_,_,h=>by cases h
 |(t0,s)::l,vs,t,d,hp,h=>by
  obtain⟨p1,p2⟩:=eG hp;have h':find ((t0,(fV (s.va φ) vs).1)::(eD (vN φ l) (fV (s.va φ) vs).2).1) t=aa d:=h
  show∃s' us,d=_/\find ((t0,(fV s vs).1)::(eD l (fV s vs).2).1) t=_/\_
  rw[bp]at h';by_cases e:t0=t
  .grind [bp]
  .rw[ai e]at h';rw[BS]at h';obtain⟨s',us,a1,a2,a3⟩:=BU p2 h'
   grind [bp]
theorem OZ(hr:Ren H H' φ)(hm:vO p F F' w){ρ:Nat->Value}{l:List (Nat×SS)}{vs:List nF}(hp:vb p l=af)(h:∀t d,find (eD l vs).1 t=aa d->aN H F w d (ρ t)):∀t d,find (eD (vN φ l) vs).1 t=aa d->aN H' F' w d (ρ t):=by
 grind [BU,L5]
theorem E7{m m':Nat}:{l:List (Nat×OS)}->{vs:List nF}->{o s:Nat}->{t:Th}->find (kN m (E4 φ l) vs) o=aa (s,t)->∃j s' us sh,φ j=o/\t=(du (sh.va φ) us).1/\find (kN m' l vs) j=aa (s',(du sh us).1)/\(BR p l=af->sh.lq p=af)/\vM (kN m (E4 φ l) vs) s=aa t/\m<=s/\s<m+l.length/\s'=s-m+m'
 |[],_,_,_,_,h=>by cases h
 |(j,sh)::l,vs,o,s,t,h=>by
  have h':find ((φ j,(m,(du (sh.va φ) vs).1))::kN (m+1) (E4 φ l) (du (sh.va φ) vs).2) o=aa (s,t):=h;rw[bp]at h';split at h'
  .rename_i e;simp only[aoW,Prod.mk.injEq]at h';obtain⟨rfl,rfl⟩:=h';refine⟨j,m',vs,sh,e,rfl,?_,λhp=>(eG hp).1,?_,aoJ _,by simp,by omega⟩
   .show find ((j,(m',(du sh vs).1))::_) j=_
    rw[bp,aj rfl]
   .show(bif aoL m m then _ else _)=_
    simp
  .rename_i e;rw[BT]at h';obtain⟨j',s',us,sh',a1,a2,a3,a4,a5,a6,a7,a8⟩:=E7 (m':=m'+1) h';refine⟨j',s',us,sh',a1,a2,?_,λhp=>a4 (eG hp).2,?_,by omega,by grind,by omega⟩
   all_goals grind [kN,bp,vM,E4,beq_true,BT]
def HX:List (Nat×aM)->Option (List (Bool×Tree))
 |[]=>aa []
 |(_, .val a t)::l=>match HX l with
  |some ds=>aa ((a,t)::ds)
  |none=>ae
 |_::_=>ae
def O0:List (Nat×aM)->Option aM
 |[]=>aa .dead
 |[(_,d)]=>aa d
 |l=>match HX l with
  |some ds=>aa (.tup ds)
  |none=>ae
def vQ:Nat->List (Nat×SS)->Bool
 |_,[]=>af
 |k,(t,_)::l=>aoL t k&&vQ (k+1) l
theorem JP:{l:List (Nat×SS)}->{vs:List nF}->{k t:Nat}->{d:aM}->vQ k l=af->find (eD l vs).1 t=aa d->k<=t
 |[],_,_,_,_,_,h=>by cases h
 |(t0,s)::l,vs,k,t,d,hi,h=>by
  obtain⟨h1,h2⟩:=eG hi;have h':find ((t0,(fV s vs).1)::(eD l (fV s vs).2).1) t=aa d:=h;rw[bp]at h';have:=beq_true h1;split at h'
  .omega
  .have:=JP h2 h';omega
theorem O1{f:Nat->Value}:{l:List (Nat×SS)}->{vs:List nF}->{k:Nat}->{ds:List (Bool×Tree)}->vQ k l=af->(∀t d,find (eD l vs).1 t=aa d->aN H F w d (f t))->HX (eD l vs).1=aa ds->vF H F w ds ((List.range' k l.length).map f)
 |[],_,_,_,_,_,h=>by cases h;rfl
 |(t0,s)::l,vs,k,ds,hi,sJ,h=>by
  obtain⟨h1,h2⟩:=eG hi;obtain rfl:=beq_true h1;have h':HX ((t0,(fV s vs).1)::(eD l (fV s vs).2).1)=aa ds:=h;have YB:∀t d,find ((t0,(fV s vs).1)::(eD l (fV s vs).2).1) t=aa d->aN H F w d (f t):=sJ;have h0:=YB t0 _ (by rw[bp,aj rfl]);generalize(fV s vs).1=d0 at*
  cases d0<;>unfold HX at h'<;>try cases h'
  rename_i a t
  split at h'<;>cases h'
  rename_i ds' AY;refine⟨f t0,(List.range' (t0+1) l.length).map f,by simp[List.range'_succ],h0,O1 h2 (λt d hf=>YB t d ?_) AY⟩;have:=JP h2 hf
  grind [bp]
theorem E8:{l:List (Nat×SS)}->{k:Nat}->vQ k (vN φ l)=vQ k l
 |[],_=>rfl
 |(t,s)::l,k=>by
  show(aoL t k&&vQ (k+1) (vN φ l))=_
  rw[E8];rfl
theorem xI:{l:List (Nat×SS)}->(vN φ l).length=l.length
 |[]=>rfl
 |(t,s)::l=>by
  show(vN φ l).length+1=l.length+1
  rw[xI]
theorem HY(us:List Value):(List.range' 0 us.length).map (λt=>us.getD t undef)=us:=by
 apply List.ext_getElem (by simp)
 grind
theorem Vo{l:List (Nat×SS)}{vs:List nF}{us:List Value}{D:aM}(hi:vQ 0 l=af)(hl:us.length=l.length)(sJ:∀t d,find (eD l vs).1 t=aa d->aN H F w d (us.getD t undef))(h:O0 (eD l vs).1=aa D):aN H F w D (A5 us):=by
 have tup:∀ds,HX (eD l vs).1=aa ds->us.length≠1->aN H F w (.tup ds) (A5 us):=by
  intro ds AY dS;have:=O1 hi sJ AY;rw[<-hl,HY]at this;refine⟨us,?_,this⟩
  match us,dS with
  |[],_=>rfl
  |[_],h=>exact absurd rfl h
  |_::_::_,_=>rfl
 match l,hl,h with
 |[],_,h=>obtain rfl:=aoB h;trivial
 |[(t,s)],hl,h=>
  have h':O0 [(t,(fV s vs).1)]=aa D:=h;obtain rfl:=aoB h';have ht:=beq_true (eG hi).1
  match us,hl with
  |[u],_=>
   have:=sJ t (fV s vs).1 (by
    show find [(t,(fV s vs).1)] t=_
    rw[bp,aj rfl])
   rw[ht]at this;exact this
 |(t,s)::(t',s')::l,hl,h=>
  have h':(match HX (eD ((t,s)::(t',s')::l) vs).1 with|some ds=>aa (aM.tup ds)|none=>ae)=aa D:=h
  grind
end
end
section
def kj:Nat->List aM->List (Nat×aM)
 |_,[]=>[]
 |k,d::ds=>(k,d)::kj (k+1) ds
def Uo(n:Nat)(bs:Bs)(br:List (Nat×(Nat×Th)))(m:Nat)(j:Nat):Nat:=
 bif aps j m then(match find bs j with
  |some (aa o)=>(match find br o with
   |some _=>o
   |none=>n+j)
  |_=>n+j)else n+j
def su(br:List (Nat×(Nat×Th))):List Nat->List (Nat×(Nat×Th))
 |[]=>[]
 |o::os=>match find br o with
  |some (s,t)=>bif gN t then(o,(s,t))::su br os else su br os
  |none=>su br os
def always(_:Row):Bool:=af
def JQ(sg:rH):Bool:=vb Row.E5 sg.out.aH&&BR Row.E5 sg.out.objs
def w9{R:Type}(sg:rH)(n:Nat)(bs:Bs)(br:List (Nat×(Nat×Th)))(nd:List Nat)(y:cY sg.out.rows)(k:gw->Option R):Option R:=
 match O0 (eD (vN (Uo n bs br sg.inn.nxt) sg.out.aH) (fe _ y)).1 with
 |some D=>bif JQ sg then k {dst:=D,eat:=jK bs,make:=kN n (E4 (Uo n bs br sg.inn.nxt) sg.out.objs) (eD (vN (Uo n bs br sg.inn.nxt) sg.out.aH) (fe _ y)).2}
   else k {dst:=D,eat:=jK bs++nd,make:=kN n (E4 (Uo n bs br sg.inn.nxt) sg.out.objs) (eD (vN (Uo n bs br sg.inn.nxt) sg.out.aH) (fe _ y)).2++su br nd}
 |none=>ae
def rI{R:Type}(objs:List (Nat×(Nat×Th)))(n:Nat)(f:FuncId)(ds:List aM)(k:gw->Option R):List (Nat×rH)->Option R
 |[]=>ae
 |(g,sg)::tab=>bif aoL g f then(match BP 0 [] sg.inn (kj 0 ds) objs with
    |some (x,bs,br)=>bif aoL ds.length sg.inn.aH.length&&vQ 0 sg.out.aH&&Nat.ble sg.out.nxt 16&&Nat.ble sg.out.objs.length 16&&(vb always sg.out.aH)then
      (sg.fn x).bind λy=>w9 sg n bs br (BO 0 sg.inn (kj 0 ds) objs) y k else ae
    |none=>rI objs n f ds k tab)else rI objs n f ds k tab
def YC(c:Nat×List Bool×Nat):aM:= .ptr c.1 c.2.1 c.2.2
theorem zy{H:aR}{F:Nat->Prop}{w:World}:{cs:List (Nat×List Bool×Nat)}->{vs:List Value}->nR H cs vs->ic H F w (cs.map YC) vs
 |[],_,h=>h
 |_::_,_,h=>by obtain⟨v,us,e,h1,h3⟩:=h;exact⟨v,us,e,h1,zy h3⟩
theorem vR{H:aR}{F:Nat->Prop}{w:World}:{ds es:List aM}->{vs us:List Value}->ic H F w ds vs->ic H F w es us->ic H F w (ds++es) (vs++us)
 |[],_,vs,_,h,h'=>by rw[show vs=[]from h];exact h'
 |_::_,_,_,_,h,h'=>by obtain⟨v,us,rfl,h1,h2⟩:=h;exact⟨v,_,rfl,h1,vR h2 h'⟩
def JR(rd:Operand->Option aM)(x:Operand):Option (FuncId×List (Nat×List Bool×Nat)):=
 match rd x with
 |some (.fn f caps)=>aa (f,caps)
 |_=>ae
def BV{R:Type}(tab:List (Nat×rH))(rd:Operand->Option aM)(objs:List (Nat×(Nat×Th)))(n:Nat)(x:Operand)(args:List Operand)(k:gw->Option R):Option R:=
 match JR rd x with
 |some (f,caps)=>match vI rd args with
  |some ds=>rI objs n f (ds++caps.map YC) k tab
  |none=>ae
 |none=>ae
section
variable {P:Program} {ρ:Nat->Value} {w w':World} {H H':aR} {F F':Nat->Prop} {U:Nat->Prop} {n:Nat} {R:Type}
variable {ty:TypeId} {pos:String} {aft:Array Edge} {dst:Option Nat}
theorem sW:{ds:List aM}->{vs:List Value}->{k:Nat}->ic H F w ds vs->∀t d,find (kj k ds) t=aa d->k<=t/\aN H F w d (vs.getD (t-k) undef)
 |[],_,_,_,_,_,h=>by cases h
 |d0::ds,vs,k,h,t,d,hf=>by
  obtain⟨v,us,rfl,h1,h2⟩:=h;have xD:find ((k,d0)::kj (k+1) ds) t=aa d:=hf;rw[bp]at xD;split at xD
  .grind
  .obtain⟨h3,h4⟩:=sW h2 t d xD
   grind
theorem pH{br:List (Nat×(Nat×Th))}:{nd:List Nat}->{o s:Nat}->{t:Th}->find (su br nd) o=aa (s,t)->o∈nd/\find br o=aa (s,t)/\gN t=af
 |[],_,_,_,h=>by cases h
 |o0::nd,o,s,t,h=>by
  unfold su at h;split at h
  .rename_i s0 t0 h0
   cases hb:gN t0 with
   |true=>
    rw[hb,cond_true,bp]at h;split at h
    .grind
    .obtain⟨a,b⟩:=pH h;exact⟨by simp[a],b⟩
   |false=>
    rw[hb,cond_false]at h;obtain⟨a,b⟩:=pH h;exact⟨by simp[a],b⟩
  .obtain⟨a,b⟩:=pH h;exact⟨by simp[a],b⟩
theorem vS:{l:List (Nat×OS)}->BR always l=af
 |[]=>rfl
 |(t,s)::l=>by
  have ht:∀sh:Sh,sh.lq always=af:=by
   intro sh
   induction sh with
   |leaf r=>rfl
   |own j=>rfl
   |nil=>rfl
   |junk n=>rfl
   |pair a b iha ihb=>show(a.lq always&&b.lq always)=af;rw[iha,ihb];rfl
  have:s.lq always=af:=by
   cases s with
   |box T t=>exact ht t
   |own T r=>rfl
   |map T K agg V=>rfl
   |deep T d=>
    have hd:∀d:DR,d.lq always=af:=by
     intro d
     induction d with
     |leaf r=>rfl
     |sl T d ih=>exact ih
     |pair a b iha ihb=>show(a.lq always&&b.lq always)=af;rw[iha,ihb];rfl
    exact hd d
   |dmap T K E r=>rfl
  show(s.lq always&&BR always l)=af
  rw[this,vS];rfl
def o9(H H':aR)(n:Nat)(cons:List (Nat×(Nat×Th)))(m0:Nat):aR where
 val m:=if n<=m/\m<n+16 then H'.val (m-n)else H.val m
 con m:=if n<=m/\m<n+16 then vM cons m else H.con m
 sub m:=if n<=m/\m<n+16 then H'.sub (m-n+m0)else H.sub m
theorem L7{dd:Option Nat}{f:FuncId}{fn:Func}{g:Operand}{args:Array Operand}{vs us:List Value}{AL:Array TypeId}(hf:P.funcs[f]? =aa fn)(hn:(fn.name== "runtime.NumGoroutine")=ag)(hb:fn.body.isNone=ag)(Ri:args.toList.map (ev ρ)=vs)(hg:ev ρ g= .func (.func f) #[] us.toArray):
 (execOp (ev ρ) ⟨dd, .call {callee:= .value g,args:=args,argTypes:=AL},ty,pos,aft,ae⟩).run P w= .ok (.enter f (vs++us).toArray) w:=by
 subst Ri
 have RH:¬fn.name= "runtime.NumGoroutine" :=by simpa using hn
 have rB:¬fn.body=ae:=by
  intro e;rw[e]at hb;cases hb
 have e:(Array.map (ev ρ) args++us.toArray)=(args.toList.map (ev ρ)++us).toArray:=by simp
 simp[execOp,resolve,hg,Deferred.ofValue,invoke,callFunc,hf,RH,rB,go_sem,e]
theorem L8{sg:rH}{f:FuncId}(A6:kO P f sg){objs:List (Nat×(Nat×Th))}{op:Op}{k:gw->Option R}{q:R}{ds:List aM}{vs:List Value}{x:cY sg.inn.rows}{bs:Bs}{br:List (Nat×(Nat×Th))}
 (BW:ic H F w ds vs)(cD:∀fn,P.funcs[f]? =aa fn->(fn.name== "runtime.NumGoroutine")=ag->fn.body.isNone=ag->(execOp (ev ρ) ⟨dst,op,ty,pos,aft,ae⟩).run P w= .ok (.enter f vs.toArray) w)(hs:aS U H F w (find objs) n)
 (xc:BP 0 [] sg.inn (kj 0 ds) objs=aa (x,bs,br))
 (h':(bif aoL ds.length sg.inn.aH.length&&vQ 0 sg.out.aH&&Nat.ble sg.out.nxt 16&&Nat.ble sg.out.objs.length 16&&(vb always sg.out.aH)then
   (sg.fn x).bind λy=>w9 sg n bs br (BO 0 sg.inn (kj 0 ds) objs) y k else ae)=aa q):
 ∃e,k e=aa q/\dZ P U H F w ρ (find objs) n ⟨dst,op,ty,pos,aft,ae⟩ e:=by
 obtain⟨hc,h'⟩:=bo h';obtain⟨hc,hc5⟩:=eG hc;obtain⟨hc,hc4⟩:=eG hc;obtain⟨hc,Se⟩:=eG hc;obtain⟨Nw,CO⟩:=eG hc;have Nw:=beq_true Nw
 have Se:sg.out.nxt<=16:=by simpa using Se
 have hc4:sg.out.objs.length<=16:=by simpa using hc4
 obtain⟨y,hy,h⟩:=bind_some h';clear h';obtain⟨⟨fn,hf1,hf2,hf3⟩,sJ⟩:=A6;have ahZ:=mN BW
 let H0:aR:=⟨λ_=>ae,λ_=>ae,λ_ _=>False⟩
 have Sd:aS U H0 F w (find (del [] [])) 0:=⟨λ_ _ _ h=>(by cases h),λ_ _ _ _ _ _ _ _ _ h=>(by cases h),λ_ _ _=>⟨rfl,rfl⟩,hs.lt,hs.new,hs.gl⟩
 have Vp:dk H0 F w H F w:=⟨⟨λ_ _ h=>(by cases h),λ_ _ h=>(by cases h),λ_ _ h=>(by cases h)⟩,Step.refl F w⟩
 have iP:∀t d,find (kj 0 ds) t=aa d->aN H F w d (vs.getD t undef):=λt d hd=>by simpa using(sW BW t d hd).2
 obtain⟨F1,H1,yF,Ep,Rj,A4,E3,w7,JO,Vq,E9⟩:=zw (U':=λk=>w.heap.size<=k\/∃o∈jK bs,∃s t v,find br o=aa (s,t)/\H.val o=aa v/\fp (H.sub s) v t k) (ns:=[]) (objs0:=[]) (ρ:=λt=>vs.getD t undef) xc Sd (λ_ _=>⟨rfl,rfl⟩) Vp hs iP;have E9:=E9 (λb hb=> .inl hb) (by grind) (λ_ _ _ _ _ h=>by cases h);generalize hG:(λk=>∃o∈jK bs,∃s t v,find br o=aa (s,t)/\H.val o=aa v/\fp (H.sub s) v t k)=G
 have YD:∀k,G k->¬F1 k:=by
  rw[<-hG]
  rintro k ⟨o,_,s,t,v,h1,h2,h3⟩
  obtain⟨v',gQ,eK⟩:=yF.obj _ _ _ h1;rw[h2]at gQ;obtain rfl:=aoB gQ;exact eK.no k h3
 have hGe:∀k,G k->dt H (find objs) (jK bs) k:=by
  rw[<-hG]
  rintro k ⟨o,ho,s,t,v,h1,h2,h3⟩
  rcases kh A4 o s t h1 with h4|h4
  .exact⟨o,ho,s,t,v,h4,h2,h3⟩
  .exact(jF h4 h3).elim
 have YE:aS (λk=>w.heap.size<=k\/G k) H1 F1 w (find (kN 0 sg.inn.objs (eD sg.inn.aH (fe sg.inn.rows x)).2)) sg.inn.nxt:=by
  rw[show del [] ([]:List (Nat×(Nat×Th)))=[]from rfl,apq]at E9;rw[<-hG];exact E9
 have YF:=sJ x y hy vs w H1 F1 G (by omega) Vq YE JO YD;generalize R2:BO 0 sg.inn (kj 0 ds) objs=nd at h Rj A4;generalize hφ:Uo n bs br sg.inn.nxt=φ at h;unfold w9 at h;rw[hφ]at h;split at h
 case h_2=>cases h
 rename_i D hD
 have hen:∀(e:gw),e.dst=D->(∀(w':World)(us:List Value)(H':aR)(F':Nat->Prop),us.length=sg.out.aH.length->Ext G w w'->H1.le H'->(∀b,F1 b->F' b)->(∀b,F' b->F1 b\/w.heap.size<=b\/G b)->
  (∀t d,find (eD sg.out.aH (fe sg.out.rows y)).1 t=aa d->aN H' F' w' d (us.getD t undef))->aS (λk=>w.heap.size<=k\/G k) H' F' w' (find (kN sg.inn.nxt sg.out.objs (eD sg.out.aH (fe sg.out.rows y)).2)) sg.out.nxt->ln H' sg.out.nxt->o8 H F w (find objs) n e (A5 us) w')->
  dZ P U H F w ρ (find objs) n ⟨dst,op,ty,pos,aft,ae⟩ e:=by
  intro e he xJ;have cD:=cD fn hf1 hf2 hf3;unfold dZ dL;rw[cD];refine YF.mono (by grind)
 generalize JN:kN n (E4 φ sg.out.objs) (eD (vN φ sg.out.aH) (fe sg.out.rows y)).2=cons at h;have acq:=E6 (φ:=φ) sg.out.aH (fe sg.out.rows y)
 have Vr:∀{H':aR},H1.le H'->ln H' sg.out.nxt->Ren H' (o9 H H' n cons sg.inn.nxt) φ/\H.le (o9 H H' n cons sg.inn.nxt)/\∀m,(m<n\/n+16<=m)->(H.val m=ae->(o9 H H' n cons sg.inn.nxt).val m=ae)/\(H.con m=ae->(o9 H H' n cons sg.inn.nxt).con m=ae):=by
  intro H' hle Er
  have Sg:∀j v,H'.val j=aa v->j<sg.out.nxt:=λj v hj=>by
   rcases aph j sg.out.nxt with g|g
   .exact g
   .rw[(Er j g).1]at hj;cases hj
  have hold:∀o v,H.val o=aa v->¬(n<=o/\o<n+16):=λo v ho hc=>by
   rw[(hs.fresh o hc.1 hc.2).1]at ho;cases ho
  refine⟨λj v hj=>?_,⟨λo v ho=>?_,λs t lm=>?_,λs t lm=>?_⟩,λm hm=>?_⟩
  .rw[<-hφ];have XL:=Sg j v hj
   have gen:(o9 H H' n cons sg.inn.nxt).val (n+j)=aa v:=by
    simp only[o9];rw[aj (by omega),Nat.add_sub_cancel_left];exact hj
   unfold Uo
   cases hb:aps j sg.inn.nxt with
   |false=>simpa using gen
   |true=>
    rw[cond_true];split
    .rename_i o ho;split
     case h_2=>exact gen
     rename_i e he;obtain⟨u,hu,_⟩:=yF.obj o e.1 e.2 he;have h1:=hle.val _ _ (w7 j (aa o) ho u hu)
     grind [o9]
    .exact gen
  .grind [o9]
  .simp only[o9];rw[ai (λhc=>by rw[(hs.fresh s hc.1 hc.2).2]at lm;cases lm)];exact lm
  .simp only[o9];rw[ai (λhc=>by rw[(hs.fresh s hc.1 hc.2).2]at lm;cases lm)]
  .grind [o9]
 have made:∀{p:Row->Bool}{us:List Value}{w':World}{H':aR}{F' F2:Nat->Prop}{eat:List Nat},us.length=sg.out.aH.length->vb p sg.out.aH=af->BR p sg.out.objs=af->vO p F' F2 w'->Ext G w w'->H1.le H'->(∀b,F2 b->F' b)->(∀o,o∈jK bs->o∈eat)->
  (∀t d,find (eD sg.out.aH (fe sg.out.rows y)).1 t=aa d->aN H' F' w' d (us.getD t undef))->aS (λk=>w.heap.size<=k\/G k) H' F' w' (find (kN sg.inn.nxt sg.out.objs (eD sg.out.aH (fe sg.out.rows y)).2)) sg.out.nxt->ln H' sg.out.nxt->
  aN (o9 H H' n cons sg.inn.nxt) F2 w' D (A5 us)/\Made (o9 H H' n cons sg.inn.nxt) F2 w w' (dt H (find objs) eat) cons/\∀o,(find cons o).isSome->o∈eat\/n<=o:=by
  intro p us w' H' F' F2 eat Vs Yj Uh hmv cG hle Rj pf LH Si YG;obtain⟨hr,_,_⟩:=Vr hle YG
  have JT:∀o s t,find cons o=aa (s,t)->∃j s' us sh,φ j=o/\t=(du (sh.va φ) us).1/\find (kN sg.inn.nxt sg.out.objs (eD sg.out.aH (fe sg.out.rows y)).2) j=aa (s',(du sh us).1)/\sh.lq p=af/\vM cons s=aa t/\n<=s/\s<n+16/\(o9 H H' n cons sg.inn.nxt).sub s=H'.sub s':=by
   intro o s t ho;rw[<-JN]at ho⊢;rw[acq]at ho⊢;obtain⟨j,s',us',sh,a1,a2,a3,a4,a5,a6,a7,a8⟩:=E7 (m':=sg.inn.nxt) ho
   have aJ:s<n+16:=by omega
   refine⟨j,s',us',sh,a1,a2,a3,a4 Uh,a5,a6,aJ,?_⟩;simp only[o9];rw[aj ⟨a6,aJ⟩,a8]
  refine⟨?_,⟨λo s t ho=>?_,λo o' s s' t t' v v' dS ho py hv gQ k hk dT=>?_⟩,λo ho=>?_⟩
  .exact Vo (by rw[E8];exact CO) (by rw[xI];exact Vs) (OZ hr hmv Yj LH) hD
  .obtain⟨j,s',us',sh,rfl,rfl,a3,a4,a5,a6,a7,a8⟩:=JT o s t ho;rw[a8];obtain⟨v,hv,eK⟩:=Si.obj _ _ _ a3;obtain⟨b1,b2,b3⟩:=w8 hr hmv a4 eK.ok;refine⟨v,hr j v hv,eK.one,?_,b1,λk hk=>⟨λe=>eK.no k (b3 k hk) (Rj k e),eK.lt k (b3 k hk),?_⟩⟩
   .grind [o9]
   .rcases eK.use k (b3 k hk)with h1|h1
    .exact .inl h1
    .obtain⟨o',py,rest⟩:=hGe k h1;exact .inr ⟨o',pf o' py,rest⟩
  .obtain⟨j,s1,us1,sh,rfl,rfl,a3,a4,a5,a6,_,a8⟩:=JT o s t ho;obtain⟨j',s1',ajU,sh',rfl,rfl,a3',a4',a5',a6',_,a8'⟩:=JT o' s' t' py;rw[a8]at hk;rw[a8']at dT;obtain⟨u,hu,eK⟩:=Si.obj _ _ _ a3;obtain⟨u',Vh,EV⟩:=Si.obj _ _ _ a3';have e1:=hr j u hu;rw[hv]at e1;obtain rfl:=aoB e1;have e2:=hr j' u' Vh;rw[gQ]at e2;obtain rfl:=aoB e2;exact Si.apart j j' _ _ _ _ _ _ (λe=>dS (by rw[e])) a3 a3' hu Vh k ((w8 hr hmv a4 eK.ok).2.2 k hk) ((w8 hr hmv a4' EV.ok).2.2 k dT)
  .obtain⟨e,he⟩:=apA.1 ho;obtain⟨j,s',us',sh,rfl,_⟩:=JT o e.1 e.2 he;rw[<-hφ];unfold Uo
   cases aps j sg.inn.nxt with
   |false=>exact .inr (by simp)
   |true=>
    grind [mi]
 have YH:∀{w':World}{eat:List Nat},Ext G w w'->(∀o,o∈jK bs->o∈eat)->Ext (dt H (find objs) eat) w w':=λcG pf=>⟨cG.os,cG.tape,cG.output,cG.size,λk hk hn=>cG.block k hk λhG=>hn (by
  obtain⟨o,ho,rest⟩:=hGe k hG
  exact⟨o,pf o ho,rest⟩)⟩
 cases hfl:JQ sg with
 |true=>
  rw[hfl,cond_true]at h;obtain⟨p1,p2⟩:=eG hfl;refine⟨_,h,hen _ rfl λw' us H' F' Vs a1 a2 a3 a4 a5 a6 a7=>?_⟩;obtain⟨_,g2,g3⟩:=Vr a2 a7;obtain⟨m1,m2,m3⟩:=made (F2:=F) (eat:=jK bs) Vs p1 p2 (λr hr cs x hx=>dF.HU hr hx) a1 a2 (λb hb=>a3 b (Ep b hb)) (λ_ h=>h) a5 a6 a7;exact⟨_,F,⟨g2,YH a1 (λ_ h=>h),λ_ h=>h,λ_ h=> .inl h,λb hb=>api (hs.lt b hb) a1.size⟩,g3,m1,m2,m3⟩
 |false=>
  rw[hfl,cond_false]at h;refine⟨_,h,hen _ rfl λw' us H' F' Vs a1 a2 a3 a4 a5 a6 a7=>?_⟩;obtain⟨_,g2,g3⟩:=Vr a2 a7;obtain⟨m1,m2,m3⟩:=made (F2:=F') (eat:=jK bs++nd) Vs hc5 vS (λr _ cs x hx=>hx) a1 a2 (λ_ h=>h) (λo h=>by simp[h]) a5 a6 a7
  have lm:Step F1 w F' w':=λb hb=>⟨a3 b hb,a1.block b (yF.lt b hb) λe=>YD b e hb⟩
  have yf:∀o s t,find (su br nd) o=aa (s,t)->o∈nd/\gN t=af/\∃v,H.val o=aa v/\v.oneCell'=af/\H.con s=aa t.base/\lK H F1 w (H.sub s) v t:=by
   intro o s t ho;obtain⟨b1,b2,b3⟩:=pH ho;obtain⟨v,hv,eK⟩:=yF.obj _ _ _ b2;exact⟨b1,b3,v,hv,eK.one,eK.con,eK.ok⟩
  have part:∀o s t,find (cons++su br nd) o=aa (s,t)->find cons o=aa (s,t)\/find (su br nd) o=aa (s,t):=by
   intro o s t ho;rw[jV]at ho
   cases hm:find cons o with
   |some e=>grind
   |none=>grind
  refine⟨_,F',⟨g2,YH a1 (λo h=>by simp[h]),λb hb=>a3 b (Ep b hb),λb hb=>?_,a6.lt⟩,g3,m1,⟨λo s t ho=>?_,λo o' s s' t t' v v' dS ho py hv gQ k hk dT=>?_⟩,λo ho=>?_⟩
  .rcases a4 b hb with h1|h1|h1
   .rcases Rj b h1 with h2|⟨o,ho,rest⟩
    .exact .inl h2
    .exact .inr (.inr ⟨o,by simp[ho],rest⟩)
   .exact .inr (.inl h1)
   .obtain⟨o,ho,rest⟩:=hGe b h1;exact .inr (.inr ⟨o,by simp[ho],rest⟩)
  .rcases part o s t ho with h1|h1
   .exact m2.obj o s t h1
   .obtain⟨b1,b2,v,b3,b4,b5,b6⟩:=yf o s t h1;refine⟨v,g2.val _ _ b3,b4,g2.con _ _ b5,by rw[g2.sub _ _ b5];exact b6.heap g2 lm (λk hk=>(jF b2 hk).elim),λk hk=>(jF b2 hk).elim⟩
  .rcases part o s t ho with h1|h1<;>rcases part o' s' t' py with h2|h2
   .exact m2.apart o o' s s' t t' v v' dS h1 h2 hv gQ k hk dT
   .grind [jF]
   .exact jF (yf o s t h1).2.1 hk
   .exact jF (yf o s t h1).2.1 hk
  grind [apA]
theorem qT{YI:List (Nat×rH)}(A6:∀p∈YI,kO P p.1 p.2){objs:List (Nat×(Nat×Th))}{f:FuncId}{op:Op}{k:gw->Option R}{q:R}{ds:List aM}{vs:List Value}
 (BW:ic H F w ds vs)(cD:∀fn,P.funcs[f]? =aa fn->(fn.name== "runtime.NumGoroutine")=ag->fn.body.isNone=ag->(execOp (ev ρ) ⟨dst,op,ty,pos,aft,ae⟩).run P w= .ok (.enter f vs.toArray) w)(hs:aS U H F w (find objs) n):{tab:List (Nat×rH)}->(∀p∈tab,p∈YI)->rI objs n f ds k tab=aa q->
 ∃e,k e=aa q/\dZ P U H F w ρ (find objs) n ⟨dst,op,ty,pos,aft,ae⟩ e
 |[],_,h=>by cases h
 |(f0,sg)::tab,eK,h=>by
  unfold rI at h
  cases hb:aoL f0 f with
  |false=>rw[hb,cond_false]at h;exact qT A6 BW cD hs (λp hp=>eK p (by simp[hp])) h
  |true=>
   rw[hb,cond_true]at h;obtain rfl:=beq_true hb;split at h
   case h_2=>exact qT A6 BW cD hs (λp hp=>eK p (by simp[hp])) h
   rename_i x bs br xc;exact L8 (A6 (f0,sg) (eK _ (by simp))) BW cD hs xc h
theorem Fa{tab:List (Nat×rH)}(A6:∀p∈tab,kO P p.1 p.2){rd:Operand->Option aM}(jN:∀x d,rd x=aa d->aN H F w d (ev ρ x)){objs:List (Nat×(Nat×Th))}{g:Operand}{args:Array Operand}{AL:Array TypeId}{k:gw->Option R}{q:R}
 (h:BV tab rd objs n g args.toList k=aa q)(hs:aS U H F w (find objs) n):
 ∃e,k e=aa q/\dZ P U H F w ρ (find objs) n ⟨dst, .call {callee:= .value g,args:=args,argTypes:=AL},ty,pos,aft,ae⟩ e:=by
 unfold BV at h;split at h
 case h_2=>cases h
 rename_i f caps hc;split at h
 case h_2=>cases h
 rename_i ds AY;unfold JR at hc;split at hc
 case h_2=>cases hc
 rename_i f' ah2 hg;cases hc;obtain⟨us,h1,h2⟩:=jN _ _ hg;exact qT A6 (vR (qO (w:=w) (H:=H) (F:=F) (ρ:=ρ) jN AY) (zy (F:=F) (w:=w) h2)) (λfn g1 g2 g3=>L7 g1 g2 g3 rfl h1) hs (λ_ h=>h) h
end
end
section
section
variable {P:Program} {ρ:Nat->Value} {w w':World} {H H':aR} {F F':Nat->Prop} {U:Nat->Prop} {ob:Nat->Option (Nat×Th)} {n:Nat} {R:Type}
variable {op:Op} {ty:TypeId} {pos:String} {aft:Array Edge} {d:Nat} {dst:Option Nat}
def Nx.JU:Nx->Bool
 | .other=>ag
 |_=>af
theorem BB.JU{t:TypeId}{k:Nx}(h:BB P t k)(hk:k.JU=af):∃D,P.underlying t=aa D/\∀ms,D≠ .interface ms:=by
 cases k with
 |other=>cases hk
 |struct fs=>obtain⟨arr,h,_⟩:=h;grind
 |_=>exact⟨_,h,λ_ e=>by cases e⟩
def C4(T:bU P)(t:TypeId):Bool:=match find T.und t with
 |some k=>k.JU
 |none=>ag
theorem BX(T:bU P){t:TypeId}(h:C4 T t=af):∃D,P.underlying t=aa D/\∀ms,D≠ .interface ms:=by
 unfold C4 at h;split at h
 .rename_i k hk;exact(T.und_ok _ _ hk).JU h
 .cases h
def L9(T:bU P)(t:TypeId)(D:aM)(k:gw->Option R):Option R:=bif C4 T t then k {dst:= .ifc t D}else ae
theorem Sj(T:bU P){t:TypeId}{D:aM}{x:Operand}{k:gw->Option R}{q:R}(h:L9 T t D k=aa q)(hs:aS U H F w ob n)(hx:aN H F w D (ev ρ x)):
 ∃e,k e=aa q/\dZ P U H F w ρ ob n ⟨aa d, .makeInterface t x,ty,pos,aft,ae⟩ e:=by
 unfold L9 at h;obtain⟨h1,h2⟩:=bo h;obtain⟨D0,hD,hn⟩:=BX T h1;refine⟨_,h2,cP hs (v:= .iface t (ev ρ x)) ?_ ⟨_,rfl,hx⟩⟩
 cases D0 with
 |interface ms=>grind
 |_=>simp[execOp,Instr.makeInterface,run_underlying hD,aqt]
def tW(T:bU P)(t:TypeId)(ok:Bool)(D:aM)(k:gw->Option R):Option R:=
 match D with
 | .ifc t' d=>bif aoL t' t&&C4 T t then(match ok,d with
   |true, .val agg tr=>k {dst:= .tup [(agg,tr),(ag, .leaf .bool af)]}
   |true,_=>ae
   |false,d=>k {dst:=d})else ae
 |_=>ae
theorem HZ(T:bU P){xt t:TypeId}{ok:Bool}{D:aM}{x:Operand}{k:gw->Option R}{q:R}(h:tW T t ok D k=aa q)(hs:aS U H F w ob n)(hx:aN H F w D (ev ρ x)):
 ∃e,k e=aa q/\dZ P U H F w ρ ob n ⟨aa d, .typeAssert x xt t ok,ty,pos,aft,ae⟩ e:=by
 unfold tW at h;split at h
 case h_2=>cases h
 rename_i t' dd;obtain⟨h1,h2⟩:=bo h;obtain⟨h1,h3⟩:=eG h1;obtain rfl:=beq_true h1;obtain⟨D0,hD,hn⟩:=BX T h3;obtain⟨u,hu,hd⟩:=hx
 have cD:(Instr.typeAssert (ev ρ x) xt t' ok).run P w= .ok (if ok then .tuple #[u, .bool af]else u) w:=by
  rw[hu]
  cases D0 with
  |interface ms=>grind
  |_=>simp[Instr.typeAssert,run_underlying hD,aqt]
 split at h2
 .exact⟨_,h2,cP hs (v:= .tuple #[u, .bool af]) (by simp[execOp,cD,aqt]) ⟨[u, .bool af],rfl,_,_,rfl,hd,_,_,rfl,bq.jZ ..,rfl⟩⟩
 .cases h2
 .exact⟨_,h2,cP hs (v:=u) (by simp[execOp,cD,aqt]) hd⟩
def JV:List (TypeId×(String×(FuncId×Bool)))->TypeId->String->Option (FuncId×Bool)
 |[],_,_=>ae
 |(t',(nm,p))::l,t,name=>bif aoL t' t&&(nm==name)then aa p else JV l t name
theorem Fb{t:TypeId}{name:String}{f:FuncId}{pr:Bool}:{l:List (TypeId×(String×(FuncId×Bool)))}->JV l t name=aa (f,pr)->(t,(name,(f,pr)))∈l
 |[],h=>by cases h
 |(t',(nm,p))::l,h=>by
  unfold JV at h
  cases hb:aoL t' t&&(nm==name)with
  |true=>
   simp_all
  |false=>
   rw[hb,cond_false]at h;exact List.mem_cons_of_mem _ (Fb h)
theorem Ia{t:TypeId}{name:String}{f:FuncId}{pr:Bool}{v u:Value}{fuel:Nat}(h:uI P t name f pr)(hr:∀nm,(receiverAt t (.val v) pr (aa nm)).run P w= .ok u w):(method (fuel+1) t v name).run P w= .ok (f,u) w:=by
 unfold uI at h
 cases hi:P.info? t with
 |none=>grind
 |some ti=>
  rw[hi]at h;have h:(ti.methods.find? λm=>m.name==name).map (λm=>(m.path.toList.length,m.func))=aa (0,aa (f,pr)):=h
  cases hm:ti.methods.find? λm=>m.name==name with
  |none=>grind
  |some m=>
   rw[hm]at h;simp only[Option.map_some,aoW,Prod.mk.injEq]at h
   have hp:m.path= #[]:=by
    have:=h.1;simpa using this
   simp[method,typeInfo,hi,hm,hp,follow,h.2,hr,aqt,ao9]
theorem Ma{t e:TypeId}{nm:String}{v:Value}(hu:P.underlying t=aa (.pointer e)):(receiverAt t (.val v) af (aa nm)).run P w= .ok v w:=by
 simp[receiverAt,run_underlying hu,Place.get,aqt,ao9]
theorem Mb{t e:TypeId}{nm:String}{a:Addr}{u:Value}(hu:P.underlying t=aa (.pointer e))(hl:(loadVar e a).run P w= .ok u w):(receiverAt t (.val (.pointer (aa a))) ag (aa nm)).run P w= .ok u w:=by
 have hw:Builtin.ssaWrapNilChk_ #[t] t #[.pointer (aa a),strVal "",strVal nm]=pure (.pointer (aa a)):=rfl;simp[receiverAt,run_underlying hu,Place.get,hw,asAddr,hl,aqt,ao9]
theorem zA{t:TypeId}{name:String}{f:FuncId}{fn:Func}{pr:Bool}{v u:Value}{x:Operand}{args:Array Operand}{AL:Array TypeId}(h:uI P t name f pr)(hx:ev ρ x= .iface t v)(hr:∀nm,(receiverAt t (.val v) pr (aa nm)).run P w= .ok u w)
 (hf:P.funcs[f]? =aa fn)(hn:(fn.name== "runtime.NumGoroutine")=ag)(hb:fn.body.isNone=ag):
 (execOp (ev ρ) ⟨dst, .call {callee:= .invoke x name,args:=args,argTypes:=AL},ty,pos,aft,ae⟩).run P w= .ok (.enter f (u::args.toList.map (ev ρ)).toArray) w:=by
 have RH:¬fn.name= "runtime.NumGoroutine" :=by simpa using hn
 have rB:¬fn.body=ae:=by
  intro e;rw[e]at hb;cases hb
 have hm:=Ia (fuel:=P.types.size+99) h hr;have hfu:P.types.size+100=P.types.size+99+1:=rfl
 have e1:(#[Value.iface t v]++Array.map (ev ρ) args).extract 1 (1+args.size)=Array.map (ev ρ) args:=by
  apply Array.ext';simp;exact List.take_of_length_le (by simp)
 have e0:(#[Value.iface t v]++Array.map (ev ρ) args)[0]? =aa (Value.iface t v):=by simp[Array.getElem?_append]
 have e2:(#[u]++Array.map (ev ρ) args)=(u::args.toList.map (ev ρ)).toArray:=by apply Array.ext';simp
 simp[execOp,resolve,hx,invoke,callMethod,hfu,hm,callFunc,hf,RH,rB,go_sem,e0,e1,e2]
def yG(T:bU P)(ob:Nat->Option (Nat×Th))(e:TypeId)(D:aM):Option aM:=
 match find T.und e with
 |none=>ae
 |some kk=>match D with
  | .ptr o p off=>match ob o with
    |some (_, .box _ tr)=>match tr.get p with
     |some (s,fI)=>bif aoL fI off&&pG T e kk s.size then aa (.val (oV kk) s)else ae
     |none=>ae
    |_=>ae
  |_=>ae
theorem Ib(T:bU P){e:TypeId}{D D':aM}{v:Value}(h:yG T ob e D=aa D')(hs:aS U H F w ob n)(hx:aN H F w D v):∃a u,v= .pointer (aa a)/\(loadVar e a).run P w= .ok u w/\aN H F w D' u:=by
 unfold yG at h;split at h
 .cases h
 rename_i kk hu;split at h
 case h_2=>cases h
 rename_i o p off;split at h
 case h_2=>cases h
 rename_i st0 T0 tr fR;split at h
 case h_2=>cases h
 rename_i s fI hg;obtain⟨h1,h2⟩:=bo h;cases h2;obtain⟨h1,h3⟩:=eG h1;obtain rfl:=beq_true h1;obtain⟨b,hb,rfl⟩:=hx;obtain⟨es,hh,Uf⟩:=hs.box fR hb;obtain⟨g1,g2⟩:=Uf.get hg
 have hc:∀j u,((es.drop fI).take s.size)[j]? =aa u->w.cell? ⟨b,fI+j,ae⟩=aa u:=λj u hj=>by
  grind [za]
 obtain⟨dd,ye,yT⟩:=(T.und_ok _ _ hu).agg;have hz:=mv T h3;have hl:=g1.length;generalize(es.drop fI).take s.size=cs at g1 hc hl
 cases ha:oV kk with
 |true=>
  rw[aj ha]at hz;obtain⟨r,hr,Nz⟩:=hz;obtain⟨ti,z,h1,_,_,h4,_⟩:=T.row_ok _ _ hr;have hlc:(loadCells ⟨b,fI,ae⟩ cs.length).run P w= .ok cs.toArray w:=run_loadCells_list (P:=P) w ⟨b,fI,ae⟩ cs (λj v hv=>by rw[dY];exact hc j v hv)
  have pS:ti.size=cs.length:=by omega
  exact⟨_, .agg cs.toArray,rfl,by simp[loadVar,ao9,gW ye,yT,ha,sizeOf,typeInfo,h1,pS,hlc],⟨cs,g1,rfl,by simp⟩⟩
 |false=>
  rw[ai (by simp[ha])]at hz
  obtain⟨v,rfl⟩:∃v,cs=[v]:=by
   match cs,hl.trans hz with
   |[v],_=>grind
  have hcv:w.cell? ⟨b,fI,ae⟩=aa v:=hc 0 v rfl;exact⟨_,v,rfl,by simp[loadVar,ao9,gW ye,yT,ha,hcv,go_sem],⟨[v],g1,rfl,λ_=>rfl⟩⟩
def tX(T:bU P)(tab:List (Nat×rH))(rd:Operand->Option aM)(objs:List (Nat×(Nat×Th)))(n:Nat)(x:Operand)(name:String)(args:List Operand)(k:gw->Option R):Option R:=
 match rd x with
 |some (.ifc t d)=>match JV T.mth t name with
  |some (f,pr)=>match find T.und t with
   |some (.ptr e)=>match(bif pr then aa d else yG T (find objs) e d)with
    |some d'=>match vI rd args with
     |some ds=>rI objs n f (d'::ds) k tab
     |none=>ae
    |none=>ae
   |_=>ae
  |none=>ae
 |_=>ae
theorem zB(T:bU P){tab:List (Nat×rH)}(A6:∀p∈tab,kO P p.1 p.2){rd:Operand->Option aM}(jN:∀x d,rd x=aa d->aN H F w d (ev ρ x)){objs:List (Nat×(Nat×Th))}{x:Operand}{name:String}{args:Array Operand}{AL:Array TypeId}{k:gw->Option R}{q:R}
 (h:tX T tab rd objs n x name args.toList k=aa q)(hs:aS U H F w (find objs) n):
 ∃e,k e=aa q/\dZ P U H F w ρ (find objs) n ⟨dst, .call {callee:= .invoke x name,args:=args,argTypes:=AL},ty,pos,aft,ae⟩ e:=by
 unfold tX at h;split at h
 case h_2=>cases h
 rename_i t d0 hx;split at h
 case h_2=>cases h
 rename_i f pr hm;split at h
 case h_2=>cases h
 rename_i e hu;split at h
 case h_2=>cases h
 rename_i d' Hd;split at h
 case h_2=>cases h
 rename_i ds AY;obtain⟨v,hv,hdv⟩:=jN _ _ hx;have hM:=T.mth_ok _ (Fb hm);have hu:=T.und_ok _ _ hu;have hdo:=qO (w:=w) (H:=H) (F:=F) (ρ:=ρ) jN AY
 cases pr with
 |true=>
  cases Hd
  have XE:ic H F w (d0::ds) (v::args.toList.map (ev ρ)):=⟨v,_,rfl,hdv,hdo⟩
  exact qT A6 XE (λfn g1 g2 g3=>zA hM hv (λnm=>Ma hu) g1 g2 g3) hs (λ_ h=>h) h
 |false=>
  obtain⟨a,u,rfl,hl,hdu⟩:=Ib T (show yG T (find objs) e d0=aa d' from Hd) hs hdv
  have XE:ic H F w (d'::ds) (u::args.toList.map (ev ρ)):=⟨u,_,rfl,hdu,hdo⟩
  exact qT A6 XE (λfn g1 g2 g3=>zA hM hv (λnm=>Mb hu hl) g1 g2 g3) hs (λ_ h=>h) h
end
end
section
structure Env(P:Program)where
 T:bU P
 tab:List (Nat×rH)
 ok:∀p∈tab,kO P p.1 p.2
 mix:P.follows .mixedOrders=af
 deep:Bool
 drop:Bool
def C5(rd:Operand->Option aM):List Operand->Option (List (Nat×List Bool×Nat))
 |[]=>aa []
 |x::xs=>match rd x with
  |some (.ptr o p off)=>match C5 rd xs with
   |some cs=>aa ((o,p,off)::cs)
   |none=>ae
  |_=>ae
theorem BY{H:aR}{F:Nat->Prop}{w:World}{ρ:Nat->Value}{rd:Operand->Option aM}(jN:∀x d,rd x=aa d->aN H F w d (ev ρ x)):{xs:List Operand}->{cs:List (Nat×List Bool×Nat)}->C5 rd xs=aa cs->nR H cs (xs.map (ev ρ))
 |[],cs,h=>by obtain rfl:=aoB h;rfl
 |x::xs,cs,h=>by
  unfold C5 at h;split at h
  case h_2=>cases h
  rename_i o p off hx;split at h
  case h_2=>cases h
  rename_i yd vA;obtain rfl:=aoB h;exact⟨_,_,rfl,jN _ _ hx,BY jN vA⟩
def pz{R:Type}(rd:Operand->Option aM)(fn:Fn)(first caps:Array Operand)(k:gw->Option R):Option R:=
 match fn,first.toList with
 | .func f,[]=>match C5 rd caps.toList with
   |some cs=>k {dst:= .fn f cs}
   |none=>ae
 |_,_=>ae
theorem C6{R:Type}{P:Program}{U:Nat->Prop}{H:aR}{F:Nat->Prop}{w:World}{ρ:Nat->Value}{ob:Nat->Option (Nat×Th)}{n d:Nat}{ty:TypeId}{pos:String}{aft:Array Edge}{rd:Operand->Option aM}(jN:∀x d,rd x=aa d->aN H F w d (ev ρ x)){fn:Fn}{first caps:Array Operand}{k:gw->Option R}{q:R}
 (h:pz rd fn first caps k=aa q)(hs:aS U H F w ob n):∃e,k e=aa q/\dZ P U H F w ρ ob n ⟨aa d, .makeFunc fn first caps,ty,pos,aft,ae⟩ e:=by
 unfold pz at h;split at h
 case h_2=>cases h
 rename_i f hf;split at h
 case h_2=>cases h
 rename_i cs vA
 have Vt:first= #[]:=by rw[<-apF (xs:=first),hf]
 subst Vt
 have e:caps.map (ev ρ)=(caps.toList.map (ev ρ)).toArray:=by rw[<-List.map_toArray,apF]
 exact⟨_,h,cP hs (v:= .func (.func f) #[] (caps.toList.map (ev ρ)).toArray) (by simp[execOp,Instr.makeFunc,e]) ⟨_,rfl,BY jN vA⟩⟩
noncomputable def uK{R:Type}{P:Program}(E:Env P)(rd:Operand->Option aM)(objs:List (Nat×(Nat×Th)))(n:Nat)(callee:Callee)(args:Array Operand)(AL:Array TypeId)(k:gw->Option R):Option R:=
 match callee with
 | .builtin .len=>match args.toList,AL.toList with
   |[x],[t]=>match rd x with
    |some D=>match LM E.T (find objs) t D with
     |some D'=>k {dst:=D'}
     |none=>ae
    |none=>ae
   |_,_=>ae
 | .builtin .append=>match args.toList,AL.toList with
   |[x,y],[t,t']=>bif aoL t t' then(match rd x with
    |some X=>match rd y with
     |some Y=>qQ E.T (find objs) n t X Y k
     |none=>ae
    |none=>ae)else ae
   |_,_=>ae
 | .builtin .max=>match args.toList,AL.toList with
   |[x,y],[_,_]=>match rd x with
    |some X=>match rd y with
     |some Y=>match yB af X Y with
      |some D=>k {dst:=D}
      |none=>ae
     |none=>ae
    |none=>ae
   |_,_=>ae
 | .builtin .min=>match args.toList,AL.toList with
   |[x,y],[_,_]=>match rd x with
    |some X=>match rd y with
     |some Y=>match yB ag X Y with
      |some D=>k {dst:=D}
      |none=>ae
     |none=>ae
    |none=>ae
   |_,_=>ae
 | .value g=>BV E.tab rd objs n g args.toList k
 | .invoke x name=>tX E.T E.tab rd objs n x name args.toList k
 |_=>ae
noncomputable def Sk{R:Type}{P:Program}(E:Env P)(rd:Operand->Option aM)(objs:List (Nat×(Nat×Th)))(n:Nat)(dst:Option Nat)(op:Op)(k:gw->Option R):Option R:=
 match dst with
 |none=>match op with
  | .store t x y=>match rd x with
    |some X=>match rd y with
     |some Y=>tV E.T (find objs) n t X Y k
     |none=>ae
    |none=>ae
  | .call c=>uK E rd objs n c.callee c.args c.argTypes k
  | .mapUpdate t m x y=>match rd m with
    |some M=>match rd x with
     |some X=>match rd y with
      |some Y=>oD E.T (find objs) n t M X Y k
      |none=>ae
     |none=>ae
    |none=>ae
  |_=>ae
 |some _=>match op with
  | .move x=>match rd x with
    |some D=>k {dst:=D}
    |none=>ae
  | .assign x=>match rd x with
    |some D=>k {dst:=D}
    |none=>ae
  | .pick c x y=>match rd c with
    |some C=>match asBool C with
     |some b=>match(if b=af then rd x else rd y)with
      |some D=>k {dst:=D}
      |none=>ae
     |none=>ae
    |none=>ae
  | .alloc t=>wS E.T n t k
  | .box t x=>match rd x with
    |some X=>LL n t X k
    |none=>ae
  | .build t ps=>wU E.T rd t ps k
  | .buildSlice t m ps=>yE E.deep E.T rd (find objs) n t m ps k
  | .load t x=>match rd x with
    |some X=>sT E.T (find objs) n t X k
    |none=>ae
  | .nilCheck x=>match rd x with
    |some (.ptr o p off)=>k {dst:= .ptr o p off}
    |some (.elem o s r i z p off)=>k {dst:= .elem o s r i z p off}
    |some (.dlm o d i p off)=>k {dst:= .dlm o d i p off}
    |some (.at r z)=>k {dst:= .at r z}
    |_=>ae
  | .binOp o t x y _=>match rd x with
    |some X=>match rd y with
     |some Y=>LU E.T (find objs) o t (Ye y) X Y k
     |none=>ae
    |none=>ae
  | .unOp o _ x=>match rd x with
    |some X=>match eUn o X with
     |some D=>k {dst:=D}
     |none=>ae
    |none=>ae
  | .convert s t x=>match rd x with
    |some X=>match OB E.T s t X with
     |some D=>k {dst:=D}
     |none=>ae
    |none=>ae
  | .makeSlice t a b=>match rd a with
    |some A=>match asInt A with
     |some (_,i)=>match rd b with
      |some B=>match asInt B with
       |some (_,j)=>zp E.deep E.T n t (sR a b) i j k
       |none=>ae
      |none=>ae
     |none=>ae
    |none=>ae
  | .slice t x lo hi ae=>match rd x with
    |some X=>wV E.drop E.T rd (find objs) n t X lo hi k
    |none=>ae
  | .fieldAddr t x f=>match rd x with
    |some X=>match Hy E.T t f X with
     |some D=>k {dst:=D}
     |none=>ae
    |none=>ae
  | .field t x f=>match rd x with
    |some X=>match CQ E.T t f X with
     |some D=>k {dst:=D}
     |none=>ae
    |none=>ae
  | .indexAddr t x y=>match rd x with
    |some X=>match rd y with
     |some Y=>match asInt Y with
      |some (_,i)=>wP E.T (find objs) t X i k
      |none=>ae
     |none=>ae
    |none=>ae
  | .index t x y=>match rd x with
    |some X=>match rd y with
     |some Y=>match asInt Y with
      |some (_,i)=>tR E.T (find objs) t X i k
      |none=>ae
     |none=>ae
    |none=>ae
  | .extract x i=>match rd x with
    |some X=>match zh X i with
     |some D=>k {dst:=D}
     |none=>ae
    |none=>ae
  | .call c=>uK E rd objs n c.callee c.args c.argTypes k
  | .makeFunc fn first caps=>pz rd fn first caps k
  | .makeMap t ae=>qP E.deep E.T n t k
  | .lookup t m x ok=>match rd m with
    |some M=>match rd x with
     |some X=>sU E.T (find objs) n t ok M X k
     |none=>ae
    |none=>ae
  | .makeInterface t x=>match rd x with
    |some X=>L9 E.T t X k
    |none=>ae
  | .typeAssert x _ t ok=>match rd x with
    |some X=>tW E.T t ok X k
    |none=>ae
  |_=>ae
section
variable {P:Program} {ρ:Nat->Value} {w w':World} {H H':aR} {F F':Nat->Prop} {U:Nat->Prop} {n:Nat} {R:Type}
variable {ty:TypeId} {pos:String} {aft:Array Edge} {dst:Option Nat} {d:Nat}
theorem gA{α:Type}{a:Array α}{l:List α}(h:a.toList=l):a=l.toArray:=by grind
theorem O2(E:Env P){rd:Operand->Option aM}(jN:∀x d,rd x=aa d->aN H F w d (ev ρ x)){objs:List (Nat×(Nat×Th))}{c:Call}{k:gw->Option R}{q:R}
 (h:uK E rd objs n c.callee c.args c.argTypes k=aa q)(hs:aS U H F w (find objs) n):∃e,k e=aa q/\dZ P U H F w ρ (find objs) n ⟨aa d, .call c,ty,pos,aft,ae⟩ e:=by
 obtain⟨callee,args,AL⟩:=c;simp only at h;unfold uK at h;split at h
 .split at h
  case h_2=>cases h
  rename_i x t ha ht;obtain rfl:=gA ha;obtain rfl:=gA ht;split at h
  case h_2=>cases h
  rename_i D hD;split at h
  case h_2=>cases h
  rename_i D' RG;exact⟨_,h,JC E.T RG hs (jN _ _ hD)⟩
 .split at h
  case h_2=>cases h
  rename_i x y t t' ha ht;obtain rfl:=gA ha;obtain rfl:=gA ht;obtain⟨hb,h'⟩:=bo h;clear h;obtain rfl:=beq_true hb;split at h'
  case h_2=>cases h'
  rename_i X hX;split at h'
  case h_2=>cases h'
  rename_i Y hY;exact ET E.T h' hs (jN _ _ hX) (jN _ _ hY)
 .split at h
  case h_2=>cases h
  rename_i x y t t' ha ht;obtain rfl:=gA ha;obtain rfl:=gA ht
  grind [zi]
 .split at h
  case h_2=>cases h
  rename_i x y t t' ha ht;obtain rfl:=gA ha;obtain rfl:=gA ht
  grind [zi]
 .exact Fa E.ok jN h hs
 .exact zB E.T E.ok jN h hs
 .cases h
def Sl:Callee->Bool
 | .value _=>af
 | .invoke .. =>af
 |_=>ag
theorem A7(E:Env P){rd:Operand->Option aM}(jN:∀x d,rd x=aa d->aN H F w d (ev ρ x)){objs:List (Nat×(Nat×Th))}{c:Call}{k:gw->Option R}{q:R}(hc:Sl c.callee=af)
 (h:uK E rd objs n c.callee c.args c.argTypes k=aa q)(hs:aS U H F w (find objs) n):∃e,k e=aa q/\dZ P U H F w ρ (find objs) n ⟨ae, .call c,ty,pos,aft,ae⟩ e:=by
 obtain⟨callee,args,AL⟩:=c;simp only at h hc
 cases callee with
 |value g=>exact Fa E.ok jN h hs
 |invoke x name=>exact zB E.T E.ok jN h hs
 |builtin b=>cases hc
end
section
variable {P:Program} {ρ:Nat->Value} {w w':World} {H H':aR} {F F':Nat->Prop} {U:Nat->Prop} {n:Nat} {R:Type}
variable {ty:TypeId} {pos:String} {aft:Array Edge} {dst:Option Nat} {d:Nat}
theorem Mc{c x y:Operand}{b:Bool}{D:aM}{ob:Nat->Option (Nat×Th)}(hs:aS U H F w ob n)(hc:ev ρ c= .bool b)(hx:aN H F w D (ev ρ (if b=af then x else y))):dZ P U H F w ρ ob n ⟨aa d, .pick c x y,ty,pos,aft,ae⟩ {dst:=D}:=by
 cases b with
 |true=>exact bm hs (yP hc rfl) hx
 |false=>exact bm hs (yc hc rfl) hx
theorem O4(E:Env P){rd:Operand->Option aM}(jN:∀x d,rd x=aa d->aN H F w d (ev ρ x)){objs:List (Nat×(Nat×Th))}{op:Op}{k:gw->Option R}{q:R}
 (BZ:dst=ae->∀c,op= .call c->Sl c.callee=af)(h:Sk E rd objs n dst op k=aa q)(hs:aS U H F w (find objs) n):∃e,k e=aa q/\dZ P U H F w ρ (find objs) n ⟨dst,op,ty,pos,aft,ae⟩ e:=by
 cases dst with
 |none=>
  unfold Sk at h;simp only at h;split at h
  .split at h
   case h_2=>cases h
   rename_i X hX;split at h
   case h_2=>cases h
   rename_i Y hY;exact HL E.T h hs (jN _ _ hX) (jN _ _ hY)
  .rename_i c;exact A7 E jN (BZ rfl c rfl) h hs
  .split at h
   case h_2=>cases h
   rename_i M hM;split at h
   case h_2=>cases h
   rename_i X hX;split at h
   case h_2=>cases h
   rename_i Y hY;exact zq E.T h hs (jN _ _ hM) (jN _ _ hX) (jN _ _ hY)
  .cases h
 |some d=>
  unfold Sk at h;simp only at h;split at h
  .grind [LV]
  .grind [EI]
  .split at h
   case h_2=>cases h
   rename_i C hC;split at h
   case h_2=>cases h
   rename_i b hb;split at h
   case h_2=>cases h
   rename_i D hD;refine⟨_,h,Mc hs (qM hb (jN _ _ hC)) ?_⟩
   grind
  .exact LK E.T h hs
  .split at h
   case h_2=>cases h
   rename_i X hX;exact RQ h hs (jN _ _ hX)
  .exact LP E.T jN h hs
  .exact HM E.deep E.T jN h hs
  .split at h
   case h_2=>cases h
   rename_i X hX;exact L3 E.T h hs (jN _ _ hX)
  .split at h
   .rename_i o p off hX;obtain⟨b,h1,h2⟩:=jN _ _ hX;exact⟨_,h,cP hs (v:= .pointer (aa ⟨b,off,ae⟩)) (by simp[execOp,h2]) ⟨b,h1,rfl⟩⟩
   .rename_i o s r i z p off hX;have hd:=jN _ _ hX;obtain⟨g,o0,q,T,m,cap,l,_,_,_,_,h2⟩:=id hd;exact⟨_,h,cP hs (v:= .pointer (aa ⟨g,o0+q*r.size+off,ae⟩)) (by simp[execOp,h2]) (by rw[<-h2];exact hd)⟩
   .rename_i o d i p off hX;have hd:=jN _ _ hX;obtain⟨g,o0,q,m,cap,_,_,h2⟩:=id hd;exact⟨_,h,cP hs (v:= .pointer (aa ⟨g,o0+q*d.low.size+off,ae⟩)) (by simp[execOp,h2]) (by rw[<-h2];exact hd)⟩
   .rename_i r z hX;have hd:=jN _ _ hX;obtain⟨b,off,h2,_⟩:=id hd;exact⟨_,h,cP hs (v:= .pointer (aa ⟨b,off,ae⟩)) (by simp[execOp,h2]) (by rw[<-h2];exact hd)⟩
   .cases h
  .split at h
   case h_2=>cases h
   rename_i X hX;split at h
   case h_2=>cases h
   rename_i Y hY;exact RV E.T h hs (jN _ _ hX) (jN _ _ hY)
  .grind [Vg]
  .split at h
   case h_2=>cases h
   rename_i X hX;split at h
   case h_2=>cases h
   rename_i D hD;exact⟨_,h,OC E.T hD hs (jN _ _ hX)⟩
  .split at h
   case h_2=>cases h
   rename_i A hA;split at h
   case h_2=>cases h
   rename_i i hi;split at h
   case h_2=>cases h
   rename_i B hB;split at h
   case h_2=>cases h
   rename_i j hj;exact L2 E.deep E.T h hs (ke hi (jN _ _ hA)) (ke hj (jN _ _ hB))
  .split at h
   case h_2=>cases h
   rename_i X hX;exact LS E.drop E.T jN h hs (jN _ _ hX)
  .split at h
   case h_2=>cases h
   rename_i X hX;split at h
   case h_2=>cases h
   rename_i D hD;exact⟨_,h,LF E.T hD hs (jN _ _ hX)⟩
  .split at h
   case h_2=>cases h
   rename_i X hX;split at h
   case h_2=>cases h
   rename_i D hD;exact⟨_,h,HE E.T hD hs (jN _ _ hX)⟩
  .split at h
   case h_2=>cases h
   rename_i X hX;split at h
   case h_2=>cases h
   rename_i Y hY;split at h
   case h_2=>cases h
   rename_i i hi;exact LG E.T h hs (jN _ _ hX) (ke hi (jN _ _ hY))
  .split at h
   case h_2=>cases h
   rename_i X hX;split at h
   case h_2=>cases h
   rename_i Y hY;split at h
   case h_2=>cases h
   rename_i k' i hi;exact HF E.T h hs (jN _ _ hX) (ke hi (jN _ _ hY))
  .grind [EH]
  .exact O2 E jN h hs
  .exact C6 jN h hs
  .exact C1 E.deep E.T h hs
  .split at h
   case h_2=>cases h
   rename_i M hM;split at h
   case h_2=>cases h
   rename_i X hX;exact ER E.T h hs (jN _ _ hM) (jN _ _ hX)
  .split at h
   case h_2=>cases h
   rename_i X hX;exact Sj E.T h hs (jN _ _ hX)
  .split at h
   case h_2=>cases h
   rename_i X hX;exact HZ E.T h hs (jN _ _ hX)
  .cases h
end
def sX(rd:Operand->Option aM)(x:Operand):List Nat:=
 match rd x with
 |some (.val _ t)=>t.owns
 |_=>[]
def C7(rd:Operand->Option aM)(x:Operand):List Nat:=
 match rd x with
 |some (.val _ (.view o _ _ _))=>[o]
 |_=>[]
def JW(rd:Operand->Option aM):List Operand->List Nat
 |[]=>[]
 |x::xs=>sX rd x++JW rd xs
def xd:Operand->Bool
 | .const (.slice ae 0 0)=>af
 |_=>ag
def JX(rd:Operand->Option aM):Op->List Nat
 | .store _ x y=>match rd x with
   |some (.elem ..)=>sX rd y
   |_=>[]
 | .buildSlice _ _ ps=>JW rd (ps.toList.map (·.2))
 | .binOp .eql _ x y _=>bif xd y then[]else sX rd x++sX rd y
 | .binOp .neq _ x y _=>bif xd y then[]else sX rd x++sX rd y
 | .slice _ x _ _ _=>C7 rd x
 | .indexAddr _ x _=>C7 rd x
 | .call c=>match c.callee,c.args.toList with
   | .builtin .append,[_,y]=>C7 rd y
   |_,_=>[]
 | .mapUpdate _ _ _ y=>sX rd y
 |_=>[]
def Fc(nt:Nat):Option Nat->Bool
 |some d=>aps d nt
 |none=>af
def fnB(dst:Option Nat)(op:Op):Bool:=
 match dst with
 |some _=>af
 |none=>match op with
  | .call c=>Sl c.callee
  |_=>af
open Classical in
noncomputable def zC{α:Type}(a b:Option α):Option α:=if a=b then a else ae
theorem Vu{α:Type}{a b:Option α}{q:α}(h:zC a b=aa q):a=aa q:=by
 grind [zC]
theorem Vv{α:Type}{a b:Option α}{q:α}(h:zC a b=aa q):b=aa q:=by
 grind [zC]
def O5{P:Program}(T:bU P)(rd:Operand->Option aM)(ob:Nat->Option (Nat×Th)):Op->Option (Bool×Nat)
 | .binOp o t x y _=>match o with
   | .eql=>bif xd y then(match find T.und t with
     |some (.slice _)=>match rd x with
      |some X=>match yi ob X with
       |some (.read _ l)=>aa (ag,l.length)
       |some (.own _ _ _ _ l)=>aa (ag,l.length)
       |_=>ae
      |none=>ae
     |_=>ae)else ae
   | .neq=>bif xd y then(match find T.und t with
     |some (.slice _)=>match rd x with
      |some X=>match yi ob X with
       |some (.read _ l)=>aa (af,l.length)
       |some (.own _ _ _ _ l)=>aa (af,l.length)
       |_=>ae
      |none=>ae
     |_=>ae)else ae
   |_=>ae
 |_=>ae
def Uq(objs:List (Nat×(Nat×Th))):Option aM->Bool
 |some (.val ag (.own o))=>match find objs o with
  |some (_, .dmap ..)=>af
  |_=>ag
 |_=>ag
def O6(rd:Operand->Option aM)(objs:List (Nat×(Nat×Th))):Op->List Nat
 | .mapUpdate t m x y=>bif Uq objs (rd m)then[]else JX rd (.mapUpdate t m x y)
 | .lookup t m x ag=>bif Uq objs (rd m)then sX rd m else[]
 |op=>JX rd op
def vc{P:Program}(E:Env P)(rd:Operand->Option aM)(objs:List (Nat×(Nat×Th)))(op:Op):List Nat:=
 match E.deep,op with
 |true, .buildSlice .. =>[]
 |_,_=>O6 rd objs op
noncomputable def zD(st:State)(o:Nat):State:=
 match Ul (find st.objs) st.nxt o with
 |some e=>st.apply ae e
 |none=>st
noncomputable def xK(st:State):List Nat->State
 |[]=>st
 |o::os=>xK (zD st o) os
def Ur:List (Nat×(Nat×Th))->Bool
 |[]=>ag
 |(_,(_, .deep _ _ _ (aa _)))::_=>af
 |(_,(_, .dmap _ _ _ _ _ (aa _)))::_=>af
 |_::l=>Ur l
noncomputable def sv(st:State):State:=
 match Ur st.objs with
 |true=>xK (xK st (st.objs.map (·.1))) (st.objs.map (·.1))
 |false=>st
def YJ:Op->Bool
 | .call c=>Sl c.callee
 |_=>ag
def C8(o:Nat):List (Nat×(Nat×Th))->Bool
 |[]=>ag
 |(_,(_, .deep _ _ _ (aa h)))::l=>aoL h.o o||C8 o l
 |(_,(_, .dmap _ _ _ _ _ (aa h)))::l=>aoL h.2 o||C8 o l
 |_::l=>C8 o l
def Sm(st:State)(x:Operand):Bool:=
 match Ny st.aH x with
 |some (.val _ (.own o))=>C8 o st.objs
 |_=>ag
def O7(st:State):Op->Bool
 | .call c=>c.args.toList.any (Sm st)
 |_=>ag
noncomputable def JY{R:Type}{P:Program}(E:Env P)(dst:Option Nat)(op:Op)(st:State)(k:State->Option R):Option R:=
 match gz st.objs (vc E (Ny st.aH) st.objs op)with
 |some br=>match O5 E.T (Ny st.aH) (find br) op with
  |some (b,m)=>match dst with
   |some d=>if aoL m 0=af then zC (k (State.apply {st with objs:=br} (aa d) {dst:=fB af})) (k (State.apply {st with objs:=br} (aa d) {dst:=fB ag}))
     else k (State.apply {st with objs:=br} (aa d) {dst:=fB b})
   |none=>ae
  |none=>bif fnB dst op then Sk E (Ny st.aH) br st.nxt dst op (λe=>k (State.apply {st with objs:=br} dst e))else ae
 |none=>ae
noncomputable def zE{R:Type}{P:Program}(E:Env P)(dst:Option Nat)(op:Op)(st:State)(k:State->Option R):Option R:=
 match E.deep&&YJ op&& !O7 st op with
 |true=>JY E dst op (sv st) k
 |false=>JY E dst op st k
def JZ(all:Array Oper)(j:Nat):Option Nat:=(all[j]?).bind (·.dst)
def State.put(st:State)(dst:Option Nat)(d:aM):State:=
 match dst with
 |some t=>{st with aH:=(t,d)::st.aH}
 |none=>st
def zF(dst:Option Nat)(kn:List (Nat×Bool)):List (Nat×Bool):=
 match dst with
 |some d=>del [d] kn
 |none=>kn
noncomputable def runs{R:Type}{P:Program}(E:Env P)(nt:Nat)(all:Array Oper):List Oper->List (Nat×Bool)->State->(State->Option R)->Option R
 |[],_,st,k=>k st
 |o::os,kn,st,k=>bif Fc nt o.dst then(match o.guard with
  |none=>zE E o.dst o.op st (λcM=>runs E nt all os (zF o.dst kn) cM k)
  |some (j,b)=>match JZ all j with
   |none=>ae
   |some g=>bif aps g nt then(match find kn g with
    |some v=>bif (bif v then b else !b)then zE E o.dst o.op st (λcM=>runs E nt all os (zF o.dst kn) cM k)else runs E nt all os (zF o.dst kn) (st.put o.dst .undef) k
    |none=>match find st.aH g with
     |some .undef=>runs E nt all os (zF o.dst kn) (st.put o.dst .undef) k
     |some d=>match asBool d with
      |some t=>if t=af then
        (bif b then zE E o.dst o.op (st.put (aa g) (fB af)) (λcM=>runs E nt all os (zF o.dst ((g,af)::kn)) cM k)
          else runs E nt all os (zF o.dst ((g,af)::kn)) ((st.put (aa g) (fB af)).put o.dst .undef) k)
       else
        (bif b then runs E nt all os (zF o.dst ((g,ag)::kn)) ((st.put (aa g) (fB ag)).put o.dst .undef) k
          else zE E o.dst o.op (st.put (aa g) (fB ag)) (λcM=>runs E nt all os (zF o.dst ((g,ag)::kn)) cM k))
      |none=>ae
     |none=>ae)else ae)else ae
section
variable {P:Program} {nt:Nat} {ops:Array Oper} {K:(Nat->Value)->World->Prop} {rest:List Oper} {R:Type}
variable {ρ:Nat->Value} {w w0:World} {H:aR} {F F0 G:Nat->Prop}
abbrev UU(G:Nat->Prop)(w0:World):Nat->Prop:=λk=>w0.heap.size<=k\/G k
theorem OM.oU{H':aR}{F':Nat->Prop}{w':World}{g:Nat->Prop}(hg:OM G w0 F0 w F)(he:Rb H F w H' F' w' g)(hu:∀k,g k->UU G w0 k):OM G w0 F0 w' F':=by
 have pS:=hg.ext.size;refine⟨⟨he.ext.os.trans hg.ext.os,he.ext.tape.trans hg.ext.tape,he.ext.output.trans hg.ext.output,Nat.le_trans pS he.ext.size,λk hk hn=>?_⟩,λb hb=>he.le b (hg.le b hb),λb hb=>?_⟩
 .rw[he.ext.block k (by omega) λh=>?_]
  .exact hg.ext.block k hk hn
  grind
 .rcases he.grow b hb with h1|h1|h1
  .exact hg.new b h1
  all_goals grind
structure dw(G:Nat->Prop)(w0:World)(F0:Nat->Prop)(H:aR)(F:Nat->Prop)(w:World)(ρ:Nat->Value)(st:State):Prop where
 sat:Sat (UU G w0) H F w ρ st
 glob:OM G w0 F0 w F
theorem dk.Fe{H':aR}{F':Nat->Prop}{w':World}{g:Nat->Prop}(he:Rb H F w H' F' w' g)(hF:∀b,F b->b<w.heap.size)(hg:∀k,g k->¬F k):dk H F w H' F' w':=⟨he.lJ,he.step hF hg⟩
theorem dw.yf{st:State}{os:List Nat}{br:List (Nat×(Nat×Th))}(h:dw G w0 F0 H F w ρ st)(hf:gz st.objs os=aa br):
 ∃F',dw G w0 F0 H F' w ρ {st with objs:=br}/\dk H F w H F' w:=by
 obtain⟨F',a1,a2,a3⟩:=qR hf h.sat.ob
 have lm:Step F w F' w:=λb hb=>⟨a2 b hb,rfl⟩
 refine⟨F',⟨⟨λt d hd=>(h.sat.slot t d hd).keep (aR.le.refl H) lm,a1,h.sat.all⟩,⟨h.glob.ext,λb hb=>a2 b (h.glob.le b hb),λb hb=>?_⟩⟩,⟨aR.le.refl H,lm⟩⟩
 rcases a3 b hb with h1|h1
 .exact h.glob.new b h1
 .exact .inr (h.sat.ob.jE b h1)
theorem Ic{P:Program}{ρ:Nat->Value}{w:World}{o:BinOp}(gx:o= .eql\/o= .neq){t u e:TypeId}{x y:Operand}{d:Nat}{ty:TypeId}{pos:String}{aft:Array Edge}(hu:P.underlying t=aa (.slice e)){A:Option Addr}{m c:Nat}(hx:ev ρ x= .slice A m c)(hy:ev ρ y= .slice ae 0 0):
 (execOp (ev ρ) ⟨aa d, .binOp o t x y u,ty,pos,aft,ae⟩).run P w= .ok (.value (.bool (bif decide (o= .eql)then A.isNone else !A.isNone))) w:=by
 have hm:Op.maxDepth=9999+1:=rfl
 have he:(Op.equal t (.slice A m c) (.slice ae 0 0)).run P w= .ok A.isNone w:=by
  unfold Op.equal;rw[hm];unfold Op.equalIn;rw[ao9,run_underlying hu]
  cases A<;>rfl
 rcases gx with rfl|rfl
 .simp[execOp,eqGuard,binOp,hx,hy,he]
 .simp[execOp,eqGuard,binOp,hx,hy,he]
theorem O8{P:Program}(T:bU P){U:Nat->Prop}{H:aR}{F:Nat->Prop}{w:World}{ρ:Nat->Value}{n:Nat}{ob:Nat->Option (Nat×Th)}{rd:Operand->Option aM}(jN:∀x d,rd x=aa d->aN H F w d (ev ρ x))(hs:aS U H F w ob n){op:Op}{b:Bool}{m:Nat}(h:O5 T rd ob op=aa (b,m)){d:Nat}{ty:TypeId}{pos:String}{aft:Array Edge}:
 ∃r:Bool,(m≠0->r=b)/\(execOp (ev ρ) ⟨aa d,op,ty,pos,aft,ae⟩).run P w= .ok (.value (.bool r)) w:=by
 have isn:∀{y:Operand},xd y=af->ev ρ y= .slice ae 0 0:=by
  intro y hy;unfold xd at hy;split at hy
  .rfl
  .cases hy
 have key:∀{k:Ot}{v:Value},RN U H F w ob v k->∀m,(match k with| .read _ l=>l.length=m| .own _ _ _ _ l=>l.length=m|_=>False)->∃A n c,v= .slice A n c/\(m≠0->A.isNone=ag):=by
  intro k v hk m hm
  cases k with
  |read r l=>
   obtain⟨A,cap,hv,_,_,h3⟩:=hk;simp only[ap5,and_true]at hv;refine⟨A,_,cap,hv,λh0=>?_⟩;obtain⟨b,off,es,rfl,_⟩:=h3 0 (by dsimp only at hm;omega);rfl
  |own o s T r l=>
   obtain⟨xs,hx,_⟩:=hk.2.2.2
   rcases hx.2 with⟨rfl,h0⟩|⟨g,o0,cap,cur,rfl,_⟩
   all_goals grind
  |nil=>exact hm.elim
  |view o s r m=>exact hm.elim
  |deep=>exact hm.elim
 unfold O5 at h;split at h
 case h_2=>cases h
 rename_i o t x y u;split at h
 case h_3=>cases h
 all_goals
  obtain⟨hy,h⟩:=bo h;split at h
  case h_2=>cases h
  rename_i e hu;have hu:=T.und_ok _ _ hu;split at h
  case h_2=>cases h
  rename_i X hX;split at h
  case h_3=>cases h
  all_goals
   rename_i iP;obtain⟨rfl,rfl⟩:=Prod.mk.inj (aoB h);obtain⟨A,n',c,hv,hA⟩:=key (kM hs iP (jN _ _ hX)) _ rfl;refine⟨_,λh0=>?_,Ic (by grind) hu hv (isn hy)⟩;rw[hA h0];rfl
theorem dw.zD{st:State}(h:dw G w0 F0 H F w ρ st)(o:Nat):∃H' F',dw G w0 F0 H' F' w ρ (zD st o)/\dk H F w H' F' w:=by
 unfold Go.Proofs.YtfjgcenlllgonaaGreatDoor.zD;split
 .rename_i e he;obtain⟨H',F',hp⟩:=HN h.sat.ob he;have hs:=h.sat.apply (d:=ae) hp;exact⟨H',F',⟨hs,h.glob.oU hp.oU h.sat.ob.jE⟩,dk.Fe hp.oU h.sat.ob.lt h.sat.ob.jX⟩
 .exact⟨H,F,h,dk.refl H F w⟩
theorem dw.xK:{os:List Nat}->{st:State}->{H:aR}->{F:Nat->Prop}->dw G w0 F0 H F w ρ st->∃H' F',dw G w0 F0 H' F' w ρ (xK st os)/\dk H F w H' F' w
 |[],_,H,F,h=>⟨H,F,h,dk.refl H F w⟩
 |o::os,st,H,F,h=>by
  obtain⟨H1,F1,h1,k1⟩:=h.zD o;obtain⟨H2,F2,h2,k2⟩:=dw.xK (os:=os) h1;exact⟨H2,F2,h2,k1.trans k2⟩
theorem dw.sv{st:State}(h:dw G w0 F0 H F w ρ st):∃H' F',dw G w0 F0 H' F' w ρ (sv st)/\dk H F w H' F' w:=by
 unfold Go.Proofs.YtfjgcenlllgonaaGreatDoor.sv;split
 case h_2=>exact⟨H,F,h,dk.refl H F w⟩
 obtain⟨H1,F1,h1,k1⟩:=h.xK (os:=st.objs.map (·.1));obtain⟨H2,F2,h2,k2⟩:=h1.xK (os:=st.objs.map (·.1));exact⟨H2,F2,h2,k1.trans k2⟩
theorem Ff{E:Env P}{dst:Option Nat}{op:Op}{ty:TypeId}{pos:String}{aft:Array Edge}{st:State}{k:State->Option R}{q:R}(h:JY E dst op st k=aa q)(hd:Fc nt dst=af)(hh:dw G w0 F0 H F w ρ st)
 (hk:∀cM H' F' w' cX,k cM=aa q->dw G w0 F0 H' F' w' cX cM->dk H F w H' F' w'->(∀t,dst≠aa t->cX t=ρ t)->wpS P nt ops K rest cX w'):wpS P nt ops K (⟨dst,op,ty,pos,aft,ae⟩::rest) ρ w:=by
 unfold JY at h;split at h
 case h_2=>cases h
 rename_i br A4;obtain⟨F1,uz,Md⟩:=hh.yf A4;split at h
 .rename_i b m hn;split at h
  case h_2=>cases h
  rename_i d;obtain⟨r,hr,cD⟩:=O8 E.T (ρ:=ρ) (d:=d) (ty:=ty) (pos:=pos) (aft:=aft) (λx d hx=>yX uz.sat.ob.gl uz.sat.slot x d hx) uz.sat.ob hn
  have XM:k (State.apply {st with objs:=br} (aa d) {dst:=fB r})=aa q:=by
   split at h
   .cases r with
    |true=>exact Vu h
    |false=>exact Vv h
   .simp_all
  have Pa:dZ P (UU G w0) H F1 w ρ (find br) st.nxt ⟨aa d,op,ty,pos,aft,ae⟩ {dst:=fB r}:=cP uz.sat.ob cD (bq.jZ ..)
  refine Es Pa (λd' Hd=>by rw[Hd]at hd;exact hd) λv w' ⟨H',F',hp⟩=>?_
  have hs:=uz.sat.apply (d:=aa d) hp
  refine hk _ H' F' w' _ XM ⟨hs,uz.glob.oU hp.oU uz.sat.ob.jE⟩ (Md.trans (dk.Fe hp.oU uz.sat.ob.lt uz.sat.ob.jX)) λt ht=>?_
  show Ho ρ d v t=ρ t
  rw[sO,ai (λe=>ht (by rw[e]))]
 obtain⟨BZ,h'⟩:=bo h;clear h;obtain⟨e,he,Pa⟩:=O4 (ρ:=ρ) (ty:=ty) (pos:=pos) (aft:=aft) E (λx d hx=>yX uz.sat.ob.gl uz.sat.slot x d hx) (λhn c hc=>by subst hn;subst hc;exact BZ) h' uz.sat.ob
 refine Es Pa (λd Hd=>by rw[Hd]at hd;exact hd) λv w' ⟨H',F',hp⟩=>?_
 have hs:=uz.sat.apply (d:=dst) hp
 refine hk _ H' F' w' _ he ⟨hs,uz.glob.oU hp.oU uz.sat.ob.jE⟩ (Md.trans (dk.Fe hp.oU uz.sat.ob.lt uz.sat.ob.jX)) λt ht=>?_
 cases dst with
 |none=>rfl
 |some d=>
  show Ho ρ d v t=ρ t
  rw[sO,ai (λe=>ht (by rw[e]))]
theorem Pb{E:Env P}{dst:Option Nat}{op:Op}{ty:TypeId}{pos:String}{aft:Array Edge}{st:State}{k:State->Option R}{q:R}(h:zE E dst op st k=aa q)(hd:Fc nt dst=af)(hh:dw G w0 F0 H F w ρ st)
 (hk:∀cM H' F' w' cX,k cM=aa q->dw G w0 F0 H' F' w' cX cM->dk H F w H' F' w'->(∀t,dst≠aa t->cX t=ρ t)->wpS P nt ops K rest cX w'):wpS P nt ops K (⟨dst,op,ty,pos,aft,ae⟩::rest) ρ w:=by
 unfold zE at h;split at h
 .obtain⟨H1,F1,h1,k1⟩:=hh.sv
  exact Ff h hd h1 λcM H' F' w' cX a b c d=>hk cM H' F' w' cX a b (k1.trans c) d
 .exact Ff h hd hh hk
theorem dw.put{st:State}{dst:Option Nat}{d:aM}{v:Value}(h:dw G w0 F0 H F w ρ st)(hd:aN H F w d v):dw G w0 F0 H F w (yg ρ dst v) (st.put dst d):=by
 refine⟨⟨λt q hq=>?_,?_,by cases dst<;>exact h.sat.all⟩,h.glob⟩
 .cases dst with
  |none=>exact h.sat.slot t q hq
  |some s=>
   have uH:find ((s,d)::st.aH) t=aa q:=hq;rw[bp]at uH
   show aN H F w q (Ho ρ s v t)
   rw[sO];by_cases e:s=t
   .grind
   .rw[ai e]at uH;rw[ai (Ne.symm e)];exact h.sat.slot t q uH
 .cases dst<;>exact h.sat.ob
theorem dw.lit{st:State}{g:Nat}{d:aM}(h:dw G w0 F0 H F w ρ st)(hd:aN H F w d (ρ g)):dw G w0 F0 H F w ρ (st.put (aa g) d):=by
 refine⟨⟨λt q hq=>?_,h.sat.ob,h.sat.all⟩,h.glob⟩;have uH:find ((g,d)::st.aH) t=aa q:=hq;rw[bp]at uH;split at uH
 .grind
 .exact h.sat.slot t q uH
def vT(ρ:Nat->Value)(kn:List (Nat×Bool)):Prop:=∀g b,find kn g=aa b->ρ g= .bool b
theorem vT.del{cX:Nat->Value}{dst:Option Nat}{kn:List (Nat×Bool)}(h:vT ρ kn)(Sp:∀t,dst≠aa t->cX t=ρ t):vT cX (zF dst kn):=by
 intro g b hg
 cases dst with
 |none=>rw[Sp g (by simp)];exact h g b hg
 |some d=>
  obtain⟨h1,h2⟩:=jW.1 hg;rw[Sp g (λe=>h1 (by simp[aoB e]))];exact h g b h2
theorem vT.cons{kn:List (Nat×Bool)}{g:Nat}{b:Bool}(h:vT ρ kn)(hb:ρ g= .bool b):vT ρ ((g,b)::kn):=by
 intro g' b' hg;rw[bp]at hg;split at hg
 .grind
 .exact h g' b' hg
theorem tY{dst:Option Nat}{v:Value}{t:Nat}(h:dst≠aa t):yg ρ dst v t=ρ t:=by
 cases dst with
 |none=>rfl
 |some d=>
  show Ho ρ d v t=ρ t
  grind [sO]
theorem C9{E:Env P}{q:R}:{l:List Oper}->{kn:List (Nat×Bool)}->{st:State}->{k:State->Option R}->{H:aR}->{F:Nat->Prop}->{w:World}->{ρ:Nat->Value}->runs E nt ops l kn st k=aa q->vT ρ kn->dw G w0 F0 H F w ρ st->
 (∀cM H' F' w' cX,k cM=aa q->dw G w0 F0 H' F' w' cX cM->dk H F w H' F' w'->(∀t,(∀o∈l,o.dst≠aa t)->cX t=ρ t)->K cX w')->wpS P nt ops K l ρ w
 |[],kn,st,k,H,F,w,ρ,h,_,hh,hk=>RA (hk st H F w ρ h hh (dk.refl H F w) λ_ _=>rfl)
 |o::l,kn,st,k,H,F,w,ρ,h,A8,hh,hk=>by
  unfold runs at h;obtain⟨hd,h'⟩:=bo h;clear h
  have hdb:∀d,o.dst=aa d->aps d nt=af:=λd e=>by rw[e]at hd;exact hd
  have on:∀{qU:State}{Vw:List (Nat×Bool)},zE E o.dst o.op qU (λcM=>runs E nt ops l (zF o.dst Vw) cM k)=aa q->vT ρ Vw->dw G w0 F0 H F w ρ qU->wpS P nt ops K (⟨o.dst,o.op,o.type,o.pos,o.after,ae⟩::l) ρ w:=by
   intro qU Vw hs Pd uz
   refine Pb hs hd uz λcM H' F' w' cX e1 e2 e3 e4=>?_
   refine C9 e1 (Pd.del e4) e2 λPe H2 F2 w2 ρ2 f1 f2 f3 f4=>?_
   exact hk Pe H2 F2 w2 ρ2 f1 f2 (e3.trans f3) (by grind)
  have off:∀{qU:State}{Vw:List (Nat×Bool)},runs E nt ops l (zF o.dst Vw) (qU.put o.dst .undef) k=aa q->vT ρ Vw->dw G w0 F0 H F w ρ qU->wpS P nt ops K l (yg ρ o.dst undef) w:=by
   intro qU Vw hs Pd uz
   refine C9 hs (Pd.del λt ht=>tY ht) (uz.put rfl) λPe H2 F2 w2 ρ2 f1 f2 f3 f4=>?_
   exact hk Pe H2 F2 w2 ρ2 f1 f2 f3 λt ht=>(f4 t λo' py=>ht o' (by simp[py])).trans (tY (ht o (by simp)))
  obtain⟨dst,op,ty,pos,aft,guard⟩:=o;simp only at h' on off hdb;split at h'
  .exact on h' A8 hh
  .rename_i j b;split at h'
   case h_1=>cases h'
   rename_i g Us;obtain⟨Ut,h⟩:=bo h';clear h'
   have wOn:ρ g= .bool b->wpS P nt ops K (⟨dst,op,ty,pos,aft,ae⟩::l) ρ w->wpS P nt ops K (⟨dst,op,ty,pos,aft,aa (j,b)⟩::l) ρ w:=λhb hw=>U3 g Us Ut hb hw
   have aj1:∀b',ρ g= .bool b'->b'≠b->wpS P nt ops K l (yg ρ dst undef) w->wpS P nt ops K (⟨dst,op,ty,pos,aft,aa (j,b)⟩::l) ρ w:=λb' hb dS hw=>by
    cases dst with
    |none=>exact CJ g Us Ut hb dS hw
    |some d=>exact RC g Us Ut hb dS (hdb d rfl) hw
   split at h
   .rename_i v hv;have hgv:=A8 g v hv
    grind
   .split at h
    .rename_i hu;have hgu:ρ g=undef:=hh.sat.slot _ _ hu
     cases dst with
     |none=>exact AR g Us Ut hgu (off h A8 hh)
     |some d=>exact NO g Us Ut hgu (hdb d rfl) (off h A8 hh)
    .rename_i d Hd;split at h
     case h_2=>cases h
     rename_i t ht;have hgt:=qM ht (hh.sat.slot _ _ Hd);split at h
     .rename_i Sq;subst Sq;have uz:dw G w0 F0 H F w ρ (st.put (aa g) (fB af)):=hh.lit (by rw[hgt];exact bq.jZ ..);have Pd:=A8.cons hgt
      grind
     .rename_i Sq
      have Sq:t=ag:=by cases t<;>simp_all
      subst Sq;have uz:dw G w0 F0 H F w ρ (st.put (aa g) (fB ag)):=hh.lit (by rw[hgt];exact bq.jZ ..);have Pd:=A8.cons hgt
      grind
    .cases h
end
end
end Go.Proofs.YtfjgcenlllgonaaGreatDoor
