/- Joined texts: Fn Law Laid Jump Shelf Lays. -/
import Derived.Test.YtmihpkfkbfgigaaGreatDoorU5
import Derived.Scope
import Derived.Test.YtmihpkfkbfgigaaGreatDoorU1
import Derived.ProofKit
import Derived.LaidMore
import Derived.OpenShut
import Derived.Stop.Joined
import Derived.Sort.Grow
import Derived.Lib.SlicesCompact
import Derived.Lib.Bytealg
import Derived.Shelf.Small.Wraps
import Derived.Shelf.Strings.Search3
import Derived.Shelf.Sort.Plain
import Derived.Shelf.Bits.Mul64
import Derived.Shelf.Slices.Turned
import Derived.Ground.Names2Prog
import Derived.Shelf.Slices.CompactI
import Derived.Shelf.Slices.In.SortNone
import Derived.Shelf.Slices.Empties
import Derived.Test.YtmihpkfkbfgigaaGreatDoorProg
section
open _root_.Go.Addr.mk renaming injEq->anx
open _root_.Array renaming toArray_toList->amL
open _root_.Bool renaming and_eq_true->ani
open _root_.List renaming append_nil->amK,getD->amn,getElem?_drop->ami,getElem?_eq_getElem->alV,getElem?_take->amv,length_cons->al9,mem_cons->amg,mem_cons_self->amQ
open _root_.List.cons renaming injEq->amR
open _root_.Nat renaming add_zero->am0,beq->al4,eq_of_beq_eq_true->amN,le_refl->alZ
open _root_.Option renaming isSome_iff_exists->amA,map_eq_some_iff->amY,none_or->am8
open _root_.Option.some renaming inj->alU,injEq->al7
open _root_.Prod.mk renaming inj->ant
open _root_.Go.Result renaming andThen_ok->amJ
open _root_.Go.Sem renaming run_bind->amr
open _root_.Sum renaming inr->amP
open _root_.Go.Value.pointer renaming injEq->anO
open _root_.Go.Value.slice renaming injEq->ano
namespace Go.Proofs.YtmihpkfkbfgigaaGreatDoor
open Go Go.RowKit
inductive Ex where
 |normal
 |exit (id:Nat)
 |ret
 |goto (l:Nat)
def Ex.oj:Ex->Exit
 | .normal=> .normal
 | .exit id=> .exit id
 | .ret=> .ret
 | .goto l=> .goto l
def noGoto{R:Type}(k:Ex->State->Option R):Ex->State->Option R
 | .goto _,_=>none
 |e,st=>k e st
inductive uC where
 |nil
 |two (a b:uC)
 |join (J:JS) (a b:uC)
 |meet (J:JS) (a b:uC)
 |loop (L:JS) (a:uC)
abbrev uC.o(a:uC):uC:= .two .nil a
def uC.l:uC->uC
 | .two a _=>a
 |_=> .nil
def uC.r:uC->uC
 | .two _ b=>b
 |_=> .nil
def ql:List Oper->List Nat
 |[]=>[]
 |o::l=>match o.dst with
  |some d=>d::ql l
  |none=>ql l
def writes:Code->List Nat
 | .region _ ops _=>ql ops.toList
 | .seq a b=>writes a++writes b
 | .cond _ a b=>writes a++writes b
 | .block _ a=>writes a
 | .loop a=>writes a
 | .scope a=>writes a
 |_=>[]
def CG:List Nat->List (Nat×aq)->List (Nat×aq)
 |[],l=>l
 |t::ts,l=>(t, .dead)::CG ts l
def Qo:List (Nat×OS)->List Nat
 |[]=>[]
 |(j,_)::l=>j::Qo l
def Gz(st:State)(J:JS):List (Nat×(Nat×Th)):=del (Qo J.objs++J.drop) st.objs
def behind(st:State)(W:List Nat)(J:JS)(x:cM J.rows):State:=
 {ak:=(dB J.ak (dO _ x)).1++CG W st.ak,objs:=iW st.nxt J.objs (dB J.ak (dO _ x)).2++Gz st J,nxt:=J.nxt}
def EY(st:State)(J:JS)(og:State):Option (cM J.rows):=
 match yP st.nxt (Gz st J) J og.ak og.objs with
 |some (x,_)=>some x
 |none=>none
def LK(ob:Nat->Option (Nat×Th))(n o:Nat):Option eD:=
 match ob o with
 |some (_, .deep T d l none)=>some {dst:= .dead,eat:=[o],make:=[(o,(n, .own T d.row l))]}
 |_=>none
def nC(st:State):List (Nat×OS)->State
 |[]=>st
 |(j, .own _ _)::os=>match LK (find st.objs) st.nxt j with
  |some e=>nC (st.apply none e) os
  |none=>nC st os
 |_::os=>nC st os
def LL(st:State)(t o:Nat)(r:Row):Option State:=
 match find st.objs o with
 |some (_, .box _ t0)=>match fo st.objs t0.owns with
  |some aR=>match find aR o with
   |some (_, .box _ t1)=>match flat (find aR) r t1 with
    |some x=>some (State.apply {st with objs:=aR} (some t) {dst:= .at r x,eat:=[o]})
    |none=>none
   |_=>none
  |none=>none
 |_=>none
noncomputable def AA{R:Type}(st:State)(k:State->Option R):List (Nat×SS)->Option R
 |[]=>k st
 |(t, .at r)::ss=>match find st.ak t with
  |some (.ptr o [] 0)=>match LL st t o r with
   |some cf=>AA cf k ss
   |none=>none
  |some (.dlm o d i [] 0)=>match fo st.objs [o]with
   |some aR=>match find aR o with
    |some (_, .fdeep _ d' l)=>bif al4 d.low.size d'.row.size then(idx l i).bind fun x=>AA {ak:=(t, .at d'.row x)::st.ak,objs:=aR,nxt:=st.nxt} k ss else none
    |_=>none
   |none=>none
  |_=>AA st k ss
 |_::ss=>AA st k ss
noncomputable def carry(st:State)(J:JS)(og:State):Option (cM J.rows):=AA (nC (oX og) J.objs) (EY st J) J.ak
def bE{J R:Type}(m:Option (J⊕R))(k:J->Option R):Option R:=m.bind fun s=>match s with
 | .inl j=>k j
 | .inr r=>some r
noncomputable def exec{P:Program}(E:Env P)(nt N:Nat):Code->{R:Type}->uC->State->(Ex->State->Option R)->Option R
 | .skip,_,_,st,k=>k .normal st
 | .label _,_,_,st,k=>k .normal st
 | .scope x,_,a,st,k=>exec E nt N x a.l st (noGoto k)
 | .goto l,_,_,st,k=>k (.goto l) st
 | .ret,_,_,st,k=>k .ret st
 | .exit id,_,_,st,k=>k (.exit id) st
 | .cond c x y,_,a,st,k=>match JT st.ak c with
   |some D=>match asBool D with
    |some b=>if b=true then exec E nt N x a.l st k else exec E nt N y a.r st k
    |none=>none
   |none=>none
 | .region _ ops draw,_,_,st,k=>bif draw then nB E nt ops ops.toList st [] (k .normal)else runs E nt ops ops.toList [] st (k .normal)
 | .seq x y,R,a,st,k=>match a with
   | .join J a1 a2=>bE (exec E nt N x (R:=cM J.rows⊕R) a1 st (fun e cf=>match e with
       | .normal=>(carry st J cf).map .inl
       |e=>(k e cf).map .inr)) fun j=>exec E nt N y a2 (behind st (writes x) J j) k
   | .meet J a1 a2=>(exec E nt N x (R:=cM J.rows) a1 st (fun e cf=>match e with
       | .normal=>carry st J cf
       |_=>none)).bind fun j=>exec E nt N y a2 (behind st (writes x) J j) k
   |a=>exec E nt N x a.l st (fun e cf=>match e with
     | .normal=>exec E nt N y a.r cf k
     |e=>k e cf)
 | .block id x,R,a,st,k=>match a with
   | .join J a1 _=>bE (exec E nt N x (R:=cM J.rows⊕R) a1 st (fun e cf=>match e with
       | .normal=>(carry st J cf).map .inl
       | .exit i=>bif al4 i id then(carry st J cf).map .inl else(k (.exit i) cf).map .inr
       |e=>(k e cf).map .inr)) fun j=>k .normal (behind st (writes x) J j)
   | .meet J a1 _=>(exec E nt N x (R:=cM J.rows) a1 st (fun e cf=>match e with
       | .normal=>carry st J cf
       | .exit i=>bif al4 i id then carry st J cf else none
       |_=>none)).bind fun j=>k .normal (behind st (writes x) J j)
   |a=>exec E nt N x a.l st (fun e cf=>match e with
     | .exit i=>bif al4 i id then k .normal cf else k (.exit i) cf
     |e=>k e cf)
 | .loop x,R,a,st,k=>match a with
   | .loop L a1=>match carry st L st with
     |some s0=>Loop (S:=cM L.rows) (X:=R) (fun s=>exec E nt N x (R:=cM L.rows⊕R) a1 (behind st (writes x) L s) (fun e cf=>match e with
       | .normal=>(carry st L cf).map .inl
       |e=>(k e cf).map .inr)) N s0
     |none=>none
   |_=>none
 |_,_,_,_,_=>none
section
variable {P:Program} {nt N:Nat} {R:Type}
variable {ρ:Nat->Value} {w w0:World} {H:ay} {F F0 G:Nat->Prop}
theorem EZ{W:List Nat}{l:List (Nat×aq)}{t:Nat}{d:aq}(h:find (CG W l) t=some d):d= .dead\/(t∉W/\find l t=some d):=by
 induction W with
 |nil=>exact .inr ⟨by simp,h⟩
 |cons s W ih=>
  have h':find ((s,aq.dead)::CG W l) t=some d:=h;rw[aG]at h';split at h'
  .exact .inl (alU h').symm
  .rename_i e
   rcases ih h' with h1|⟨h1,h2⟩
   .exact .inl h1
   .exact .inr ⟨by simp[h1,Ne.symm e],h2⟩
theorem IU{st og:State}{W:List Nat}{J:JS}{x:cM J.rows}{H1:ay}{F1:Nat->Prop}{w1:World}{DT:Nat->Value}(h:EY st J og=some x)(hh:cT G w0 F0 H F w ρ st)(o7:cT G w0 F0 H1 F1 w1 DT og)(hk:cO H F w H1 F1 w1)
 (Qe:∀t,t∉W->DT t=ρ t):∃H2 F2,cT G w0 F0 H2 F2 w1 DT (behind st W J x)/\cO H F w H2 F2 w1:=by
 unfold EY at h;split at h
 case h_2=>cases h
 rename_i _ y rest hp;obtain⟨bs,aR⟩:=rest;obtain rfl:=alU h;obtain⟨F2,H2,a1,a2,a3,_,a5,_,a6,a7,a8⟩:=wI (U':=UU G w0) hp hh.sat.ob hh.sat.all hk o7.sat.ob o7.sat.slot
 have fi:Step F1 w1 F2 w1:=fun b hb=>⟨a2 b hb,rfl⟩
 have dh:=a8 o7.sat.ob.new (fun o s t v k _ h2 h3 h4=>by
  obtain⟨v',dM,cx⟩:=a1.obj _ _ _ h2;rw[h3]at dM;obtain rfl:=alU dM
  exact cx.use k h4) (fun o s t v k h2 h3 h4=>by
  have h5:=(iP.1 h2).2;obtain⟨v',dM,cx⟩:=hh.sat.ob.obj _ _ _ h5;rw[hk.jO.val _ _ dM]at h3;obtain rfl:=alU h3
  exact cx.use k (by rwa [hk.jO.sub _ _ cx.con]at h4))
 refine⟨H2,F2,⟨⟨fun t d hd=>?_,dh,a6⟩,⟨o7.glob.ext,fun b hb=>a2 b (o7.glob.le b hb),fun b hb=>?_⟩⟩,⟨a5,fun b hb=>⟨a2 b (hk.step b hb).1,(hk.step b hb).2⟩⟩⟩
 .have yt:find ((dB J.ak (dO J.rows y)).1++CG W st.ak) t=some d:=hd;rw[iO]at yt
  cases hm:find (dB J.ak (dO J.rows y)).1 t with
  |some d'=>
   rw[hm]at yt;obtain rfl:=alU yt;exact a7 t _ hm
  |none=>
   rw[hm,am8]at yt
   rcases EZ yt with rfl|⟨h1,h2⟩
   .trivial
   .rw[Qe t h1]
    exact(hh.sat.slot t d h2).keep a5 fun b hb=>⟨a2 b (hk.step b hb).1,(hk.step b hb).2⟩
 .rcases a3 b hb with h1|h1
  .exact o7.glob.new b h1
  .exact .inr (o7.sat.ob.ir b h1)
theorem IV{U:Nat->Prop}{ob:Nat->Option (Nat×Th)}{n:Nat}(hs:az U H F w ob n){o:Nat}{e:eD}(h:LK ob n o=some e):lH H F w ob n e undef w:=by
 unfold LK at h;split at h
 case h_2=>cases h
 rename_i s T d l dh;obtain rfl:=alU h;obtain⟨v,hv,cx⟩:=hs.obj _ _ _ dh
 obtain⟨lh,Ss,⟨xs,hx,P4⟩,h2,h3,h4⟩:=(show HJ F w T d.low (oC H F w d none) v l (H.sub s)from cx.ok)
 have hn:∀k,H.sub s k->¬F k:=cx.no
 have D9:jV 0 (fun b=>F b\/∃i,i<l.length/\Ss i b) w T d.row v l:=by
  refine⟨fun k hk hF=>?_,xs,?_,fun i hi=>?_⟩
  .rcases hF with hF|⟨i,hi,hm⟩
   .exact hn k (h4.bw k hk) hF
   .exact h4.out i k hi hm hk
  .rw[<-d.size,<-h2];exact hx
  .have gr:i<lh.length:=by omega
   have:=kQ.freeze (h3 i gr hi) (fun k hk=>hn k (h4.part hi k hk)) (P4 i gr);rw[<-d.size]
   exact this.step fun b hb=>⟨hb.imp id fun hb=>⟨i,hi,hb⟩,rfl⟩
 have hf:=hs.fresh n (alZ _) (by omega)
 have lF:∀k,H.sub s k->cE H ob [o] k:=fun k hk=>⟨o,by simp,s,_,v,dh,hv,hk⟩
 refine⟨H.bN n (.own T d.row l),fun b=>F b\/∃i,i<l.length/\Ss i b,⟨⟨fun _ _ h=>h,fun s' t h=>?_,fun s' t h=>?_⟩,⟨rfl,rfl,rfl,alZ _,fun _ _ _=>rfl⟩,fun _ h=> .inl h,fun b hb=>?_,fun b hb=>?_⟩,fun m hm=>⟨id,fun h=>?_⟩,trivial,⟨fun o' s' q hq=>?_,fun o1 o2 s1 s2 q1 q2 u1 u2 bR g1 g2=>?_⟩,fun o' h=>?_⟩
 .have:s'≠n:=fun e=>by rw[e,hf.2]at h;cases h
  simp[ay.bN,this,h]
 .rfl
 .rcases hb with hb|⟨i,hi,hb⟩
  .exact .inl hb
  .exact .inr (.inr (lF b (h4.part hi b hb)))
 .rcases hb with hb|⟨i,hi,hb⟩
  .exact hs.lt b hb
  .exact cx.lt b (h4.part hi b hb)
 .simp[ay.bN,show m≠n from by omega,h]
 .obtain⟨rfl,e⟩:=b9 hq;obtain⟨rfl,rfl⟩:=ant e;refine⟨v,hv,cx.one,by simp[ay.bN,Th.base],D9.2,fun k hk=>⟨D9.1 k hk,cx.lt k (h4.bw k hk), .inr (lF k (h4.bw k hk))⟩⟩
 .exact absurd ((b9 g1).1.trans (b9 g2).1.symm) bR
 .left
  obtain⟨y,hy⟩:=amA.1 h;rw[(b9 hy).1];simp
theorem cT.nC:(os:List (Nat×OS))->{st:State}->{H:ay}->{F:Nat->Prop}->cT G w0 F0 H F w ρ st->∃H' F',cT G w0 F0 H' F' w ρ (nC st os)/\cO H F w H' F' w
 |[],_,H,F,h=>⟨H,F,h,cO.refl H F w⟩
 |(j, .own _ _)::os,st,H,F,h=>by
  unfold Go.Proofs.YtmihpkfkbfgigaaGreatDoor.nC;split
  .rename_i e he;obtain⟨H',F',hp⟩:=IV h.sat.ob he;have hs:=h.sat.apply (d:=none) hp;obtain⟨H2,F2,h2,k2⟩:=cT.nC os (st:=st.apply none e) ⟨hs,h.glob.mA hp.mA h.sat.ob.ir⟩;exact⟨H2,F2,h2,(cO.Cp hp.mA h.sat.ob.lt h.sat.ob.iR).trans k2⟩
  .exact cT.nC os h
 |(_, .box ..)::os,_,_,_,h=>cT.nC os h
 |(_, .map ..)::os,_,_,_,h=>cT.nC os h
 |(_, .deep ..)::os,_,_,_,h=>cT.nC os h
 |(_, .dmap ..)::os,_,_,_,h=>cT.nC os h
theorem cT.LL{st cf:State}{t o:Nat}{r:Row}(h:cT G w0 F0 H F w ρ st)(gJ:find st.ak t=some (.ptr o [] 0))(hb:LL st t o r=some cf):∃F',cT G w0 F0 H F' w ρ cf/\cO H F w H F' w:=by
 unfold Go.Proofs.YtmihpkfkbfgigaaGreatDoor.LL at hb;split at hb
 case h_2=>cases hb
 split at hb
 case h_2=>cases hb
 rename_i aR xZ;obtain⟨F1,h1,k1⟩:=h.td xZ;split at hb
 case h_2=>cases hb
 rename_i s1 T1 t1 dh;split at hb
 case h_2=>cases hb
 rename_i x hx;obtain rfl:=alU hb;obtain⟨v,hv,cx⟩:=h1.sat.ob.obj _ _ _ dh
 obtain⟨b,es,rfl,hhp,hold⟩:=(show∃b es,v= .pointer (some ⟨b,0,none⟩)/\w.heap[b]? =some (.cells es.toArray T1 (0,0))/\Holds H F1 w t1 es from cx.ok)
 obtain⟨b',dM,mI⟩:=h.sat.slot t _ gJ;rw[hv]at dM;simp only[al7,anO,anx,and_true]at dM;subst dM;have xY:=jo h1.sat.ob hx hold
 have hg:cE H (find aR) [o] b:=⟨o,by simp,s1,_,_,dh,hv,rfl⟩
 have fi:Step F1 w (fun k=>F1 k\/k=b) w:=fun k hk=>⟨.inl hk,rfl⟩
 have hp:m6 H F1 w (find aR) st.nxt {dst:= .at r x,eat:=[o]} (ρ t) w H (fun k=>F1 k\/k=b):=
  ⟨⟨ay.le.refl H,⟨rfl,rfl,rfl,alZ _,fun _ _ _=>rfl⟩,fun _ hk=> .inl hk,fun k hk=>hk.elim .inl fun e=> .inr (.inr (e▸hg)),fun k hk=>hk.elim (h1.sat.ob.lt k) fun e=>by rw[e];exact cx.lt b rfl⟩,fun m _=>⟨id,id⟩,
    ⟨b,0,mI, .inr rfl,es,xY.length,fun j u hu=>by
      show w.cell? ⟨b,0+j,none⟩=some u
      simp[World.cell?,hhp,hu],xY.step fi⟩,⟨fun _ _ _ h=>(by cases h),fun _ _ _ _ _ _ _ _ _ h=>(by cases h)⟩,fun _ h=>(by cases h)⟩
 have hs:=h1.sat.apply (d:=some t) hp
 have Y1:uW ρ (some t) (ρ t)=ρ:=by
  funext u
  show D5 ρ t (ρ t) u=ρ u
  rw[pg];split
  .rename_i e;rw[e]
  .rfl
 rw[Y1]at hs;exact⟨_,⟨hs,h1.glob.mA hp.mA h1.sat.ob.ir⟩,k1.trans (cO.Cp hp.mA h1.sat.ob.lt h1.sat.ob.iR)⟩
theorem cT.AA{R:Type}{k:State->Option R}{q:R}:(ss:List (Nat×SS))->{st:State}->{H:ay}->{F:Nat->Prop}->cT G w0 F0 H F w ρ st->AA st k ss=some q->∃LA H' F',k LA=some q/\cT G w0 F0 H' F' w ρ LA/\cO H F w H' F' w
 |[],st,H,F,h,hk=>⟨st,H,F,hk,h,cO.refl H F w⟩
 |(t, .at r)::ss,st,H,F,h,hk=>by
  unfold Go.Proofs.YtmihpkfkbfgigaaGreatDoor.AA at hk;split at hk
  .rename_i o gJ;split at hk
   case h_2=>cases hk
   rename_i cf hbx;obtain⟨F1,h1,k1⟩:=h.LL gJ hbx;obtain⟨LA,H2,F2,g1,g2,g3⟩:=cT.AA ss h1 hk;exact⟨LA,H2,F2,g1,g2,k1.trans g3⟩
  .rename_i o d i gJ;split at hk
   case h_2=>cases hk
   rename_i aR xZ;obtain⟨F1,h1,k1⟩:=h.td xZ;split at hk
   case h_2=>cases hk
   rename_i s1 T1 d' l dh;obtain⟨mE,hk⟩:=aK hk;have mE:=amN mE;obtain⟨x,hx,hkx⟩:=bind_some hk;obtain⟨j,rfl,hj,DU⟩:=gx hx;obtain⟨g,o0,q0,m,cap,hv,hq,mI⟩:=h1.sat.slot t _ gJ;obtain⟨v,dM,cx⟩:=h1.sat.ob.obj _ _ _ dh;rw[hv]at dM;obtain rfl:=alU dM
   obtain⟨A,Ks,e1,_,_,rN⟩:=(show cR F1 w (.slice d'.row) [_] l from cx.ok)
   obtain⟨b,off,es,hA,hFb,hlen,vH,xY⟩:=rN j hj;simp only[amR,ano,and_true]at e1;obtain⟨e1,_,_⟩:=e1;rw[<-e1]at hA;simp only[al7,anx,and_true]at hA;obtain⟨rfl,rfl⟩:=hA
   have oS:al H F1 w (.at d'.row x) (ρ t):=by
    have e:j=q0:=by omega
    subst e;refine⟨g,o0+j*d.low.size+0,mI,hFb,es,hlen,fun jj u hu=>?_,by rw[<-DU];exact xY⟩;rw[mE];exact vH jj u hu
   obtain⟨LA,H2,F2,g1,g2,g3⟩:=cT.AA ss (st:={ak:=(t, .at d'.row x)::st.ak,objs:=aR,nxt:=st.nxt}) ⟨⟨fun t' q' nq=>by
    have nq:find ((t,aq.at d'.row x)::st.ak) t'=some q':=nq;rw[aG]at nq;by_cases e:t=t'
    .subst e;rw[if_pos rfl]at nq;obtain rfl:=alU nq;exact oS
    .rw[if_neg e]at nq
     exact h1.sat.slot t' q' nq,h1.sat.ob,h1.sat.all⟩,h1.glob⟩ hkx
   exact⟨LA,H2,F2,g1,g2,k1.trans g3⟩
  .exact cT.AA ss h hk
 |(_, .val ..)::ss,_,_,_,h,hk=>cT.AA ss h hk
 |(_, .ptr ..)::ss,_,_,_,h,hk=>cT.AA ss h hk
 |(_, .undef)::ss,_,_,_,h,hk=>cT.AA ss h hk
 |(_, .fn ..)::ss,_,_,_,h,hk=>cT.AA ss h hk
 |(_, .ifc ..)::ss,_,_,_,h,hk=>cT.AA ss h hk
theorem mh{st og:State}{W:List Nat}{J:JS}{x:cM J.rows}{H1:ay}{F1:Nat->Prop}{w1:World}{DT:Nat->Value}(h:carry st J og=some x)(hh:cT G w0 F0 H F w ρ st)(o7:cT G w0 F0 H1 F1 w1 DT og)(hk:cO H F w H1 F1 w1)
 (Qe:∀t,t∉W->DT t=ρ t):∃H2 F2,cT G w0 F0 H2 F2 w1 DT (behind st W J x)/\cO H F w H2 F2 w1:=by
 obtain⟨H1',F1',Y2,dZ⟩:=o7.oX;obtain⟨H2',F2',Y3,yw⟩:=Y2.nC J.objs;unfold carry at h;obtain⟨LA,H3',F3',h3,hh3,Rx⟩:=Y3.AA J.ak h;exact IU h3 hh hh3 (((hk.trans dZ).trans yw).trans Rx) Qe
theorem uD{l:List Oper}{o:Oper}{t:Nat}(ho:o∈l)(hd:o.dst=some t):t∈ql l:=by
 induction l with
 |nil=>cases ho
 |cons p l ih=>
  rcases amg.1 ho with rfl|h
  .unfold ql;rw[hd];exact amQ
  .unfold ql;split
   .exact List.mem_cons_of_mem _ (ih h)
   .exact ih h
structure IW(G:Nat->Prop)(w0:World)(F0:Nat->Prop)(W:List Nat)(H:ay)(F:Nat->Prop)(w:World)(ρ:Nat->Value)(H':ay)(F':Nat->Prop)(w':World)(cw:Nat->Value)(cf:State):Prop where
 here:cT G w0 F0 H' F' w' cw cf
 keeps:cO H F w H' F' w'
 same:∀t,t∉W->cw t=ρ t
theorem map_inl{α β:Type}{o:Option α}{f:α->β}{r:β}(h:o.map f=some r):∃x,o=some x/\f x=r:=amY.1 h
theorem gO{E:Env P}:(c:Code)->{R:Type}->{q:R}->{a:uC}->{st:State}->{k:Ex->State->Option R}->{H:ay}->{F:Nat->Prop}->{w:World}->{ρ:Nat->Value}->{Q:Exit->(Nat->Value)->World->Prop}->
 exec E nt N c a st k=some q->cT G w0 F0 H F w ρ st->
 (∀e cf H' F' w' cw,k e cf=some q->IW G w0 F0 (writes c) H F w ρ H' F' w' cw cf->Q e.oj cw w')->q6 P nt c Q ρ w
 | .skip,R,q,a,st,k,H,F,w,ρ,Q,h,hh,hk=>J5 (hk .normal st H F w ρ h ⟨hh,cO.refl H F w,fun _ _=>rfl⟩)
 | .ret,R,q,a,st,k,H,F,w,ρ,Q,h,hh,hk=>NO (hk .ret st H F w ρ h ⟨hh,cO.refl H F w,fun _ _=>rfl⟩)
 | .exit id,R,q,a,st,k,H,F,w,ρ,Q,h,hh,hk=>J6 (hk (.exit id) st H F w ρ h ⟨hh,cO.refl H F w,fun _ _=>rfl⟩)
 | .cond c x y,R,q,a,st,k,H,F,w,ρ,Q,h,hh,hk=>by
   unfold exec at h;split at h
   case h_2=>cases h
   rename_i D hD;split at h
   case h_2=>cases h
   rename_i b hb;have hv:=nZ hb (vT hh.sat.ob.gl hh.sat.slot _ _ hD);split at h
   .rename_i e;subst e;exact J7 hv (gO x h hh fun e cf H' F' w' cw h1 h2=>hk e cf H' F' w' cw h1 ⟨h2.here,h2.keeps,fun t ht=>h2.same t fun hm=>ht (by simp[writes,hm])⟩)
   .rename_i e
    have e:b=false:=by cases b<;>simp_all
    subst e;exact Hp hv (gO y h hh fun e cf H' F' w' cw h1 h2=>hk e cf H' F' w' cw h1 ⟨h2.here,h2.keeps,fun t ht=>h2.same t fun hm=>ht (by simp[writes,hm])⟩)
 | .region id ops draw,R,q,a,st,k,H,F,w,ρ,Q,h,hh,hk=>by
   unfold exec at h
   cases draw with
   |true=>
    rw[cond_true]at h
    exact OJ E.mix h hh fun cf H' F' w' cw h1 h2 h3 h4=>hk .normal cf H' F' w' cw h1 ⟨h2,h3,fun t ht=>h4 t fun o ho e=>ht (uD ho e)⟩
   |false=>
    rw[cond_false]at h
    have:=Aj (K:=fun ρ w=>Q .normal ρ w) (ops:=ops) (nt:=nt) h (fun _ _ h=>by cases h) hh fun cf H' F' w' cw h1 h2 h3 h4=>hk .normal cf H' F' w' cw h1 ⟨h2,h3,fun t ht=>h4 t fun o ho e=>ht (uD ho e)⟩
    have h2:=D7 (id:=id) (l:=ops.toList) (P:=P) (n:=nt) (Q:=Q) (ρ:=ρ) (w:=w) (by rw[amL];exact this);rw[amL]at h2;exact h2
 | .seq x y,R,q,a,st,k,H,F,w,ρ,Q,h,hh,hk=>by
   have fin:∀{H1:ay}{F1:Nat->Prop}{w1:World}{DT:Nat->Value}{og:State}{a2:uC},exec E nt N y a2 og k=some q->cT G w0 F0 H1 F1 w1 DT og->cO H F w H1 F1 w1->(∀t,t∉writes x->DT t=ρ t)->q6 P nt y Q DT w1:=by
    intro H1 F1 w1 DT og a2 g1 g2 g3 g4
    exact gO y g1 g2 fun e cf H' F' w' cw h1 h2=>hk e cf H' F' w' cw h1 ⟨h2.here,g3.trans h2.keeps,fun t ht=>(h2.same t fun hm=>ht (by simp[writes,hm])).trans (g4 t fun hm=>ht (by simp[writes,hm]))⟩
   have out:∀{e:Ex}{cf:State}{H':ay}{F':Nat->Prop}{w':World}{cw:Nat->Value},k e cf=some q->IW G w0 F0 (writes x) H F w ρ H' F' w' cw cf->Q e.oj cw w':=by
    intro e cf H' F' w' cw g1 g2;exact hk e cf H' F' w' cw g1 ⟨g2.here,g2.keeps,fun t ht=>g2.same t fun hm=>ht (by simp[writes,hm])⟩
   unfold exec at h;split at h
   .rename_i J a1 a2;unfold bE at h;obtain⟨s,hs,h⟩:=bind_some h;refine p4 (gO x hs hh fun e cf H' F' w' cw h1 h2=>?_)
    cases e with
    |normal=>
     obtain⟨j,hj,rfl⟩:=map_inl h1;obtain⟨H2,F2,g1,g2⟩:=mh (W:=writes x) hj hh h2.here h2.keeps h2.same;exact fin h g1 g2 h2.same
    |exit id=>
     obtain⟨r,hr,rfl⟩:=map_inl h1;obtain rfl:=alU h;exact out hr h2
    |ret=>
     obtain⟨r,hr,rfl⟩:=map_inl h1;obtain rfl:=alU h;exact out hr h2
    |goto l=>
     obtain⟨r,hr,rfl⟩:=map_inl h1;obtain rfl:=alU h;exact out hr h2
   .rename_i J a1 a2;obtain⟨s,hs,h⟩:=bind_some h;refine p4 (gO x hs hh fun e cf H' F' w' cw h1 h2=>?_)
    cases e with
    |normal=>
     obtain⟨H2,F2,g1,g2⟩:=mh (W:=writes x) h1 hh h2.here h2.keeps h2.same;exact fin h g1 g2 h2.same
    |exit id=>cases h1
    |ret=>cases h1
    |goto l=>cases h1
   .refine p4 (gO x h hh fun e cf H' F' w' cw h1 h2=>?_)
    cases e with
    |normal=>exact fin h1 h2.here h2.keeps h2.same
    |exit id=>exact out h1 h2
    |ret=>exact out h1 h2
    |goto l=>exact out h1 h2
 | .block id x,R,q,a,st,k,H,F,w,ρ,Q,h,hh,hk=>by
   have hw:writes (.block id x)=writes x:=rfl;rw[hw]at hk
   have Y4:∀{e:Ex}{cw:Nat->Value}{w':World},(match e with| .exit i=>if i=id then Q .normal cw w' else Q (.exit i) cw w'|e=>Q e.oj cw w')->Tr id Q e.oj cw w':=by
    intro e cw w' g
    cases e with
    |normal=>exact g
    |ret=>exact g
    |goto l=>exact g
    |exit i=>
     by_cases e:i=id
     .subst e;simp only[if_pos]at g;exact Kw g
     .simp only[if_neg e]at g;refine HE ?_ g
      cases hb:al4 i id with
      |false=>rfl
      |true=>exact absurd (beq_true hb) e
   have E0:∀{i:Nat},i≠id->al4 i id=false:=fun{i}e=>by
    cases hb:al4 i id with
    |false=>rfl
    |true=>exact absurd (beq_true hb) e
   unfold exec at h;split at h
   .rename_i J a1 a2;unfold bE at h;obtain⟨s,hs,h⟩:=bind_some h;refine sZ (gO x hs hh fun e cf H' F' w' cw h1 h2=>Y4 ?_)
    have inn:(carry st J cf).map Sum.inl=some s->Q .normal cw w':=fun h1=>by
     obtain⟨j,hj,rfl⟩:=map_inl h1;obtain⟨H2,F2,g1,g2⟩:=mh (W:=writes x) hj hh h2.here h2.keeps h2.same;exact hk .normal _ H2 F2 w' cw h ⟨g1,g2,h2.same⟩
    have out:∀{e:Ex},(k e cf).map amP=some s->Q e.oj cw w':=fun{e}h1=>by
     obtain⟨r,hr,rfl⟩:=map_inl h1;obtain rfl:=alU h;exact hk e cf H' F' w' cw hr h2
    cases e with
    |normal=>exact inn h1
    |exit i=>
     show if i=id then _ else _
     by_cases e:i=id
     .subst e;rw[if_pos rfl];refine inn ?_;simpa using h1
     .rw[if_neg e];simp only[E0 e,cond_false]at h1;exact out (e:= .exit i) h1
    |ret=>exact out (e:= .ret) h1
    |goto l=>exact out (e:= .goto l) h1
   .rename_i J a1 a2;obtain⟨s,hs,h⟩:=bind_some h;refine sZ (gO x hs hh fun e cf H' F' w' cw h1 h2=>Y4 ?_)
    have inn:carry st J cf=some s->Q .normal cw w':=fun h1=>by
     obtain⟨H2,F2,g1,g2⟩:=mh (W:=writes x) h1 hh h2.here h2.keeps h2.same;exact hk .normal _ H2 F2 w' cw h ⟨g1,g2,h2.same⟩
    cases e with
    |normal=>exact inn h1
    |exit i=>
     show if i=id then _ else _
     by_cases e:i=id
     .subst e;rw[if_pos rfl];refine inn ?_;simpa using h1
     .simp only[E0 e,cond_false]at h1;cases h1
    |ret=>cases h1
    |goto l=>cases h1
   .refine sZ (gO x h hh fun e cf H' F' w' cw h1 h2=>Y4 ?_)
    cases e with
    |normal=>exact hk .normal cf H' F' w' cw h1 h2
    |exit i=>
     show if i=id then _ else _
     by_cases e:i=id
     .subst e;rw[if_pos rfl];refine hk .normal cf H' F' w' cw ?_ h2;simpa using h1
     .rw[if_neg e];simp only[E0 e,cond_false]at h1;exact hk (.exit i) cf H' F' w' cw h1 h2
    |ret=>exact hk .ret cf H' F' w' cw h1 h2
    |goto l=>exact hk (.goto l) cf H' F' w' cw h1 h2
 | .loop x,R,q,a,st,k,H,F,w,ρ,Q,h,hh,hk=>by
   have hw:writes (.loop x)=writes x:=rfl;rw[hw]at hk;unfold exec at h;split at h
   case h_2=>cases h
   rename_i L a1;split at h
   case h_2=>cases h
   rename_i s0 It;refine J8 (fun s cw w'=>∃H' F',cT G w0 F0 H' F' w' cw (behind st (writes x) L s)/\cO H F w H' F' w'/\∀t,t∉writes x->cw t=ρ t) h ?_ ?_
   .obtain⟨H2,F2,g1,g2⟩:=mh (W:=writes x) It hh hh (cO.refl H F w) fun _ _=>rfl
    exact⟨H2,F2,g1,g2,fun _ _=>rfl⟩
   .rintro s cw w' y ⟨H',F',g1,g2,g3⟩ hy
    refine gO x hy g1 fun e cf tf BY ur sy h1 h2=>?_
    have sm:∀t,t∉writes x->sy t=ρ t:=fun t ht=>(h2.same t ht).trans (g3 t ht)
    have out:∀{e:Ex},e≠ .normal->(k e cf).map amP=some y->PZ (fun s cw w'=>∃H' F',cT G w0 F0 H' F' w' cw (behind st (writes x) L s)/\cO H F w H' F' w'/\∀t,t∉writes x->cw t=ρ t) Q q y e.oj sy ur:=fun{e}he h1=>by
     obtain⟨r,hr,rfl⟩:=map_inl h1;refine⟨by cases e<;>simp_all[Ex.oj],fun hq=>?_⟩;subst hq;exact hk e cf tf BY ur sy hr ⟨h2.here,g2.trans h2.keeps,sm⟩
    cases e with
    |normal=>
     obtain⟨j,hj,rfl⟩:=map_inl h1;obtain⟨H2,F2,m1,m2⟩:=mh (W:=writes x) hj hh h2.here (g2.trans h2.keeps) sm;exact⟨rfl,H2,F2,m1,m2,sm⟩
    |exit i=>exact out (e:= .exit i) (by simp) h1
    |ret=>exact out (e:= .ret) (by simp) h1
    |goto l=>exact out (e:= .goto l) (by simp) h1
 | .label l,R,q,a,st,k,H,F,w,ρ,Q,h,hh,hk=>fun act hf=>wp_label ⟨ρ,hf,hk .normal st H F w ρ h ⟨hh,cO.refl H F w,fun _ _=>rfl⟩⟩
 | .scope x,R,q,a,st,k,H,F,w,ρ,Q,h,hh,hk=>by
   have h1:=gO (Q:=fun e ρ w=>match e with| .goto _=>False|e=>Q e ρ w) x (show exec E nt N x a.l st (noGoto k)=some q from h) hh fun e cf H' F' w' cw h1 h2=>by
    cases e with
    |goto l=>cases h1
    |_=>exact hk _ cf H' F' w' cw h1 h2
   intro act hf;refine wp_scope_straight (wp_mono (h1 act hf) fun e a' w' ⟨cw,qz,Xu⟩=>?_)
   cases e<;>first
    |exact Xu.elim
    |exact⟨cw,qz,Xu⟩
 | .goto l,R,q,a,st,k,H,F,w,ρ,Q,h,hh,hk=>fun act hf=>wp_goto ⟨ρ,hf,hk (.goto l) st H F w ρ h ⟨hh,cO.refl H F w,fun _ _=>rfl⟩⟩
 | .rangeFunc ..,_,_,_,_,_,_,_,_,_,_,h,_,_=>by cases h
 | .refuse _,_,_,_,_,_,_,_,_,_,_,h,_,_=>by cases h
end
end Go.Proofs.YtmihpkfkbfgigaaGreatDoor
namespace Go.Proofs.YtmihpkfkbfgigaaGreatDoor
open Go Go.RowKit
def AB{P:Program}(T:bg P)(ak:List (Nat×aq))(objs:List (Nat×(Nat×Th)))(t:Nat)(T0:TypeId):Option aq:=
 match find T.und T0 with
 |none=>none
 |some kk=>match find ak t with
  |some (.ptr o p off)=>match find objs o with
   |some (_, .box _ tr)=>match tr.get p with
    |some (s,dV)=>bif al4 dV off&&m9 T T0 kk s.size then some (.val (lE kk) s)else none
    |none=>none
   |_=>none
  |_=>none
def AD{P:Program}(T:bg P)(ak:List (Nat×aq))(objs:List (Nat×(Nat×Th))):List ResultVar->Option (List aq)
 |[]=>some []
 | .tmp t::l=>match find ak t with
   |some d=>match AD T ak objs l with
    |some ds=>some (d::ds)
    |none=>none
   |none=>none
 | .cell t T0::l=>match AB T ak objs t T0 with
   |some d=>match AD T ak objs l with
    |some ds=>some (d::ds)
    |none=>none
   |none=>none
noncomputable def Ry{P:Program}(T:bg P)(rs:List ResultVar)(nb:Nat)(out:JS)(st:State):Option (cM out.rows):=
 match AD T st.ak st.objs rs with
 |some ds=>AA {ak:=iX 0 ds,objs:=(oX st).objs,nxt:=(oX st).nxt} (fun og=>match yP nb [] out og.ak og.objs with
  |some (x,_)=>some x
  |none=>none) out.ak
 |none=>none
def init(inn:JS)(x:cM inn.rows):State:=
 {ak:=(dB inn.ak (dO _ x)).1,objs:=iW 0 inn.objs (dB inn.ak (dO _ x)).2,nxt:=inn.nxt}
noncomputable def Rz{P:Program}(T:bg P)(rs:List ResultVar)(nb:Nat)(out:JS):Ex->State->Option (cM out.rows)
 | .exit _,_=>none
 | .goto _,_=>none
 |_,st=>Ry T rs nb out st
noncomputable def UX{P:Program}(E:Env P)(nt N:Nat)(c:Code)(rs:List ResultVar)(a:uC)(inn out:JS)(x:cM inn.rows):Option (cM out.rows):=
 exec E nt N c a (init inn x) (Rz E.T rs inn.nxt out)
section
variable {P:Program} {ρ:Nat->Value} {w:World} {H:ay} {F:Nat->Prop} {U:Nat->Prop} {n:Nat}
theorem CH(T:bg P){t:TypeId}{kk:JR}(hu:find T.und t=some kk){b off:Nat}{s:Tree}{cs:List Value}(hh:Holds H F w s cs)(hc:∀j u,cs[j]? =some u->w.cell? ⟨b,off+j,none⟩=some u)
 (hz:if lE kk=true then∃r,find T.row t=some r/\r.size=s.size else s.size=1):∃v,(loadVar t ⟨b,off,none⟩).run P w= .ok v w/\aM H F w (lE kk) s v:=by
 obtain⟨dd,xT,yy⟩:=(T.und_ok _ _ hu).agg;have hl:=hh.length
 cases ha:lE kk with
 |true=>
  rw[if_pos ha]at hz;obtain⟨r,hr,JV⟩:=hz;obtain⟨ti,z,h1,_,_,h4,_⟩:=T.row_ok _ _ hr
  have TE:(loadCells ⟨b,off,none⟩ cs.length).run P w= .ok cs.toArray w:=
   run_loadCells_list (P:=P) w ⟨b,off,none⟩ cs (fun j v hv=>by rw[cX];exact hc j v hv)
  refine⟨.agg cs.toArray,?_,cs,hh,rfl,by simp⟩
  have mE:ti.size=cs.length:=by omega
  simp[loadVar,amr,fM xT,yy.trans ha,sizeOf,typeInfo,h1,mE,TE]
 |false=>
  rw[if_neg (by simp[ha])]at hz
  obtain⟨v,rfl⟩:∃v,cs=[v]:=by
   match cs,hl.trans hz with
   |[v],_=>exact⟨v,rfl⟩
  refine⟨v,?_,[v],hh,rfl,fun _=>rfl⟩;have:=hc 0 v rfl;simp only[am0]at this;simp[loadVar,amr,fM xT,yy.trans ha,this,go_sem]
theorem E1(T:bg P){ak:List (Nat×aq)}{objs:List (Nat×(Nat×Th))}{t:Nat}{T0:TypeId}{D:aq}(h:AB T ak objs t T0=some D)(gJ:∀t d,find ak t=some d->al H F w d (ρ t))(hs:az U H F w (find objs) n):
 ∃a v,ρ t= .pointer (some a)/\(loadVar T0 a).run P w= .ok v w/\al H F w D v:=by
 unfold AB at h;split at h
 .cases h
 rename_i kk hu;split at h
 case h_2=>cases h
 rename_i o p off hD;split at h
 case h_2=>cases h
 rename_i s0 T1 tr dh;split at h
 case h_2=>cases h
 rename_i s dV hg;obtain⟨h1,rfl⟩:=m8 h;obtain⟨h1,h3⟩:=di h1;obtain rfl:=beq_true h1;obtain⟨b,hb,e⟩:=gJ _ _ hD;obtain⟨es,hh,P5⟩:=hs.box dh hb;obtain⟨g1,g2⟩:=P5.get hg
 obtain⟨v,hv,nX⟩:=CH (b:=b) (off:=dV) T hu g1 (fun j u hj=>by
  rw[vW hh];rw[amv]at hj;split at hj
  .rwa [ami]at hj
  .cases hj) (kF T h3)
 exact⟨_,v,e,hv,nX⟩
def OK(tmps:Array Value):ResultVar->Sem Value
 | .tmp t=>pure (tmps.getD t undef)
 | .cell a t=>do loadVar t (<-asAddr (tmps.getD a undef))
theorem AE(T:bg P){ak:List (Nat×aq)}{objs:List (Nat×(Nat×Th))}(gJ:∀t d,find ak t=some d->al H F w d (ρ t))(hs:az U H F w (find objs) n){tmps:Array Value}(hf:∀t,tmps.getD t undef=ρ t):
 {rs:List ResultVar}->{ds:List aq}->AD T ak objs rs=some ds->∃vs:List Value,(rs.mapM (OK tmps)).run P w= .ok vs w/\fQ H F w ds vs
 |[],ds,h=>by obtain rfl:=alU h;exact⟨[],by simp,rfl⟩
 | .tmp t::l,ds,h=>by
   unfold AD at h;split at h
   case h_2=>cases h
   rename_i d hd;split at h
   case h_2=>cases h
   rename_i Xs vp;obtain rfl:=alU h;obtain⟨vs,h1,h2⟩:=AE T gJ hs hf vp;refine⟨ρ t::vs,?_,ρ t,vs,rfl,gJ t d hd,h2⟩
   have hm:(OK tmps (.tmp t)).run P w= .ok (ρ t) w:=by rw[<-hf t];rfl
   rw[List.mapM_cons];simp only[amr,hm,Sem.run_pure,amJ,h1]
 | .cell t T0::l,ds,h=>by
   unfold AD at h;split at h
   case h_2=>cases h
   rename_i d hd;split at h
   case h_2=>cases h
   rename_i Xs vp;obtain rfl:=alU h;obtain⟨vs,h1,h2⟩:=AE T gJ hs hf vp;obtain⟨a,v,e1,e2,e3⟩:=E1 T hd gJ hs;refine⟨v::vs,?_,v,vs,rfl,e3,h2⟩;have ha:(asAddr (.pointer (some a))).run P w= .ok a w:=rfl
   have hm:(OK tmps (.cell t T0)).run P w= .ok v w:=by
    show(asAddr (tmps.getD t undef)>>= fun b=>loadVar T0 b).run P w=_
    rw[hf t,e1,amr,ha,amJ,e2]
   rw[List.mapM_cons];simp only[amr,hm,Sem.run_pure,amJ,h1]
theorem E2(T:bg P){fn:Func}{rs:List ResultVar}(JV:fn.results.toList=rs){ak:List (Nat×aq)}{objs:List (Nat×(Nat×Th))}(gJ:∀t d,find ak t=some d->al H F w d (ρ t))(hs:az U H F w (find objs) n){tmps:Array Value}(hf:∀t,tmps.getD t undef=ρ t)
 {ds:List aq}(h:AD T ak objs rs=some ds):∃vs:List Value,(results fn tmps).run P w= .ok (ya vs) w/\fQ H F w ds vs:=by
 obtain⟨vs,h1,h2⟩:=AE T gJ hs hf h;refine⟨vs,?_,h2⟩;have e:fn.results=rs.toArray:=fq JV;have er:results fn tmps=(fn.results.mapM (OK tmps)>>= fun vs=>pure (if h:vs.size=1 then vs[0]else Value.tuple vs)):=rfl;rw[er,e,List.mapM_toArray]
 have:∀vs:List Value,(if h:vs.toArray.size=1 then vs.toArray[0]else Value.tuple vs.toArray)=ya vs:=by
  intro vs
  match vs with
  |[]=>rfl
  |[v]=>rfl
  |a::b::l=>simp[ya]
 simp only[amr,Sem.run_map,h1,amJ,Sem.run_pure,this]
theorem GA:{l:List (Nat×SS)}->{vs:List lA}->{k t:Nat}->{d:aq}->sq k l=true->find (dB l vs).1 t=some d->t<k+l.length
 |[],_,_,_,_,_,h=>by cases h
 |(t0,s)::l,vs,k,t,d,hi,h=>by
  obtain⟨h1,h2⟩:=di hi;have h':find ((t0,(eX s vs).1)::(dB l (eX s vs).2).1) t=some d:=h;rw[aG]at h';have:=beq_true h1;rw[al9];split at h'
  .omega
  .have:=GA h2 h';omega
def Qp(P:Program)(nt:Nat)(c:Code)(run:{R:Type}->State->(Ex->State->Option R)->Option R):Prop:=
 ∀{R:Type}{q:R}{st:State}{k:Ex->State->Option R}{H:ay}{F:Nat->Prop}{w:World}{ρ:Nat->Value}{G:Nat->Prop}{w0:World}{F0:Nat->Prop}{Q:Exit->(Nat->Value)->World->Prop},
  run st k=some q->cT G w0 F0 H F w ρ st->(∀e cf H' F' w' cw,k e cf=some q->IW G w0 F0 (writes c) H F w ρ H' F' w' cw cf->Q e.oj cw w')->q6 P nt c Q ρ w
theorem LM{E:Env P}{f:FuncId}{fn:Func}{c:Code}{rs:List ResultVar}{sg:bp}{run:{R:Type}->State->(Ex->State->Option R)->Option R}(hW:Qp P fn.ntmps c run)(hf:P.funcs[f]? =some fn)(hn:(fn.name== "runtime.NumGoroutine")=false)(hb:fn.body=some c)(JV:fn.results.toList=rs)
 (oB:sq 0 sg.inn.ak=true)(hlen:Nat.ble sg.inn.ak.length fn.ntmps=true)(vO:al4 rs.length sg.out.ak.length=true)
 (Ag:∀x,sg.fn x=run (init sg.inn x) (Rz E.T rs sg.inn.nxt sg.out)):ax P f sg:=by
 refine⟨⟨fn,hf,hn,by rw[hb];rfl⟩,fun x y xR args w H F G FP gJ dh hZ hG=>?_⟩
 have hlen:sg.inn.ak.length<=fn.ntmps:=by simpa using hlen
 have vO:=beq_true vO
 refine(zL (R:=fun v w'=>∃vs,v=ya vs/\vs.length=sg.out.ak.length/\∃H' F',Ext G w w'/\H.le H'/\(∀b,F b->F' b)/\(∀b,F' b->F b\/w.heap.size<=b\/G b)/\
  (∀t d,find (dB sg.out.ak (dO _ y)).1 t=some d->al H' F' w' d (vs.getD t undef))/\
  az (fun k=>w.heap.size<=k\/G k) H' F' w' (find (iW sg.inn.nxt sg.out.objs (dB sg.out.ak (dO _ y)).2)) sg.out.nxt/\jD H' sg.out.nxt) hf hb (by omega) fun ρ Qe=>?_).mono fun e w' ⟨v,he,vs,hv,h1,h2⟩=>⟨vs,by rw[he,hv],h1,h2⟩
 have Y5:∀t,t<args.length->ρ t=args.getD t undef:=fun t ht=>by
  rw[Qe t _ (alV ht)];simp[amn,ht]
 have keys:∀t d,find (dB sg.inn.ak (dO sg.inn.rows x)).1 t=some d->al H F w d (ρ t):=fun t d hd=>by
  rw[Y5 t (by have:=GA oB hd;omega)];exact gJ t d hd
 have hh:cT G w F H F w ρ (init sg.inn x):=⟨⟨keys,dh,hZ⟩,⟨⟨rfl,rfl,rfl,alZ _,fun _ _ _=>rfl⟩,fun _ h=>h,fun _ h=> .inl h⟩⟩
 refine hW ((Ag x).symm.trans xR) hh fun e cf H' F' w' cw h1 h2=>?_
 have main:Ry E.T rs sg.inn.nxt sg.out cf=some y->∀act,Fr fn.ntmps act cw->∃v,(results fn act.tmps).run P w'= .ok v w'/\∃vs,v=ya vs/\vs.length=sg.out.ak.length/\∃H' F',Ext G w w'/\H.le H'/\(∀b,F b->F' b)/\(∀b,F' b->F b\/w.heap.size<=b\/G b)/\
  (∀t d,find (dB sg.out.ak (dO _ y)).1 t=some d->al H' F' w' d (vs.getD t undef))/\
  az (fun k=>w.heap.size<=k\/G k) H' F' w' (find (iW sg.inn.nxt sg.out.objs (dB sg.out.ak (dO _ y)).2)) sg.out.nxt/\jD H' sg.out.nxt:=by
  intro hr act Bu;unfold Ry at hr;split at hr
  case h_2=>cases hr
  rename_i ds vp;obtain⟨vs,g1,g2⟩:=E2 E.T JV h2.here.sat.slot h2.here.sat.ob Bu.get vp;have hdl:=kT g2;refine⟨_,g1,vs,rfl,?_,?_⟩
  .have:∀{rs:List ResultVar}{ds:List aq},AD E.T cf.ak cf.objs rs=some ds->ds.length=rs.length:=by
    intro rs
    induction rs with
    |nil=>intro ds h;obtain rfl:=alU h;rfl
    |cons r l ih=>
     intro ds h
     cases r<;>unfold AD at h<;>split at h<;>try cases h
     all_goals
      split at h
      case h_2=>cases h
      rename_i Xs Y6;obtain rfl:=alU h;simp[ih Y6]
   have:=this vp;omega
  .have It:az (UU G w) H F w (find (del [] [])) sg.inn.nxt:=⟨fun _ _ _ h=>(by cases h),fun _ _ _ _ _ _ _ _ _ h=>(by cases h),dh.fresh,dh.lt,dh.new,dh.gl⟩
   obtain⟨H4,F4,h4,k4⟩:=h2.here.oX;obtain⟨og,H3,F3,hr,h3,k3⟩:=cT.AA (ρ:=fun t=>vs.getD t undef) (st:={ak:=iX 0 ds,objs:=(oX cf).objs,nxt:=(oX cf).nxt}) sg.out.ak ⟨⟨fun t d hd=>al.keep k4.jO k4.step (by simpa using(pu g2 t d hd).2),h4.sat.ob,h4.sat.all⟩,h4.glob⟩ hr;split at hr
   case h_2=>cases hr
   rename_i _ z rest hp;obtain⟨bs,aR⟩:=rest;obtain rfl:=alU hr;obtain⟨F2,H2,a1,a2,a3,_,a5,_,a6,a7,a8⟩:=wI (U':=UU G w) (ns:=[]) (objs0:=[]) (ρ:=fun t=>vs.getD t undef) hp It hZ ((h2.keeps.trans k4).trans k3) h3.sat.ob (fun t d hd=>h3.sat.slot t d hd)
   have uZ:=a8 h3.sat.ob.new (fun o s t v k _ m2 m3 m4=>by
    obtain⟨v',dM,cx⟩:=a1.obj _ _ _ m2;rw[m3]at dM;obtain rfl:=alU dM
    exact cx.use k m4) (fun _ _ _ _ _ h=>by cases h)
   rw[show del [] ([]:List (Nat×(Nat×Th)))=[]from rfl,amK]at uZ;refine⟨H2,F2,h3.glob.ext,a5,fun b hb=>a2 b (h3.glob.le b hb),fun b hb=>?_,a7,uZ,a6⟩
   rcases a3 b hb with m1|m1
   .exact h3.glob.new b m1
   .exact .inr (h3.sat.ob.ir b m1)
 cases e with
 |normal=>exact main h1
 |ret=>exact main h1
 |exit id=>cases h1
 |goto l=>cases h1
theorem UY{E:Env P}{f:FuncId}{fn:Func}{c:Code}{rs:List ResultVar}{N:Nat}{a:uC}{sg:bp}(hf:P.funcs[f]? =some fn)(hn:(fn.name== "runtime.NumGoroutine")=false)(hb:fn.body=some c)(JV:fn.results.toList=rs)
 (oB:sq 0 sg.inn.ak=true)(hlen:Nat.ble sg.inn.ak.length fn.ntmps=true)(vO:al4 rs.length sg.out.ak.length=true)
 (Ag:∀x,sg.fn x=UX E fn.ntmps N c rs a sg.inn sg.out x):ax P f sg:=
 LM (E:=E) (run:=fun st k=>exec E fn.ntmps N c a st k) (fun h hh hk=>gO c h hh hk) hf hn hb JV oB hlen vO Ag
structure CT(P:Program)where
 f:Nat
 sg:bp
 ok:ax P f sg
def ck{P:Program}{f:Nat}{sg:bp}(h:ax P f sg):CT P:=⟨f,sg,h⟩
def CT.tab{P:Program}:List (CT P)->List (Nat×bp)
 |[]=>[]
 |c::l=>(c.f,c.sg)::CT.tab l
theorem CT.AF{P:Program}:{l:List (CT P)}->∀p∈CT.tab l,ax P p.1 p.2
 |[],_,h=>by cases h
 |c::l,p,h=>by
  rcases amg.1 h with rfl|h
  .exact c.ok
  .exact CT.AF p h
def fwB(fn:Func)(sg:bp):Bool:= !(fn.name== "runtime.NumGoroutine")&&fn.body.isSome&&sq 0 sg.inn.ak&&Nat.ble sg.inn.ak.length fn.ntmps&&al4 fn.results.toList.length sg.out.ak.length
theorem fw(E:Env P){f:FuncId}{fn:Func}{N:Nat}{sg:bp}(a:uC)(hf:P.funcs[f]? =some fn)(hc:fwB fn sg=true)
 (Ag:∀x,sg.fn x=UX E fn.ntmps N (fn.body.getD .skip) fn.results.toList a sg.inn sg.out x):ax P f sg:=by
 unfold fwB at hc;simp only[ani,Bool.not_eq_true']at hc;obtain⟨⟨⟨⟨h1,h2⟩,h3⟩,h4⟩,h5⟩:=hc;obtain⟨c,hc⟩:=amA.1 h2;exact UY (E:=E) (N:=N) (a:=a) hf h1 (by rw[hc];rfl) rfl h3 h4 h5 Ag
@[reducible] def SS.l(r:Row):SS:= .val false (.leaf r)
@[reducible] def SS.g(r:Row):SS:= .val true (.leaf r)
theorem vA{f:FuncId}{fn:Func}{sg:bp}(hf:P.funcs[f]? =some fn)(hn:(fn.name== "runtime.NumGoroutine")=false)(hb:fn.body.isNone=false)(Ag:∀x,sg.fn x=none):ax P f sg:=
 ⟨⟨fn,hf,hn,hb⟩,fun x y h=>by rw[Ag x]at h;cases h⟩
abbrev ae:Row:= .int .i64
end
end Go.Proofs.YtmihpkfkbfgigaaGreatDoor
end
section
open _root_.Nat renaming le_refl->alZ
open _root_.Option.some renaming inj->alU
namespace Go.Proofs.YtmihpkfkbfgigaaGreatDoor
open Go Go.RowKit
inductive IX(F:Nat->Prop)(w:World):Nat->List (Nat×SS)->List lA->List Value->Prop where
 |nil {k:Nat}:IX F w k [] [] []
 |cons {k:Nat} {agg:Bool} {r:Row} {x:r.den} {v:Value} {ss:List (Nat×SS)} {ds:List lA} {vs:List Value} (h:aM ⟨fun _=>none,fun _=>none,fun _ _=>False⟩ F w agg (.leaf r x) v) (hs:IX F w (k+1) ss ds vs):IX F w k ((k, .val agg (.leaf r))::ss) (⟨r,x⟩::ds) (v::vs)
theorem IX.ak{F:Nat->Prop}{w:World}{k:Nat}{ss:List (Nat×SS)}{ds:List lA}{vs:List Value}(h:IX F w k ss ds vs):(∀t d,find (dB ss ds).1 t=some d->k<=t/\al ⟨fun _=>none,fun _=>none,fun _ _=>False⟩ F w d (vs.getD (t-k) undef))/\(dB ss ds).2=[]/\vs.length=ss.length:=by
 induction h with
 |nil=>exact⟨fun _ _ h=>(by cases h),rfl,rfl⟩
 | @cons k agg r x v ss ds vs h hs ih=>
   refine⟨fun t d hf=>?_,ih.2.1,by simp[ih.2.2]⟩;have qz:find ((k,aq.val agg (bif r.beq r then Tree.leaf r x else .nil))::(dB ss ds).1) t=some d:=hf;rw[aG]at qz;split at qz
   .rename_i e;subst e;obtain rfl:=alU qz;rw[Row.beq_refl,Nat.sub_self];exact⟨alZ _,h⟩
   .obtain⟨h1,h2⟩:=ih.1 t d qz;refine⟨by omega,?_⟩;rw[show t-k=(t-(k+1))+1 from by omega];simpa using h2
theorem LN(F:Nat->Prop)(w:World)(k:IntKind)(x:Int):aM ⟨fun _=>none,fun _=>none,fun _ _=>False⟩ F w false (.leaf (.int k) x) (.int k x):=aM.nx rfl
theorem uE{F:Nat->Prop}{w:World}{r:Row}{x:r.den}{es:List Value}(h:cR F w r es x):aM ⟨fun _=>none,fun _=>none,fun _ _=>False⟩ F w true (.leaf r x) (.agg es.toArray):=⟨es,h,rfl,by simp⟩
theorem IY{P:Program}{f:FuncId}{inn:JS}{fn:cM inn.rows->Option Bool}(h:ax P f ⟨inn,⟨[(0, .val false (.leaf .bool))],[],[],0⟩,fn⟩){x:cM inn.rows}{y:Bool}(hy:fn x=some y){ds:List lA}(vp:dO inn.rows x=ds){W:World}{vs:List Value}
 (ha:IX (fun b=>b<W.heap.size) W 0 inn.ak ds vs)(ho:inn.objs=[])(hgl:q7 (fun b=>b<W.heap.size) W):Calls P f vs.toArray W fun e W'=>e= .returned (.bool y)/\Below W.heap.size W W':=by
 obtain⟨h1,h2,h3⟩:=ha.ak;subst vp
 refine(h.ok x y hy vs W ⟨fun _=>none,fun _=>none,fun _ _=>False⟩ (fun b=>b<W.heap.size) (fun _=>False) h3 (fun t d hd=>by simpa using(h1 t d hd).2) ?_ (fun _ _=>⟨rfl,rfl⟩) (fun _ h=>h.elim)).mono fun e W' ⟨us,he,Ov,H',F',a1,_,_,_,a5,_⟩=>?_
 .show az _ _ _ W (find (iW 0 inn.objs _)) inn.nxt
  rw[ho];exact⟨fun _ _ _ h=>(by cases h),fun _ _ _ _ _ _ _ _ _ h=>(by cases h),fun _ _ _=>⟨rfl,rfl⟩,fun _ h=>h,fun _ h=> .inl h,hgl⟩
 .refine⟨?_,⟨a1.os,a1.tape,a1.output,a1.size,fun k hk=>a1.block k hk (fun h=>h)⟩⟩
  match us,Ov with
  |[u],_=>
   have:=a5 0 (ec y) rfl;have hu:u= .bool y:=aM.bool (x:=y) this;rw[he,hu];rfl
end Go.Proofs.YtmihpkfkbfgigaaGreatDoor
end
section
open _root_.Array renaming getElem?_eq_some_iff->amU
open _root_.List renaming getElem?_drop->ami,getElem?_eq_getElem->alV,getElem?_map->amD,length_map->amm
open _root_.Nat renaming add_zero->am0
open _root_.Option.some renaming injEq->al7
open _root_.Prod.mk renaming injEq->amZ
namespace Go.Proofs.YtmihpkfkbfgigaaGreatDoor
open Go Go.RowKit
theorem IZ{H:Type}{enc:TypeId×Value->H}{P:Program}{W:World}{base:Nat}{spare:Nat->Bool}{held:Bool}{fuel:Nat}{t e:TypeId}{n:Nat}{k:IntKind}(ht:P.underlying t=some (.array n e))(he:P.underlying e=some (.int k))(hc:P.cellsOf e=1)(TF:P.cellsOf t=n)
 {cs:List Value}{ns:List Int}{q:List MemPlace}(hd:DataW.trod enc P W base spare held fuel t cs=some (.agg (ns.map fun x=> .lit (.int k x)),q)):cs=ns.map fun x=> .int k x:=by
 obtain⟨xs,m,_,hx,hl,hn,rN⟩:=DataW.trod_array ht hd;simp only[amZ,DataW.agg.injEq]at hx
 have hln:ns.length=n:=by rw[<-hn,<-amm (f:=fun x:Int=>(DataW.lit (.int k x):DataW H)),hx.1,amm]
 apply List.ext_getElem?
 intro i;by_cases hi:i<n
 .have h:=rN i hi;rw[hc,Nat.mul_one,alV (by omega:i<xs.length)]at h;obtain⟨z,h1,h2,_⟩:=DataW.trod_int he h
  have h3:(xs.map (·.1))[i]? =some (.lit (.int k z)):=by
   rw[amD,alV (by omega:i<xs.length),h2];rfl
  rw[<-hx.1,amD,alV (by omega:i<ns.length)]at h3;simp only[Option.map_some,al7,DataW.lit.injEq,Lit.int.injEq,true_and]at h3;rw[amD,alV (by omega:i<ns.length),h3]
  have h4:((cs.drop i).take 1)[0]? =some (.int k z):=by rw[h1];rfl
  rw[List.getElem?_take_of_lt (by omega),ami,am0]at h4;exact h4
 .rw[List.getElem?_eq_none (by omega),List.getElem?_eq_none (by simp;omega)]
theorem OL{W:World}{b off:Nat}{v:Value}(h:W.cell? ⟨b,off,none⟩=some v):b<W.heap.size:=by
 unfold World.cell? at h;split at h
 .rename_i hb;exact(amU.1 hb).1
 all_goals simp_all
end Go.Proofs.YtmihpkfkbfgigaaGreatDoor
end
section
open _root_.Nat renaming beq->al4
open _root_.Option.some renaming inj->alU
open _root_.Sum renaming inr->amP
namespace Go.Proofs.YtmihpkfkbfgigaaGreatDoor
open Go Go.RowKit
def RA(l:Nat)(J:(Nat->Value)->World->Prop)(Q:Exit->(Nat->Value)->World->Prop):Exit->(Nat->Value)->World->Prop
 | .goto l',ρ,w=>l'=l/\J ρ w
 |e,ρ,w=>Q e ρ w
def UZ(l:Nat)(J:Act->World->Prop)(Q:Exit->Act->World->Prop):Exit->Act->World->Prop
 | .goto l',a,w=>l'=l/\J a w
 |e,a,w=>Q e a w
theorem yi{P:Program}{a:Act}{w:World}{Q:Exit->Act->World->Prop}{c rest:Code}(l:Nat)(J:Nat->Act->World->Prop)(hf:findLabel c l=some rest)
 (first:c.wp P (UZ l (fun a w=>∃n,J n a w) Q) a w)
 (pass:∀n a w,J n a w->rest.wp P (UZ l (fun a' w'=>∃m,m<n/\J m a' w') Q) a w):(Code.scope c).wp P Q a w:=by
 intro b k cs
 have hg:gotoIn l (.inScope c::k)=some (.code rest:: .inScope c::k):=by simp[gotoIn,hf]
 have key:∀n a w,J n a w->∃e a' w',Q e a' w'/\Arrives P (lone (b.at a (.code rest:: .inScope c::k)) cs w) b k cs e a' w':=by
  intro n
  induction n using Nat.strongRecOn with
  |_ n ih=>
   intro a w hJ;obtain⟨e,tS,tT,hq,tU⟩:=pass n a w hJ b (.inScope c::k) cs
   cases e with
   |normal=>exact⟨.normal,tS,tT,hq,Steps.trans tU (.one step_inScope)⟩
   |exit id=>exact⟨.exit id,tS,tT,hq,fun k' hk=>tU k' (by simp[exitTo,hk])⟩
   |goto l'=>
    obtain⟨rfl,m,aj,Y7⟩:=hq;obtain⟨RB,RC,RD,LO,AG⟩:=ih m aj tS tT Y7;exact⟨RB,RC,RD,LO, .of_steps (tU _ hg) AG⟩
   |ret=>exact⟨_,tS,tT,hq,tU⟩
   |panic ch=>exact⟨_,tS,tT,hq,tU⟩
   |outgrown=>exact⟨_,tS,tT,hq,tU⟩
 obtain⟨e,tS,tT,hq,tU⟩:=first b (.inScope c::k) cs
 cases e with
 |normal=>exact⟨.normal,tS,tT,hq, .head step_scope (Steps.trans tU (.one step_inScope))⟩
 |exit id=>exact⟨.exit id,tS,tT,hq,fun k' hk=> .head step_scope (tU k' (by simp[exitTo,hk]))⟩
 |goto l'=>
  obtain⟨rfl,m,Y7⟩:=hq;obtain⟨RB,RC,RD,LO,AG⟩:=key m tS tT Y7;exact⟨RB,RC,RD,LO, .of_steps (.head step_scope (tU _ hg)) AG⟩
 |ret=>exact⟨_,tS,tT,hq, .of_steps (.one step_scope) tU⟩
 |panic ch=>exact⟨_,tS,tT,hq, .of_steps (.one step_scope) tU⟩
 |outgrown=>exact⟨_,tS,tT,hq, .of_steps (.one step_scope) tU⟩
theorem I0{P:Program}{n:Nat}{Q:Exit->(Nat->Value)->World->Prop}{ρ:Nat->Value}{w:World}{x b:Code}{l:Nat}(J:Nat->(Nat->Value)->World->Prop)(hf:findLabel x l=some (.seq .skip b))
 (first:q6 P n x (RA l (fun ρ w=>∃m,J m ρ w) Q) ρ w)(pass:∀m ρ w,J m ρ w->q6 P n b (RA l (fun ρ w=>∃k,k<m/\J k ρ w) Q) ρ w):q6 P n (.scope x) Q ρ w:=by
 intro act Y8
 refine yi l (fun m a w=>∃ρ,Fr n a ρ/\J m ρ w) hf (wp_mono (first act Y8) fun e a' w' ⟨cw,h1,h2⟩=>?_) fun m a w ⟨ρ,hr,hJ⟩=>wp_seq (wp_skip (wp_mono (pass m ρ w hJ a hr) fun e a' w' ⟨cw,h1,h2⟩=>?_))
 .cases e with
  |goto l'=>exact⟨h2.1,h2.2.imp fun m hm=>⟨cw,h1,hm⟩⟩
  |_=>exact⟨cw,h1,h2⟩
 .cases e with
  |goto l'=>exact⟨h2.1,h2.2.imp fun m hm=>⟨hm.1,cw,h1,hm.2⟩⟩
  |_=>exact⟨cw,h1,h2⟩
def uF(l:Nat):Code->Option Code
 | .seq a b=>match a with
   | .label l'=>bif al4 l' l then some b else none
   |a=>bif (findLabel a l).isNone then uF l b else none
 |_=>none
theorem CI{l:Nat}:{x b:Code}->uF l x=some b->findLabel x l=some (.seq .skip b)
 | .seq a y,b,h=>by
   unfold uF at h;split at h
   .rename_i l';obtain⟨h1,rfl⟩:=m8 h;obtain rfl:=beq_true h1;simp[findLabel]
   .obtain⟨h1,h2⟩:=aK h;have h3:=CI h2
    have h4:findLabel a l=none:=by simpa using h1
    simp[findLabel,h4,h3]
 | .skip,_,h=>by cases h
 | .ret,_,h=>by cases h
 | .exit _,_,h=>by cases h
 | .cond _ _ _,_,h=>by cases h
 | .region _ _ _,_,h=>by cases h
 | .block _ _,_,h=>by cases h
 | .loop _,_,h=>by cases h
 | .label _,_,h=>by cases h
 | .scope _,_,h=>by cases h
 | .goto _,_,h=>by cases h
 | .rangeFunc ..,_,h=>by cases h
 | .refuse _,_,h=>by cases h
noncomputable def GB{P:Program}(E:Env P)(nt N l:Nat){R:Type}:Code->uC->State->(Ex->State->Option R)->(State->Option R)->Option R
 | .seq a b,an,st,k,kL=>match a with
   | .label _=>kL st
   |a=>exec E nt N a an.l st (fun e cf=>match e with
    | .normal=>GB E nt N l b an.r cf k kL
    |e=>k e cf)
 |_,_,_,_,_=>none
noncomputable def LP{P:Program}(E:Env P)(nt N l:Nat)(x:Code){R:Type}(L:JS)(a1 a2:uC)(st:State)(k:Ex->State->Option R):Option R:=
 match uF l x with
 |some b=>bE (J:=cM L.rows) (R:=R) (GB E nt N l (R:=cM L.rows⊕R) x a1 st (noGoto fun e cf=>(k e cf).map .inr) (fun cf=>(carry st L cf).map .inl)) fun s0=>
   Loop (S:=cM L.rows) (X:=R) (fun s=>exec E nt N b (R:=cM L.rows⊕R) a2 (behind st (writes x) L s) (fun e cf=>match e with
    | .goto i=>bif al4 i l then(carry st L cf).map .inl else none
    |e=>(k e cf).map .inr)) N s0
 |none=>none
noncomputable def GC{P:Program}(E:Env P)(nt N l:Nat)(c:Code){R:Type}(L:JS)(a0 a1 a2:uC)(st:State)(k:Ex->State->Option R):Option R:=
 match c with
 | .seq r (.scope x)=>exec E nt N r a0 st (fun e cf=>match e with
   | .normal=>LP E nt N l x L a1 a2 cf k
   |e=>k e cf)
 |_=>none
section
variable {P:Program} {nt N:Nat} {R:Type}
variable {ρ:Nat->Value} {w w0:World} {H:ay} {F F0 G:Nat->Prop}
theorem sz{l:Nat}:{x b:Code}->uF l x=some b->∀t∈writes b,t∈writes x
 | .seq a y,b,h,t,ht=>by
   unfold uF at h;split at h
   .obtain⟨h1,rfl⟩:=m8 h;simp[writes,ht]
   .obtain⟨h1,h2⟩:=aK h;simp[writes,sz h2 t ht]
 | .skip,_,h,_,_=>by cases h
 | .ret,_,h,_,_=>by cases h
 | .exit _,_,h,_,_=>by cases h
 | .cond _ _ _,_,h,_,_=>by cases h
 | .region _ _ _,_,h,_,_=>by cases h
 | .block _ _,_,h,_,_=>by cases h
 | .loop _,_,h,_,_=>by cases h
 | .label _,_,h,_,_=>by cases h
 | .scope _,_,h,_,_=>by cases h
 | .goto _,_,h,_,_=>by cases h
 | .rangeFunc ..,_,h,_,_=>by cases h
 | .refuse _,_,h,_,_=>by cases h
theorem CJ{E:Env P}{l:Nat}{q:R}:(c:Code)->{b:Code}->{a:uC}->{st:State}->{k:Ex->State->Option R}->{kL:State->Option R}->{H:ay}->{F:Nat->Prop}->{w:World}->{ρ:Nat->Value}->{Q:Exit->(Nat->Value)->World->Prop}->
 uF l c=some b->GB E nt N l c a st k kL=some q->cT G w0 F0 H F w ρ st->
 (∀e cf H' F' w' cw,k e cf=some q->IW G w0 F0 (writes c) H F w ρ H' F' w' cw cf->Q e.oj cw w')->
 (∀cf H' F' w' cw,kL cf=some q->IW G w0 F0 (writes c) H F w ρ H' F' w' cw cf->q6 P nt b Q cw w')->q6 P nt c Q ρ w
 | .seq a y,b,an,st,k,kL,H,F,w,ρ,Q,ht,h,hh,hk,hL=>by
   unfold uF at ht;unfold GB at h;split at ht
   .obtain⟨h1,rfl⟩:=m8 ht;exact p4 (fun act hf=>wp_label ⟨ρ,hf,hL st H F w ρ h ⟨hh,cO.refl H F w,fun _ _=>rfl⟩⟩)
   .rename_i bR;obtain⟨h1,h2⟩:=aK ht;split at h
    .rename_i l';exact absurd rfl (bR l')
    refine p4 (gO a h hh fun e cf H' F' w' cw g1 g2=>?_)
    have out:∀{e:Ex},k e cf=some q->Q e.oj cw w':=fun{e}g1=>hk e cf H' F' w' cw g1 ⟨g2.here,g2.keeps,fun t ht=>g2.same t fun hm=>ht (by simp[writes,hm])⟩
    cases e with
    |normal=>
     refine CJ y h2 g1 g2.here (fun e LQ tf BY ur sy m1 m2=>?_) fun LQ tf BY ur sy m1 m2=>?_
     .exact hk e LQ tf BY ur sy m1 ⟨m2.here,g2.keeps.trans m2.keeps,fun t ht=>(m2.same t fun hm=>ht (by simp[writes,hm])).trans (g2.same t fun hm=>ht (by simp[writes,hm]))⟩
     .exact hL LQ tf BY ur sy m1 ⟨m2.here,g2.keeps.trans m2.keeps,fun t ht=>(m2.same t fun hm=>ht (by simp[writes,hm])).trans (g2.same t fun hm=>ht (by simp[writes,hm]))⟩
    |exit i=>exact out g1
    |ret=>exact out g1
    |goto i=>exact out g1
 | .skip,_,_,_,_,_,_,_,_,_,_,h,_,_,_,_=>by cases h
 | .ret,_,_,_,_,_,_,_,_,_,_,h,_,_,_,_=>by cases h
 | .exit _,_,_,_,_,_,_,_,_,_,_,h,_,_,_,_=>by cases h
 | .cond _ _ _,_,_,_,_,_,_,_,_,_,_,h,_,_,_,_=>by cases h
 | .region _ _ _,_,_,_,_,_,_,_,_,_,_,h,_,_,_,_=>by cases h
 | .block _ _,_,_,_,_,_,_,_,_,_,_,h,_,_,_,_=>by cases h
 | .loop _,_,_,_,_,_,_,_,_,_,_,h,_,_,_,_=>by cases h
 | .label _,_,_,_,_,_,_,_,_,_,_,h,_,_,_,_=>by cases h
 | .scope _,_,_,_,_,_,_,_,_,_,_,h,_,_,_,_=>by cases h
 | .goto _,_,_,_,_,_,_,_,_,_,_,h,_,_,_,_=>by cases h
 | .rangeFunc ..,_,_,_,_,_,_,_,_,_,_,h,_,_,_,_=>by cases h
 | .refuse _,_,_,_,_,_,_,_,_,_,_,h,_,_,_,_=>by cases h
theorem LR{E:Env P}{l:Nat}{x:Code}{L:JS}{a1 a2:uC}{q:R}{st:State}{k:Ex->State->Option R}{Q:Exit->(Nat->Value)->World->Prop}(h:LP E nt N l x L a1 a2 st k=some q)(hh:cT G w0 F0 H F w ρ st)
 (hk:∀e cf H' F' w' cw,k e cf=some q->IW G w0 F0 (writes x) H F w ρ H' F' w' cw cf->Q e.oj cw w'):q6 P nt (.scope x) Q ρ w:=by
 unfold LP at h;split at h
 case h_2=>cases h
 rename_i b hb;unfold bE at h;obtain⟨s,hs,h⟩:=bind_some h;have hbw:=sz hb
 let I:cM L.rows->(Nat->Value)->World->Prop:=fun s cw w'=>∃H' F',cT G w0 F0 H' F' w' cw (behind st (writes x) L s)/\cO H F w H' F' w'/\∀t,t∉writes x->cw t=ρ t
 let body:cM L.rows->Option (cM L.rows⊕R):=fun s=>exec E nt N b (R:=cM L.rows⊕R) a2 (behind st (writes x) L s) (fun e cf=>match e with
  | .goto i=>bif al4 i l then(carry st L cf).map .inl else none
  |e=>(k e cf).map .inr)
 have pass:∀m DT w1,(∃s,I s DT w1/\Loop body m s=some q)->q6 P nt b (RA l (fun ρ w=>∃k,k<m/\∃s,I s ρ w/\Loop body k s=some q) Q) DT w1:=by
  rintro m DT w1 ⟨s,⟨H1,F1,g1,g2,g3⟩,hl⟩
  cases m with
  |zero=>cases hl
  |succ m=>
   unfold Loop at hl
   cases hy:body s with
   |none=>rw[hy]at hl;cases hl
   |some y=>
    rw[hy]at hl
    refine gO b hy g1 fun e cf H' F' w' cw m1 m2=>?_
    have sm:∀t,t∉writes x->cw t=ρ t:=fun t ht=>(m2.same t fun hm=>ht (hbw t hm)).trans (g3 t ht)
    have out:∀{e:Ex},(k e cf).map amP=some y->Q e.oj cw w':=fun{e}h1=>by
     obtain⟨r,hr,rfl⟩:=map_inl h1;obtain rfl:=alU hl;exact hk e cf H' F' w' cw hr ⟨m2.here,g2.trans m2.keeps,sm⟩
    cases e with
    |normal=>exact out (e:= .normal) m1
    |exit i=>exact out (e:= .exit i) m1
    |ret=>exact out (e:= .ret) m1
    |goto i=>
     obtain⟨h1,h2⟩:=aK m1;obtain rfl:=beq_true h1;obtain⟨j,hj,rfl⟩:=map_inl h2;obtain⟨H2,F2,n1,n2⟩:=mh (W:=writes x) hj hh m2.here (g2.trans m2.keeps) sm;exact⟨rfl,m,Nat.lt_succ_self m,j,⟨H2,F2,n1,n2,sm⟩,hl⟩
 refine I0 (fun m ρ w=>∃s,I s ρ w/\Loop body m s=some q) (CI hb) ?_ pass
 refine CJ x hb hs hh (fun e cf H' F' w' cw m1 m2=>?_) fun cf H' F' w' cw m1 m2=>?_
 .cases e with
  |goto i=>cases m1
  |normal=>
   obtain⟨r,hr,rfl⟩:=map_inl (show(k .normal cf).map amP=some s from m1);obtain rfl:=alU h;exact hk .normal cf H' F' w' cw hr m2
  |exit i=>
   obtain⟨r,hr,rfl⟩:=map_inl (show(k (.exit i) cf).map amP=some s from m1);obtain rfl:=alU h;exact hk (.exit i) cf H' F' w' cw hr m2
  |ret=>
   obtain⟨r,hr,rfl⟩:=map_inl (show(k .ret cf).map amP=some s from m1);obtain rfl:=alU h;exact hk .ret cf H' F' w' cw hr m2
 .obtain⟨j,hj,rfl⟩:=map_inl m1;obtain⟨H2,F2,n1,n2⟩:=mh (W:=writes x) hj hh m2.here m2.keeps m2.same
  refine J4 (pass N cw w' ⟨j,⟨H2,F2,n1,n2,m2.same⟩,h⟩) fun e Xz w2 hq=>?_
  cases e with
  |goto i=>exact⟨hq.1,hq.2.imp fun m hm=>hm.2⟩
  |_=>exact hq
theorem CK{E:Env P}{l:Nat}{c:Code}{L:JS}{a0 a1 a2:uC}:Qp P nt c fun st k=>GC E nt N l c L a0 a1 a2 st k:=by
 intro R q st k H F w ρ G w0 F0 Q h hh hk;unfold GC at h;split at h
 case h_2=>cases h
 rename_i r x;refine p4 (gO r h hh fun e cf H' F' w' cw g1 g2=>?_)
 have out:∀{e:Ex},k e cf=some q->Q e.oj cw w':=fun{e}g1=>hk e cf H' F' w' cw g1 ⟨g2.here,g2.keeps,fun t ht=>g2.same t fun hm=>ht (by simp[writes,hm])⟩
 cases e with
 |normal=>
  refine LR g1 g2.here fun e LQ tf BY ur sy m1 m2=>?_
  exact hk e LQ tf BY ur sy m1 ⟨m2.here,g2.keeps.trans m2.keeps,fun t ht=>(m2.same t fun hm=>ht (by simp[writes,hm])).trans (g2.same t fun hm=>ht (by simp[writes,hm]))⟩
 |exit i=>exact out g1
 |ret=>exact out g1
 |goto i=>exact out g1
theorem LS{E:Env P}{f:FuncId}{fn:Func}{c:Code}{rs:List ResultVar}{N l:Nat}{L:JS}{a0 a1 a2:uC}{sg:bp}(hf:P.funcs[f]? =some fn)(hn:(fn.name== "runtime.NumGoroutine")=false)(hb:fn.body=some c)(JV:fn.results.toList=rs)
 (oB:sq 0 sg.inn.ak=true)(hlen:Nat.ble sg.inn.ak.length fn.ntmps=true)(vO:al4 rs.length sg.out.ak.length=true)
 (Ag:∀x,sg.fn x=GC E fn.ntmps N l c L a0 a1 a2 (init sg.inn x) (Rz E.T rs sg.inn.nxt sg.out)):ax P f sg:=
 LM (E:=E) (run:=fun st k=>GC E fn.ntmps N l c L a0 a1 a2 st k) CK hf hn hb JV oB hlen vO Ag
end
end Go.Proofs.YtmihpkfkbfgigaaGreatDoor
end
section
open _root_.Array renaming getElem?_eq_some_iff->amU
open _root_.Go.Lib renaming compact->am6,indexByte->anl
open _root_.Go.Sort renaming ahead->anm,grow->anz,mapBlock->anN,putCells->anF,putRow->anj
open _root_.List.cons renaming injEq->amR
open _root_.List renaming drop_eq_getElem_cons->amx,getElem?_drop->ami,getElem?_take->amv,length_append->alY,replicate->alX,take_length->amc
open _root_.Nat renaming beq->al4,eq_of_beq_eq_true->amN,le_refl->alZ,lt_of_lt_of_le->amI,min_eq_left->amF,zero_le->amj
open _root_.Option.some renaming inj->alU
open _root_.Go.Value renaming int->am5,ownBlock->amw
namespace Go.Proofs.YtmihpkfkbfgigaaGreatDoor
open Go Go.RowKit
def ol(l:List Int):List Int:=l.mergeSort fun x y=>decide (x<=y)
section
variable {P:Program} {w w':World} {F:Nat->Prop} {T:TypeId}
theorem LU(w:World):anz w #[]=w:=by
 unfold anz;rw[Array.append_empty]
theorem GD{g off:Nat}{d:Array Int}{n:Nat}{os:Array Obj}(h:w'=anz (anj (am5 .i64) (anm w n) g off d) os):Ext (fun k=>k=g) w w':=by
 subst h;refine⟨rfl,rfl,rfl,?_,fun k hk hn=>?_⟩
 .simp[anz,anj,anN,anm]
 .simp only[anz];rw[Array.getElem?_append_left (by simpa[anj,anN,anm]using hk)];simp only[anj,anN,anm,Array.getElem?_modify];rw[if_neg (fun e=>hn e.symm)]
theorem OM{g off:Nat}{d:Array Int}{n:Nat}{os:Array Obj}(h:w'=anz (anj (am5 .i64) (anm w n) g off d) os){cur:Array Value}(hg:w.heap[g]? =some (.cells cur T (0,0))):
 w'.heap[g]? =some (.cells (anF (am5 .i64) off d cur) T (0,0)):=by
 subst h;have aj:g<w.heap.size:=(amU.1 hg).1;simp only[anz];rw[Array.getElem?_append_left (by simpa[anj,anN,anm]using aj)];simp only[anj,anN,anm,Array.getElem?_modify];rw[if_pos trivial,hg];rfl
theorem E3{l:List Int}{xs:List Value}(hx:xs.length=l.length*1)(h:∀i(hi:i<l.length),cR F w ae ((xs.drop (i*1)).take 1) l[i]):xs=l.map (am5 .i64):=by
 apply List.ext_getElem (by simpa using hx);intro i h1 h2
 have hi:i<l.length:=by simpa using h2
 have:(xs.drop (i*1)).take 1=[am5 .i64 l[i]]:=h i hi;rw[Nat.mul_one,amx h1,List.take_succ_cons,List.take_zero]at this;simpa only[List.getElem_map,amR,and_true]using this
theorem I1{off:Nat}{d:Array Int}{cur:Array Value}(h:off+d.size<=cur.size):((anF (am5 .i64) off d cur).toList.drop off).take d.size=d.toList.map (am5 .i64):=by
 apply List.ext_getElem (by simp[anF];omega);intro i h1 h2
 have hi:i<d.size:=by simpa using h2
 rw[List.getElem_take,List.getElem_drop,List.getElem_map,Array.getElem_toList,Array.getElem_toList];simp only[anF,Array.getElem_mapIdx];rw[if_pos ⟨by omega,by omega⟩,show off+i-off=i by omega,getElem!_pos d i hi]
theorem zf{v:Value}{l:List Int}(h:jV 0 F w T ae v l):(v= .slice none 0 0/\l=[])\/∃g o0 cap cur,v= .slice (some ⟨g,o0,none⟩) l.length cap/\w.heap[g]? =some (.cells cur T (0,0))/\l.length<=cap/\cap<=maxLen/\o0+cap<=cur.size/\Go.Sort.Holds (am5 .i64) w g o0 l.toArray:=by
 obtain⟨_,xs,⟨hx,h2⟩,h3⟩:=h;have e:=E3 hx h3
 rcases h2 with⟨rfl,h0⟩|⟨g,o0,cap,cur,rfl,_,hg,h4,h5,h6,h7⟩
 .exact .inl ⟨rfl,List.eq_nil_of_length_eq_zero h0⟩
 .refine .inr ⟨g,o0,cap,cur,rfl,hg,h4,h5,by simpa[Row.size]using h6,fun j hj=>⟨?_,frozen_of_row w g _ cur T hg⟩⟩
  have hj:j<l.length:=by simpa using hj
  rw[cell_of_row w g _ cur T (0,0) hg]
  have:xs[j]? =some (am5 .i64 l[j]):=by rw[e];simp[hj]
  rw[<-h7,amv]at this;split at this
  .rw[ami]at this;rw[getElem!_pos l.toArray j (by simpa using hj)];simpa using this
  .cases this
theorem CL{g o0 cap:Nat}{l d:List Int}{cur:Array Value}{n:Nat}{os:Array Obj}(h:jV 0 F w T ae (.slice (some ⟨g,o0,none⟩) l.length cap) l)(hg:w.heap[g]? =some (.cells cur T (0,0)))(hs:o0+cap<=cur.size)(hc:cap<=maxLen)
 (hl:d.length<=cap)(m:Nat)(hm:m<=d.length)(hw:w'=anz (anj (am5 .i64) (anm w n) g o0 d.toArray) os):jV 0 F w' T ae (.slice (some ⟨g,o0,none⟩) m cap) (d.take m):=by
 have LV:=OM hw hg;have hp:=I1 (off:=o0) (d:=d.toArray) (cur:=cur) (by simp;omega);refine⟨fun k hk=>h.no k (by simpa[bw,amw]using hk),(d.take m).map (am5 .i64),⟨by simp[Row.size], .inr ⟨g,o0,cap,_,by simp[amF hm],amj _,LV,by simp;omega,hc,by simp[anF,Row.size];omega,?_⟩⟩,fun i hi=>?_⟩
 .have:((anF (am5 .i64) o0 d.toArray cur).toList.drop o0).take m=(d.take m).map (am5 .i64):=by
   rw[show m=min m d.toArray.size by simp[amF hm],<-List.take_take,hp,List.map_take];simp[amF hm]
  simpa[Row.size,amF hm]using this
 .have gr:i<d.length:=by simp at hi;omega
  show((List.map (am5 .i64) (d.take m)).drop (i*1)).take 1=[am5 .i64 (d.take m)[i]]
  rw[Nat.mul_one,amx (by simpa using hi)];simp
theorem pA(d:Array Int):∀m,(Go.Lib.compactUpTo d m).length<=m
 |0=>by simp[Go.Lib.compactUpTo]
 |m+1=>by
  have:=pA d m;rw[Go.Lib.compactUpTo_succ,alY]
  split<;>simp<;>omega
theorem wX(l:List Int):(am6 l).length<=l.length:=pA _ _
theorem pB{α:Type}{k o:Nat}{x:α}(h:o≠k):find [(k,x)] o=none:=by
 have:al4 k o=false:=by
  cases hb:al4 k o with
  |false=>rfl
  |true=>exact absurd (amN hb).symm h
 simp[find,this]
theorem E4{f:FuncId}{r:Row}{fn:List r.den->Option (List r.den)}(hb:∃fn,P.funcs[f]? =some fn/\(fn.name== "runtime.NumGoroutine")=false/\fn.body.isNone=false)
 (hr:r.beq r=true)
 (hc:∀{F:Nat->Prop}{w:World}{v:Value}{l m:List r.den},fn l=some m->jV 0 F w T r v l->(∀b,F b->b<w.heap.size)->Calls P f #[v] w fun e w'=>e= .returned (.tuple #[])/\Ext (bw v) w w'/\jV 0 F w' T r v m):
 ax P f ⟨⟨[(0, .val false (.own 0))],[(0, .own T r)],[],1⟩,⟨[],[(0, .own T r)],[],2⟩,fn⟩:=by
 refine⟨hb,fun x y xR args w H F G hlen gJ dh hZ hG=>?_⟩;have hZ:jD H 1:=hZ
 match args,hlen with
 |[v],_=>
 have hx:(iW 0 [(0,OS.own T r)] (dB [(0,SS.val false (.own 0))] (dO [.slice r] x)).2)=[(0,(0, .own T r x))]:=by
  show[(0,(0,(cG (.own T r) [⟨.slice r,x⟩]).1))]=_
  simp only[cG,hr,cond_true]
 have hy:(iW 1 [(0,OS.own T r)] (dB [] (dO [.slice r] y)).2)=[(0,(1, .own T r y))]:=by
  show[(0,(1,(cG (.own T r) [⟨.slice r,y⟩]).1))]=_
  simp only[cG,hr,cond_true]
 have dh:az (fun k=>w.heap.size<=k\/G k) H F w (find [(0,(0,Th.own T r x))]) 1:=by rw[<-hx];exact dh
 have hd:al H F w (.val false (.own 0)) v:=gJ 0 _ rfl;obtain⟨cs,⟨v',hv,h1,rfl⟩,_,rO⟩:=hd
 obtain rfl:v'=v:=by have:=rO rfl;simpa using this
 have eW:=dh.own rfl hv;obtain⟨v2,vL,cx⟩:=dh.obj 0 0 _ rfl;rw[hv]at vL;obtain rfl:=alU vL
 refine(hc xR eW dh.lt).mono fun e w' ⟨he,b7,jN⟩=>⟨[],he,rfl,H.bN 1 (.own T r y),F,⟨b7.os,b7.tape,b7.output,b7.size,fun k hk hn=>b7.block k hk fun hm=>?_⟩,ay.jr (hZ 1 (alZ _)).2,fun b h=>h,fun b h=> .inl h,fun t d h=>?_,?_,?_⟩
 .rcases cx.use k hm with h|h
  .omega
  .exact hn h
 .cases h
 .show az _ _ F w' (find (iW 1 [(0,OS.own T r)] (dB [] (dO [.slice r] y)).2)) 2
  rw[hy];refine⟨fun o s t ho=>?_,fun o o' s s' t t' u u' bR ho lD=>?_,fun m h1 h2=>⟨(hZ m (by have:2<=m:=h1;omega)).1,?_⟩,fun b hb=>amI (dh.lt b hb) b7.size,fun b hb=> .inl (Nat.le_trans b7.size hb),dh.gl.step (Step.ext b7 dh.lt eW.no)⟩
  .obtain⟨rfl,h⟩:o=0/\(1,Th.own T r y)=(s,t):=by
    by_cases h0:o=0
    .subst h0;exact⟨rfl,alU ho⟩
    .exfalso;have:find [(0,(1,Th.own T r y))] o=none:=pB h0;rw[this]at ho;cases ho
   cases h;refine⟨v',hv,h1,by simp[ay.bN,Th.base],jV.to _ jN,jN.no,jN.lt,fun k hk=>?_⟩;exact cx.use k hk
  .have key:∀o x,find [(0,(1,Th.own T r y))] o=some x->o=0:=fun o x h=>by
    by_cases h0:o=0
    .exact h0
    .have:find [(0,(1,Th.own T r y))] o=none:=pB h0;rw[this]at h;cases h
   exact absurd ((key o _ ho).trans (key o' _ lD).symm) bR
  .have h1:2<=m:=h1
   show(if m=1 then _ else H.con m)=none
   rw[if_neg (by omega)];exact(hZ m (by omega)).2
 .intro m hm;have hm:2<=m:=hm;refine⟨(hZ m (by omega)).1,?_⟩
  show(if m=1 then _ else H.con m)=none
  rw[if_neg (by omega)];exact(hZ m (by omega)).2
theorem I2{f:FuncId}{r:Row}{fn:List r.den->Option (List r.den)}(hb:∃fn,P.funcs[f]? =some fn/\(fn.name== "runtime.NumGoroutine")=false/\fn.body.isNone=false)
 (hr:r.beq r=true)
 (hc:∀{F:Nat->Prop}{w:World}{v:Value}{l m:List r.den},fn l=some m->jV 0 F w T r v l->(∀b,F b->b<w.heap.size)->Calls P f #[v] w fun e w'=>∃v',e= .returned v'/\Ext (bw v) w w'/\jV 0 F w' T r v' m/\∀k,bw v' k->bw v k):
 ax P f ⟨⟨[(0, .val false (.own 0))],[(0, .own T r)],[],1⟩,⟨[(0, .val false (.own 1))],[(1, .own T r)],[],2⟩,fn⟩:=by
 refine⟨hb,fun x y xR args w H F G hlen gJ dh hZ hG=>?_⟩;have hZ:jD H 1:=hZ
 match args,hlen with
 |[v],_=>
 have hx:(iW 0 [(0,OS.own T r)] (dB [(0,SS.val false (.own 0))] (dO [.slice r] x)).2)=[(0,(0, .own T r x))]:=by
  show[(0,(0,(cG (.own T r) [⟨.slice r,x⟩]).1))]=_
  simp only[cG,hr,cond_true]
 have hy:(iW 1 [(1,OS.own T r)] (dB [(0,SS.val false (.own 1))] (dO [.slice r] y)).2)=[(1,(1, .own T r y))]:=by
  show[(1,(1,(cG (.own T r) [⟨.slice r,y⟩]).1))]=_
  simp only[cG,hr,cond_true]
 have dh:az (fun k=>w.heap.size<=k\/G k) H F w (find [(0,(0,Th.own T r x))]) 1:=by rw[<-hx];exact dh
 have hd:al H F w (.val false (.own 0)) v:=gJ 0 _ rfl;obtain⟨cs,⟨v',hv,h1,rfl⟩,_,rO⟩:=hd
 obtain rfl:v'=v:=by have:=rO rfl;simpa using this
 have eW:=dh.own rfl hv;obtain⟨v2,vL,cx⟩:=dh.obj 0 0 _ rfl;rw[hv]at vL;obtain rfl:=alU vL;have Bu:=hZ 1 (alZ _)
 refine(hc xR eW dh.lt).mono fun e w' ⟨v3,he,b7,jN,K9⟩=>?_
 have U0:v3.oneCell'=true:=(kS.one jN.2)
 have hle:H.le ((H.bN 1 (.own T r y)).dj 1 v3):=⟨fun o u h=>by
  show(if o=1 then some v3 else H.val o)=some u
  rw[if_neg (fun e=>by rw[e,Bu.1]at h;cases h)]
  exact h,(ay.jr (t:= .own T r y) Bu.2).con,(ay.jr (t:= .own T r y) Bu.2).sub⟩
 refine⟨[v3],he,rfl,(H.bN 1 (.own T r y)).dj 1 v3,F,⟨b7.os,b7.tape,b7.output,b7.size,fun k hk hn=>b7.block k hk fun hm=>?_⟩,hle,fun b h=>h,fun b h=> .inl h,fun t d h=>?_,?_,?_⟩
 .rcases cx.use k hm with h|h
  .omega
  .exact hn h
 .have ht:t=0/\d= .val false (.own 1):=by
   have h:find [(0,aq.val false (.own 1))] t=some d:=h;by_cases h0:t=0
   .subst h0;exact⟨rfl,(alU h).symm⟩
   .have e:find [(0,aq.val false (.own 1))] t=none:=pB h0;rw[e]at h;cases h
  obtain⟨rfl,rfl⟩:=ht;exact⟨[v3],⟨v3,by simp[ay.dj],U0,rfl⟩,rfl,fun _=>rfl⟩
 .show az _ _ F w' (find (iW 1 [(1,OS.own T r)] (dB [(0,SS.val false (.own 1))] (dO [.slice r] y)).2)) 2
  rw[hy]
  have key:∀o x,find [(1,(1,Th.own T r y))] o=some x->o=1/\x=(1,Th.own T r y):=fun o x h=>by
   by_cases h0:o=1
   .subst h0;exact⟨rfl,(alU h).symm⟩
   .have:find [(1,(1,Th.own T r y))] o=none:=pB h0;rw[this]at h;cases h
  refine⟨fun o s t ho=>?_,fun o o' s s' t t' u u' bR ho lD=>?_,fun m h1 h2=>⟨?_,?_⟩,fun b hb=>amI (dh.lt b hb) b7.size,fun b hb=> .inl (Nat.le_trans b7.size hb),dh.gl.step (Step.ext b7 dh.lt eW.no)⟩
  .obtain⟨rfl,h⟩:=key o _ ho;cases h;exact⟨v3,by simp[ay.dj],U0,by simp[ay.bN,ay.dj,Th.base],jV.to _ jN,jN.no,jN.lt,fun k hk=>cx.use k (K9 k hk)⟩
  .exact absurd ((key o _ ho).1.trans (key o' _ lD).1.symm) bR
  .have h1:2<=m:=h1
   show(if m=1 then _ else H.val m)=none
   rw[if_neg (by omega)];exact(hZ m (by omega)).1
  .have h1:2<=m:=h1
   show(if m=1 then _ else H.con m)=none
   rw[if_neg (by omega)];exact(hZ m (by omega)).2
 .intro m hm;have hm:2<=m:=hm;refine⟨?_,?_⟩
  .show(if m=1 then _ else H.val m)=none
   rw[if_neg (by omega)];exact(hZ m (by omega)).1
  .show(if m=1 then _ else H.con m)=none
   rw[if_neg (by omega)];exact(hZ m (by omega)).2
def zg(l:List Int):Option (List Int):=if l.length<4611686018427387904 then some (ol l)else none
theorem ON{f:FuncId}(hb:∃fn,P.funcs[f]? =some fn/\(fn.name== "runtime.NumGoroutine")=false/\fn.body.isNone=false)
 (h1:∀(pd off cap:Nat)(zs:List Int)(w:World),Go.Sort.Holds (am5 .i64) w pd off zs.toArray->pd<w.heap.size->zs.length<4611686018427387904->
   Calls P f #[.slice (some ⟨pd,off,none⟩) zs.length cap] w fun e w'=>e= .returned (.tuple #[])/\∃n os,w'=anz (anj (am5 .i64) (anm w n) pd off (zs.mergeSort fun x y=>decide (x<=y)).toArray) os)
 (h2:∀(p:Option Addr)(cap:Nat)(w:World),Calls P f #[.slice p 0 cap] w fun e w'=>e= .returned (.tuple #[])/\w'=w):
 ax P f ⟨⟨[(0, .val false (.own 0))],[(0, .own T ae)],[],1⟩,⟨[],[(0, .own T ae)],[],2⟩,fun x=>zg x⟩:=by
 refine E4 (r:=ae) hb rfl fun{F w v l m}hm ho hF=>?_
 have hm:zg l=some m:=hm;unfold zg at hm;split at hm
 case isFalse=>cases hm
 rename_i hlen;obtain rfl:=alU hm
 rcases zf ho with⟨rfl,rfl⟩|⟨g,o0,cap,cur,rfl,hg,HD,QZ,mE,hh⟩
 .refine(h2 none 0 w).mono fun e w' ⟨he,hw⟩=>⟨he,hw▸⟨rfl,rfl,rfl,alZ _,fun _ _ _=>rfl⟩,hw▸?_⟩
  simpa[ol]using ho
 .refine(h1 g o0 cap l w hh (amU.1 hg).1 hlen).mono fun e w' ⟨he,n,os,hw⟩=>⟨he,?_,?_⟩
  .have:=GD hw;exact⟨this.os,this.tape,this.output,this.size,fun k hk hn=>this.block k hk fun e=>hn (by simp[bw,amw,e])⟩
  .have hl:(ol l).length=l.length:=List.length_mergeSort ..;have:=CL (d:=ol l) ho hg mE QZ (by omega) (ol l).length (alZ _) hw;rw[amc,hl]at this;exact this
def pC(l:List Int):Option (List Int):=if l.length<=9223372036854775807 then some (am6 l)else none
theorem E5{f:FuncId}(hb:∃fn,P.funcs[f]? =some fn/\(fn.name== "runtime.NumGoroutine")=false/\fn.body.isNone=false)
 (h1:∀(pd off cap:Nat)(zs:List Int)(w:World),Go.Sort.Holds (am5 .i64) w pd off zs.toArray->zs.length<=9223372036854775807->zs.length<=cap->
   Calls P f #[.slice (some ⟨pd,off,none⟩) zs.length cap] w fun e w'=>e= .returned (.slice (some ⟨pd,off,none⟩) (am6 zs).length cap)/\∃q,w'=anj (am5 .i64) (anm w q) pd off (am6 zs++alX (zs.length-(am6 zs).length) 0).toArray)
 (h2:∀(p:Option Addr)(cap:Nat)(w:World),Calls P f #[.slice p 0 cap] w fun e w'=>e= .returned (.slice p 0 cap)/\w'=w):
 ax P f ⟨⟨[(0, .val false (.own 0))],[(0, .own T ae)],[],1⟩,⟨[(0, .val false (.own 1))],[(1, .own T ae)],[],2⟩,fun x=>pC x⟩:=by
 refine I2 (r:=ae) hb rfl fun{F w v l m}hm ho hF=>?_
 have hm:pC l=some m:=hm;unfold pC at hm;split at hm
 case isFalse=>cases hm
 rename_i hlen;obtain rfl:=alU hm
 rcases zf ho with⟨rfl,rfl⟩|⟨g,o0,cap,cur,rfl,hg,HD,QZ,mE,hh⟩
 .refine(h2 none 0 w).mono fun e w' ⟨he,hw⟩=>⟨_,he,hw▸⟨rfl,rfl,rfl,alZ _,fun _ _ _=>rfl⟩,hw▸?_,fun k hk=>hk⟩
  exact ho
 .have zh:(am6 l).length<=l.length:=wX l
  refine(h1 g o0 cap l w hh hlen HD).mono fun e w' ⟨he,n,hw⟩=>⟨_,he,?_,?_,fun k hk=>by simpa[bw,amw]using hk⟩
  all_goals have hw:w'=anz (anj (am5 .i64) (anm w n) g o0 (am6 l++alX (l.length-(am6 l).length) 0).toArray) #[]:=by rw[hw,LU]
  .have:=GD hw;exact⟨this.os,this.tape,this.output,this.size,fun k hk hn=>this.block k hk fun e=>hn (by simp[bw,amw,e])⟩
  .have:=CL (d:=am6 l++alX (l.length-(am6 l).length) 0) ho hg mE QZ (by simp;omega) (am6 l).length (by simp) hw;rw[List.take_left]at this;exact this
def qm(x:ByteArray×ByteArray):Option Bool:=if x.2.size=1 then some (decide (0<=anl x.1.data.toList (x.2.data.getD 0 0)))else none
theorem CM{f:FuncId}(hb:∃fn,P.funcs[f]? =some fn/\(fn.name== "runtime.NumGoroutine")=false/\fn.body.isNone=false)
 (h1:∀(s:ByteArray)(c:UInt8)(w:World),Calls P f #[.string s, .string ⟨#[c]⟩] w fun e w'=>e= .returned (.bool (decide (0<=anl s.data.toList c)))/\w'=w):
 ax P f ⟨⟨[(0, .val false (.leaf .str)),(1, .val false (.leaf .str))],[],[],0⟩,⟨[(0, .val false (.leaf .bool))],[],[],0⟩,fun x=>qm x⟩:=by
 refine⟨hb,fun x y xR args w H F G hlen gJ dh hZ hG=>?_⟩
 match args,hlen with
 |[u,v],_=>
 obtain⟨s,t⟩:=x;have xR:qm (s,t)=some y:=xR;unfold qm at xR;split at xR
 case isFalse=>cases xR
 rename_i mE;obtain rfl:=alU xR;have hu:aM H F w false (.leaf .str s) u:=gJ 0 _ rfl;have hv:aM H F w false (.leaf .str t) v:=gJ 1 _ rfl;obtain⟨cs,hc,_,h2⟩:=hu;obtain⟨rS,XC,_,Kz⟩:=hv;have hc:cs=[.string s]:=hc;have XC:rS=[.string t]:=XC
 have eu:u= .string s:=by have:=(h2 rfl).symm.trans hc;simpa using this
 have ev:v= .string t:=by have:=(Kz rfl).symm.trans XC;simpa using this
 subst eu ev
 obtain⟨⟨⟨l⟩⟩,ht⟩:∃t':ByteArray,t'=t:=⟨t,rfl⟩
 match l,ht with
 |[c],ht=>
  subst ht
  refine(h1 s c w).mono fun e w' ⟨he,hw⟩=>?_
  subst hw;refine⟨[_],he,rfl,H,F,⟨rfl,rfl,rfl,alZ _,fun _ _ _=>rfl⟩,ay.le.refl H,fun _ h=>h,fun _ h=> .inl h,fun i d h=>?_,?_,hZ⟩
  .have hd:i=0/\d= .val false (.leaf .bool (decide (0<=anl s.data.toList c))):=by
    have h:find [(0,aq.val false (.leaf .bool (decide (0<=anl s.data.toList c))))] i=some d:=h;by_cases h0:i=0
    .subst h0;exact⟨rfl,(alU h).symm⟩
    .rw[pB h0]at h;cases h
   obtain⟨rfl,rfl⟩:=hd;exact aM.nx rfl
  .exact dh
 |[],ht=>subst ht;cases mE
 |_::_::_,ht=>subst ht;simp[ByteArray.size]at mE
end
end Go.Proofs.YtmihpkfkbfgigaaGreatDoor
end
section
open _root_.List renaming replicate->alX
open _root_.Go.Value renaming int->am5
namespace Go.Proofs
open Go.Shelf
def Tryz.CN:Go.Shelf.Ren:=⟨fun|144=>180|143=>198|219=>212|217=>232|225=>233|224=>234|267=>235|266=>238|314=>239|n=>n,fun|9=>9|4=>4|3=>3|5=>5|46=>158|146=>310|51=>210|n=>n,fun|1=>3|n=>n⟩
theorem Tryz.OO:Go.Proofs.Lays.n144 Tryz.prog Tryz.CN:={
 mixed:=by kernel_rfl
 f143:=Tryz.func198.trans (congrArg some (by kernel_rfl))
 f144:=Tryz.func180.trans (congrArg some (by kernel_rfl))
 f217:=Tryz.func232.trans (congrArg some (by kernel_rfl))
 f219:=Tryz.func212.trans (congrArg some (by kernel_rfl))
 f224:=Tryz.func234.trans (congrArg some (by kernel_rfl))
 f225:=Tryz.func233.trans (congrArg some (by kernel_rfl))
 f266:=Tryz.func238.trans (congrArg some (by kernel_rfl))
 f267:=Tryz.func235.trans (congrArg some (by kernel_rfl))
 f314:=Tryz.func239.trans (congrArg some (by kernel_rfl))
 t3:=Tryz.underlying3
 a3:=Tryz.isAgg3
 z3:=Tryz.sizeOf3
 v3:=Tryz.zeroValue3
 t4:=Tryz.underlying4
 a4:=Tryz.isAgg4
 z4:=Tryz.sizeOf4
 v4:=Tryz.zeroValue4
 t5:=Tryz.underlying5
 a5:=Tryz.isAgg5
 z5:=Tryz.sizeOf5
 v5:=Tryz.zeroValue5
 t9:=Tryz.underlying9
 a9:=Tryz.isAgg9
 z9:=Tryz.sizeOf9
 v9:=Tryz.zeroValue9
 t46:=Tryz.underlying158
 a46:=Tryz.isAgg158
 z46:=Tryz.sizeOf158
 v46:=Tryz.zeroValue158
 t51:=Tryz.underlying210
 a51:=Tryz.isAgg210
 z51:=Tryz.sizeOf210
 v51:=Tryz.zeroValue210
 t146:=Tryz.underlying310
 a146:=Tryz.isAgg310
 z146:=Tryz.sizeOf310
 v146:=Tryz.zeroValue310
 g1:=by kernel_rfl}
open Go.RowKit Go.Lib in
theorem Tryz.strings_Contains_one(s:ByteArray)(c:UInt8)(w:World):
 Calls Tryz.prog 180 #[.string s, .string ⟨#[c]⟩] w fun e w'=>e= .returned (.bool (decide (0<=Lib.indexByte s.data.toList c)))/\w'=w:=Any.strings_Contains_one Tryz.OO s c w
def Tryz.CO:Go.Shelf.Ren:=⟨fun|189=>41|125=>66|257=>65|128=>116|129=>117|294=>107|295=>108|296=>109|297=>110|298=>111|299=>112|216=>113|300=>114|301=>115|328=>156|329=>157|330=>158|331=>159|332=>160|215=>161|343=>186|n=>n,fun|28=>29|3=>3|46=>158|0=>0|51=>210|53=>212|4=>4|183=>203|182=>202|131=>143|5=>5|9=>9|218=>250|222=>254|228=>276|229=>150|n=>n,fun|n=>n⟩
theorem Tryz.GF:Go.Proofs.Lays.n189 Tryz.prog Tryz.CO:={
 mixed:=by kernel_rfl
 f125:=Tryz.func66.trans (congrArg some (by kernel_rfl))
 f128:=Tryz.func116.trans (congrArg some (by kernel_rfl))
 f129:=Tryz.func117.trans (congrArg some (by kernel_rfl))
 f189:=Tryz.func41.trans (congrArg some (by kernel_rfl))
 f215:=Tryz.func161.trans (congrArg some (by kernel_rfl))
 f216:=Tryz.func113.trans (congrArg some (by kernel_rfl))
 f257:=Tryz.func65.trans (congrArg some (by kernel_rfl))
 f294:=Tryz.func107.trans (congrArg some (by kernel_rfl))
 f295:=Tryz.func108.trans (congrArg some (by kernel_rfl))
 f296:=Tryz.func109.trans (congrArg some (by kernel_rfl))
 f297:=Tryz.func110.trans (congrArg some (by kernel_rfl))
 f298:=Tryz.func111.trans (congrArg some (by kernel_rfl))
 f299:=Tryz.func112.trans (congrArg some (by kernel_rfl))
 f300:=Tryz.func114.trans (congrArg some (by kernel_rfl))
 f301:=Tryz.func115.trans (congrArg some (by kernel_rfl))
 f328:=Tryz.func156.trans (congrArg some (by kernel_rfl))
 f329:=Tryz.func157.trans (congrArg some (by kernel_rfl))
 f330:=Tryz.func158.trans (congrArg some (by kernel_rfl))
 f331:=Tryz.func159.trans (congrArg some (by kernel_rfl))
 f332:=Tryz.func160.trans (congrArg some (by kernel_rfl))
 f343:=Tryz.func186.trans (congrArg some (by kernel_rfl))
 t0:=Tryz.underlying0
 a0:=Tryz.isAgg0
 z0:=Tryz.sizeOf0
 v0:=Tryz.zeroValue0
 t3:=Tryz.underlying3
 a3:=Tryz.isAgg3
 z3:=Tryz.sizeOf3
 v3:=Tryz.zeroValue3
 t4:=Tryz.underlying4
 a4:=Tryz.isAgg4
 z4:=Tryz.sizeOf4
 v4:=Tryz.zeroValue4
 t5:=Tryz.underlying5
 a5:=Tryz.isAgg5
 z5:=Tryz.sizeOf5
 v5:=Tryz.zeroValue5
 t9:=Tryz.underlying9
 a9:=Tryz.isAgg9
 z9:=Tryz.sizeOf9
 v9:=Tryz.zeroValue9
 t28:=Tryz.underlying29
 a28:=Tryz.isAgg29
 z28:=Tryz.sizeOf29
 v28:=Tryz.zeroValue29
 t46:=Tryz.underlying158
 a46:=Tryz.isAgg158
 z46:=Tryz.sizeOf158
 v46:=Tryz.zeroValue158
 t51:=Tryz.underlying210
 a51:=Tryz.isAgg210
 z51:=Tryz.sizeOf210
 v51:=Tryz.zeroValue210
 t53:=Tryz.underlying212
 a53:=Tryz.isAgg212
 z53:=Tryz.sizeOf212
 v53:=Tryz.zeroValue212
 t131:=Tryz.underlying143
 a131:=Tryz.isAgg143
 z131:=Tryz.sizeOf143
 v131:=Tryz.zeroValue143
 t182:=Tryz.underlying202
 a182:=Tryz.isAgg202
 z182:=Tryz.sizeOf202
 v182:=Tryz.zeroValue202
 t183:=Tryz.underlying203
 a183:=Tryz.isAgg203
 z183:=Tryz.sizeOf203
 v183:=Tryz.zeroValue203
 t218:=Tryz.underlying250
 a218:=Tryz.isAgg250
 z218:=Tryz.sizeOf250
 v218:=Tryz.zeroValue250
 t222:=Tryz.underlying254
 a222:=Tryz.isAgg254
 z222:=Tryz.sizeOf254
 v222:=Tryz.zeroValue254
 t228:=Tryz.underlying276
 a228:=Tryz.isAgg276
 z228:=Tryz.sizeOf276
 v228:=Tryz.zeroValue276
 t229:=Tryz.underlying150
 a229:=Tryz.isAgg150
 z229:=Tryz.sizeOf150
 v229:=Tryz.zeroValue150}
open Go.Sort Go.RowKit in
theorem Tryz.slices_Sort_int(pd off cap:Nat)(zs:List Int)(w:World)(hH:Holds (am5 .i64) w pd off zs.toArray)(K2:pd<w.heap.size)(mE:zs.length<4611686018427387904):
 Calls Tryz.prog 41 #[.slice (some ⟨pd,off,none⟩) zs.length cap] w fun e w'=>
  e= .returned (.tuple #[])/\∃n os,w'=grow (putRow (am5 .i64) (Sort.ahead w n) pd off (zs.mergeSort fun x y=>decide (x<=y)).toArray) os:=Any.slices_Sort_int Tryz.GF pd off cap zs w hH K2 mE
def Tryz.yj:Go.Shelf.Ren:=⟨fun|20=>146|n=>n,fun|22=>29|3=>3|4=>4|0=>0|n=>n,fun|n=>n⟩
theorem Tryz.zi:Go.Proofs.Lays2.n20 Tryz.prog Tryz.yj:={
 mixed:=by kernel_rfl
 f20:=Tryz.func146.trans (congrArg some (by kernel_rfl))
 t0:=Tryz.underlying0
 a0:=Tryz.isAgg0
 z0:=Tryz.sizeOf0
 v0:=Tryz.zeroValue0
 t3:=Tryz.underlying3
 a3:=Tryz.isAgg3
 z3:=Tryz.sizeOf3
 v3:=Tryz.zeroValue3
 t4:=Tryz.underlying4
 a4:=Tryz.isAgg4
 z4:=Tryz.sizeOf4
 v4:=Tryz.zeroValue4
 t22:=Tryz.underlying29
 a22:=Tryz.isAgg29
 z22:=Tryz.sizeOf29
 v22:=Tryz.zeroValue29
 i3:=by kernel_rfl}
open Go.RowKit Go.Lib Go.Sort in
theorem Tryz.slices_Compact_int(pd off cap:Nat)(zs:List Int)(w:World)(hH:Holds (am5 .i64) w pd off zs.toArray)(mE:zs.length<=9223372036854775807)(HD:zs.length<=cap):
 Calls Tryz.prog 146 #[.slice (some ⟨pd,off,none⟩) zs.length cap] w fun e w'=>e= .returned (.slice (some ⟨pd,off,none⟩) (Lib.compact zs).length cap)/\∃q,w'=putRow (am5 .i64) (Sort.ahead w q) pd off (Lib.compact zs++alX (zs.length-(Lib.compact zs).length) 0).toArray:=Any.slices_Compact_int Tryz.zi pd off cap zs w hH mE HD
open Go.RowKit Go.Lib Go.Sort in
theorem Tryz.slices_Compact_int_empty(a:Option Addr)(cap:Nat)(w:World):
 Calls Tryz.prog 146 #[.slice a 0 cap] w fun e w'=>e= .returned (.slice a 0 cap)/\w'=w:=Any.slices_Compact_int_empty Tryz.zi a cap w
open Go.RowKit Go.Sort in
theorem Tryz.slices_Sort_int_none(p:Option Addr)(cap:Nat)(w:World):
 Calls Tryz.prog 41 #[.slice p 0 cap] w fun e w'=>e= .returned (.tuple #[])/\w'=w:=Any.slices_Sort_int_none Tryz.GF p cap w
end Go.Proofs
end
