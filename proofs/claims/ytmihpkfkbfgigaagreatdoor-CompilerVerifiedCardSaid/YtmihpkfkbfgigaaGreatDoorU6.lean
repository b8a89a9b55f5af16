/- Joined texts: Fn Law Laid Jump Shelf Lays. -/
import Derived.Test.YtmihpkfkbfgigaaGreatDoorU5
import Derived.Scope
import Derived.Test.YtmihpkfkbfgigaaGreatDoorU1
import Derived.ProofKit
import Derived.LaidMore
import Derived.OpenShut
import Derived.Stop.Joined
import Derived.Sort.Grow
import Derived.Lib.SlicesCompact
import Derived.Lib.Bytealg
import Derived.Shelf.Small.Wraps
import Derived.Shelf.Strings.Search3
import Derived.Shelf.Sort.Plain
import Derived.Shelf.Bits.Mul64
import Derived.Shelf.Slices.Turned
import Derived.Ground.Names2Prog
import Derived.Shelf.Slices.CompactI
import Derived.Shelf.Slices.In.SortNone
import Derived.Shelf.Slices.Empties
import Derived.Test.YtmihpkfkbfgigaaGreatDoorProg
section
open _root_.Go.Addr.mk renaming injEq->akS
open _root_.Array renaming toArray_toList->aj9
open _root_.Bool renaming and_eq_true->akD
open _root_.List renaming append_nil->akd,getD->ajN,getElem?_drop->ajF,getElem?_eq_getElem->ajl,getElem?_take->ajU,length_cons->ajy,mem_cons->ajJ
open _root_.List.cons renaming injEq->ake
open _root_.Nat renaming add_zero->akm,beq->aju,eq_of_beq_eq_true->akb,le_refl->ajo
open _root_.Option renaming isSome_iff_exists->ajZ,none_or->aku
open _root_.Option.some renaming inj->ajk,injEq->ajx
open _root_.Prod.mk renaming inj->akO
open _root_.Go.Result renaming andThen_ok->aj8
open _root_.Go.Sem renaming run_bind->ajR
open _root_.Go.Value.pointer renaming injEq->ala
open _root_.Go.Value.slice renaming injEq->akK
namespace Go.Proofs.YtmihpkfkbfgigaaGreatDoor
open Go Go.RowKit
inductive Ex where
 |normal
 |exit (id:Nat)
 |ret
 |goto (l:Nat)
def Ex.nJ:Ex->Exit
 | .normal=> .normal
 | .exit id=> .exit id
 | .ret=> .ret
 | .goto l=> .goto l
def noGoto{R:Type}(k:Ex->State->Option R):Ex->State->Option R
 | .goto _,_=>none
 |e,st=>k e st
inductive tL where
 |nil
 |two (a b:tL)
 |join (J:JS) (a b:tL)
 |meet (J:JS) (a b:tL)
 |loop (L:JS) (a:tL)
abbrev tL.o(a:tL):tL:= .two .nil a
def tL.l:tL->tL
 | .two a _=>a
 |_=> .nil
def tL.r:tL->tL
 | .two _ b=>b
 |_=> .nil
def pO:List Oper->List Nat
 |[]=>[]
 |o::l=>match o.dst with
  |some d=>d::pO l
  |none=>pO l
def writes:Code->List Nat
 | .region _ ops _=>pO ops.toList
 | .seq a b=>writes a++writes b
 | .cond _ a b=>writes a++writes b
 | .block _ a=>writes a
 | .loop a=>writes a
 | .scope a=>writes a
 |_=>[]
def BD:List Nat->List (Nat×al)->List (Nat×al)
 |[],l=>l
 |t::ts,l=>(t, .dead)::BD ts l
def OV:List (Nat×OS)->List Nat
 |[]=>[]
 |(j,_)::l=>j::OV l
def Fw(st:State)(J:JS):List (Nat×(Nat×Th)):=del (OV J.objs++J.drop) st.objs
def behind(st:State)(W:List Nat)(J:JS)(x:cz J.rows):State:=
 {ai:=(dg J.ai (dA _ x)).1++BD W st.ai,objs:=ic st.nxt J.objs (dg J.ai (dA _ x)).2++Fw st J,nxt:=J.nxt}
def D1(st:State)(J:JS)(nF:State):Option (cz J.rows):=
 match xP st.nxt (Fw st J) J nF.ai nF.objs with
 |some (x,_)=>some x
 |none=>none
def KD(ob:Nat->Option (Nat×Th))(n o:Nat):Option dY:=
 match ob o with
 |some (_, .deep T d l none)=>some {dst:= .dead,eat:=[o],make:=[(o,(n, .own T d.row l))]}
 |_=>none
def mS(st:State):List (Nat×OS)->State
 |[]=>st
 |(j, .own _ _)::os=>match KD (find st.objs) st.nxt j with
  |some e=>mS (st.apply none e) os
  |none=>mS st os
 |_::os=>mS st os
def KE(st:State)(t o:Nat)(r:Row):Option State:=
 match find st.objs o with
 |some (_, .box _ t0)=>match eN st.objs t0.owns with
  |some aO=>match find aO o with
   |some (_, .box _ t1)=>match flat (find aO) r t1 with
    |some x=>some (State.apply {st with objs:=aO} (some t) {dst:= .at r x,eat:=[o]})
    |none=>none
   |_=>none
  |none=>none
 |_=>none
noncomputable def zC{R:Type}(st:State)(k:State->Option R):List (Nat×SS)->Option R
 |[]=>k st
 |(t, .at r)::ss=>match find st.ai t with
  |some (.ptr o [] 0)=>match KE st t o r with
   |some bX=>zC bX k ss
   |none=>none
  |some (.dlm o d i [] 0)=>match eN st.objs [o]with
   |some aO=>match find aO o with
    |some (_, .fdeep _ d' l)=>bif aju d.low.size d'.row.size then(idx l i).bind fun x=>zC {ai:=(t, .at d'.row x)::st.ai,objs:=aO,nxt:=st.nxt} k ss else none
    |_=>none
   |none=>none
  |_=>zC st k ss
 |_::ss=>zC st k ss
noncomputable def carry(st:State)(J:JS)(nF:State):Option (cz J.rows):=zC (mS (oq nF) J.objs) (D1 st J) J.ai
def bM{J R:Type}(m:Option (J⊕R))(k:J->Option R):Option R:=m.bind fun s=>match s with
 | .inl j=>k j
 | .inr r=>some r
noncomputable def exec{P:Program}(E:Env P)(nt N:Nat):Code->{R:Type}->tL->State->(Ex->State->Option R)->Option R
 | .skip,_,_,st,k=>k .normal st
 | .label _,_,_,st,k=>k .normal st
 | .scope x,_,a,st,k=>exec E nt N x a.l st (noGoto k)
 | .goto l,_,_,st,k=>k (.goto l) st
 | .ret,_,_,st,k=>k .ret st
 | .exit id,_,_,st,k=>k (.exit id) st
 | .cond c x y,_,a,st,k=>match IL st.ai c with
   |some D=>match asBool D with
    |some b=>if b=true then exec E nt N x a.l st k else exec E nt N y a.r st k
    |none=>none
   |none=>none
 | .region _ ops draw,_,_,st,k=>bif draw then mR E nt ops ops.toList st [] (k .normal)else runs E nt ops ops.toList [] st (k .normal)
 | .seq x y,R,a,st,k=>match a with
   | .join J a1 a2=>bM (exec E nt N x (R:=cz J.rows⊕R) a1 st (fun e bX=>match e with
       | .normal=>(carry st J bX).map .inl
       |e=>(k e bX).map .inr)) fun j=>exec E nt N y a2 (behind st (writes x) J j) k
   | .meet J a1 a2=>(exec E nt N x (R:=cz J.rows) a1 st (fun e bX=>match e with
       | .normal=>carry st J bX
       |_=>none)).bind fun j=>exec E nt N y a2 (behind st (writes x) J j) k
   |a=>exec E nt N x a.l st (fun e bX=>match e with
     | .normal=>exec E nt N y a.r bX k
     |e=>k e bX)
 | .block id x,R,a,st,k=>match a with
   | .join J a1 _=>bM (exec E nt N x (R:=cz J.rows⊕R) a1 st (fun e bX=>match e with
       | .normal=>(carry st J bX).map .inl
       | .exit i=>bif aju i id then(carry st J bX).map .inl else(k (.exit i) bX).map .inr
       |e=>(k e bX).map .inr)) fun j=>k .normal (behind st (writes x) J j)
   | .meet J a1 _=>(exec E nt N x (R:=cz J.rows) a1 st (fun e bX=>match e with
       | .normal=>carry st J bX
       | .exit i=>bif aju i id then carry st J bX else none
       |_=>none)).bind fun j=>k .normal (behind st (writes x) J j)
   |a=>exec E nt N x a.l st (fun e bX=>match e with
     | .exit i=>bif aju i id then k .normal bX else k (.exit i) bX
     |e=>k e bX)
 | .loop x,R,a,st,k=>match a with
   | .loop L a1=>match carry st L st with
     |some s0=>Loop (S:=cz L.rows) (X:=R) (fun s=>exec E nt N x (R:=cz L.rows⊕R) a1 (behind st (writes x) L s) (fun e bX=>match e with
       | .normal=>(carry st L bX).map .inl
       |e=>(k e bX).map .inr)) N s0
     |none=>none
   |_=>none
 |_,_,_,_,_=>none
section
variable {P:Program} {nt N:Nat} {R:Type}
variable {ρ:Nat->Value} {w w0:World} {H:aq} {F F0 G:Nat->Prop}
theorem D2{W:List Nat}{l:List (Nat×al)}{t:Nat}{d:al}(h:find (BD W l) t=some d):d= .dead\/(t∉W/\find l t=some d):=by
 induction W with
 |nil=>exact .inr ⟨by simp,h⟩
 |cons s W ih=>
  have h':find ((s,al.dead)::BD W l) t=some d:=h;rw[aD]at h';split at h'
  .exact .inl (ajk h').symm
  .rename_i e
   rcases ih h' with h1|⟨h1,h2⟩
   .exact .inl h1
   .exact .inr ⟨by simp[h1,Ne.symm e],h2⟩
theorem HL{st nF:State}{W:List Nat}{J:JS}{x:cz J.rows}{H1:aq}{F1:Nat->Prop}{w1:World}{CV:Nat->Value}(h:D1 st J nF=some x)(hh:cH G w0 F0 H F w ρ st)(ox:cH G w0 F0 H1 F1 w1 CV nF)(hk:cB H F w H1 F1 w1)
 (OK:∀t,t∉W->CV t=ρ t):∃H2 F2,cH G w0 F0 H2 F2 w1 CV (behind st W J x)/\cB H F w H2 F2 w1:=by
 unfold D1 at h;split at h
 case h_2=>cases h
 rename_i _ y rest hp;obtain⟨bs,aO⟩:=rest;obtain rfl:=ajk h;obtain⟨F2,H2,a1,a2,a3,_,a5,_,a6,a7,a8⟩:=vD (U':=UU G w0) hp hh.sat.ob hh.sat.all hk ox.sat.ob ox.sat.slot
 have eM:Step F1 w1 F2 w1:=fun b hb=>⟨a2 b hb,rfl⟩
 have cU:=a8 ox.sat.ob.new (fun o s t v k _ h2 h3 h4=>by
  obtain⟨v',dz,cn⟩:=a1.obj _ _ _ h2;rw[h3]at dz;obtain rfl:=ajk dz
  exact cn.use k h4) (fun o s t v k h2 h3 h4=>by
  have h5:=(gU.1 h2).2;obtain⟨v',dz,cn⟩:=hh.sat.ob.obj _ _ _ h5;rw[hk.iZ.val _ _ dz]at h3;obtain rfl:=ajk h3
  exact cn.use k (by rwa [hk.iZ.sub _ _ cn.con]at h4))
 refine⟨H2,F2,⟨⟨fun t d hd=>?_,cU,a6⟩,⟨ox.glob.ext,fun b hb=>a2 b (ox.glob.le b hb),fun b hb=>?_⟩⟩,⟨a5,fun b hb=>⟨a2 b (hk.step b hb).1,(hk.step b hb).2⟩⟩⟩
 .have xq:find ((dg J.ai (dA J.rows y)).1++BD W st.ai) t=some d:=hd;rw[gS]at xq
  cases hm:find (dg J.ai (dA J.rows y)).1 t with
  |some d'=>
   rw[hm]at xq;obtain rfl:=ajk xq;exact a7 t _ hm
  |none=>
   rw[hm,aku]at xq
   rcases D2 xq with rfl|⟨h1,h2⟩
   .trivial
   .rw[OK t h1]
    exact(hh.sat.slot t d h2).keep a5 fun b hb=>⟨a2 b (hk.step b hb).1,(hk.step b hb).2⟩
 .rcases a3 b hb with h1|h1
  .exact ox.glob.new b h1
  .exact .inr (ox.sat.ob.gD b h1)
theorem HM{U:Nat->Prop}{ob:Nat->Option (Nat×Th)}{n:Nat}(hs:au U H F w ob n){o:Nat}{e:dY}(h:KD ob n o=some e):kS H F w ob n e undef w:=by
 unfold KD at h;split at h
 case h_2=>cases h
 rename_i s T d l cU;obtain rfl:=ajk h;obtain⟨v,hv,cn⟩:=hs.obj _ _ _ cU
 obtain⟨lh,Ss,⟨xs,hx,OA⟩,h2,h3,h4⟩:=(show GL F w T d.low (nX H F w d none) v l (H.sub s)from cn.ok)
 have hn:∀k,H.sub s k->¬F k:=cn.no
 have Db:jf 0 (fun b=>F b\/∃i,i<l.length/\Ss i b) w T d.row v l:=by
  refine⟨fun k hk hF=>?_,xs,?_,fun i hi=>?_⟩
  .rcases hF with hF|⟨i,hi,hm⟩
   .exact hn k (h4.bq k hk) hF
   .exact h4.out i k hi hm hk
  .rw[<-d.size,<-h2];exact hx
  .have gj:i<lh.length:=by omega
   have:=jU.freeze (h3 i gj hi) (fun k hk=>hn k (h4.part hi k hk)) (OA i gj);rw[<-d.size]
   exact this.step fun b hb=>⟨hb.imp id fun hb=>⟨i,hi,hb⟩,rfl⟩
 have hf:=hs.fresh n (ajo _) (by omega)
 have kQ:∀k,H.sub s k->cm H ob [o] k:=fun k hk=>⟨o,by simp,s,_,v,cU,hv,hk⟩
 refine⟨H.bK n (.own T d.row l),fun b=>F b\/∃i,i<l.length/\Ss i b,⟨⟨fun _ _ h=>h,fun s' t h=>?_,fun s' t h=>?_⟩,⟨rfl,rfl,rfl,ajo _,fun _ _ _=>rfl⟩,fun _ h=> .inl h,fun b hb=>?_,fun b hb=>?_⟩,fun m hm=>⟨id,fun h=>?_⟩,trivial,⟨fun o' s' q hq=>?_,fun o1 o2 s1 s2 q1 q2 u1 u2 bP g1 g2=>?_⟩,fun o' h=>?_⟩
 .have:s'≠n:=fun e=>by rw[e,hf.2]at h;cases h
  simp[aq.bK,this,h]
 .rfl
 .rcases hb with hb|⟨i,hi,hb⟩
  .exact .inl hb
  .exact .inr (.inr (kQ b (h4.part hi b hb)))
 .rcases hb with hb|⟨i,hi,hb⟩
  .exact hs.lt b hb
  .exact cn.lt b (h4.part hi b hb)
 .simp[aq.bK,show m≠n from by omega,h]
 .obtain⟨rfl,e⟩:=bW hq;obtain⟨rfl,rfl⟩:=akO e;refine⟨v,hv,cn.one,by simp[aq.bK,Th.base],Db.2,fun k hk=>⟨Db.1 k hk,cn.lt k (h4.bq k hk), .inr (kQ k (h4.bq k hk))⟩⟩
 .exact absurd ((bW g1).1.trans (bW g2).1.symm) bP
 .left
  obtain⟨y,hy⟩:=ajZ.1 h;rw[(bW hy).1];simp
theorem cH.mS:(os:List (Nat×OS))->{st:State}->{H:aq}->{F:Nat->Prop}->cH G w0 F0 H F w ρ st->∃H' F',cH G w0 F0 H' F' w ρ (mS st os)/\cB H F w H' F' w
 |[],_,H,F,h=>⟨H,F,h,cB.refl H F w⟩
 |(j, .own _ _)::os,st,H,F,h=>by
  unfold Go.Proofs.YtmihpkfkbfgigaaGreatDoor.mS;split
  .rename_i e he;obtain⟨H',F',hp⟩:=HM h.sat.ob he;have hs:=h.sat.apply (d:=none) hp;obtain⟨H2,F2,h2,k2⟩:=cH.mS os (st:=st.apply none e) ⟨hs,h.glob.lG hp.lG h.sat.ob.gD⟩;exact⟨H2,F2,h2,(cB.Bm hp.lG h.sat.ob.lt h.sat.ob.gW).trans k2⟩
  .exact cH.mS os h
 |(_, .box ..)::os,_,_,_,h=>cH.mS os h
 |(_, .map ..)::os,_,_,_,h=>cH.mS os h
 |(_, .deep ..)::os,_,_,_,h=>cH.mS os h
 |(_, .dmap ..)::os,_,_,_,h=>cH.mS os h
theorem cH.KE{st bX:State}{t o:Nat}{r:Row}(h:cH G w0 F0 H F w ρ st)(fZ:find st.ai t=some (.ptr o [] 0))(hb:KE st t o r=some bX):∃F',cH G w0 F0 H F' w ρ bX/\cB H F w H F' w:=by
 unfold Go.Proofs.YtmihpkfkbfgigaaGreatDoor.KE at hb;split at hb
 case h_2=>cases hb
 split at hb
 case h_2=>cases hb
 rename_i aO w7;obtain⟨F1,h1,k1⟩:=h.sj w7;split at hb
 case h_2=>cases hb
 rename_i s1 T1 t1 cU;split at hb
 case h_2=>cases hb
 rename_i x hx;obtain rfl:=ajk hb;obtain⟨v,hv,cn⟩:=h1.sat.ob.obj _ _ _ cU
 obtain⟨b,es,rfl,hhp,hold⟩:=(show∃b es,v= .pointer (some ⟨b,0,none⟩)/\w.heap[b]? =some (.cells es.toArray T1 (0,0))/\Holds H F1 w t1 es from cn.ok)
 obtain⟨b',dz,lR⟩:=h.sat.slot t _ fZ;rw[hv]at dz;simp only[ajx,ala,akS,and_true]at dz;subst dz;have w6:=iF h1.sat.ob hx hold
 have hg:cm H (find aO) [o] b:=⟨o,by simp,s1,_,_,cU,hv,rfl⟩
 have eM:Step F1 w (fun k=>F1 k\/k=b) w:=fun k hk=>⟨.inl hk,rfl⟩
 have hp:mo H F1 w (find aO) st.nxt {dst:= .at r x,eat:=[o]} (ρ t) w H (fun k=>F1 k\/k=b):=
  ⟨⟨aq.le.refl H,⟨rfl,rfl,rfl,ajo _,fun _ _ _=>rfl⟩,fun _ hk=> .inl hk,fun k hk=>hk.elim .inl fun e=> .inr (.inr (e▸hg)),fun k hk=>hk.elim (h1.sat.ob.lt k) fun e=>by rw[e];exact cn.lt b rfl⟩,fun m _=>⟨id,id⟩,
    ⟨b,0,lR, .inr rfl,es,w6.length,fun j u hu=>by
      show w.cell? ⟨b,0+j,none⟩=some u
      simp[World.cell?,hhp,hu],w6.step eM⟩,⟨fun _ _ _ h=>(by cases h),fun _ _ _ _ _ _ _ _ _ h=>(by cases h)⟩,fun _ h=>(by cases h)⟩
 have hs:=h1.sat.apply (d:=some t) hp
 have Xd:uc ρ (some t) (ρ t)=ρ:=by
  funext u
  show C6 ρ t (ρ t) u=ρ u
  rw[oG];split
  .rename_i e;rw[e]
  .rfl
 rw[Xd]at hs;exact⟨_,⟨hs,h1.glob.lG hp.lG h1.sat.ob.gD⟩,k1.trans (cB.Bm hp.lG h1.sat.ob.lt h1.sat.ob.gW)⟩
theorem cH.zC{R:Type}{k:State->Option R}{q:R}:(ss:List (Nat×SS))->{st:State}->{H:aq}->{F:Nat->Prop}->cH G w0 F0 H F w ρ st->zC st k ss=some q->∃Ku H' F',k Ku=some q/\cH G w0 F0 H' F' w ρ Ku/\cB H F w H' F' w
 |[],st,H,F,h,hk=>⟨st,H,F,hk,h,cB.refl H F w⟩
 |(t, .at r)::ss,st,H,F,h,hk=>by
  unfold Go.Proofs.YtmihpkfkbfgigaaGreatDoor.zC at hk;split at hk
  .rename_i o fZ;split at hk
   case h_2=>cases hk
   rename_i bX hbx;obtain⟨F1,h1,k1⟩:=h.KE fZ hbx;obtain⟨Ku,H2,F2,g1,g2,g3⟩:=cH.zC ss h1 hk;exact⟨Ku,H2,F2,g1,g2,k1.trans g3⟩
  .rename_i o d i fZ;split at hk
   case h_2=>cases hk
   rename_i aO w7;obtain⟨F1,h1,k1⟩:=h.sj w7;split at hk
   case h_2=>cases hk
   rename_i s1 T1 d' l cU;obtain⟨lM,hk⟩:=aG hk;have lM:=akb lM;obtain⟨x,hx,hkx⟩:=bind_some hk;obtain⟨j,rfl,hj,CW⟩:=fP hx;obtain⟨g,o0,q0,m,cap,hv,hq,lR⟩:=h1.sat.slot t _ fZ;obtain⟨v,dz,cn⟩:=h1.sat.ob.obj _ _ _ cU;rw[hv]at dz;obtain rfl:=ajk dz
   obtain⟨A,Jm,e1,_,_,qX⟩:=(show cD F1 w (.slice d'.row) [_] l from cn.ok)
   obtain⟨b,off,es,hA,hFb,hlen,uO,w6⟩:=qX j hj;simp only[ake,akK,and_true]at e1;obtain⟨e1,_,_⟩:=e1;rw[<-e1]at hA;simp only[ajx,akS,and_true]at hA;obtain⟨rfl,rfl⟩:=hA
   have oi:aj H F1 w (.at d'.row x) (ρ t):=by
    have e:j=q0:=by omega
    subst e;refine⟨g,o0+j*d.low.size+0,lR,hFb,es,hlen,fun jj u hu=>?_,by rw[<-CW];exact w6⟩;rw[lM];exact uO jj u hu
   obtain⟨Ku,H2,F2,g1,g2,g3⟩:=cH.zC ss (st:={ai:=(t, .at d'.row x)::st.ai,objs:=aO,nxt:=st.nxt}) ⟨⟨fun t' q' mM=>by
    have mM:find ((t,al.at d'.row x)::st.ai) t'=some q':=mM;rw[aD]at mM;by_cases e:t=t'
    .subst e;rw[if_pos rfl]at mM;obtain rfl:=ajk mM;exact oi
    .rw[if_neg e]at mM
     exact h1.sat.slot t' q' mM,h1.sat.ob,h1.sat.all⟩,h1.glob⟩ hkx
   exact⟨Ku,H2,F2,g1,g2,k1.trans g3⟩
  .exact cH.zC ss h hk
 |(_, .val ..)::ss,_,_,_,h,hk=>cH.zC ss h hk
 |(_, .ptr ..)::ss,_,_,_,h,hk=>cH.zC ss h hk
 |(_, .undef)::ss,_,_,_,h,hk=>cH.zC ss h hk
 |(_, .fn ..)::ss,_,_,_,h,hk=>cH.zC ss h hk
 |(_, .ifc ..)::ss,_,_,_,h,hk=>cH.zC ss h hk
theorem lu{st nF:State}{W:List Nat}{J:JS}{x:cz J.rows}{H1:aq}{F1:Nat->Prop}{w1:World}{CV:Nat->Value}(h:carry st J nF=some x)(hh:cH G w0 F0 H F w ρ st)(ox:cH G w0 F0 H1 F1 w1 CV nF)(hk:cB H F w H1 F1 w1)
 (OK:∀t,t∉W->CV t=ρ t):∃H2 F2,cH G w0 F0 H2 F2 w1 CV (behind st W J x)/\cB H F w H2 F2 w1:=by
 obtain⟨H1',F1',Xe,dO⟩:=ox.oq;obtain⟨H2',F2',Xf,xv⟩:=Xe.mS J.objs;unfold carry at h;obtain⟨Ku,H3',F3',h3,hh3,P4⟩:=Xf.zC J.ai h;exact HL h3 hh hh3 (((hk.trans dO).trans xv).trans P4) OK
theorem tM{l:List Oper}{o:Oper}{t:Nat}(ho:o∈l)(hd:o.dst=some t):t∈pO l:=by
 induction l with
 |nil=>cases ho
 |cons p l ih=>
  rcases ajJ.1 ho with rfl|h
  .unfold pO;rw[hd];exact List.mem_cons_self
  .unfold pO;split
   .exact List.mem_cons_of_mem _ (ih h)
   .exact ih h
structure HN(G:Nat->Prop)(w0:World)(F0:Nat->Prop)(W:List Nat)(H:aq)(F:Nat->Prop)(w:World)(ρ:Nat->Value)(H':aq)(F':Nat->Prop)(w':World)(b8:Nat->Value)(bX:State):Prop where
 here:cH G w0 F0 H' F' w' b8 bX
 keeps:cB H F w H' F' w'
 same:∀t,t∉W->b8 t=ρ t
theorem map_inl{α β:Type}{o:Option α}{f:α->β}{r:β}(h:o.map f=some r):∃x,o=some x/\f x=r:=Option.map_eq_some_iff.1 h
theorem gn{E:Env P}:(c:Code)->{R:Type}->{q:R}->{a:tL}->{st:State}->{k:Ex->State->Option R}->{H:aq}->{F:Nat->Prop}->{w:World}->{ρ:Nat->Value}->{Q:Exit->(Nat->Value)->World->Prop}->
 exec E nt N c a st k=some q->cH G w0 F0 H F w ρ st->
 (∀e bX H' F' w' b8,k e bX=some q->HN G w0 F0 (writes c) H F w ρ H' F' w' b8 bX->Q e.nJ b8 w')->qv P nt c Q ρ w
 | .skip,R,q,a,st,k,H,F,w,ρ,Q,h,hh,hk=>I1 (hk .normal st H F w ρ h ⟨hh,cB.refl H F w,fun _ _=>rfl⟩)
 | .ret,R,q,a,st,k,H,F,w,ρ,Q,h,hh,hk=>Mw (hk .ret st H F w ρ h ⟨hh,cB.refl H F w,fun _ _=>rfl⟩)
 | .exit id,R,q,a,st,k,H,F,w,ρ,Q,h,hh,hk=>I2 (hk (.exit id) st H F w ρ h ⟨hh,cB.refl H F w,fun _ _=>rfl⟩)
 | .cond c x y,R,q,a,st,k,H,F,w,ρ,Q,h,hh,hk=>by
   unfold exec at h;split at h
   case h_2=>cases h
   rename_i D hD;split at h
   case h_2=>cases h
   rename_i b hb;have hv:=nq hb (uZ hh.sat.ob.gl hh.sat.slot _ _ hD);split at h
   .rename_i e;subst e;exact I3 hv (gn x h hh fun e bX H' F' w' b8 h1 h2=>hk e bX H' F' w' b8 h1 ⟨h2.here,h2.keeps,fun t ht=>h2.same t fun hm=>ht (by simp[writes,hm])⟩)
   .rename_i e
    have e:b=false:=by cases b<;>simp_all
    subst e;exact Gq hv (gn y h hh fun e bX H' F' w' b8 h1 h2=>hk e bX H' F' w' b8 h1 ⟨h2.here,h2.keeps,fun t ht=>h2.same t fun hm=>ht (by simp[writes,hm])⟩)
 | .region id ops draw,R,q,a,st,k,H,F,w,ρ,Q,h,hh,hk=>by
   unfold exec at h
   cases draw with
   |true=>
    rw[cond_true]at h
    exact No E.mix h hh fun bX H' F' w' b8 h1 h2 h3 h4=>hk .normal bX H' F' w' b8 h1 ⟨h2,h3,fun t ht=>h4 t fun o ho e=>ht (tM ho e)⟩
   |false=>
    rw[cond_false]at h
    have:=zi (K:=fun ρ w=>Q .normal ρ w) (ops:=ops) (nt:=nt) h (fun _ _ h=>by cases h) hh fun bX H' F' w' b8 h1 h2 h3 h4=>hk .normal bX H' F' w' b8 h1 ⟨h2,h3,fun t ht=>h4 t fun o ho e=>ht (tM ho e)⟩
    have h2:=C8 (id:=id) (l:=ops.toList) (P:=P) (n:=nt) (Q:=Q) (ρ:=ρ) (w:=w) (by rw[aj9];exact this);rw[aj9]at h2;exact h2
 | .seq x y,R,q,a,st,k,H,F,w,ρ,Q,h,hh,hk=>by
   have fin:∀{H1:aq}{F1:Nat->Prop}{w1:World}{CV:Nat->Value}{nF:State}{a2:tL},exec E nt N y a2 nF k=some q->cH G w0 F0 H1 F1 w1 CV nF->cB H F w H1 F1 w1->(∀t,t∉writes x->CV t=ρ t)->qv P nt y Q CV w1:=by
    intro H1 F1 w1 CV nF a2 g1 g2 g3 g4
    exact gn y g1 g2 fun e bX H' F' w' b8 h1 h2=>hk e bX H' F' w' b8 h1 ⟨h2.here,g3.trans h2.keeps,fun t ht=>(h2.same t fun hm=>ht (by simp[writes,hm])).trans (g4 t fun hm=>ht (by simp[writes,hm]))⟩
   have out:∀{e:Ex}{bX:State}{H':aq}{F':Nat->Prop}{w':World}{b8:Nat->Value},k e bX=some q->HN G w0 F0 (writes x) H F w ρ H' F' w' b8 bX->Q e.nJ b8 w':=by
    intro e bX H' F' w' b8 g1 g2;exact hk e bX H' F' w' b8 g1 ⟨g2.here,g2.keeps,fun t ht=>g2.same t fun hm=>ht (by simp[writes,hm])⟩
   unfold exec at h;split at h
   .rename_i J a1 a2;unfold bM at h;obtain⟨s,hs,h⟩:=bind_some h;refine pw (gn x hs hh fun e bX H' F' w' b8 h1 h2=>?_)
    cases e with
    |normal=>
     obtain⟨j,hj,rfl⟩:=map_inl h1;obtain⟨H2,F2,g1,g2⟩:=lu (W:=writes x) hj hh h2.here h2.keeps h2.same;exact fin h g1 g2 h2.same
    |exit id=>
     obtain⟨r,hr,rfl⟩:=map_inl h1;obtain rfl:=ajk h;exact out hr h2
    |ret=>
     obtain⟨r,hr,rfl⟩:=map_inl h1;obtain rfl:=ajk h;exact out hr h2
    |goto l=>
     obtain⟨r,hr,rfl⟩:=map_inl h1;obtain rfl:=ajk h;exact out hr h2
   .rename_i J a1 a2;obtain⟨s,hs,h⟩:=bind_some h;refine pw (gn x hs hh fun e bX H' F' w' b8 h1 h2=>?_)
    cases e with
    |normal=>
     obtain⟨H2,F2,g1,g2⟩:=lu (W:=writes x) h1 hh h2.here h2.keeps h2.same;exact fin h g1 g2 h2.same
    |exit id=>cases h1
    |ret=>cases h1
    |goto l=>cases h1
   .refine pw (gn x h hh fun e bX H' F' w' b8 h1 h2=>?_)
    cases e with
    |normal=>exact fin h1 h2.here h2.keeps h2.same
    |exit id=>exact out h1 h2
    |ret=>exact out h1 h2
    |goto l=>exact out h1 h2
 | .block id x,R,q,a,st,k,H,F,w,ρ,Q,h,hh,hk=>by
   have hw:writes (.block id x)=writes x:=rfl;rw[hw]at hk
   have Xg:∀{e:Ex}{b8:Nat->Value}{w':World},(match e with| .exit i=>if i=id then Q .normal b8 w' else Q (.exit i) b8 w'|e=>Q e.nJ b8 w')->Rv id Q e.nJ b8 w':=by
    intro e b8 w' g
    cases e with
    |normal=>exact g
    |ret=>exact g
    |goto l=>exact g
    |exit i=>
     by_cases e:i=id
     .subst e;simp only[if_pos]at g;exact Jq g
     .simp only[if_neg e]at g;refine GG ?_ g
      cases hb:aju i id with
      |false=>rfl
      |true=>exact absurd (beq_true hb) e
   have D3:∀{i:Nat},i≠id->aju i id=false:=fun{i}e=>by
    cases hb:aju i id with
    |false=>rfl
    |true=>exact absurd (beq_true hb) e
   unfold exec at h;split at h
   .rename_i J a1 a2;unfold bM at h;obtain⟨s,hs,h⟩:=bind_some h;refine se (gn x hs hh fun e bX H' F' w' b8 h1 h2=>Xg ?_)
    have inn:(carry st J bX).map Sum.inl=some s->Q .normal b8 w':=fun h1=>by
     obtain⟨j,hj,rfl⟩:=map_inl h1;obtain⟨H2,F2,g1,g2⟩:=lu (W:=writes x) hj hh h2.here h2.keeps h2.same;exact hk .normal _ H2 F2 w' b8 h ⟨g1,g2,h2.same⟩
    have out:∀{e:Ex},(k e bX).map Sum.inr=some s->Q e.nJ b8 w':=fun{e}h1=>by
     obtain⟨r,hr,rfl⟩:=map_inl h1;obtain rfl:=ajk h;exact hk e bX H' F' w' b8 hr h2
    cases e with
    |normal=>exact inn h1
    |exit i=>
     show if i=id then _ else _
     by_cases e:i=id
     .subst e;rw[if_pos rfl];refine inn ?_;simpa using h1
     .rw[if_neg e];simp only[D3 e,cond_false]at h1;exact out (e:= .exit i) h1
    |ret=>exact out (e:= .ret) h1
    |goto l=>exact out (e:= .goto l) h1
   .rename_i J a1 a2;obtain⟨s,hs,h⟩:=bind_some h;refine se (gn x hs hh fun e bX H' F' w' b8 h1 h2=>Xg ?_)
    have inn:carry st J bX=some s->Q .normal b8 w':=fun h1=>by
     obtain⟨H2,F2,g1,g2⟩:=lu (W:=writes x) h1 hh h2.here h2.keeps h2.same;exact hk .normal _ H2 F2 w' b8 h ⟨g1,g2,h2.same⟩
    cases e with
    |normal=>exact inn h1
    |exit i=>
     show if i=id then _ else _
     by_cases e:i=id
     .subst e;rw[if_pos rfl];refine inn ?_;simpa using h1
     .simp only[D3 e,cond_false]at h1;cases h1
    |ret=>cases h1
    |goto l=>cases h1
   .refine se (gn x h hh fun e bX H' F' w' b8 h1 h2=>Xg ?_)
    cases e with
    |normal=>exact hk .normal bX H' F' w' b8 h1 h2
    |exit i=>
     show if i=id then _ else _
     by_cases e:i=id
     .subst e;rw[if_pos rfl];refine hk .normal bX H' F' w' b8 ?_ h2;simpa using h1
     .rw[if_neg e];simp only[D3 e,cond_false]at h1;exact hk (.exit i) bX H' F' w' b8 h1 h2
    |ret=>exact hk .ret bX H' F' w' b8 h1 h2
    |goto l=>exact hk (.goto l) bX H' F' w' b8 h1 h2
 | .loop x,R,q,a,st,k,H,F,w,ρ,Q,h,hh,hk=>by
   have hw:writes (.loop x)=writes x:=rfl;rw[hw]at hk;unfold exec at h;split at h
   case h_2=>cases h
   rename_i L a1;split at h
   case h_2=>cases h
   rename_i s0 Hl;refine I4 (fun s b8 w'=>∃H' F',cH G w0 F0 H' F' w' b8 (behind st (writes x) L s)/\cB H F w H' F' w'/\∀t,t∉writes x->b8 t=ρ t) h ?_ ?_
   .obtain⟨H2,F2,g1,g2⟩:=lu (W:=writes x) Hl hh hh (cB.refl H F w) fun _ _=>rfl
    exact⟨H2,F2,g1,g2,fun _ _=>rfl⟩
   .rintro s b8 w' y ⟨H',F',g1,g2,g3⟩ hy
    refine gn x hy g1 fun e bX sq AY tE rF h1 h2=>?_
    have sm:∀t,t∉writes x->rF t=ρ t:=fun t ht=>(h2.same t ht).trans (g3 t ht)
    have out:∀{e:Ex},e≠ .normal->(k e bX).map Sum.inr=some y->Ov (fun s b8 w'=>∃H' F',cH G w0 F0 H' F' w' b8 (behind st (writes x) L s)/\cB H F w H' F' w'/\∀t,t∉writes x->b8 t=ρ t) Q q y e.nJ rF tE:=fun{e}he h1=>by
     obtain⟨r,hr,rfl⟩:=map_inl h1;refine⟨by cases e<;>simp_all[Ex.nJ],fun hq=>?_⟩;subst hq;exact hk e bX sq AY tE rF hr ⟨h2.here,g2.trans h2.keeps,sm⟩
    cases e with
    |normal=>
     obtain⟨j,hj,rfl⟩:=map_inl h1;obtain⟨H2,F2,m1,m2⟩:=lu (W:=writes x) hj hh h2.here (g2.trans h2.keeps) sm;exact⟨rfl,H2,F2,m1,m2,sm⟩
    |exit i=>exact out (e:= .exit i) (by simp) h1
    |ret=>exact out (e:= .ret) (by simp) h1
    |goto l=>exact out (e:= .goto l) (by simp) h1
 | .label l,R,q,a,st,k,H,F,w,ρ,Q,h,hh,hk=>fun act hf=>wp_label ⟨ρ,hf,hk .normal st H F w ρ h ⟨hh,cB.refl H F w,fun _ _=>rfl⟩⟩
 | .scope x,R,q,a,st,k,H,F,w,ρ,Q,h,hh,hk=>by
   have h1:=gn (Q:=fun e ρ w=>match e with| .goto _=>False|e=>Q e ρ w) x (show exec E nt N x a.l st (noGoto k)=some q from h) hh fun e bX H' F' w' b8 h1 h2=>by
    cases e with
    |goto l=>cases h1
    |_=>exact hk _ bX H' F' w' b8 h1 h2
   intro act hf;refine wp_scope_straight (wp_mono (h1 act hf) fun e a' w' ⟨b8,pW,Vx⟩=>?_)
   cases e<;>first
    |exact Vx.elim
    |exact⟨b8,pW,Vx⟩
 | .goto l,R,q,a,st,k,H,F,w,ρ,Q,h,hh,hk=>fun act hf=>wp_goto ⟨ρ,hf,hk (.goto l) st H F w ρ h ⟨hh,cB.refl H F w,fun _ _=>rfl⟩⟩
 | .rangeFunc ..,_,_,_,_,_,_,_,_,_,_,h,_,_=>by cases h
 | .refuse _,_,_,_,_,_,_,_,_,_,_,h,_,_=>by cases h
end
end Go.Proofs.YtmihpkfkbfgigaaGreatDoor
namespace Go.Proofs.YtmihpkfkbfgigaaGreatDoor
open Go Go.RowKit
def zD{P:Program}(T:be P)(ai:List (Nat×al))(objs:List (Nat×(Nat×Th)))(t:Nat)(T0:TypeId):Option al:=
 match find T.und T0 with
 |none=>none
 |some kk=>match find ai t with
  |some (.ptr o p off)=>match find objs o with
   |some (_, .box _ tr)=>match tr.get p with
    |some (s,dI)=>bif aju dI off&&mu T T0 kk s.size then some (.val (kP kk) s)else none
    |none=>none
   |_=>none
  |_=>none
def zE{P:Program}(T:be P)(ai:List (Nat×al))(objs:List (Nat×(Nat×Th))):List ResultVar->Option (List al)
 |[]=>some []
 | .tmp t::l=>match find ai t with
   |some d=>match zE T ai objs l with
    |some ds=>some (d::ds)
    |none=>none
   |none=>none
 | .cell t T0::l=>match zD T ai objs t T0 with
   |some d=>match zE T ai objs l with
    |some ds=>some (d::ds)
    |none=>none
   |none=>none
noncomputable def P5{P:Program}(T:be P)(rs:List ResultVar)(nb:Nat)(out:JS)(st:State):Option (cz out.rows):=
 match zE T st.ai st.objs rs with
 |some ds=>zC {ai:=ie 0 ds,objs:=(oq st).objs,nxt:=(oq st).nxt} (fun nF=>match xP nb [] out nF.ai nF.objs with
  |some (x,_)=>some x
  |none=>none) out.ai
 |none=>none
def init(inn:JS)(x:cz inn.rows):State:=
 {ai:=(dg inn.ai (dA _ x)).1,objs:=ic 0 inn.objs (dg inn.ai (dA _ x)).2,nxt:=inn.nxt}
noncomputable def P6{P:Program}(T:be P)(rs:List ResultVar)(nb:Nat)(out:JS):Ex->State->Option (cz out.rows)
 | .exit _,_=>none
 | .goto _,_=>none
 |_,st=>P5 T rs nb out st
noncomputable def Tf{P:Program}(E:Env P)(nt N:Nat)(c:Code)(rs:List ResultVar)(a:tL)(inn out:JS)(x:cz inn.rows):Option (cz out.rows):=
 exec E nt N c a (init inn x) (P6 E.T rs inn.nxt out)
section
variable {P:Program} {ρ:Nat->Value} {w:World} {H:aq} {F:Nat->Prop} {U:Nat->Prop} {n:Nat}
theorem BE(T:be P){t:TypeId}{kk:IK}(hu:find T.und t=some kk){b off:Nat}{s:Tree}{cs:List Value}(hh:Holds H F w s cs)(hc:∀j u,cs[j]? =some u->w.cell? ⟨b,off+j,none⟩=some u)
 (hz:if kP kk=true then∃r,find T.row t=some r/\r.size=s.size else s.size=1):∃v,(loadVar t ⟨b,off,none⟩).run P w= .ok v w/\aH H F w (kP kk) s v:=by
 obtain⟨dd,wW,xx⟩:=(T.und_ok _ _ hu).agg;have hl:=hh.length
 cases ha:kP kk with
 |true=>
  rw[if_pos ha]at hz;obtain⟨r,hr,IN⟩:=hz;obtain⟨ti,z,h1,_,_,h4,_⟩:=T.row_ok _ _ hr
  have RJ:(loadCells ⟨b,off,none⟩ cs.length).run P w= .ok cs.toArray w:=
   run_loadCells_list (P:=P) w ⟨b,off,none⟩ cs (fun j v hv=>by rw[cL];exact hc j v hv)
  refine⟨.agg cs.toArray,?_,cs,hh,rfl,by simp⟩
  have lM:ti.size=cs.length:=by omega
  simp[loadVar,ajR,fh wW,xx.trans ha,sizeOf,typeInfo,h1,lM,RJ]
 |false=>
  rw[if_neg (by simp[ha])]at hz
  obtain⟨v,rfl⟩:∃v,cs=[v]:=by
   match cs,hl.trans hz with
   |[v],_=>exact⟨v,rfl⟩
  refine⟨v,?_,[v],hh,rfl,fun _=>rfl⟩;have:=hc 0 v rfl;simp only[akm]at this;simp[loadVar,ajR,fh wW,xx.trans ha,this,go_sem]
theorem D4(T:be P){ai:List (Nat×al)}{objs:List (Nat×(Nat×Th))}{t:Nat}{T0:TypeId}{D:al}(h:zD T ai objs t T0=some D)(fZ:∀t d,find ai t=some d->aj H F w d (ρ t))(hs:au U H F w (find objs) n):
 ∃a v,ρ t= .pointer (some a)/\(loadVar T0 a).run P w= .ok v w/\aj H F w D v:=by
 unfold zD at h;split at h
 .cases h
 rename_i kk hu;split at h
 case h_2=>cases h
 rename_i o p off hD;split at h
 case h_2=>cases h
 rename_i s0 T1 tr cU;split at h
 case h_2=>cases h
 rename_i s dI hg;obtain⟨h1,rfl⟩:=mr h;obtain⟨h1,h3⟩:=cV h1;obtain rfl:=beq_true h1;obtain⟨b,hb,e⟩:=fZ _ _ hD;obtain⟨es,hh,OB⟩:=hs.box cU hb;obtain⟨g1,g2⟩:=OB.get hg
 obtain⟨v,hv,nn⟩:=BE (b:=b) (off:=dI) T hu g1 (fun j u hj=>by
  rw[u7 hh];rw[ajU]at hj;split at hj
  .rwa [ajF]at hj
  .cases hj) (jG T h3)
 exact⟨_,v,e,hv,nn⟩
def Np(tmps:Array Value):ResultVar->Sem Value
 | .tmp t=>pure (tmps.getD t undef)
 | .cell a t=>do loadVar t (<-asAddr (tmps.getD a undef))
theorem zF(T:be P){ai:List (Nat×al)}{objs:List (Nat×(Nat×Th))}(fZ:∀t d,find ai t=some d->aj H F w d (ρ t))(hs:au U H F w (find objs) n){tmps:Array Value}(hf:∀t,tmps.getD t undef=ρ t):
 {rs:List ResultVar}->{ds:List al}->zE T ai objs rs=some ds->∃vs:List Value,(rs.mapM (Np tmps)).run P w= .ok vs w/\fl H F w ds vs
 |[],ds,h=>by obtain rfl:=ajk h;exact⟨[],by simp,rfl⟩
 | .tmp t::l,ds,h=>by
   unfold zE at h;split at h
   case h_2=>cases h
   rename_i d hd;split at h
   case h_2=>cases h
   rename_i Vv uz;obtain rfl:=ajk h;obtain⟨vs,h1,h2⟩:=zF T fZ hs hf uz;refine⟨ρ t::vs,?_,ρ t,vs,rfl,fZ t d hd,h2⟩
   have hm:(Np tmps (.tmp t)).run P w= .ok (ρ t) w:=by rw[<-hf t];rfl
   rw[List.mapM_cons];simp only[ajR,hm,Sem.run_pure,aj8,h1]
 | .cell t T0::l,ds,h=>by
   unfold zE at h;split at h
   case h_2=>cases h
   rename_i d hd;split at h
   case h_2=>cases h
   rename_i Vv uz;obtain rfl:=ajk h;obtain⟨vs,h1,h2⟩:=zF T fZ hs hf uz;obtain⟨a,v,e1,e2,e3⟩:=D4 T hd fZ hs;refine⟨v::vs,?_,v,vs,rfl,e3,h2⟩;have ha:(asAddr (.pointer (some a))).run P w= .ok a w:=rfl
   have hm:(Np tmps (.cell t T0)).run P w= .ok v w:=by
    show(asAddr (tmps.getD t undef)>>= fun b=>loadVar T0 b).run P w=_
    rw[hf t,e1,ajR,ha,aj8,e2]
   rw[List.mapM_cons];simp only[ajR,hm,Sem.run_pure,aj8,h1]
theorem D5(T:be P){fn:Func}{rs:List ResultVar}(IN:fn.results.toList=rs){ai:List (Nat×al)}{objs:List (Nat×(Nat×Th))}(fZ:∀t d,find ai t=some d->aj H F w d (ρ t))(hs:au U H F w (find objs) n){tmps:Array Value}(hf:∀t,tmps.getD t undef=ρ t)
 {ds:List al}(h:zE T ai objs rs=some ds):∃vs:List Value,(results fn tmps).run P w= .ok (w8 vs) w/\fl H F w ds vs:=by
 obtain⟨vs,h1,h2⟩:=zF T fZ hs hf h;refine⟨vs,?_,h2⟩;have e:fn.results=rs.toArray:=eP IN;have er:results fn tmps=(fn.results.mapM (Np tmps)>>= fun vs=>pure (if h:vs.size=1 then vs[0]else Value.tuple vs)):=rfl;rw[er,e,List.mapM_toArray]
 have:∀vs:List Value,(if h:vs.toArray.size=1 then vs.toArray[0]else Value.tuple vs.toArray)=w8 vs:=by
  intro vs
  match vs with
  |[]=>rfl
  |[v]=>rfl
  |a::b::l=>simp[w8]
 simp only[ajR,Sem.run_map,h1,aj8,Sem.run_pure,this]
theorem Fx:{l:List (Nat×SS)}->{vs:List kM}->{k t:Nat}->{d:al}->rA k l=true->find (dg l vs).1 t=some d->t<k+l.length
 |[],_,_,_,_,_,h=>by cases h
 |(t0,s)::l,vs,k,t,d,hi,h=>by
  obtain⟨h1,h2⟩:=cV hi;have h':find ((t0,(ey s vs).1)::(dg l (ey s vs).2).1) t=some d:=h;rw[aD]at h';have:=beq_true h1;rw[ajy];split at h'
  .omega
  .have:=Fx h2 h';omega
def OW(P:Program)(nt:Nat)(c:Code)(run:{R:Type}->State->(Ex->State->Option R)->Option R):Prop:=
 ∀{R:Type}{q:R}{st:State}{k:Ex->State->Option R}{H:aq}{F:Nat->Prop}{w:World}{ρ:Nat->Value}{G:Nat->Prop}{w0:World}{F0:Nat->Prop}{Q:Exit->(Nat->Value)->World->Prop},
  run st k=some q->cH G w0 F0 H F w ρ st->(∀e bX H' F' w' b8,k e bX=some q->HN G w0 F0 (writes c) H F w ρ H' F' w' b8 bX->Q e.nJ b8 w')->qv P nt c Q ρ w
theorem KF{E:Env P}{f:FuncId}{fn:Func}{c:Code}{rs:List ResultVar}{sg:br}{run:{R:Type}->State->(Ex->State->Option R)->Option R}(hW:OW P fn.ntmps c run)(hf:P.funcs[f]? =some fn)(hn:(fn.name== "runtime.NumGoroutine")=false)(hb:fn.body=some c)(IN:fn.results.toList=rs)
 (nW:rA 0 sg.inn.ai=true)(hlen:Nat.ble sg.inn.ai.length fn.ntmps=true)(uU:aju rs.length sg.out.ai.length=true)
 (zf:∀x,sg.fn x=run (init sg.inn x) (P6 E.T rs sg.inn.nxt sg.out)):av P f sg:=by
 refine⟨⟨fn,hf,hn,by rw[hb];rfl⟩,fun x y yI args w H F G ET fZ cU gR hG=>?_⟩
 have hlen:sg.inn.ai.length<=fn.ntmps:=by simpa using hlen
 have uU:=beq_true uU
 refine(yF (R:=fun v w'=>∃vs,v=w8 vs/\vs.length=sg.out.ai.length/\∃H' F',Ext G w w'/\H.le H'/\(∀b,F b->F' b)/\(∀b,F' b->F b\/w.heap.size<=b\/G b)/\
  (∀t d,find (dg sg.out.ai (dA _ y)).1 t=some d->aj H' F' w' d (vs.getD t undef))/\
  au (fun k=>w.heap.size<=k\/G k) H' F' w' (find (ic sg.inn.nxt sg.out.objs (dg sg.out.ai (dA _ y)).2)) sg.out.nxt/\iR H' sg.out.nxt) hf hb (by omega) fun ρ OK=>?_).mono fun e w' ⟨v,he,vs,hv,h1,h2⟩=>⟨vs,by rw[he,hv],h1,h2⟩
 have Xh:∀t,t<args.length->ρ t=args.getD t undef:=fun t ht=>by
  rw[OK t _ (ajl ht)];simp[ajN,ht]
 have keys:∀t d,find (dg sg.inn.ai (dA sg.inn.rows x)).1 t=some d->aj H F w d (ρ t):=fun t d hd=>by
  rw[Xh t (by have:=Fx nW hd;omega)];exact fZ t d hd
 have hh:cH G w F H F w ρ (init sg.inn x):=⟨⟨keys,cU,gR⟩,⟨⟨rfl,rfl,rfl,ajo _,fun _ _ _=>rfl⟩,fun _ h=>h,fun _ h=> .inl h⟩⟩
 refine hW ((zf x).symm.trans yI) hh fun e bX H' F' w' b8 h1 h2=>?_
 have main:P5 E.T rs sg.inn.nxt sg.out bX=some y->∀act,Fr fn.ntmps act b8->∃v,(results fn act.tmps).run P w'= .ok v w'/\∃vs,v=w8 vs/\vs.length=sg.out.ai.length/\∃H' F',Ext G w w'/\H.le H'/\(∀b,F b->F' b)/\(∀b,F' b->F b\/w.heap.size<=b\/G b)/\
  (∀t d,find (dg sg.out.ai (dA _ y)).1 t=some d->aj H' F' w' d (vs.getD t undef))/\
  au (fun k=>w.heap.size<=k\/G k) H' F' w' (find (ic sg.inn.nxt sg.out.objs (dg sg.out.ai (dA _ y)).2)) sg.out.nxt/\iR H' sg.out.nxt:=by
  intro hr act Au;unfold P5 at hr;split at hr
  case h_2=>cases hr
  rename_i ds uz;obtain⟨vs,g1,g2⟩:=D5 E.T IN h2.here.sat.slot h2.here.sat.ob Au.get uz;have hdl:=jX g2;refine⟨_,g1,vs,rfl,?_,?_⟩
  .have:∀{rs:List ResultVar}{ds:List al},zE E.T bX.ai bX.objs rs=some ds->ds.length=rs.length:=by
    intro rs
    induction rs with
    |nil=>intro ds h;obtain rfl:=ajk h;rfl
    |cons r l ih=>
     intro ds h
     cases r<;>unfold zE at h<;>split at h<;>try cases h
     all_goals
      split at h
      case h_2=>cases h
      rename_i Vv Xi;obtain rfl:=ajk h;simp[ih Xi]
   have:=this uz;omega
  .have Hl:au (UU G w) H F w (find (del [] [])) sg.inn.nxt:=⟨fun _ _ _ h=>(by cases h),fun _ _ _ _ _ _ _ _ _ h=>(by cases h),cU.fresh,cU.lt,cU.new,cU.gl⟩
   obtain⟨H4,F4,h4,k4⟩:=h2.here.oq;obtain⟨nF,H3,F3,hr,h3,k3⟩:=cH.zC (ρ:=fun t=>vs.getD t undef) (st:={ai:=ie 0 ds,objs:=(oq bX).objs,nxt:=(oq bX).nxt}) sg.out.ai ⟨⟨fun t d hd=>aj.keep k4.iZ k4.step (by simpa using(oO g2 t d hd).2),h4.sat.ob,h4.sat.all⟩,h4.glob⟩ hr;split at hr
   case h_2=>cases hr
   rename_i _ z rest hp;obtain⟨bs,aO⟩:=rest;obtain rfl:=ajk hr;obtain⟨F2,H2,a1,a2,a3,_,a5,_,a6,a7,a8⟩:=vD (U':=UU G w) (ns:=[]) (objs0:=[]) (ρ:=fun t=>vs.getD t undef) hp Hl gR ((h2.keeps.trans k4).trans k3) h3.sat.ob (fun t d hd=>h3.sat.slot t d hd)
   have uf:=a8 h3.sat.ob.new (fun o s t v k _ m2 m3 m4=>by
    obtain⟨v',dz,cn⟩:=a1.obj _ _ _ m2;rw[m3]at dz;obtain rfl:=ajk dz
    exact cn.use k m4) (fun _ _ _ _ _ h=>by cases h)
   rw[show del [] ([]:List (Nat×(Nat×Th)))=[]from rfl,akd]at uf;refine⟨H2,F2,h3.glob.ext,a5,fun b hb=>a2 b (h3.glob.le b hb),fun b hb=>?_,a7,uf,a6⟩
   rcases a3 b hb with m1|m1
   .exact h3.glob.new b m1
   .exact .inr (h3.sat.ob.gD b m1)
 cases e with
 |normal=>exact main h1
 |ret=>exact main h1
 |exit id=>cases h1
 |goto l=>cases h1
theorem Tg{E:Env P}{f:FuncId}{fn:Func}{c:Code}{rs:List ResultVar}{N:Nat}{a:tL}{sg:br}(hf:P.funcs[f]? =some fn)(hn:(fn.name== "runtime.NumGoroutine")=false)(hb:fn.body=some c)(IN:fn.results.toList=rs)
 (nW:rA 0 sg.inn.ai=true)(hlen:Nat.ble sg.inn.ai.length fn.ntmps=true)(uU:aju rs.length sg.out.ai.length=true)
 (zf:∀x,sg.fn x=Tf E fn.ntmps N c rs a sg.inn sg.out x):av P f sg:=
 KF (E:=E) (run:=fun st k=>exec E fn.ntmps N c a st k) (fun h hh hk=>gn c h hh hk) hf hn hb IN nW hlen uU zf
structure CT(P:Program)where
 f:Nat
 sg:br
 ok:av P f sg
def ck{P:Program}{f:Nat}{sg:br}(h:av P f sg):CT P:=⟨f,sg,h⟩
def CT.tab{P:Program}:List (CT P)->List (Nat×br)
 |[]=>[]
 |c::l=>(c.f,c.sg)::CT.tab l
theorem CT.zG{P:Program}:{l:List (CT P)}->∀p∈CT.tab l,av P p.1 p.2
 |[],_,h=>by cases h
 |c::l,p,h=>by
  rcases ajJ.1 h with rfl|h
  .exact c.ok
  .exact CT.zG p h
def fwB(fn:Func)(sg:br):Bool:= !(fn.name== "runtime.NumGoroutine")&&fn.body.isSome&&rA 0 sg.inn.ai&&Nat.ble sg.inn.ai.length fn.ntmps&&aju fn.results.toList.length sg.out.ai.length
theorem fw(E:Env P){f:FuncId}{fn:Func}{N:Nat}{sg:br}(a:tL)(hf:P.funcs[f]? =some fn)(hc:fwB fn sg=true)
 (zf:∀x,sg.fn x=Tf E fn.ntmps N (fn.body.getD .skip) fn.results.toList a sg.inn sg.out x):av P f sg:=by
 unfold fwB at hc;simp only[akD,Bool.not_eq_true']at hc;obtain⟨⟨⟨⟨h1,h2⟩,h3⟩,h4⟩,h5⟩:=hc;obtain⟨c,hc⟩:=ajZ.1 h2;exact Tg (E:=E) (N:=N) (a:=a) hf h1 (by rw[hc];rfl) rfl h3 h4 h5 zf
@[reducible] def SS.l(r:Row):SS:= .val false (.leaf r)
@[reducible] def SS.g(r:Row):SS:= .val true (.leaf r)
theorem Nq{f:FuncId}{fn:Func}{sg:br}(hf:P.funcs[f]? =some fn)(hn:(fn.name== "runtime.NumGoroutine")=false)(hb:fn.body.isNone=false)(zf:∀x,sg.fn x=none):av P f sg:=
 ⟨⟨fn,hf,hn,hb⟩,fun x y h=>by rw[zf x]at h;cases h⟩
abbrev ae:Row:= .int .i64
end
end Go.Proofs.YtmihpkfkbfgigaaGreatDoor
end
section
open _root_.Nat renaming le_refl->ajo
open _root_.Option.some renaming inj->ajk
namespace Go.Proofs.YtmihpkfkbfgigaaGreatDoor
open Go Go.RowKit
inductive HO(F:Nat->Prop)(w:World):Nat->List (Nat×SS)->List kM->List Value->Prop where
 |nil {k:Nat}:HO F w k [] [] []
 |cons {k:Nat} {agg:Bool} {r:Row} {x:r.den} {v:Value} {ss:List (Nat×SS)} {ds:List kM} {vs:List Value} (h:aH ⟨fun _=>none,fun _=>none,fun _ _=>False⟩ F w agg (.leaf r x) v) (hs:HO F w (k+1) ss ds vs):HO F w k ((k, .val agg (.leaf r))::ss) (⟨r,x⟩::ds) (v::vs)
theorem HO.ai{F:Nat->Prop}{w:World}{k:Nat}{ss:List (Nat×SS)}{ds:List kM}{vs:List Value}(h:HO F w k ss ds vs):(∀t d,find (dg ss ds).1 t=some d->k<=t/\aj ⟨fun _=>none,fun _=>none,fun _ _=>False⟩ F w d (vs.getD (t-k) undef))/\(dg ss ds).2=[]/\vs.length=ss.length:=by
 induction h with
 |nil=>exact⟨fun _ _ h=>(by cases h),rfl,rfl⟩
 | @cons k agg r x v ss ds vs h hs ih=>
   refine⟨fun t d hf=>?_,ih.2.1,by simp[ih.2.2]⟩;have pW:find ((k,al.val agg (bif r.beq r then Tree.leaf r x else .nil))::(dg ss ds).1) t=some d:=hf;rw[aD]at pW;split at pW
   .rename_i e;subst e;obtain rfl:=ajk pW;rw[Row.beq_refl,Nat.sub_self];exact⟨ajo _,h⟩
   .obtain⟨h1,h2⟩:=ih.1 t d pW;refine⟨by omega,?_⟩;rw[show t-k=(t-(k+1))+1 from by omega];simpa using h2
theorem BF(F:Nat->Prop)(w:World)(k:IntKind)(x:Int):aH ⟨fun _=>none,fun _=>none,fun _ _=>False⟩ F w false (.leaf (.int k) x) (.int k x):=aH.mN rfl
theorem BG{F:Nat->Prop}{w:World}{r:Row}{x:r.den}{es:List Value}(h:cD F w r es x):aH ⟨fun _=>none,fun _=>none,fun _ _=>False⟩ F w true (.leaf r x) (.agg es.toArray):=⟨es,h,rfl,by simp⟩
theorem HP{P:Program}{f:FuncId}{inn:JS}{fn:cz inn.rows->Option Bool}(h:av P f ⟨inn,⟨[(0, .val false (.leaf .bool))],[],[],0⟩,fn⟩){x:cz inn.rows}{y:Bool}(hy:fn x=some y){ds:List kM}(uz:dA inn.rows x=ds){W:World}{vs:List Value}
 (ha:HO (fun b=>b<W.heap.size) W 0 inn.ai ds vs)(ho:inn.objs=[])(hgl:qw (fun b=>b<W.heap.size) W):Calls P f vs.toArray W fun e W'=>e= .returned (.bool y)/\Below W.heap.size W W':=by
 obtain⟨h1,h2,h3⟩:=ha.ai;subst uz
 refine(h.ok x y hy vs W ⟨fun _=>none,fun _=>none,fun _ _=>False⟩ (fun b=>b<W.heap.size) (fun _=>False) h3 (fun t d hd=>by simpa using(h1 t d hd).2) ?_ (fun _ _=>⟨rfl,rfl⟩) (fun _ h=>h.elim)).mono fun e W' ⟨us,he,M8,H',F',a1,_,_,_,a5,_⟩=>?_
 .show au _ _ _ W (find (ic 0 inn.objs _)) inn.nxt
  rw[ho];exact⟨fun _ _ _ h=>(by cases h),fun _ _ _ _ _ _ _ _ _ h=>(by cases h),fun _ _ _=>⟨rfl,rfl⟩,fun _ h=>h,fun _ h=> .inl h,hgl⟩
 .refine⟨?_,⟨a1.os,a1.tape,a1.output,a1.size,fun k hk=>a1.block k hk (fun h=>h)⟩⟩
  match us,M8 with
  |[u],_=>
   have:=a5 0 (dM y) rfl;have hu:u= .bool y:=aH.bool (x:=y) this;rw[he,hu];rfl
end Go.Proofs.YtmihpkfkbfgigaaGreatDoor
end
section
open _root_.Array renaming getElem?_eq_some_iff->akh
open _root_.List renaming getElem?_drop->ajF,getElem?_eq_getElem->ajl,getElem?_map->akj,length_map->ajM
open _root_.Nat renaming add_zero->akm
open _root_.Option.some renaming injEq->ajx
open _root_.Prod.mk renaming injEq->akl
namespace Go.Proofs.YtmihpkfkbfgigaaGreatDoor
open Go Go.RowKit
theorem HQ{H:Type}{enc:TypeId×Value->H}{P:Program}{W:World}{base:Nat}{spare:Nat->Bool}{held:Bool}{fuel:Nat}{t e:TypeId}{n:Nat}{k:IntKind}(ht:P.underlying t=some (.array n e))(he:P.underlying e=some (.int k))(hc:P.cellsOf e=1)(RM:P.cellsOf t=n)
 {cs:List Value}{ns:List Int}{q:List MemPlace}(hd:DataW.trod enc P W base spare held fuel t cs=some (.agg (ns.map fun x=> .lit (.int k x)),q)):cs=ns.map fun x=> .int k x:=by
 obtain⟨xs,m,_,hx,hl,hn,qX⟩:=DataW.trod_array ht hd;simp only[akl,DataW.agg.injEq]at hx
 have hln:ns.length=n:=by rw[<-hn,<-ajM (f:=fun x:Int=>(DataW.lit (.int k x):DataW H)),hx.1,ajM]
 apply List.ext_getElem?
 intro i;by_cases hi:i<n
 .have h:=qX i hi;rw[hc,Nat.mul_one,ajl (by omega:i<xs.length)]at h;obtain⟨z,h1,h2,_⟩:=DataW.trod_int he h
  have h3:(xs.map (·.1))[i]? =some (.lit (.int k z)):=by
   rw[akj,ajl (by omega:i<xs.length),h2];rfl
  rw[<-hx.1,akj,ajl (by omega:i<ns.length)]at h3;simp only[Option.map_some,ajx,DataW.lit.injEq,Lit.int.injEq,true_and]at h3;rw[akj,ajl (by omega:i<ns.length),h3]
  have h4:((cs.drop i).take 1)[0]? =some (.int k z):=by rw[h1];rfl
  rw[List.getElem?_take_of_lt (by omega),ajF,akm]at h4;exact h4
 .rw[List.getElem?_eq_none (by omega),List.getElem?_eq_none (by simp;omega)]
theorem Nr{W:World}{b off:Nat}{v:Value}(h:W.cell? ⟨b,off,none⟩=some v):b<W.heap.size:=by
 unfold World.cell? at h;split at h
 .rename_i hb;exact(akh.1 hb).1
 all_goals simp_all
end Go.Proofs.YtmihpkfkbfgigaaGreatDoor
end
section
open _root_.Nat renaming beq->aju
open _root_.Option.some renaming inj->ajk
namespace Go.Proofs.YtmihpkfkbfgigaaGreatDoor
open Go Go.RowKit
def P7(l:Nat)(J:(Nat->Value)->World->Prop)(Q:Exit->(Nat->Value)->World->Prop):Exit->(Nat->Value)->World->Prop
 | .goto l',ρ,w=>l'=l/\J ρ w
 |e,ρ,w=>Q e ρ w
def Ti(l:Nat)(J:Act->World->Prop)(Q:Exit->Act->World->Prop):Exit->Act->World->Prop
 | .goto l',a,w=>l'=l/\J a w
 |e,a,w=>Q e a w
theorem xi{P:Program}{a:Act}{w:World}{Q:Exit->Act->World->Prop}{c rest:Code}(l:Nat)(J:Nat->Act->World->Prop)(hf:findLabel c l=some rest)
 (first:c.wp P (Ti l (fun a w=>∃n,J n a w) Q) a w)
 (pass:∀n a w,J n a w->rest.wp P (Ti l (fun a' w'=>∃m,m<n/\J m a' w') Q) a w):(Code.scope c).wp P Q a w:=by
 intro b k cs
 have hg:gotoIn l (.inScope c::k)=some (.code rest:: .inScope c::k):=by simp[gotoIn,hf]
 have key:∀n a w,J n a w->∃e a' w',Q e a' w'/\Arrives P (lone (b.at a (.code rest:: .inScope c::k)) cs w) b k cs e a' w':=by
  intro n
  induction n using Nat.strongRecOn with
  |_ n ih=>
   intro a w hJ;obtain⟨e,sU,sV,hq,sW⟩:=pass n a w hJ b (.inScope c::k) cs
   cases e with
   |normal=>exact⟨.normal,sU,sV,hq,Steps.trans sW (.one step_inScope)⟩
   |exit id=>exact⟨.exit id,sU,sV,hq,fun k' hk=>sW k' (by simp[exitTo,hk])⟩
   |goto l'=>
    obtain⟨rfl,m,ao,Xj⟩:=hq;obtain⟨P8,P9,Qa,KG,zH⟩:=ih m ao sU sV Xj;exact⟨P8,P9,Qa,KG, .of_steps (sW _ hg) zH⟩
   |ret=>exact⟨_,sU,sV,hq,sW⟩
   |panic ch=>exact⟨_,sU,sV,hq,sW⟩
   |outgrown=>exact⟨_,sU,sV,hq,sW⟩
 obtain⟨e,sU,sV,hq,sW⟩:=first b (.inScope c::k) cs
 cases e with
 |normal=>exact⟨.normal,sU,sV,hq, .head step_scope (Steps.trans sW (.one step_inScope))⟩
 |exit id=>exact⟨.exit id,sU,sV,hq,fun k' hk=> .head step_scope (sW k' (by simp[exitTo,hk]))⟩
 |goto l'=>
  obtain⟨rfl,m,Xj⟩:=hq;obtain⟨P8,P9,Qa,KG,zH⟩:=key m sU sV Xj;exact⟨P8,P9,Qa,KG, .of_steps (.head step_scope (sW _ hg)) zH⟩
 |ret=>exact⟨_,sU,sV,hq, .of_steps (.one step_scope) sW⟩
 |panic ch=>exact⟨_,sU,sV,hq, .of_steps (.one step_scope) sW⟩
 |outgrown=>exact⟨_,sU,sV,hq, .of_steps (.one step_scope) sW⟩
theorem HR{P:Program}{n:Nat}{Q:Exit->(Nat->Value)->World->Prop}{ρ:Nat->Value}{w:World}{x b:Code}{l:Nat}(J:Nat->(Nat->Value)->World->Prop)(hf:findLabel x l=some (.seq .skip b))
 (first:qv P n x (P7 l (fun ρ w=>∃m,J m ρ w) Q) ρ w)(pass:∀m ρ w,J m ρ w->qv P n b (P7 l (fun ρ w=>∃k,k<m/\J k ρ w) Q) ρ w):qv P n (.scope x) Q ρ w:=by
 intro act Xk
 refine xi l (fun m a w=>∃ρ,Fr n a ρ/\J m ρ w) hf (wp_mono (first act Xk) fun e a' w' ⟨b8,h1,h2⟩=>?_) fun m a w ⟨ρ,hr,hJ⟩=>wp_seq (wp_skip (wp_mono (pass m ρ w hJ a hr) fun e a' w' ⟨b8,h1,h2⟩=>?_))
 .cases e with
  |goto l'=>exact⟨h2.1,h2.2.imp fun m hm=>⟨b8,h1,hm⟩⟩
  |_=>exact⟨b8,h1,h2⟩
 .cases e with
  |goto l'=>exact⟨h2.1,h2.2.imp fun m hm=>⟨hm.1,b8,h1,hm.2⟩⟩
  |_=>exact⟨b8,h1,h2⟩
def tN(l:Nat):Code->Option Code
 | .seq a b=>match a with
   | .label l'=>bif aju l' l then some b else none
   |a=>bif (findLabel a l).isNone then tN l b else none
 |_=>none
theorem BH{l:Nat}:{x b:Code}->tN l x=some b->findLabel x l=some (.seq .skip b)
 | .seq a y,b,h=>by
   unfold tN at h;split at h
   .rename_i l';obtain⟨h1,rfl⟩:=mr h;obtain rfl:=beq_true h1;simp[findLabel]
   .obtain⟨h1,h2⟩:=aG h;have h3:=BH h2
    have h4:findLabel a l=none:=by simpa using h1
    simp[findLabel,h4,h3]
 | .skip,_,h=>by cases h
 | .ret,_,h=>by cases h
 | .exit _,_,h=>by cases h
 | .cond _ _ _,_,h=>by cases h
 | .region _ _ _,_,h=>by cases h
 | .block _ _,_,h=>by cases h
 | .loop _,_,h=>by cases h
 | .label _,_,h=>by cases h
 | .scope _,_,h=>by cases h
 | .goto _,_,h=>by cases h
 | .rangeFunc ..,_,h=>by cases h
 | .refuse _,_,h=>by cases h
noncomputable def Fy{P:Program}(E:Env P)(nt N l:Nat){R:Type}:Code->tL->State->(Ex->State->Option R)->(State->Option R)->Option R
 | .seq a b,an,st,k,kL=>match a with
   | .label _=>kL st
   |a=>exec E nt N a an.l st (fun e bX=>match e with
    | .normal=>Fy E nt N l b an.r bX k kL
    |e=>k e bX)
 |_,_,_,_,_=>none
noncomputable def KH{P:Program}(E:Env P)(nt N l:Nat)(x:Code){R:Type}(L:JS)(a1 a2:tL)(st:State)(k:Ex->State->Option R):Option R:=
 match tN l x with
 |some b=>bM (J:=cz L.rows) (R:=R) (Fy E nt N l (R:=cz L.rows⊕R) x a1 st (noGoto fun e bX=>(k e bX).map .inr) (fun bX=>(carry st L bX).map .inl)) fun s0=>
   Loop (S:=cz L.rows) (X:=R) (fun s=>exec E nt N b (R:=cz L.rows⊕R) a2 (behind st (writes x) L s) (fun e bX=>match e with
    | .goto i=>bif aju i l then(carry st L bX).map .inl else none
    |e=>(k e bX).map .inr)) N s0
 |none=>none
noncomputable def Fz{P:Program}(E:Env P)(nt N l:Nat)(c:Code){R:Type}(L:JS)(a0 a1 a2:tL)(st:State)(k:Ex->State->Option R):Option R:=
 match c with
 | .seq r (.scope x)=>exec E nt N r a0 st (fun e bX=>match e with
   | .normal=>KH E nt N l x L a1 a2 bX k
   |e=>k e bX)
 |_=>none
section
variable {P:Program} {nt N:Nat} {R:Type}
variable {ρ:Nat->Value} {w w0:World} {H:aq} {F F0 G:Nat->Prop}
theorem rG{l:Nat}:{x b:Code}->tN l x=some b->∀t∈writes b,t∈writes x
 | .seq a y,b,h,t,ht=>by
   unfold tN at h;split at h
   .obtain⟨h1,rfl⟩:=mr h;simp[writes,ht]
   .obtain⟨h1,h2⟩:=aG h;simp[writes,rG h2 t ht]
 | .skip,_,h,_,_=>by cases h
 | .ret,_,h,_,_=>by cases h
 | .exit _,_,h,_,_=>by cases h
 | .cond _ _ _,_,h,_,_=>by cases h
 | .region _ _ _,_,h,_,_=>by cases h
 | .block _ _,_,h,_,_=>by cases h
 | .loop _,_,h,_,_=>by cases h
 | .label _,_,h,_,_=>by cases h
 | .scope _,_,h,_,_=>by cases h
 | .goto _,_,h,_,_=>by cases h
 | .rangeFunc ..,_,h,_,_=>by cases h
 | .refuse _,_,h,_,_=>by cases h
theorem BI{E:Env P}{l:Nat}{q:R}:(c:Code)->{b:Code}->{a:tL}->{st:State}->{k:Ex->State->Option R}->{kL:State->Option R}->{H:aq}->{F:Nat->Prop}->{w:World}->{ρ:Nat->Value}->{Q:Exit->(Nat->Value)->World->Prop}->
 tN l c=some b->Fy E nt N l c a st k kL=some q->cH G w0 F0 H F w ρ st->
 (∀e bX H' F' w' b8,k e bX=some q->HN G w0 F0 (writes c) H F w ρ H' F' w' b8 bX->Q e.nJ b8 w')->
 (∀bX H' F' w' b8,kL bX=some q->HN G w0 F0 (writes c) H F w ρ H' F' w' b8 bX->qv P nt b Q b8 w')->qv P nt c Q ρ w
 | .seq a y,b,an,st,k,kL,H,F,w,ρ,Q,ht,h,hh,hk,hL=>by
   unfold tN at ht;unfold Fy at h;split at ht
   .obtain⟨h1,rfl⟩:=mr ht;exact pw (fun act hf=>wp_label ⟨ρ,hf,hL st H F w ρ h ⟨hh,cB.refl H F w,fun _ _=>rfl⟩⟩)
   .rename_i bP;obtain⟨h1,h2⟩:=aG ht;split at h
    .rename_i l';exact absurd rfl (bP l')
    refine pw (gn a h hh fun e bX H' F' w' b8 g1 g2=>?_)
    have out:∀{e:Ex},k e bX=some q->Q e.nJ b8 w':=fun{e}g1=>hk e bX H' F' w' b8 g1 ⟨g2.here,g2.keeps,fun t ht=>g2.same t fun hm=>ht (by simp[writes,hm])⟩
    cases e with
    |normal=>
     refine BI y h2 g1 g2.here (fun e KI sq AY tE rF m1 m2=>?_) fun KI sq AY tE rF m1 m2=>?_
     .exact hk e KI sq AY tE rF m1 ⟨m2.here,g2.keeps.trans m2.keeps,fun t ht=>(m2.same t fun hm=>ht (by simp[writes,hm])).trans (g2.same t fun hm=>ht (by simp[writes,hm]))⟩
     .exact hL KI sq AY tE rF m1 ⟨m2.here,g2.keeps.trans m2.keeps,fun t ht=>(m2.same t fun hm=>ht (by simp[writes,hm])).trans (g2.same t fun hm=>ht (by simp[writes,hm]))⟩
    |exit i=>exact out g1
    |ret=>exact out g1
    |goto i=>exact out g1
 | .skip,_,_,_,_,_,_,_,_,_,_,h,_,_,_,_=>by cases h
 | .ret,_,_,_,_,_,_,_,_,_,_,h,_,_,_,_=>by cases h
 | .exit _,_,_,_,_,_,_,_,_,_,_,h,_,_,_,_=>by cases h
 | .cond _ _ _,_,_,_,_,_,_,_,_,_,_,h,_,_,_,_=>by cases h
 | .region _ _ _,_,_,_,_,_,_,_,_,_,_,h,_,_,_,_=>by cases h
 | .block _ _,_,_,_,_,_,_,_,_,_,_,h,_,_,_,_=>by cases h
 | .loop _,_,_,_,_,_,_,_,_,_,_,h,_,_,_,_=>by cases h
 | .label _,_,_,_,_,_,_,_,_,_,_,h,_,_,_,_=>by cases h
 | .scope _,_,_,_,_,_,_,_,_,_,_,h,_,_,_,_=>by cases h
 | .goto _,_,_,_,_,_,_,_,_,_,_,h,_,_,_,_=>by cases h
 | .rangeFunc ..,_,_,_,_,_,_,_,_,_,_,h,_,_,_,_=>by cases h
 | .refuse _,_,_,_,_,_,_,_,_,_,_,h,_,_,_,_=>by cases h
theorem KJ{E:Env P}{l:Nat}{x:Code}{L:JS}{a1 a2:tL}{q:R}{st:State}{k:Ex->State->Option R}{Q:Exit->(Nat->Value)->World->Prop}(h:KH E nt N l x L a1 a2 st k=some q)(hh:cH G w0 F0 H F w ρ st)
 (hk:∀e bX H' F' w' b8,k e bX=some q->HN G w0 F0 (writes x) H F w ρ H' F' w' b8 bX->Q e.nJ b8 w'):qv P nt (.scope x) Q ρ w:=by
 unfold KH at h;split at h
 case h_2=>cases h
 rename_i b hb;unfold bM at h;obtain⟨s,hs,h⟩:=bind_some h;have hbw:=rG hb
 let I:cz L.rows->(Nat->Value)->World->Prop:=fun s b8 w'=>∃H' F',cH G w0 F0 H' F' w' b8 (behind st (writes x) L s)/\cB H F w H' F' w'/\∀t,t∉writes x->b8 t=ρ t
 let body:cz L.rows->Option (cz L.rows⊕R):=fun s=>exec E nt N b (R:=cz L.rows⊕R) a2 (behind st (writes x) L s) (fun e bX=>match e with
  | .goto i=>bif aju i l then(carry st L bX).map .inl else none
  |e=>(k e bX).map .inr)
 have pass:∀m CV w1,(∃s,I s CV w1/\Loop body m s=some q)->qv P nt b (P7 l (fun ρ w=>∃k,k<m/\∃s,I s ρ w/\Loop body k s=some q) Q) CV w1:=by
  rintro m CV w1 ⟨s,⟨H1,F1,g1,g2,g3⟩,hl⟩
  cases m with
  |zero=>cases hl
  |succ m=>
   unfold Loop at hl
   cases hy:body s with
   |none=>rw[hy]at hl;cases hl
   |some y=>
    rw[hy]at hl
    refine gn b hy g1 fun e bX H' F' w' b8 m1 m2=>?_
    have sm:∀t,t∉writes x->b8 t=ρ t:=fun t ht=>(m2.same t fun hm=>ht (hbw t hm)).trans (g3 t ht)
    have out:∀{e:Ex},(k e bX).map Sum.inr=some y->Q e.nJ b8 w':=fun{e}h1=>by
     obtain⟨r,hr,rfl⟩:=map_inl h1;obtain rfl:=ajk hl;exact hk e bX H' F' w' b8 hr ⟨m2.here,g2.trans m2.keeps,sm⟩
    cases e with
    |normal=>exact out (e:= .normal) m1
    |exit i=>exact out (e:= .exit i) m1
    |ret=>exact out (e:= .ret) m1
    |goto i=>
     obtain⟨h1,h2⟩:=aG m1;obtain rfl:=beq_true h1;obtain⟨j,hj,rfl⟩:=map_inl h2;obtain⟨H2,F2,n1,n2⟩:=lu (W:=writes x) hj hh m2.here (g2.trans m2.keeps) sm;exact⟨rfl,m,Nat.lt_succ_self m,j,⟨H2,F2,n1,n2,sm⟩,hl⟩
 refine HR (fun m ρ w=>∃s,I s ρ w/\Loop body m s=some q) (BH hb) ?_ pass
 refine BI x hb hs hh (fun e bX H' F' w' b8 m1 m2=>?_) fun bX H' F' w' b8 m1 m2=>?_
 .cases e with
  |goto i=>cases m1
  |normal=>
   obtain⟨r,hr,rfl⟩:=map_inl (show(k .normal bX).map Sum.inr=some s from m1);obtain rfl:=ajk h;exact hk .normal bX H' F' w' b8 hr m2
  |exit i=>
   obtain⟨r,hr,rfl⟩:=map_inl (show(k (.exit i) bX).map Sum.inr=some s from m1);obtain rfl:=ajk h;exact hk (.exit i) bX H' F' w' b8 hr m2
  |ret=>
   obtain⟨r,hr,rfl⟩:=map_inl (show(k .ret bX).map Sum.inr=some s from m1);obtain rfl:=ajk h;exact hk .ret bX H' F' w' b8 hr m2
 .obtain⟨j,hj,rfl⟩:=map_inl m1;obtain⟨H2,F2,n1,n2⟩:=lu (W:=writes x) hj hh m2.here m2.keeps m2.same
  refine I0 (pass N b8 w' ⟨j,⟨H2,F2,n1,n2,m2.same⟩,h⟩) fun e VC w2 hq=>?_
  cases e with
  |goto i=>exact⟨hq.1,hq.2.imp fun m hm=>hm.2⟩
  |_=>exact hq
theorem BJ{E:Env P}{l:Nat}{c:Code}{L:JS}{a0 a1 a2:tL}:OW P nt c fun st k=>Fz E nt N l c L a0 a1 a2 st k:=by
 intro R q st k H F w ρ G w0 F0 Q h hh hk;unfold Fz at h;split at h
 case h_2=>cases h
 rename_i r x;refine pw (gn r h hh fun e bX H' F' w' b8 g1 g2=>?_)
 have out:∀{e:Ex},k e bX=some q->Q e.nJ b8 w':=fun{e}g1=>hk e bX H' F' w' b8 g1 ⟨g2.here,g2.keeps,fun t ht=>g2.same t fun hm=>ht (by simp[writes,hm])⟩
 cases e with
 |normal=>
  refine KJ g1 g2.here fun e KI sq AY tE rF m1 m2=>?_
  exact hk e KI sq AY tE rF m1 ⟨m2.here,g2.keeps.trans m2.keeps,fun t ht=>(m2.same t fun hm=>ht (by simp[writes,hm])).trans (g2.same t fun hm=>ht (by simp[writes,hm]))⟩
 |exit i=>exact out g1
 |ret=>exact out g1
 |goto i=>exact out g1
theorem KK{E:Env P}{f:FuncId}{fn:Func}{c:Code}{rs:List ResultVar}{N l:Nat}{L:JS}{a0 a1 a2:tL}{sg:br}(hf:P.funcs[f]? =some fn)(hn:(fn.name== "runtime.NumGoroutine")=false)(hb:fn.body=some c)(IN:fn.results.toList=rs)
 (nW:rA 0 sg.inn.ai=true)(hlen:Nat.ble sg.inn.ai.length fn.ntmps=true)(uU:aju rs.length sg.out.ai.length=true)
 (zf:∀x,sg.fn x=Fz E fn.ntmps N l c L a0 a1 a2 (init sg.inn x) (P6 E.T rs sg.inn.nxt sg.out)):av P f sg:=
 KF (E:=E) (run:=fun st k=>Fz E fn.ntmps N l c L a0 a1 a2 st k) BJ hf hn hb IN nW hlen uU zf
end
end Go.Proofs.YtmihpkfkbfgigaaGreatDoor
end
section
open _root_.Array renaming getElem?_eq_some_iff->akh
open _root_.Go.Lib renaming compact->akt,indexByte->akH
open _root_.Go.Sort renaming ahead->akI,grow->akU,mapBlock->ak9,putCells->akZ,putRow->akE
open _root_.List.cons renaming injEq->ake
open _root_.List renaming drop_eq_getElem_cons->ajX,getElem?_drop->ajF,getElem?_take->ajU,length_append->ajm,replicate->ajq,take_length->ajD
open _root_.Nat renaming beq->aju,eq_of_beq_eq_true->akb,le_refl->ajo,lt_of_lt_of_le->aj7,min_eq_left->aj3,zero_le->ajI
open _root_.Option.some renaming inj->ajk
open _root_.Go.Value renaming int->aks,ownBlock->ajV
namespace Go.Proofs.YtmihpkfkbfgigaaGreatDoor
open Go Go.RowKit
def qf(l:List Int):List Int:=l.mergeSort fun x y=>decide (x<=y)
section
variable {P:Program} {w w':World} {F:Nat->Prop} {T:TypeId}
theorem KM(w:World):akU w #[]=w:=by
 unfold akU;rw[Array.append_empty]
theorem FA{g off:Nat}{d:Array Int}{n:Nat}{os:Array Obj}(h:w'=akU (akE (aks .i64) (akI w n) g off d) os):Ext (fun k=>k=g) w w':=by
 subst h;refine⟨rfl,rfl,rfl,?_,fun k hk hn=>?_⟩
 .simp[akU,akE,ak9,akI]
 .simp only[akU];rw[Array.getElem?_append_left (by simpa[akE,ak9,akI]using hk)];simp only[akE,ak9,akI,Array.getElem?_modify];rw[if_neg (fun e=>hn e.symm)]
theorem Ns{g off:Nat}{d:Array Int}{n:Nat}{os:Array Obj}(h:w'=akU (akE (aks .i64) (akI w n) g off d) os){cur:Array Value}(hg:w.heap[g]? =some (.cells cur T (0,0))):
 w'.heap[g]? =some (.cells (akZ (aks .i64) off d cur) T (0,0)):=by
 subst h;have ao:g<w.heap.size:=(akh.1 hg).1;simp only[akU];rw[Array.getElem?_append_left (by simpa[akE,ak9,akI]using ao)];simp only[akE,ak9,akI,Array.getElem?_modify];rw[if_pos trivial,hg];rfl
theorem D6{l:List Int}{xs:List Value}(hx:xs.length=l.length*1)(h:∀i(hi:i<l.length),cD F w ae ((xs.drop (i*1)).take 1) l[i]):xs=l.map (aks .i64):=by
 apply List.ext_getElem (by simpa using hx);intro i h1 h2
 have hi:i<l.length:=by simpa using h2
 have:(xs.drop (i*1)).take 1=[aks .i64 l[i]]:=h i hi;rw[Nat.mul_one,ajX h1,List.take_succ_cons,List.take_zero]at this;simpa only[List.getElem_map,ake,and_true]using this
theorem HS{off:Nat}{d:Array Int}{cur:Array Value}(h:off+d.size<=cur.size):((akZ (aks .i64) off d cur).toList.drop off).take d.size=d.toList.map (aks .i64):=by
 apply List.ext_getElem (by simp[akZ];omega);intro i h1 h2
 have hi:i<d.size:=by simpa using h2
 rw[List.getElem_take,List.getElem_drop,List.getElem_map,Array.getElem_toList,Array.getElem_toList];simp only[akZ,Array.getElem_mapIdx];rw[if_pos ⟨by omega,by omega⟩,show off+i-off=i by omega,getElem!_pos d i hi]
theorem ye{v:Value}{l:List Int}(h:jf 0 F w T ae v l):(v= .slice none 0 0/\l=[])\/∃g o0 cap cur,v= .slice (some ⟨g,o0,none⟩) l.length cap/\w.heap[g]? =some (.cells cur T (0,0))/\l.length<=cap/\cap<=maxLen/\o0+cap<=cur.size/\Go.Sort.Holds (aks .i64) w g o0 l.toArray:=by
 obtain⟨_,xs,⟨hx,h2⟩,h3⟩:=h;have e:=D6 hx h3
 rcases h2 with⟨rfl,h0⟩|⟨g,o0,cap,cur,rfl,_,hg,h4,h5,h6,h7⟩
 .exact .inl ⟨rfl,List.eq_nil_of_length_eq_zero h0⟩
 .refine .inr ⟨g,o0,cap,cur,rfl,hg,h4,h5,by simpa[Row.size]using h6,fun j hj=>⟨?_,frozen_of_row w g _ cur T hg⟩⟩
  have hj:j<l.length:=by simpa using hj
  rw[cell_of_row w g _ cur T (0,0) hg]
  have:xs[j]? =some (aks .i64 l[j]):=by rw[e];simp[hj]
  rw[<-h7,ajU]at this;split at this
  .rw[ajF]at this;rw[getElem!_pos l.toArray j (by simpa using hj)];simpa using this
  .cases this
theorem BK{g o0 cap:Nat}{l d:List Int}{cur:Array Value}{n:Nat}{os:Array Obj}(h:jf 0 F w T ae (.slice (some ⟨g,o0,none⟩) l.length cap) l)(hg:w.heap[g]? =some (.cells cur T (0,0)))(hs:o0+cap<=cur.size)(hc:cap<=maxLen)
 (hl:d.length<=cap)(m:Nat)(hm:m<=d.length)(hw:w'=akU (akE (aks .i64) (akI w n) g o0 d.toArray) os):jf 0 F w' T ae (.slice (some ⟨g,o0,none⟩) m cap) (d.take m):=by
 have KN:=Ns hw hg;have hp:=HS (off:=o0) (d:=d.toArray) (cur:=cur) (by simp;omega);refine⟨fun k hk=>h.no k (by simpa[bq,ajV]using hk),(d.take m).map (aks .i64),⟨by simp[Row.size], .inr ⟨g,o0,cap,_,by simp[aj3 hm],ajI _,KN,by simp;omega,hc,by simp[akZ,Row.size];omega,?_⟩⟩,fun i hi=>?_⟩
 .have:((akZ (aks .i64) o0 d.toArray cur).toList.drop o0).take m=(d.take m).map (aks .i64):=by
   rw[show m=min m d.toArray.size by simp[aj3 hm],<-List.take_take,hp,List.map_take];simp[aj3 hm]
  simpa[Row.size,aj3 hm]using this
 .have gj:i<d.length:=by simp at hi;omega
  show((List.map (aks .i64) (d.take m)).drop (i*1)).take 1=[aks .i64 (d.take m)[i]]
  rw[Nat.mul_one,ajX (by simpa using hi)];simp
theorem oT(d:Array Int):∀m,(Go.Lib.compactUpTo d m).length<=m
 |0=>by simp[Go.Lib.compactUpTo]
 |m+1=>by
  have:=oT d m;rw[Go.Lib.compactUpTo_succ,ajm]
  split<;>simp<;>omega
theorem vS(l:List Int):(akt l).length<=l.length:=oT _ _
theorem oU{α:Type}{k o:Nat}{x:α}(h:o≠k):find [(k,x)] o=none:=by
 have:aju k o=false:=by
  cases hb:aju k o with
  |false=>rfl
  |true=>exact absurd (akb hb).symm h
 simp[find,this]
theorem D7{f:FuncId}{r:Row}{fn:List r.den->Option (List r.den)}(hb:∃fn,P.funcs[f]? =some fn/\(fn.name== "runtime.NumGoroutine")=false/\fn.body.isNone=false)
 (hr:r.beq r=true)
 (hc:∀{F:Nat->Prop}{w:World}{v:Value}{l m:List r.den},fn l=some m->jf 0 F w T r v l->(∀b,F b->b<w.heap.size)->Calls P f #[v] w fun e w'=>e= .returned (.tuple #[])/\Ext (bq v) w w'/\jf 0 F w' T r v m):
 av P f ⟨⟨[(0, .val false (.own 0))],[(0, .own T r)],[],1⟩,⟨[],[(0, .own T r)],[],2⟩,fn⟩:=by
 refine⟨hb,fun x y yI args w H F G hlen fZ cU gR hG=>?_⟩;have gR:iR H 1:=gR
 match args,hlen with
 |[v],_=>
 have hx:(ic 0 [(0,OS.own T r)] (dg [(0,SS.val false (.own 0))] (dA [.slice r] x)).2)=[(0,(0, .own T r x))]:=by
  show[(0,(0,(cr (.own T r) [⟨.slice r,x⟩]).1))]=_
  simp only[cr,hr,cond_true]
 have hy:(ic 1 [(0,OS.own T r)] (dg [] (dA [.slice r] y)).2)=[(0,(1, .own T r y))]:=by
  show[(0,(1,(cr (.own T r) [⟨.slice r,y⟩]).1))]=_
  simp only[cr,hr,cond_true]
 have cU:au (fun k=>w.heap.size<=k\/G k) H F w (find [(0,(0,Th.own T r x))]) 1:=by rw[<-hx];exact cU
 have hd:aj H F w (.val false (.own 0)) v:=fZ 0 _ rfl;obtain⟨cs,⟨v',hv,h1,rfl⟩,_,qY⟩:=hd
 obtain rfl:v'=v:=by have:=qY rfl;simpa using this
 have eo:=cU.own rfl hv;obtain⟨v2,uS,cn⟩:=cU.obj 0 0 _ rfl;rw[hv]at uS;obtain rfl:=ajk uS
 refine(hc yI eo cU.lt).mono fun e w' ⟨he,bU,iY⟩=>⟨[],he,rfl,H.bK 1 (.own T r y),F,⟨bU.os,bU.tape,bU.output,bU.size,fun k hk hn=>bU.block k hk fun hm=>?_⟩,aq.iH (gR 1 (ajo _)).2,fun b h=>h,fun b h=> .inl h,fun t d h=>?_,?_,?_⟩
 .rcases cn.use k hm with h|h
  .omega
  .exact hn h
 .cases h
 .show au _ _ F w' (find (ic 1 [(0,OS.own T r)] (dg [] (dA [.slice r] y)).2)) 2
  rw[hy];refine⟨fun o s t ho=>?_,fun o o' s s' t t' u u' bP ho kO=>?_,fun m h1 h2=>⟨(gR m (by have:2<=m:=h1;omega)).1,?_⟩,fun b hb=>aj7 (cU.lt b hb) bU.size,fun b hb=> .inl (Nat.le_trans bU.size hb),cU.gl.step (Step.ext bU cU.lt eo.no)⟩
  .obtain⟨rfl,h⟩:o=0/\(1,Th.own T r y)=(s,t):=by
    by_cases h0:o=0
    .subst h0;exact⟨rfl,ajk ho⟩
    .exfalso;have:find [(0,(1,Th.own T r y))] o=none:=oU h0;rw[this]at ho;cases ho
   cases h;refine⟨v',hv,h1,by simp[aq.bK,Th.base],jf.to _ iY,iY.no,iY.lt,fun k hk=>?_⟩;exact cn.use k hk
  .have key:∀o x,find [(0,(1,Th.own T r y))] o=some x->o=0:=fun o x h=>by
    by_cases h0:o=0
    .exact h0
    .have:find [(0,(1,Th.own T r y))] o=none:=oU h0;rw[this]at h;cases h
   exact absurd ((key o _ ho).trans (key o' _ kO).symm) bP
  .have h1:2<=m:=h1
   show(if m=1 then _ else H.con m)=none
   rw[if_neg (by omega)];exact(gR m (by omega)).2
 .intro m hm;have hm:2<=m:=hm;refine⟨(gR m (by omega)).1,?_⟩
  show(if m=1 then _ else H.con m)=none
  rw[if_neg (by omega)];exact(gR m (by omega)).2
theorem HT{f:FuncId}{r:Row}{fn:List r.den->Option (List r.den)}(hb:∃fn,P.funcs[f]? =some fn/\(fn.name== "runtime.NumGoroutine")=false/\fn.body.isNone=false)
 (hr:r.beq r=true)
 (hc:∀{F:Nat->Prop}{w:World}{v:Value}{l m:List r.den},fn l=some m->jf 0 F w T r v l->(∀b,F b->b<w.heap.size)->Calls P f #[v] w fun e w'=>∃v',e= .returned v'/\Ext (bq v) w w'/\jf 0 F w' T r v' m/\∀k,bq v' k->bq v k):
 av P f ⟨⟨[(0, .val false (.own 0))],[(0, .own T r)],[],1⟩,⟨[(0, .val false (.own 1))],[(1, .own T r)],[],2⟩,fn⟩:=by
 refine⟨hb,fun x y yI args w H F G hlen fZ cU gR hG=>?_⟩;have gR:iR H 1:=gR
 match args,hlen with
 |[v],_=>
 have hx:(ic 0 [(0,OS.own T r)] (dg [(0,SS.val false (.own 0))] (dA [.slice r] x)).2)=[(0,(0, .own T r x))]:=by
  show[(0,(0,(cr (.own T r) [⟨.slice r,x⟩]).1))]=_
  simp only[cr,hr,cond_true]
 have hy:(ic 1 [(1,OS.own T r)] (dg [(0,SS.val false (.own 1))] (dA [.slice r] y)).2)=[(1,(1, .own T r y))]:=by
  show[(1,(1,(cr (.own T r) [⟨.slice r,y⟩]).1))]=_
  simp only[cr,hr,cond_true]
 have cU:au (fun k=>w.heap.size<=k\/G k) H F w (find [(0,(0,Th.own T r x))]) 1:=by rw[<-hx];exact cU
 have hd:aj H F w (.val false (.own 0)) v:=fZ 0 _ rfl;obtain⟨cs,⟨v',hv,h1,rfl⟩,_,qY⟩:=hd
 obtain rfl:v'=v:=by have:=qY rfl;simpa using this
 have eo:=cU.own rfl hv;obtain⟨v2,uS,cn⟩:=cU.obj 0 0 _ rfl;rw[hv]at uS;obtain rfl:=ajk uS;have Au:=gR 1 (ajo _)
 refine(hc yI eo cU.lt).mono fun e w' ⟨v3,he,bU,iY,J2⟩=>?_
 have Tj:v3.oneCell'=true:=(jW.one iY.2)
 have hle:H.le ((H.bK 1 (.own T r y)).cW 1 v3):=⟨fun o u h=>by
  show(if o=1 then some v3 else H.val o)=some u
  rw[if_neg (fun e=>by rw[e,Au.1]at h;cases h)]
  exact h,(aq.iH (t:= .own T r y) Au.2).con,(aq.iH (t:= .own T r y) Au.2).sub⟩
 refine⟨[v3],he,rfl,(H.bK 1 (.own T r y)).cW 1 v3,F,⟨bU.os,bU.tape,bU.output,bU.size,fun k hk hn=>bU.block k hk fun hm=>?_⟩,hle,fun b h=>h,fun b h=> .inl h,fun t d h=>?_,?_,?_⟩
 .rcases cn.use k hm with h|h
  .omega
  .exact hn h
 .have ht:t=0/\d= .val false (.own 1):=by
   have h:find [(0,al.val false (.own 1))] t=some d:=h;by_cases h0:t=0
   .subst h0;exact⟨rfl,(ajk h).symm⟩
   .have e:find [(0,al.val false (.own 1))] t=none:=oU h0;rw[e]at h;cases h
  obtain⟨rfl,rfl⟩:=ht;exact⟨[v3],⟨v3,by simp[aq.cW],Tj,rfl⟩,rfl,fun _=>rfl⟩
 .show au _ _ F w' (find (ic 1 [(1,OS.own T r)] (dg [(0,SS.val false (.own 1))] (dA [.slice r] y)).2)) 2
  rw[hy]
  have key:∀o x,find [(1,(1,Th.own T r y))] o=some x->o=1/\x=(1,Th.own T r y):=fun o x h=>by
   by_cases h0:o=1
   .subst h0;exact⟨rfl,(ajk h).symm⟩
   .have:find [(1,(1,Th.own T r y))] o=none:=oU h0;rw[this]at h;cases h
  refine⟨fun o s t ho=>?_,fun o o' s s' t t' u u' bP ho kO=>?_,fun m h1 h2=>⟨?_,?_⟩,fun b hb=>aj7 (cU.lt b hb) bU.size,fun b hb=> .inl (Nat.le_trans bU.size hb),cU.gl.step (Step.ext bU cU.lt eo.no)⟩
  .obtain⟨rfl,h⟩:=key o _ ho;cases h;exact⟨v3,by simp[aq.cW],Tj,by simp[aq.bK,aq.cW,Th.base],jf.to _ iY,iY.no,iY.lt,fun k hk=>cn.use k (J2 k hk)⟩
  .exact absurd ((key o _ ho).1.trans (key o' _ kO).1.symm) bP
  .have h1:2<=m:=h1
   show(if m=1 then _ else H.val m)=none
   rw[if_neg (by omega)];exact(gR m (by omega)).1
  .have h1:2<=m:=h1
   show(if m=1 then _ else H.con m)=none
   rw[if_neg (by omega)];exact(gR m (by omega)).2
 .intro m hm;have hm:2<=m:=hm;refine⟨?_,?_⟩
  .show(if m=1 then _ else H.val m)=none
   rw[if_neg (by omega)];exact(gR m (by omega)).1
  .show(if m=1 then _ else H.con m)=none
   rw[if_neg (by omega)];exact(gR m (by omega)).2
def BL(l:List Int):Option (List Int):=if l.length<4611686018427387904 then some (qf l)else none
theorem Nt{f:FuncId}(hb:∃fn,P.funcs[f]? =some fn/\(fn.name== "runtime.NumGoroutine")=false/\fn.body.isNone=false)
 (h1:∀(oC off cap:Nat)(zs:List Int)(w:World),Go.Sort.Holds (aks .i64) w oC off zs.toArray->oC<w.heap.size->zs.length<4611686018427387904->
   Calls P f #[.slice (some ⟨oC,off,none⟩) zs.length cap] w fun e w'=>e= .returned (.tuple #[])/\∃n os,w'=akU (akE (aks .i64) (akI w n) oC off (zs.mergeSort fun x y=>decide (x<=y)).toArray) os)
 (h2:∀(p:Option Addr)(cap:Nat)(w:World),Calls P f #[.slice p 0 cap] w fun e w'=>e= .returned (.tuple #[])/\w'=w):
 av P f ⟨⟨[(0, .val false (.own 0))],[(0, .own T ae)],[],1⟩,⟨[],[(0, .own T ae)],[],2⟩,fun x=>BL x⟩:=by
 refine D7 (r:=ae) hb rfl fun{F w v l m}hm ho hF=>?_
 have hm:BL l=some m:=hm;unfold BL at hm;split at hm
 case isFalse=>cases hm
 rename_i hlen;obtain rfl:=ajk hm
 rcases ye ho with⟨rfl,rfl⟩|⟨g,o0,cap,cur,rfl,hg,GF,PB,lM,hh⟩
 .refine(h2 none 0 w).mono fun e w' ⟨he,hw⟩=>⟨he,hw▸⟨rfl,rfl,rfl,ajo _,fun _ _ _=>rfl⟩,hw▸?_⟩
  simpa[qf]using ho
 .refine(h1 g o0 cap l w hh (akh.1 hg).1 hlen).mono fun e w' ⟨he,n,os,hw⟩=>⟨he,?_,?_⟩
  .have:=FA hw;exact⟨this.os,this.tape,this.output,this.size,fun k hk hn=>this.block k hk fun e=>hn (by simp[bq,ajV,e])⟩
  .have hl:(qf l).length=l.length:=List.length_mergeSort ..;have:=BK (d:=qf l) ho hg lM PB (by omega) (qf l).length (ajo _) hw;rw[ajD,hl]at this;exact this
def oV(l:List Int):Option (List Int):=if l.length<=9223372036854775807 then some (akt l)else none
theorem D8{f:FuncId}(hb:∃fn,P.funcs[f]? =some fn/\(fn.name== "runtime.NumGoroutine")=false/\fn.body.isNone=false)
 (h1:∀(oC off cap:Nat)(zs:List Int)(w:World),Go.Sort.Holds (aks .i64) w oC off zs.toArray->zs.length<=9223372036854775807->zs.length<=cap->
   Calls P f #[.slice (some ⟨oC,off,none⟩) zs.length cap] w fun e w'=>e= .returned (.slice (some ⟨oC,off,none⟩) (akt zs).length cap)/\∃q,w'=akE (aks .i64) (akI w q) oC off (akt zs++ajq (zs.length-(akt zs).length) 0).toArray)
 (h2:∀(p:Option Addr)(cap:Nat)(w:World),Calls P f #[.slice p 0 cap] w fun e w'=>e= .returned (.slice p 0 cap)/\w'=w):
 av P f ⟨⟨[(0, .val false (.own 0))],[(0, .own T ae)],[],1⟩,⟨[(0, .val false (.own 1))],[(1, .own T ae)],[],2⟩,fun x=>oV x⟩:=by
 refine HT (r:=ae) hb rfl fun{F w v l m}hm ho hF=>?_
 have hm:oV l=some m:=hm;unfold oV at hm;split at hm
 case isFalse=>cases hm
 rename_i hlen;obtain rfl:=ajk hm
 rcases ye ho with⟨rfl,rfl⟩|⟨g,o0,cap,cur,rfl,hg,GF,PB,lM,hh⟩
 .refine(h2 none 0 w).mono fun e w' ⟨he,hw⟩=>⟨_,he,hw▸⟨rfl,rfl,rfl,ajo _,fun _ _ _=>rfl⟩,hw▸?_,fun k hk=>hk⟩
  exact ho
 .have yf:(akt l).length<=l.length:=vS l
  refine(h1 g o0 cap l w hh hlen GF).mono fun e w' ⟨he,n,hw⟩=>⟨_,he,?_,?_,fun k hk=>by simpa[bq,ajV]using hk⟩
  all_goals have hw:w'=akU (akE (aks .i64) (akI w n) g o0 (akt l++ajq (l.length-(akt l).length) 0).toArray) #[]:=by rw[hw,KM]
  .have:=FA hw;exact⟨this.os,this.tape,this.output,this.size,fun k hk hn=>this.block k hk fun e=>hn (by simp[bq,ajV,e])⟩
  .have:=BK (d:=akt l++ajq (l.length-(akt l).length) 0) ho hg lM PB (by simp;omega) (akt l).length (by simp) hw;rw[List.take_left]at this;exact this
def pP(x:ByteArray×ByteArray):Option Bool:=if x.2.size=1 then some (decide (0<=akH x.1.data.toList (x.2.data.getD 0 0)))else none
theorem BM{f:FuncId}(hb:∃fn,P.funcs[f]? =some fn/\(fn.name== "runtime.NumGoroutine")=false/\fn.body.isNone=false)
 (h1:∀(s:ByteArray)(c:UInt8)(w:World),Calls P f #[.string s, .string ⟨#[c]⟩] w fun e w'=>e= .returned (.bool (decide (0<=akH s.data.toList c)))/\w'=w):
 av P f ⟨⟨[(0, .val false (.leaf .str)),(1, .val false (.leaf .str))],[],[],0⟩,⟨[(0, .val false (.leaf .bool))],[],[],0⟩,fun x=>pP x⟩:=by
 refine⟨hb,fun x y yI args w H F G hlen fZ cU gR hG=>?_⟩
 match args,hlen with
 |[u,v],_=>
 obtain⟨s,t⟩:=x;have yI:pP (s,t)=some y:=yI;unfold pP at yI;split at yI
 case isFalse=>cases yI
 rename_i lM;obtain rfl:=ajk yI;have hu:aH H F w false (.leaf .str s) u:=fZ 0 _ rfl;have hv:aH H F w false (.leaf .str t) v:=fZ 1 _ rfl;obtain⟨cs,hc,_,h2⟩:=hu;obtain⟨q8,VF,_,Jt⟩:=hv;have hc:cs=[.string s]:=hc;have VF:q8=[.string t]:=VF
 have eu:u= .string s:=by have:=(h2 rfl).symm.trans hc;simpa using this
 have ev:v= .string t:=by have:=(Jt rfl).symm.trans VF;simpa using this
 subst eu ev
 obtain⟨⟨⟨l⟩⟩,ht⟩:∃t':ByteArray,t'=t:=⟨t,rfl⟩
 match l,ht with
 |[c],ht=>
  subst ht
  refine(h1 s c w).mono fun e w' ⟨he,hw⟩=>?_
  subst hw;refine⟨[_],he,rfl,H,F,⟨rfl,rfl,rfl,ajo _,fun _ _ _=>rfl⟩,aq.le.refl H,fun _ h=>h,fun _ h=> .inl h,fun i d h=>?_,?_,gR⟩
  .have hd:i=0/\d= .val false (.leaf .bool (decide (0<=akH s.data.toList c))):=by
    have h:find [(0,al.val false (.leaf .bool (decide (0<=akH s.data.toList c))))] i=some d:=h;by_cases h0:i=0
    .subst h0;exact⟨rfl,(ajk h).symm⟩
    .rw[oU h0]at h;cases h
   obtain⟨rfl,rfl⟩:=hd;exact aH.mN rfl
  .exact cU
 |[],ht=>subst ht;cases lM
 |_::_::_,ht=>subst ht;simp[ByteArray.size]at lM
end
end Go.Proofs.YtmihpkfkbfgigaaGreatDoor
end
section
open _root_.List renaming replicate->ajq
open _root_.Go.Value renaming int->aks
namespace Go.Proofs
open Go.Shelf
def Tryz.BN:Go.Shelf.Ren:=⟨fun|144=>180|143=>198|219=>212|217=>232|225=>233|224=>234|267=>235|266=>238|314=>239|n=>n,fun|9=>9|4=>4|3=>3|5=>5|46=>158|146=>310|51=>210|n=>n,fun|1=>3|n=>n⟩
theorem Tryz.Nu:Go.Proofs.Lays.n144 Tryz.prog Tryz.BN:={
 mixed:=by kernel_rfl
 f143:=Tryz.func198.trans (congrArg some (by kernel_rfl))
 f144:=Tryz.func180.trans (congrArg some (by kernel_rfl))
 f217:=Tryz.func232.trans (congrArg some (by kernel_rfl))
 f219:=Tryz.func212.trans (congrArg some (by kernel_rfl))
 f224:=Tryz.func234.trans (congrArg some (by kernel_rfl))
 f225:=Tryz.func233.trans (congrArg some (by kernel_rfl))
 f266:=Tryz.func238.trans (congrArg some (by kernel_rfl))
 f267:=Tryz.func235.trans (congrArg some (by kernel_rfl))
 f314:=Tryz.func239.trans (congrArg some (by kernel_rfl))
 t3:=Tryz.underlying3
 a3:=Tryz.isAgg3
 z3:=Tryz.sizeOf3
 v3:=Tryz.zeroValue3
 t4:=Tryz.underlying4
 a4:=Tryz.isAgg4
 z4:=Tryz.sizeOf4
 v4:=Tryz.zeroValue4
 t5:=Tryz.underlying5
 a5:=Tryz.isAgg5
 z5:=Tryz.sizeOf5
 v5:=Tryz.zeroValue5
 t9:=Tryz.underlying9
 a9:=Tryz.isAgg9
 z9:=Tryz.sizeOf9
 v9:=Tryz.zeroValue9
 t46:=Tryz.underlying158
 a46:=Tryz.isAgg158
 z46:=Tryz.sizeOf158
 v46:=Tryz.zeroValue158
 t51:=Tryz.underlying210
 a51:=Tryz.isAgg210
 z51:=Tryz.sizeOf210
 v51:=Tryz.zeroValue210
 t146:=Tryz.underlying310
 a146:=Tryz.isAgg310
 z146:=Tryz.sizeOf310
 v146:=Tryz.zeroValue310
 g1:=by kernel_rfl}
open Go.RowKit Go.Lib in
theorem Tryz.strings_Contains_one(s:ByteArray)(c:UInt8)(w:World):
 Calls Tryz.prog 180 #[.string s, .string ⟨#[c]⟩] w fun e w'=>e= .returned (.bool (decide (0<=Lib.indexByte s.data.toList c)))/\w'=w:=Any.strings_Contains_one Tryz.Nu s c w
def Tryz.BO:Go.Shelf.Ren:=⟨fun|189=>41|125=>66|257=>65|128=>116|129=>117|294=>107|295=>108|296=>109|297=>110|298=>111|299=>112|216=>113|300=>114|301=>115|328=>156|329=>157|330=>158|331=>159|332=>160|215=>161|343=>186|n=>n,fun|28=>29|3=>3|46=>158|0=>0|51=>210|53=>212|4=>4|183=>203|182=>202|131=>143|5=>5|9=>9|218=>250|222=>254|228=>276|229=>150|n=>n,fun|n=>n⟩
theorem Tryz.FB:Go.Proofs.Lays.n189 Tryz.prog Tryz.BO:={
 mixed:=by kernel_rfl
 f125:=Tryz.func66.trans (congrArg some (by kernel_rfl))
 f128:=Tryz.func116.trans (congrArg some (by kernel_rfl))
 f129:=Tryz.func117.trans (congrArg some (by kernel_rfl))
 f189:=Tryz.func41.trans (congrArg some (by kernel_rfl))
 f215:=Tryz.func161.trans (congrArg some (by kernel_rfl))
 f216:=Tryz.func113.trans (congrArg some (by kernel_rfl))
 f257:=Tryz.func65.trans (congrArg some (by kernel_rfl))
 f294:=Tryz.func107.trans (congrArg some (by kernel_rfl))
 f295:=Tryz.func108.trans (congrArg some (by kernel_rfl))
 f296:=Tryz.func109.trans (congrArg some (by kernel_rfl))
 f297:=Tryz.func110.trans (congrArg some (by kernel_rfl))
 f298:=Tryz.func111.trans (congrArg some (by kernel_rfl))
 f299:=Tryz.func112.trans (congrArg some (by kernel_rfl))
 f300:=Tryz.func114.trans (congrArg some (by kernel_rfl))
 f301:=Tryz.func115.trans (congrArg some (by kernel_rfl))
 f328:=Tryz.func156.trans (congrArg some (by kernel_rfl))
 f329:=Tryz.func157.trans (congrArg some (by kernel_rfl))
 f330:=Tryz.func158.trans (congrArg some (by kernel_rfl))
 f331:=Tryz.func159.trans (congrArg some (by kernel_rfl))
 f332:=Tryz.func160.trans (congrArg some (by kernel_rfl))
 f343:=Tryz.func186.trans (congrArg some (by kernel_rfl))
 t0:=Tryz.underlying0
 a0:=Tryz.isAgg0
 z0:=Tryz.sizeOf0
 v0:=Tryz.zeroValue0
 t3:=Tryz.underlying3
 a3:=Tryz.isAgg3
 z3:=Tryz.sizeOf3
 v3:=Tryz.zeroValue3
 t4:=Tryz.underlying4
 a4:=Tryz.isAgg4
 z4:=Tryz.sizeOf4
 v4:=Tryz.zeroValue4
 t5:=Tryz.underlying5
 a5:=Tryz.isAgg5
 z5:=Tryz.sizeOf5
 v5:=Tryz.zeroValue5
 t9:=Tryz.underlying9
 a9:=Tryz.isAgg9
 z9:=Tryz.sizeOf9
 v9:=Tryz.zeroValue9
 t28:=Tryz.underlying29
 a28:=Tryz.isAgg29
 z28:=Tryz.sizeOf29
 v28:=Tryz.zeroValue29
 t46:=Tryz.underlying158
 a46:=Tryz.isAgg158
 z46:=Tryz.sizeOf158
 v46:=Tryz.zeroValue158
 t51:=Tryz.underlying210
 a51:=Tryz.isAgg210
 z51:=Tryz.sizeOf210
 v51:=Tryz.zeroValue210
 t53:=Tryz.underlying212
 a53:=Tryz.isAgg212
 z53:=Tryz.sizeOf212
 v53:=Tryz.zeroValue212
 t131:=Tryz.underlying143
 a131:=Tryz.isAgg143
 z131:=Tryz.sizeOf143
 v131:=Tryz.zeroValue143
 t182:=Tryz.underlying202
 a182:=Tryz.isAgg202
 z182:=Tryz.sizeOf202
 v182:=Tryz.zeroValue202
 t183:=Tryz.underlying203
 a183:=Tryz.isAgg203
 z183:=Tryz.sizeOf203
 v183:=Tryz.zeroValue203
 t218:=Tryz.underlying250
 a218:=Tryz.isAgg250
 z218:=Tryz.sizeOf250
 v218:=Tryz.zeroValue250
 t222:=Tryz.underlying254
 a222:=Tryz.isAgg254
 z222:=Tryz.sizeOf254
 v222:=Tryz.zeroValue254
 t228:=Tryz.underlying276
 a228:=Tryz.isAgg276
 z228:=Tryz.sizeOf276
 v228:=Tryz.zeroValue276
 t229:=Tryz.underlying150
 a229:=Tryz.isAgg150
 z229:=Tryz.sizeOf150
 v229:=Tryz.zeroValue150}
open Go.Sort Go.RowKit in
theorem Tryz.slices_Sort_int(oC off cap:Nat)(zs:List Int)(w:World)(hH:Holds (aks .i64) w oC off zs.toArray)(JV:oC<w.heap.size)(lM:zs.length<4611686018427387904):
 Calls Tryz.prog 41 #[.slice (some ⟨oC,off,none⟩) zs.length cap] w fun e w'=>
  e= .returned (.tuple #[])/\∃n os,w'=grow (putRow (aks .i64) (Sort.ahead w n) oC off (zs.mergeSort fun x y=>decide (x<=y)).toArray) os:=Any.slices_Sort_int Tryz.FB oC off cap zs w hH JV lM
def Tryz.xj:Go.Shelf.Ren:=⟨fun|20=>146|n=>n,fun|22=>29|3=>3|4=>4|0=>0|n=>n,fun|n=>n⟩
theorem Tryz.yg:Go.Proofs.Lays2.n20 Tryz.prog Tryz.xj:={
 mixed:=by kernel_rfl
 f20:=Tryz.func146.trans (congrArg some (by kernel_rfl))
 t0:=Tryz.underlying0
 a0:=Tryz.isAgg0
 z0:=Tryz.sizeOf0
 v0:=Tryz.zeroValue0
 t3:=Tryz.underlying3
 a3:=Tryz.isAgg3
 z3:=Tryz.sizeOf3
 v3:=Tryz.zeroValue3
 t4:=Tryz.underlying4
 a4:=Tryz.isAgg4
 z4:=Tryz.sizeOf4
 v4:=Tryz.zeroValue4
 t22:=Tryz.underlying29
 a22:=Tryz.isAgg29
 z22:=Tryz.sizeOf29
 v22:=Tryz.zeroValue29
 i3:=by kernel_rfl}
open Go.RowKit Go.Lib Go.Sort in
theorem Tryz.slices_Compact_int(oC off cap:Nat)(zs:List Int)(w:World)(hH:Holds (aks .i64) w oC off zs.toArray)(lM:zs.length<=9223372036854775807)(GF:zs.length<=cap):
 Calls Tryz.prog 146 #[.slice (some ⟨oC,off,none⟩) zs.length cap] w fun e w'=>e= .returned (.slice (some ⟨oC,off,none⟩) (Lib.compact zs).length cap)/\∃q,w'=putRow (aks .i64) (Sort.ahead w q) oC off (Lib.compact zs++ajq (zs.length-(Lib.compact zs).length) 0).toArray:=Any.slices_Compact_int Tryz.yg oC off cap zs w hH lM GF
open Go.RowKit Go.Lib Go.Sort in
theorem Tryz.slices_Compact_int_empty(a:Option Addr)(cap:Nat)(w:World):
 Calls Tryz.prog 146 #[.slice a 0 cap] w fun e w'=>e= .returned (.slice a 0 cap)/\w'=w:=Any.slices_Compact_int_empty Tryz.yg a cap w
open Go.RowKit Go.Sort in
theorem Tryz.slices_Sort_int_none(p:Option Addr)(cap:Nat)(w:World):
 Calls Tryz.prog 41 #[.slice p 0 cap] w fun e w'=>e= .returned (.tuple #[])/\w'=w:=Any.slices_Sort_int_none Tryz.FB p cap w
end Go.Proofs
end
