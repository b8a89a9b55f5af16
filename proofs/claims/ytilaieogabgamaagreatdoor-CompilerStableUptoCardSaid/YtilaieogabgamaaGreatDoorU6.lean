/- Joined texts: Fn Law Laid Jump Shelf. -/
import Derived.Test.YtilaieogabgamaaGreatDoorU5
import Derived.Scope
import Derived.Test.YtilaieogabgamaaGreatDoorU1
import Derived.ProofKit
import Derived.LaidMore
import Derived.OpenShut
import Derived.Stop.Joined
import Derived.Sort.Grow
import Derived.Lib.SlicesCompact
import Derived.Lib.Bytealg
section
open _root_.Go.Addr.mk renaming injEq->akB
open _root_.Array renaming toArray_toList->ajR
open _root_.Bool renaming and_eq_true->akm
open _root_.List renaming append_nil->ajW,getD->ajD,getElem?_drop->ajp,getElem?_eq_getElem->ai5,getElem?_take->ajF,length_cons->ajk,mem_cons->ajq
open _root_.List.cons renaming injEq->aka
open _root_.Nat renaming add_zero->aj7,beq->aje,eq_of_beq_eq_true->ajT,le_refl->ai8
open _root_.Option renaming isSome_iff_exists->ajH,none_or->akc
open _root_.Option.some renaming inj->ai4,injEq->ajg
open _root_.Prod.mk renaming inj->akx
open _root_.Go.Result renaming andThen_ok->ajO
open _root_.Go.Sem renaming run_bind->ajx
open _root_.Go.Value.pointer renaming injEq->akT
open _root_.Go.Value.slice renaming injEq->akr
namespace Go.Proofs.YtilaieogabgamaaGreatDoor
open Go Go.RowKit
inductive Ex where
 |normal
 |exit (id:Nat)
 |ret
 |goto (l:Nat)
def Ex.nD:Ex->Exit
 | .normal=> .normal
 | .exit id=> .exit id
 | .ret=> .ret
 | .goto l=> .goto l
def noGoto{R:Type}(k:Ex->State->Option R):Ex->State->Option R
 | .goto _,_=>none
 |e,st=>k e st
inductive tJ where
 |nil
 |two (a b:tJ)
 |join (J:JS) (a b:tJ)
 |meet (J:JS) (a b:tJ)
 |loop (L:JS) (a:tJ)
abbrev tJ.o(a:tJ):tJ:= .two .nil a
def tJ.l:tJ->tJ
 | .two a _=>a
 |_=> .nil
def tJ.r:tJ->tJ
 | .two _ b=>b
 |_=> .nil
def pF:List Oper->List Nat
 |[]=>[]
 |o::l=>match o.dst with
  |some d=>d::pF l
  |none=>pF l
def writes:Code->List Nat
 | .region _ ops _=>pF ops.toList
 | .seq a b=>writes a++writes b
 | .cond _ a b=>writes a++writes b
 | .block _ a=>writes a
 | .loop a=>writes a
 | .scope a=>writes a
 |_=>[]
def BC:List Nat->List (Nat×ak)->List (Nat×ak)
 |[],l=>l
 |t::ts,l=>(t, .dead)::BC ts l
def OB:List (Nat×OS)->List Nat
 |[]=>[]
 |(j,_)::l=>j::OB l
def Fu(st:State)(J:JS):List (Nat×(Nat×Th)):=del (OB J.objs++J.drop) st.objs
def behind(st:State)(W:List Nat)(J:JS)(x:cx J.rows):State:=
 {ah:=(cS J.ah (cY _ x)).1++BC W st.ah,objs:=gi st.nxt J.objs (cS J.ah (cY _ x)).2++Fu st J,nxt:=J.nxt}
def DS(st:State)(J:JS)(nA:State):Option (cx J.rows):=
 match xP st.nxt (Fu st J) J nA.ah nA.objs with
 |some (x,_)=>some x
 |none=>none
def Ku(ob:Nat->Option (Nat×Th))(n o:Nat):Option dN:=
 match ob o with
 |some (_, .deep T d l none)=>some {dst:= .dead,eat:=[o],make:=[(o,(n, .own T d.row l))]}
 |_=>none
def mF(st:State):List (Nat×OS)->State
 |[]=>st
 |(j, .own _ _)::os=>match Ku (find st.objs) st.nxt j with
  |some e=>mF (st.apply none e) os
  |none=>mF st os
 |_::os=>mF st os
def Kv(st:State)(t o:Nat)(r:Row):Option State:=
 match find st.objs o with
 |some (_, .box _ t0)=>match eC st.objs t0.owns with
  |some aM=>match find aM o with
   |some (_, .box _ t1)=>match flat (find aM) r t1 with
    |some x=>some (State.apply {st with objs:=aM} (some t) {dst:= .at r x,eat:=[o]})
    |none=>none
   |_=>none
  |none=>none
 |_=>none
noncomputable def zv{R:Type}(st:State)(k:State->Option R):List (Nat×SS)->Option R
 |[]=>k st
 |(t, .at r)::ss=>match find st.ah t with
  |some (.ptr o [] 0)=>match Kv st t o r with
   |some bU=>zv bU k ss
   |none=>none
  |some (.dlm o d i [] 0)=>match eC st.objs [o]with
   |some aM=>match find aM o with
    |some (_, .fdeep _ d' l)=>bif aje d.low.size d'.row.size then(idx l i).bind fun x=>zv {ah:=(t, .at d'.row x)::st.ah,objs:=aM,nxt:=st.nxt} k ss else none
    |_=>none
   |none=>none
  |_=>zv st k ss
 |_::ss=>zv st k ss
noncomputable def carry(st:State)(J:JS)(nA:State):Option (cx J.rows):=zv (mF (oq nA) J.objs) (DS st J) J.ah
def bJ{J R:Type}(m:Option (J⊕R))(k:J->Option R):Option R:=m.bind fun s=>match s with
 | .inl j=>k j
 | .inr r=>some r
noncomputable def exec{P:Program}(E:Env P)(nt N:Nat):Code->{R:Type}->tJ->State->(Ex->State->Option R)->Option R
 | .skip,_,_,st,k=>k .normal st
 | .label _,_,_,st,k=>k .normal st
 | .scope x,_,a,st,k=>exec E nt N x a.l st (noGoto k)
 | .goto l,_,_,st,k=>k (.goto l) st
 | .ret,_,_,st,k=>k .ret st
 | .exit id,_,_,st,k=>k (.exit id) st
 | .cond c x y,_,a,st,k=>match IA st.ah c with
   |some D=>match asBool D with
    |some b=>if b=true then exec E nt N x a.l st k else exec E nt N y a.r st k
    |none=>none
   |none=>none
 | .region _ ops draw,_,_,st,k=>bif draw then mE E nt ops ops.toList st [] (k .normal)else runs E nt ops ops.toList [] st (k .normal)
 | .seq x y,R,a,st,k=>match a with
   | .join J a1 a2=>bJ (exec E nt N x (R:=cx J.rows⊕R) a1 st (fun e bU=>match e with
       | .normal=>(carry st J bU).map .inl
       |e=>(k e bU).map .inr)) fun j=>exec E nt N y a2 (behind st (writes x) J j) k
   | .meet J a1 a2=>(exec E nt N x (R:=cx J.rows) a1 st (fun e bU=>match e with
       | .normal=>carry st J bU
       |_=>none)).bind fun j=>exec E nt N y a2 (behind st (writes x) J j) k
   |a=>exec E nt N x a.l st (fun e bU=>match e with
     | .normal=>exec E nt N y a.r bU k
     |e=>k e bU)
 | .block id x,R,a,st,k=>match a with
   | .join J a1 _=>bJ (exec E nt N x (R:=cx J.rows⊕R) a1 st (fun e bU=>match e with
       | .normal=>(carry st J bU).map .inl
       | .exit i=>bif aje i id then(carry st J bU).map .inl else(k (.exit i) bU).map .inr
       |e=>(k e bU).map .inr)) fun j=>k .normal (behind st (writes x) J j)
   | .meet J a1 _=>(exec E nt N x (R:=cx J.rows) a1 st (fun e bU=>match e with
       | .normal=>carry st J bU
       | .exit i=>bif aje i id then carry st J bU else none
       |_=>none)).bind fun j=>k .normal (behind st (writes x) J j)
   |a=>exec E nt N x a.l st (fun e bU=>match e with
     | .exit i=>bif aje i id then k .normal bU else k (.exit i) bU
     |e=>k e bU)
 | .loop x,R,a,st,k=>match a with
   | .loop L a1=>match carry st L st with
     |some s0=>Loop (S:=cx L.rows) (X:=R) (fun s=>exec E nt N x (R:=cx L.rows⊕R) a1 (behind st (writes x) L s) (fun e bU=>match e with
       | .normal=>(carry st L bU).map .inl
       |e=>(k e bU).map .inr)) N s0
     |none=>none
   |_=>none
 |_,_,_,_,_=>none
section
variable {P:Program} {nt N:Nat} {R:Type}
variable {ρ:Nat->Value} {w w0:World} {H:ao} {F F0 G:Nat->Prop}
theorem DT{W:List Nat}{l:List (Nat×ak)}{t:Nat}{d:ak}(h:find (BC W l) t=some d):d= .dead\/(t∉W/\find l t=some d):=by
 induction W with
 |nil=>exact .inr ⟨by simp,h⟩
 |cons s W ih=>
  have h':find ((s,ak.dead)::BC W l) t=some d:=h;rw[aA]at h';split at h'
  .exact .inl (ai4 h').symm
  .rename_i e
   rcases ih h' with h1|⟨h1,h2⟩
   .exact .inl h1
   .exact .inr ⟨by simp[h1,Ne.symm e],h2⟩
theorem HB{st nA:State}{W:List Nat}{J:JS}{x:cx J.rows}{H1:ao}{F1:Nat->Prop}{w1:World}{CM:Nat->Value}(h:DS st J nA=some x)(hh:cE G w0 F0 H F w ρ st)(ov:cE G w0 F0 H1 F1 w1 CM nA)(hk:cz H F w H1 F1 w1)
 (Oo:∀t,t∉W->CM t=ρ t):∃H2 F2,cE G w0 F0 H2 F2 w1 CM (behind st W J x)/\cz H F w H2 F2 w1:=by
 unfold DS at h;split at h
 case h_2=>cases h
 rename_i _ y rest hp;obtain⟨bs,aM⟩:=rest;obtain rfl:=ai4 h;obtain⟨F2,H2,a1,a2,a3,_,a5,_,a6,a7,a8⟩:=vw (U':=UU G w0) hp hh.sat.ob hh.sat.all hk ov.sat.ob ov.sat.slot
 have eB:Step F1 w1 F2 w1:=fun b hb=>⟨a2 b hb,rfl⟩
 have cC:=a8 ov.sat.ob.new (fun o s t v k _ h2 h3 h4=>by
  obtain⟨v',di,cc⟩:=a1.obj _ _ _ h2;rw[h3]at di;obtain rfl:=ai4 di
  exact cc.use k h4) (fun o s t v k h2 h3 h4=>by
  have h5:=(gH.1 h2).2;obtain⟨v',di,cc⟩:=hh.sat.ob.obj _ _ _ h5;rw[hk.iM.val _ _ di]at h3;obtain rfl:=ai4 h3
  exact cc.use k (by rwa [hk.iM.sub _ _ cc.con]at h4))
 refine⟨H2,F2,⟨⟨fun t d hd=>?_,cC,a6⟩,⟨ov.glob.ext,fun b hb=>a2 b (ov.glob.le b hb),fun b hb=>?_⟩⟩,⟨a5,fun b hb=>⟨a2 b (hk.step b hb).1,(hk.step b hb).2⟩⟩⟩
 .have xu:find ((cS J.ah (cY J.rows y)).1++BC W st.ah) t=some d:=hd;rw[gG]at xu
  cases hm:find (cS J.ah (cY J.rows y)).1 t with
  |some d'=>
   rw[hm]at xu;obtain rfl:=ai4 xu;exact a7 t _ hm
  |none=>
   rw[hm,akc]at xu
   rcases DT xu with rfl|⟨h1,h2⟩
   .trivial
   .rw[Oo t h1]
    exact(hh.sat.slot t d h2).keep a5 fun b hb=>⟨a2 b (hk.step b hb).1,(hk.step b hb).2⟩
 .rcases a3 b hb with h1|h1
  .exact ov.glob.new b h1
  .exact .inr (ov.sat.ob.gp b h1)
theorem HC{U:Nat->Prop}{ob:Nat->Option (Nat×Th)}{n:Nat}(hs:au U H F w ob n){o:Nat}{e:dN}(h:Ku ob n o=some e):kE H F w ob n e undef w:=by
 unfold Ku at h;split at h
 case h_2=>cases h
 rename_i s T d l cC;obtain rfl:=ai4 h;obtain⟨v,hv,cc⟩:=hs.obj _ _ _ cC
 obtain⟨lh,Ss,⟨xs,hx,Od⟩,h2,h3,h4⟩:=(show Gz F w T d.low (nT H F w d none) v l (H.sub s)from cc.ok)
 have hn:∀k,H.sub s k->¬F k:=cc.no
 have C0:iE 0 (fun b=>F b\/∃i,i<l.length/\Ss i b) w T d.row v l:=by
  refine⟨fun k hk hF=>?_,xs,?_,fun i hi=>?_⟩
  .rcases hF with hF|⟨i,hi,hm⟩
   .exact hn k (h4.bm k hk) hF
   .exact h4.out i k hi hm hk
  .rw[<-d.size,<-h2];exact hx
  .have gv:i<lh.length:=by omega
   have:=jH.freeze (h3 i gv hi) (fun k hk=>hn k (h4.part hi k hk)) (Od i gv);rw[<-d.size]
   exact this.step fun b hb=>⟨hb.imp id fun hb=>⟨i,hi,hb⟩,rfl⟩
 have hf:=hs.fresh n (ai8 _) (by omega)
 have kB:∀k,H.sub s k->cm H ob [o] k:=fun k hk=>⟨o,by simp,s,_,v,cC,hv,hk⟩
 refine⟨H.bz n (.own T d.row l),fun b=>F b\/∃i,i<l.length/\Ss i b,⟨⟨fun _ _ h=>h,fun s' t h=>?_,fun s' t h=>?_⟩,⟨rfl,rfl,rfl,ai8 _,fun _ _ _=>rfl⟩,fun _ h=> .inl h,fun b hb=>?_,fun b hb=>?_⟩,fun m hm=>⟨id,fun h=>?_⟩,trivial,⟨fun o' s' q hq=>?_,fun o1 o2 s1 s2 q1 q2 u1 u2 bN g1 g2=>?_⟩,fun o' h=>?_⟩
 .have:s'≠n:=fun e=>by rw[e,hf.2]at h;cases h
  simp[ao.bz,this,h]
 .rfl
 .rcases hb with hb|⟨i,hi,hb⟩
  .exact .inl hb
  .exact .inr (.inr (kB b (h4.part hi b hb)))
 .rcases hb with hb|⟨i,hi,hb⟩
  .exact hs.lt b hb
  .exact cc.lt b (h4.part hi b hb)
 .simp[ao.bz,show m≠n from by omega,h]
 .obtain⟨rfl,e⟩:=bT hq;obtain⟨rfl,rfl⟩:=akx e;refine⟨v,hv,cc.one,by simp[ao.bz,Th.base],C0.2,fun k hk=>⟨C0.1 k hk,cc.lt k (h4.bm k hk), .inr (kB k (h4.bm k hk))⟩⟩
 .exact absurd ((bT g1).1.trans (bT g2).1.symm) bN
 .left
  obtain⟨y,hy⟩:=ajH.1 h;rw[(bT hy).1];simp
theorem cE.mF:(os:List (Nat×OS))->{st:State}->{H:ao}->{F:Nat->Prop}->cE G w0 F0 H F w ρ st->∃H' F',cE G w0 F0 H' F' w ρ (mF st os)/\cz H F w H' F' w
 |[],_,H,F,h=>⟨H,F,h,cz.refl H F w⟩
 |(j, .own _ _)::os,st,H,F,h=>by
  unfold Go.Proofs.YtilaieogabgamaaGreatDoor.mF;split
  .rename_i e he;obtain⟨H',F',hp⟩:=HC h.sat.ob he;have hs:=h.sat.apply (d:=none) hp;obtain⟨H2,F2,h2,k2⟩:=cE.mF os (st:=st.apply none e) ⟨hs,h.glob.lr hp.lr h.sat.ob.gp⟩;exact⟨H2,F2,h2,(cz.Bl hp.lr h.sat.ob.lt h.sat.ob.gK).trans k2⟩
  .exact cE.mF os h
 |(_, .box ..)::os,_,_,_,h=>cE.mF os h
 |(_, .map ..)::os,_,_,_,h=>cE.mF os h
 |(_, .deep ..)::os,_,_,_,h=>cE.mF os h
 |(_, .dmap ..)::os,_,_,_,h=>cE.mF os h
theorem cE.Kv{st bU:State}{t o:Nat}{r:Row}(h:cE G w0 F0 H F w ρ st)(fO:find st.ah t=some (.ptr o [] 0))(hb:Kv st t o r=some bU):∃F',cE G w0 F0 H F' w ρ bU/\cz H F w H F' w:=by
 unfold Go.Proofs.YtilaieogabgamaaGreatDoor.Kv at hb;split at hb
 case h_2=>cases hb
 split at hb
 case h_2=>cases hb
 rename_i aM w4;obtain⟨F1,h1,k1⟩:=h.sf w4;split at hb
 case h_2=>cases hb
 rename_i s1 T1 t1 cC;split at hb
 case h_2=>cases hb
 rename_i x hx;obtain rfl:=ai4 hb;obtain⟨v,hv,cc⟩:=h1.sat.ob.obj _ _ _ cC
 obtain⟨b,es,rfl,hhp,hold⟩:=(show∃b es,v= .pointer (some ⟨b,0,none⟩)/\w.heap[b]? =some (.cells es.toArray T1 (0,0))/\Holds H F1 w t1 es from cc.ok)
 obtain⟨b',di,kK⟩:=h.sat.slot t _ fO;rw[hv]at di;simp only[ajg,akT,akB,and_true]at di;subst di;have wZ:=im h1.sat.ob hx hold
 have hg:cm H (find aM) [o] b:=⟨o,by simp,s1,_,_,cC,hv,rfl⟩
 have eB:Step F1 w (fun k=>F1 k\/k=b) w:=fun k hk=>⟨.inl hk,rfl⟩
 have hp:lU H F1 w (find aM) st.nxt {dst:= .at r x,eat:=[o]} (ρ t) w H (fun k=>F1 k\/k=b):=
  ⟨⟨ao.le.refl H,⟨rfl,rfl,rfl,ai8 _,fun _ _ _=>rfl⟩,fun _ hk=> .inl hk,fun k hk=>hk.elim .inl fun e=> .inr (.inr (e▸hg)),fun k hk=>hk.elim (h1.sat.ob.lt k) fun e=>by rw[e];exact cc.lt b rfl⟩,fun m _=>⟨id,id⟩,
    ⟨b,0,kK, .inr rfl,es,wZ.length,fun j u hu=>by
      show w.cell? ⟨b,0+j,none⟩=some u
      simp[World.cell?,hhp,hu],wZ.step eB⟩,⟨fun _ _ _ h=>(by cases h),fun _ _ _ _ _ _ _ _ _ h=>(by cases h)⟩,fun _ h=>(by cases h)⟩
 have hs:=h1.sat.apply (d:=some t) hp
 have WM:ub ρ (some t) (ρ t)=ρ:=by
  funext u
  show CU ρ t (ρ t) u=ρ u
  rw[oD];split
  .rename_i e;rw[e]
  .rfl
 rw[WM]at hs;exact⟨_,⟨hs,h1.glob.lr hp.lr h1.sat.ob.gp⟩,k1.trans (cz.Bl hp.lr h1.sat.ob.lt h1.sat.ob.gK)⟩
theorem cE.zv{R:Type}{k:State->Option R}{q:R}:(ss:List (Nat×SS))->{st:State}->{H:ao}->{F:Nat->Prop}->cE G w0 F0 H F w ρ st->zv st k ss=some q->∃Ki H' F',k Ki=some q/\cE G w0 F0 H' F' w ρ Ki/\cz H F w H' F' w
 |[],st,H,F,h,hk=>⟨st,H,F,hk,h,cz.refl H F w⟩
 |(t, .at r)::ss,st,H,F,h,hk=>by
  unfold Go.Proofs.YtilaieogabgamaaGreatDoor.zv at hk;split at hk
  .rename_i o fO;split at hk
   case h_2=>cases hk
   rename_i bU hbx;obtain⟨F1,h1,k1⟩:=h.Kv fO hbx;obtain⟨Ki,H2,F2,g1,g2,g3⟩:=cE.zv ss h1 hk;exact⟨Ki,H2,F2,g1,g2,k1.trans g3⟩
  .rename_i o d i fO;split at hk
   case h_2=>cases hk
   rename_i aM w4;obtain⟨F1,h1,k1⟩:=h.sf w4;split at hk
   case h_2=>cases hk
   rename_i s1 T1 d' l cC;obtain⟨kz,hk⟩:=aD hk;have kz:=ajT kz;obtain⟨x,hx,hkx⟩:=bind_some hk;obtain⟨j,rfl,hj,CN⟩:=fG hx;obtain⟨g,o0,q0,m,cap,hv,hq,kK⟩:=h1.sat.slot t _ fO;obtain⟨v,di,cc⟩:=h1.sat.ob.obj _ _ _ cC;rw[hv]at di;obtain rfl:=ai4 di
   obtain⟨A,Jf,e1,_,_,qW⟩:=(show cA F1 w (.slice d'.row) [_] l from cc.ok)
   obtain⟨b,off,es,hA,hFb,hlen,uJ,wZ⟩:=qW j hj;simp only[aka,akr,and_true]at e1;obtain⟨e1,_,_⟩:=e1;rw[<-e1]at hA;simp only[ajg,akB,and_true]at hA;obtain⟨rfl,rfl⟩:=hA
   have oi:ai H F1 w (.at d'.row x) (ρ t):=by
    have e:j=q0:=by omega
    subst e;refine⟨g,o0+j*d.low.size+0,kK,hFb,es,hlen,fun jj u hu=>?_,by rw[<-CN];exact wZ⟩;rw[kz];exact uJ jj u hu
   obtain⟨Ki,H2,F2,g1,g2,g3⟩:=cE.zv ss (st:={ah:=(t, .at d'.row x)::st.ah,objs:=aM,nxt:=st.nxt}) ⟨⟨fun t' q' mz=>by
    have mz:find ((t,ak.at d'.row x)::st.ah) t'=some q':=mz;rw[aA]at mz;by_cases e:t=t'
    .subst e;rw[if_pos rfl]at mz;obtain rfl:=ai4 mz;exact oi
    .rw[if_neg e]at mz
     exact h1.sat.slot t' q' mz,h1.sat.ob,h1.sat.all⟩,h1.glob⟩ hkx
   exact⟨Ki,H2,F2,g1,g2,k1.trans g3⟩
  .exact cE.zv ss h hk
 |(_, .val ..)::ss,_,_,_,h,hk=>cE.zv ss h hk
 |(_, .ptr ..)::ss,_,_,_,h,hk=>cE.zv ss h hk
 |(_, .undef)::ss,_,_,_,h,hk=>cE.zv ss h hk
 |(_, .fn ..)::ss,_,_,_,h,hk=>cE.zv ss h hk
 |(_, .ifc ..)::ss,_,_,_,h,hk=>cE.zv ss h hk
theorem lf{st nA:State}{W:List Nat}{J:JS}{x:cx J.rows}{H1:ao}{F1:Nat->Prop}{w1:World}{CM:Nat->Value}(h:carry st J nA=some x)(hh:cE G w0 F0 H F w ρ st)(ov:cE G w0 F0 H1 F1 w1 CM nA)(hk:cz H F w H1 F1 w1)
 (Oo:∀t,t∉W->CM t=ρ t):∃H2 F2,cE G w0 F0 H2 F2 w1 CM (behind st W J x)/\cz H F w H2 F2 w1:=by
 obtain⟨H1',F1',WN,dO⟩:=ov.oq;obtain⟨H2',F2',WO,CY⟩:=WN.mF J.objs;unfold carry at h;obtain⟨Ki,H3',F3',h3,hh3,Vh⟩:=WO.zv J.ah h;exact HB h3 hh hh3 (((hk.trans dO).trans CY).trans Vh) Oo
theorem tK{l:List Oper}{o:Oper}{t:Nat}(ho:o∈l)(hd:o.dst=some t):t∈pF l:=by
 induction l with
 |nil=>cases ho
 |cons p l ih=>
  rcases ajq.1 ho with rfl|h
  .unfold pF;rw[hd];exact List.mem_cons_self
  .unfold pF;split
   .exact List.mem_cons_of_mem _ (ih h)
   .exact ih h
structure HD(G:Nat->Prop)(w0:World)(F0:Nat->Prop)(W:List Nat)(H:ao)(F:Nat->Prop)(w:World)(ρ:Nat->Value)(H':ao)(F':Nat->Prop)(w':World)(b7:Nat->Value)(bU:State):Prop where
 here:cE G w0 F0 H' F' w' b7 bU
 keeps:cz H F w H' F' w'
 same:∀t,t∉W->b7 t=ρ t
theorem map_inl{α β:Type}{o:Option α}{f:α->β}{r:β}(h:o.map f=some r):∃x,o=some x/\f x=r:=Option.map_eq_some_iff.1 h
theorem fV{E:Env P}:(c:Code)->{R:Type}->{q:R}->{a:tJ}->{st:State}->{k:Ex->State->Option R}->{H:ao}->{F:Nat->Prop}->{w:World}->{ρ:Nat->Value}->{Q:Exit->(Nat->Value)->World->Prop}->
 exec E nt N c a st k=some q->cE G w0 F0 H F w ρ st->
 (∀e bU H' F' w' b7,k e bU=some q->HD G w0 F0 (writes c) H F w ρ H' F' w' b7 bU->Q e.nD b7 w')->qn P nt c Q ρ w
 | .skip,R,q,a,st,k,H,F,w,ρ,Q,h,hh,hk=>IU (hk .normal st H F w ρ h ⟨hh,cz.refl H F w,fun _ _=>rfl⟩)
 | .ret,R,q,a,st,k,H,F,w,ρ,Q,h,hh,hk=>Me (hk .ret st H F w ρ h ⟨hh,cz.refl H F w,fun _ _=>rfl⟩)
 | .exit id,R,q,a,st,k,H,F,w,ρ,Q,h,hh,hk=>IV (hk (.exit id) st H F w ρ h ⟨hh,cz.refl H F w,fun _ _=>rfl⟩)
 | .cond c x y,R,q,a,st,k,H,F,w,ρ,Q,h,hh,hk=>by
   unfold exec at h;split at h
   case h_2=>cases h
   rename_i D hD;split at h
   case h_2=>cases h
   rename_i b hb;have hv:=nk hb (uT hh.sat.ob.gl hh.sat.slot _ _ hD);split at h
   .rename_i e;subst e;exact IW hv (fV x h hh fun e bU H' F' w' b7 h1 h2=>hk e bU H' F' w' b7 h1 ⟨h2.here,h2.keeps,fun t ht=>h2.same t fun hm=>ht (by simp[writes,hm])⟩)
   .rename_i e
    have e:b=false:=by cases b<;>simp_all
    subst e;exact Gf hv (fV y h hh fun e bU H' F' w' b7 h1 h2=>hk e bU H' F' w' b7 h1 ⟨h2.here,h2.keeps,fun t ht=>h2.same t fun hm=>ht (by simp[writes,hm])⟩)
 | .region id ops draw,R,q,a,st,k,H,F,w,ρ,Q,h,hh,hk=>by
   unfold exec at h
   cases draw with
   |true=>
    rw[cond_true]at h
    exact M4 E.mix h hh fun bU H' F' w' b7 h1 h2 h3 h4=>hk .normal bU H' F' w' b7 h1 ⟨h2,h3,fun t ht=>h4 t fun o ho e=>ht (tK ho e)⟩
   |false=>
    rw[cond_false]at h
    have:=zb (K:=fun ρ w=>Q .normal ρ w) (ops:=ops) (nt:=nt) h (fun _ _ h=>by cases h) hh fun bU H' F' w' b7 h1 h2 h3 h4=>hk .normal bU H' F' w' b7 h1 ⟨h2,h3,fun t ht=>h4 t fun o ho e=>ht (tK ho e)⟩
    have h2:=CW (id:=id) (l:=ops.toList) (P:=P) (n:=nt) (Q:=Q) (ρ:=ρ) (w:=w) (by rw[ajR];exact this);rw[ajR]at h2;exact h2
 | .seq x y,R,q,a,st,k,H,F,w,ρ,Q,h,hh,hk=>by
   have fin:∀{H1:ao}{F1:Nat->Prop}{w1:World}{CM:Nat->Value}{nA:State}{a2:tJ},exec E nt N y a2 nA k=some q->cE G w0 F0 H1 F1 w1 CM nA->cz H F w H1 F1 w1->(∀t,t∉writes x->CM t=ρ t)->qn P nt y Q CM w1:=by
    intro H1 F1 w1 CM nA a2 g1 g2 g3 g4
    exact fV y g1 g2 fun e bU H' F' w' b7 h1 h2=>hk e bU H' F' w' b7 h1 ⟨h2.here,g3.trans h2.keeps,fun t ht=>(h2.same t fun hm=>ht (by simp[writes,hm])).trans (g4 t fun hm=>ht (by simp[writes,hm]))⟩
   have out:∀{e:Ex}{bU:State}{H':ao}{F':Nat->Prop}{w':World}{b7:Nat->Value},k e bU=some q->HD G w0 F0 (writes x) H F w ρ H' F' w' b7 bU->Q e.nD b7 w':=by
    intro e bU H' F' w' b7 g1 g2;exact hk e bU H' F' w' b7 g1 ⟨g2.here,g2.keeps,fun t ht=>g2.same t fun hm=>ht (by simp[writes,hm])⟩
   unfold exec at h;split at h
   .rename_i J a1 a2;unfold bJ at h;obtain⟨s,hs,h⟩:=bind_some h;refine pj (fV x hs hh fun e bU H' F' w' b7 h1 h2=>?_)
    cases e with
    |normal=>
     obtain⟨j,hj,rfl⟩:=map_inl h1;obtain⟨H2,F2,g1,g2⟩:=lf (W:=writes x) hj hh h2.here h2.keeps h2.same;exact fin h g1 g2 h2.same
    |exit id=>
     obtain⟨r,hr,rfl⟩:=map_inl h1;obtain rfl:=ai4 h;exact out hr h2
    |ret=>
     obtain⟨r,hr,rfl⟩:=map_inl h1;obtain rfl:=ai4 h;exact out hr h2
    |goto l=>
     obtain⟨r,hr,rfl⟩:=map_inl h1;obtain rfl:=ai4 h;exact out hr h2
   .rename_i J a1 a2;obtain⟨s,hs,h⟩:=bind_some h;refine pj (fV x hs hh fun e bU H' F' w' b7 h1 h2=>?_)
    cases e with
    |normal=>
     obtain⟨H2,F2,g1,g2⟩:=lf (W:=writes x) h1 hh h2.here h2.keeps h2.same;exact fin h g1 g2 h2.same
    |exit id=>cases h1
    |ret=>cases h1
    |goto l=>cases h1
   .refine pj (fV x h hh fun e bU H' F' w' b7 h1 h2=>?_)
    cases e with
    |normal=>exact fin h1 h2.here h2.keeps h2.same
    |exit id=>exact out h1 h2
    |ret=>exact out h1 h2
    |goto l=>exact out h1 h2
 | .block id x,R,q,a,st,k,H,F,w,ρ,Q,h,hh,hk=>by
   have hw:writes (.block id x)=writes x:=rfl;rw[hw]at hk
   have WQ:∀{e:Ex}{b7:Nat->Value}{w':World},(match e with| .exit i=>if i=id then Q .normal b7 w' else Q (.exit i) b7 w'|e=>Q e.nD b7 w')->Rz id Q e.nD b7 w':=by
    intro e b7 w' g
    cases e with
    |normal=>exact g
    |ret=>exact g
    |goto l=>exact g
    |exit i=>
     by_cases e:i=id
     .subst e;simp only[if_pos]at g;exact Jj g
     .simp only[if_neg e]at g;refine Gu ?_ g
      cases hb:aje i id with
      |false=>rfl
      |true=>exact absurd (beq_true hb) e
   have DU:∀{i:Nat},i≠id->aje i id=false:=fun{i}e=>by
    cases hb:aje i id with
    |false=>rfl
    |true=>exact absurd (beq_true hb) e
   unfold exec at h;split at h
   .rename_i J a1 a2;unfold bJ at h;obtain⟨s,hs,h⟩:=bind_some h;refine sa (fV x hs hh fun e bU H' F' w' b7 h1 h2=>WQ ?_)
    have inn:(carry st J bU).map Sum.inl=some s->Q .normal b7 w':=fun h1=>by
     obtain⟨j,hj,rfl⟩:=map_inl h1;obtain⟨H2,F2,g1,g2⟩:=lf (W:=writes x) hj hh h2.here h2.keeps h2.same;exact hk .normal _ H2 F2 w' b7 h ⟨g1,g2,h2.same⟩
    have out:∀{e:Ex},(k e bU).map Sum.inr=some s->Q e.nD b7 w':=fun{e}h1=>by
     obtain⟨r,hr,rfl⟩:=map_inl h1;obtain rfl:=ai4 h;exact hk e bU H' F' w' b7 hr h2
    cases e with
    |normal=>exact inn h1
    |exit i=>
     show if i=id then _ else _
     by_cases e:i=id
     .subst e;rw[if_pos rfl];refine inn ?_;simpa using h1
     .rw[if_neg e];simp only[DU e,cond_false]at h1;exact out (e:= .exit i) h1
    |ret=>exact out (e:= .ret) h1
    |goto l=>exact out (e:= .goto l) h1
   .rename_i J a1 a2;obtain⟨s,hs,h⟩:=bind_some h;refine sa (fV x hs hh fun e bU H' F' w' b7 h1 h2=>WQ ?_)
    have inn:carry st J bU=some s->Q .normal b7 w':=fun h1=>by
     obtain⟨H2,F2,g1,g2⟩:=lf (W:=writes x) h1 hh h2.here h2.keeps h2.same;exact hk .normal _ H2 F2 w' b7 h ⟨g1,g2,h2.same⟩
    cases e with
    |normal=>exact inn h1
    |exit i=>
     show if i=id then _ else _
     by_cases e:i=id
     .subst e;rw[if_pos rfl];refine inn ?_;simpa using h1
     .simp only[DU e,cond_false]at h1;cases h1
    |ret=>cases h1
    |goto l=>cases h1
   .refine sa (fV x h hh fun e bU H' F' w' b7 h1 h2=>WQ ?_)
    cases e with
    |normal=>exact hk .normal bU H' F' w' b7 h1 h2
    |exit i=>
     show if i=id then _ else _
     by_cases e:i=id
     .subst e;rw[if_pos rfl];refine hk .normal bU H' F' w' b7 ?_ h2;simpa using h1
     .rw[if_neg e];simp only[DU e,cond_false]at h1;exact hk (.exit i) bU H' F' w' b7 h1 h2
    |ret=>exact hk .ret bU H' F' w' b7 h1 h2
    |goto l=>exact hk (.goto l) bU H' F' w' b7 h1 h2
 | .loop x,R,q,a,st,k,H,F,w,ρ,Q,h,hh,hk=>by
   have hw:writes (.loop x)=writes x:=rfl;rw[hw]at hk;unfold exec at h;split at h
   case h_2=>cases h
   rename_i L a1;split at h
   case h_2=>cases h
   rename_i s0 MO;refine IX (fun s b7 w'=>∃H' F',cE G w0 F0 H' F' w' b7 (behind st (writes x) L s)/\cz H F w H' F' w'/\∀t,t∉writes x->b7 t=ρ t) h ?_ ?_
   .obtain⟨H2,F2,g1,g2⟩:=lf (W:=writes x) MO hh hh (cz.refl H F w) fun _ _=>rfl
    exact⟨H2,F2,g1,g2,fun _ _=>rfl⟩
   .rintro s b7 w' y ⟨H',F',g1,g2,g3⟩ hy
    refine fV x hy g1 fun e bU si AX tC rC h1 h2=>?_
    have sm:∀t,t∉writes x->rC t=ρ t:=fun t ht=>(h2.same t ht).trans (g3 t ht)
    have out:∀{e:Ex},e≠ .normal->(k e bU).map Sum.inr=some y->N8 (fun s b7 w'=>∃H' F',cE G w0 F0 H' F' w' b7 (behind st (writes x) L s)/\cz H F w H' F' w'/\∀t,t∉writes x->b7 t=ρ t) Q q y e.nD rC tC:=fun{e}he h1=>by
     obtain⟨r,hr,rfl⟩:=map_inl h1;refine⟨by cases e<;>simp_all[Ex.nD],fun hq=>?_⟩;subst hq;exact hk e bU si AX tC rC hr ⟨h2.here,g2.trans h2.keeps,sm⟩
    cases e with
    |normal=>
     obtain⟨j,hj,rfl⟩:=map_inl h1;obtain⟨H2,F2,m1,m2⟩:=lf (W:=writes x) hj hh h2.here (g2.trans h2.keeps) sm;exact⟨rfl,H2,F2,m1,m2,sm⟩
    |exit i=>exact out (e:= .exit i) (by simp) h1
    |ret=>exact out (e:= .ret) (by simp) h1
    |goto l=>exact out (e:= .goto l) (by simp) h1
 | .label l,R,q,a,st,k,H,F,w,ρ,Q,h,hh,hk=>fun act hf=>wp_label ⟨ρ,hf,hk .normal st H F w ρ h ⟨hh,cz.refl H F w,fun _ _=>rfl⟩⟩
 | .scope x,R,q,a,st,k,H,F,w,ρ,Q,h,hh,hk=>by
   have h1:=fV (Q:=fun e ρ w=>match e with| .goto _=>False|e=>Q e ρ w) x (show exec E nt N x a.l st (noGoto k)=some q from h) hh fun e bU H' F' w' b7 h1 h2=>by
    cases e with
    |goto l=>cases h1
    |_=>exact hk _ bU H' F' w' b7 h1 h2
   intro act hf;refine wp_scope_straight (wp_mono (h1 act hf) fun e a' w' ⟨b7,pS,U9⟩=>?_)
   cases e<;>first
    |exact U9.elim
    |exact⟨b7,pS,U9⟩
 | .goto l,R,q,a,st,k,H,F,w,ρ,Q,h,hh,hk=>fun act hf=>wp_goto ⟨ρ,hf,hk (.goto l) st H F w ρ h ⟨hh,cz.refl H F w,fun _ _=>rfl⟩⟩
 | .rangeFunc ..,_,_,_,_,_,_,_,_,_,_,h,_,_=>by cases h
 | .refuse _,_,_,_,_,_,_,_,_,_,_,h,_,_=>by cases h
end
end Go.Proofs.YtilaieogabgamaaGreatDoor
namespace Go.Proofs.YtilaieogabgamaaGreatDoor
open Go Go.RowKit
def zw{P:Program}(T:bc P)(ah:List (Nat×ak))(objs:List (Nat×(Nat×Th)))(t:Nat)(T0:TypeId):Option ak:=
 match find T.und T0 with
 |none=>none
 |some kk=>match find ah t with
  |some (.ptr o p off)=>match find objs o with
   |some (_, .box _ tr)=>match tr.get p with
    |some (s,dx)=>bif aje dx off&&lX T T0 kk s.size then some (.val (kA kk) s)else none
    |none=>none
   |_=>none
  |_=>none
def zx{P:Program}(T:bc P)(ah:List (Nat×ak))(objs:List (Nat×(Nat×Th))):List ResultVar->Option (List ak)
 |[]=>some []
 | .tmp t::l=>match find ah t with
   |some d=>match zx T ah objs l with
    |some ds=>some (d::ds)
    |none=>none
   |none=>none
 | .cell t T0::l=>match zw T ah objs t T0 with
   |some d=>match zx T ah objs l with
    |some ds=>some (d::ds)
    |none=>none
   |none=>none
noncomputable def PJ{P:Program}(T:bc P)(rs:List ResultVar)(nb:Nat)(out:JS)(st:State):Option (cx out.rows):=
 match zx T st.ah st.objs rs with
 |some ds=>zv {ah:=gQ 0 ds,objs:=(oq st).objs,nxt:=(oq st).nxt} (fun nA=>match xP nb [] out nA.ah nA.objs with
  |some (x,_)=>some x
  |none=>none) out.ah
 |none=>none
def init(inn:JS)(x:cx inn.rows):State:=
 {ah:=(cS inn.ah (cY _ x)).1,objs:=gi 0 inn.objs (cS inn.ah (cY _ x)).2,nxt:=inn.nxt}
noncomputable def PK{P:Program}(T:bc P)(rs:List ResultVar)(nb:Nat)(out:JS):Ex->State->Option (cx out.rows)
 | .exit _,_=>none
 | .goto _,_=>none
 |_,st=>PJ T rs nb out st
noncomputable def Tl{P:Program}(E:Env P)(nt N:Nat)(c:Code)(rs:List ResultVar)(a:tJ)(inn out:JS)(x:cx inn.rows):Option (cx out.rows):=
 exec E nt N c a (init inn x) (PK E.T rs inn.nxt out)
section
variable {P:Program} {ρ:Nat->Value} {w:World} {H:ao} {F:Nat->Prop} {U:Nat->Prop} {n:Nat}
theorem BD(T:bc P){t:TypeId}{kk:Iz}(hu:find T.und t=some kk){b off:Nat}{s:Tree}{cs:List Value}(hh:Holds H F w s cs)(hc:∀j u,cs[j]? =some u->w.cell? ⟨b,off+j,none⟩=some u)
 (hz:if kA kk=true then∃r,find T.row t=some r/\r.size=s.size else s.size=1):∃v,(loadVar t ⟨b,off,none⟩).run P w= .ok v w/\aE H F w (kA kk) s v:=by
 obtain⟨dd,wQ,xy⟩:=(T.und_ok _ _ hu).agg;have hl:=hh.length
 cases ha:kA kk with
 |true=>
  rw[if_pos ha]at hz;obtain⟨r,hr,IC⟩:=hz;obtain⟨ti,z,h1,_,_,h4,_⟩:=T.row_ok _ _ hr
  have RQ:(loadCells ⟨b,off,none⟩ cs.length).run P w= .ok cs.toArray w:=
   run_loadCells_list (P:=P) w ⟨b,off,none⟩ cs (fun j v hv=>by rw[cI];exact hc j v hv)
  refine⟨.agg cs.toArray,?_,cs,hh,rfl,by simp⟩
  have kz:ti.size=cs.length:=by omega
  simp[loadVar,ajx,eY wQ,xy.trans ha,sizeOf,typeInfo,h1,kz,RQ]
 |false=>
  rw[if_neg (by simp[ha])]at hz
  obtain⟨v,rfl⟩:∃v,cs=[v]:=by
   match cs,hl.trans hz with
   |[v],_=>exact⟨v,rfl⟩
  refine⟨v,?_,[v],hh,rfl,fun _=>rfl⟩;have:=hc 0 v rfl;simp only[aj7]at this;simp[loadVar,ajx,eY wQ,xy.trans ha,this,go_sem]
theorem DV(T:bc P){ah:List (Nat×ak)}{objs:List (Nat×(Nat×Th))}{t:Nat}{T0:TypeId}{D:ak}(h:zw T ah objs t T0=some D)(fO:∀t d,find ah t=some d->ai H F w d (ρ t))(hs:au U H F w (find objs) n):
 ∃a v,ρ t= .pointer (some a)/\(loadVar T0 a).run P w= .ok v w/\ai H F w D v:=by
 unfold zw at h;split at h
 .cases h
 rename_i kk hu;split at h
 case h_2=>cases h
 rename_i o p off hD;split at h
 case h_2=>cases h
 rename_i s0 T1 tr cC;split at h
 case h_2=>cases h
 rename_i s dx hg;obtain⟨h1,rfl⟩:=lW h;obtain⟨h1,h3⟩:=cO h1;obtain rfl:=beq_true h1;obtain⟨b,hb,e⟩:=fO _ _ hD;obtain⟨es,hh,Oe⟩:=hs.box cC hb;obtain⟨g1,g2⟩:=Oe.get hg
 obtain⟨v,hv,my⟩:=BD (b:=b) (off:=dx) T hu g1 (fun j u hj=>by
  rw[uW hh];rw[ajF]at hj;split at hj
  .rwa [ajp]at hj
  .cases hj) (jv T h3)
 exact⟨_,v,e,hv,my⟩
def M5(tmps:Array Value):ResultVar->Sem Value
 | .tmp t=>pure (tmps.getD t undef)
 | .cell a t=>do loadVar t (<-asAddr (tmps.getD a undef))
theorem zy(T:bc P){ah:List (Nat×ak)}{objs:List (Nat×(Nat×Th))}(fO:∀t d,find ah t=some d->ai H F w d (ρ t))(hs:au U H F w (find objs) n){tmps:Array Value}(hf:∀t,tmps.getD t undef=ρ t):
 {rs:List ResultVar}->{ds:List ak}->zx T ah objs rs=some ds->∃vs:List Value,(rs.mapM (M5 tmps)).run P w= .ok vs w/\fc H F w ds vs
 |[],ds,h=>by obtain rfl:=ai4 h;exact⟨[],by simp,rfl⟩
 | .tmp t::l,ds,h=>by
   unfold zx at h;split at h
   case h_2=>cases h
   rename_i d hd;split at h
   case h_2=>cases h
   rename_i U7 uw;obtain rfl:=ai4 h;obtain⟨vs,h1,h2⟩:=zy T fO hs hf uw;refine⟨ρ t::vs,?_,ρ t,vs,rfl,fO t d hd,h2⟩
   have hm:(M5 tmps (.tmp t)).run P w= .ok (ρ t) w:=by rw[<-hf t];rfl
   rw[List.mapM_cons];simp only[ajx,hm,Sem.run_pure,ajO,h1]
 | .cell t T0::l,ds,h=>by
   unfold zx at h;split at h
   case h_2=>cases h
   rename_i d hd;split at h
   case h_2=>cases h
   rename_i U7 uw;obtain rfl:=ai4 h;obtain⟨vs,h1,h2⟩:=zy T fO hs hf uw;obtain⟨a,v,e1,e2,e3⟩:=DV T hd fO hs;refine⟨v::vs,?_,v,vs,rfl,e3,h2⟩;have ha:(asAddr (.pointer (some a))).run P w= .ok a w:=rfl
   have hm:(M5 tmps (.cell t T0)).run P w= .ok v w:=by
    show(asAddr (tmps.getD t undef)>>= fun b=>loadVar T0 b).run P w=_
    rw[hf t,e1,ajx,ha,ajO,e2]
   rw[List.mapM_cons];simp only[ajx,hm,Sem.run_pure,ajO,h1]
theorem DW(T:bc P){fn:Func}{rs:List ResultVar}(IC:fn.results.toList=rs){ah:List (Nat×ak)}{objs:List (Nat×(Nat×Th))}(fO:∀t d,find ah t=some d->ai H F w d (ρ t))(hs:au U H F w (find objs) n){tmps:Array Value}(hf:∀t,tmps.getD t undef=ρ t)
 {ds:List ak}(h:zx T ah objs rs=some ds):∃vs:List Value,(results fn tmps).run P w= .ok (w5 vs) w/\fc H F w ds vs:=by
 obtain⟨vs,h1,h2⟩:=zy T fO hs hf h;refine⟨vs,?_,h2⟩;have e:fn.results=rs.toArray:=eD IC;have er:results fn tmps=(fn.results.mapM (M5 tmps)>>= fun vs=>pure (if h:vs.size=1 then vs[0]else Value.tuple vs)):=rfl;rw[er,e,List.mapM_toArray]
 have:∀vs:List Value,(if h:vs.toArray.size=1 then vs.toArray[0]else Value.tuple vs.toArray)=w5 vs:=by
  intro vs
  match vs with
  |[]=>rfl
  |[v]=>rfl
  |a::b::l=>simp[w5]
 simp only[ajx,Sem.run_map,h1,ajO,Sem.run_pure,this]
theorem Fv:{l:List (Nat×SS)}->{vs:List ik}->{k t:Nat}->{d:ak}->rv k l=true->find (cS l vs).1 t=some d->t<k+l.length
 |[],_,_,_,_,_,h=>by cases h
 |(t0,s)::l,vs,k,t,d,hi,h=>by
  obtain⟨h1,h2⟩:=cO hi;have h':find ((t0,(dY s vs).1)::(cS l (dY s vs).2).1) t=some d:=h;rw[aA]at h';have:=beq_true h1;rw[ajk];split at h'
  .omega
  .have:=Fv h2 h';omega
def OC(P:Program)(nt:Nat)(c:Code)(run:{R:Type}->State->(Ex->State->Option R)->Option R):Prop:=
 ∀{R:Type}{q:R}{st:State}{k:Ex->State->Option R}{H:ao}{F:Nat->Prop}{w:World}{ρ:Nat->Value}{G:Nat->Prop}{w0:World}{F0:Nat->Prop}{Q:Exit->(Nat->Value)->World->Prop},
  run st k=some q->cE G w0 F0 H F w ρ st->(∀e bU H' F' w' b7,k e bU=some q->HD G w0 F0 (writes c) H F w ρ H' F' w' b7 bU->Q e.nD b7 w')->qn P nt c Q ρ w
theorem Kw{E:Env P}{f:FuncId}{fn:Func}{c:Code}{rs:List ResultVar}{sg:bp}{run:{R:Type}->State->(Ex->State->Option R)->Option R}(hW:OC P fn.ntmps c run)(hf:P.funcs[f]? =some fn)(hn:(fn.name== "runtime.NumGoroutine")=false)(hb:fn.body=some c)(IC:fn.results.toList=rs)
 (nS:rv 0 sg.inn.ah=true)(hlen:Nat.ble sg.inn.ah.length fn.ntmps=true)(uO:aje rs.length sg.out.ah.length=true)
 (w8:∀x,sg.fn x=run (init sg.inn x) (PK E.T rs sg.inn.nxt sg.out)):aq P f sg:=by
 refine⟨⟨fn,hf,hn,by rw[hb];rfl⟩,fun x y wO args w H F G ES fO cC dX hG=>?_⟩
 have hlen:sg.inn.ah.length<=fn.ntmps:=by simpa using hlen
 have uO:=beq_true uO
 refine(yA (R:=fun v w'=>∃vs,v=w5 vs/\vs.length=sg.out.ah.length/\∃H' F',Ext G w w'/\H.le H'/\(∀b,F b->F' b)/\(∀b,F' b->F b\/w.heap.size<=b\/G b)/\
  (∀t d,find (cS sg.out.ah (cY _ y)).1 t=some d->ai H' F' w' d (vs.getD t undef))/\
  au (fun k=>w.heap.size<=k\/G k) H' F' w' (find (gi sg.inn.nxt sg.out.objs (cS sg.out.ah (cY _ y)).2)) sg.out.nxt/\gJ H' sg.out.nxt) hf hb (by omega) fun ρ Oo=>?_).mono fun e w' ⟨v,he,vs,hv,h1,h2⟩=>⟨vs,by rw[he,hv],h1,h2⟩
 have WR:∀t,t<args.length->ρ t=args.getD t undef:=fun t ht=>by
  rw[Oo t _ (ai5 ht)];simp[ajD,ht]
 have keys:∀t d,find (cS sg.inn.ah (cY sg.inn.rows x)).1 t=some d->ai H F w d (ρ t):=fun t d hd=>by
  rw[WR t (by have:=Fv nS hd;omega)];exact fO t d hd
 have hh:cE G w F H F w ρ (init sg.inn x):=⟨⟨keys,cC,dX⟩,⟨⟨rfl,rfl,rfl,ai8 _,fun _ _ _=>rfl⟩,fun _ h=>h,fun _ h=> .inl h⟩⟩
 refine hW ((w8 x).symm.trans wO) hh fun e bU H' F' w' b7 h1 h2=>?_
 have main:PJ E.T rs sg.inn.nxt sg.out bU=some y->∀act,Fr fn.ntmps act b7->∃v,(results fn act.tmps).run P w'= .ok v w'/\∃vs,v=w5 vs/\vs.length=sg.out.ah.length/\∃H' F',Ext G w w'/\H.le H'/\(∀b,F b->F' b)/\(∀b,F' b->F b\/w.heap.size<=b\/G b)/\
  (∀t d,find (cS sg.out.ah (cY _ y)).1 t=some d->ai H' F' w' d (vs.getD t undef))/\
  au (fun k=>w.heap.size<=k\/G k) H' F' w' (find (gi sg.inn.nxt sg.out.objs (cS sg.out.ah (cY _ y)).2)) sg.out.nxt/\gJ H' sg.out.nxt:=by
  intro hr act wT;unfold PJ at hr;split at hr
  case h_2=>cases hr
  rename_i ds uw;obtain⟨vs,g1,g2⟩:=DW E.T IC h2.here.sat.slot h2.here.sat.ob wT.get uw;have hdl:=jK g2;refine⟨_,g1,vs,rfl,?_,?_⟩
  .have:∀{rs:List ResultVar}{ds:List ak},zx E.T bU.ah bU.objs rs=some ds->ds.length=rs.length:=by
    intro rs
    induction rs with
    |nil=>intro ds h;obtain rfl:=ai4 h;rfl
    |cons r l ih=>
     intro ds h
     cases r<;>unfold zx at h<;>split at h<;>try cases h
     all_goals
      split at h
      case h_2=>cases h
      rename_i U7 WS;obtain rfl:=ai4 h;simp[ih WS]
   have:=this uw;omega
  .have MO:au (UU G w) H F w (find (del [] [])) sg.inn.nxt:=⟨fun _ _ _ h=>(by cases h),fun _ _ _ _ _ _ _ _ _ h=>(by cases h),cC.fresh,cC.lt,cC.new,cC.gl⟩
   obtain⟨H4,F4,h4,k4⟩:=h2.here.oq;obtain⟨nA,H3,F3,hr,h3,k3⟩:=cE.zv (ρ:=fun t=>vs.getD t undef) (st:={ah:=gQ 0 ds,objs:=(oq bU).objs,nxt:=(oq bU).nxt}) sg.out.ah ⟨⟨fun t d hd=>ai.keep k4.iM k4.step (by simpa using(oL g2 t d hd).2),h4.sat.ob,h4.sat.all⟩,h4.glob⟩ hr;split at hr
   case h_2=>cases hr
   rename_i _ z rest hp;obtain⟨bs,aM⟩:=rest;obtain rfl:=ai4 hr;obtain⟨F2,H2,a1,a2,a3,_,a5,_,a6,a7,a8⟩:=vw (U':=UU G w) (ns:=[]) (objs0:=[]) (ρ:=fun t=>vs.getD t undef) hp MO dX ((h2.keeps.trans k4).trans k3) h3.sat.ob (fun t d hd=>h3.sat.slot t d hd)
   have ud:=a8 h3.sat.ob.new (fun o s t v k _ m2 m3 m4=>by
    obtain⟨v',di,cc⟩:=a1.obj _ _ _ m2;rw[m3]at di;obtain rfl:=ai4 di
    exact cc.use k m4) (fun _ _ _ _ _ h=>by cases h)
   rw[show del [] ([]:List (Nat×(Nat×Th)))=[]from rfl,ajW]at ud;refine⟨H2,F2,h3.glob.ext,a5,fun b hb=>a2 b (h3.glob.le b hb),fun b hb=>?_,a7,ud,a6⟩
   rcases a3 b hb with m1|m1
   .exact h3.glob.new b m1
   .exact .inr (h3.sat.ob.gp b m1)
 cases e with
 |normal=>exact main h1
 |ret=>exact main h1
 |exit id=>cases h1
 |goto l=>cases h1
theorem Tm{E:Env P}{f:FuncId}{fn:Func}{c:Code}{rs:List ResultVar}{N:Nat}{a:tJ}{sg:bp}(hf:P.funcs[f]? =some fn)(hn:(fn.name== "runtime.NumGoroutine")=false)(hb:fn.body=some c)(IC:fn.results.toList=rs)
 (nS:rv 0 sg.inn.ah=true)(hlen:Nat.ble sg.inn.ah.length fn.ntmps=true)(uO:aje rs.length sg.out.ah.length=true)
 (w8:∀x,sg.fn x=Tl E fn.ntmps N c rs a sg.inn sg.out x):aq P f sg:=
 Kw (E:=E) (run:=fun st k=>exec E fn.ntmps N c a st k) (fun h hh hk=>fV c h hh hk) hf hn hb IC nS hlen uO w8
structure CT(P:Program)where
 f:Nat
 sg:bp
 ok:aq P f sg
def ck{P:Program}{f:Nat}{sg:bp}(h:aq P f sg):CT P:=⟨f,sg,h⟩
def CT.tab{P:Program}:List (CT P)->List (Nat×bp)
 |[]=>[]
 |c::l=>(c.f,c.sg)::CT.tab l
theorem CT.zA{P:Program}:{l:List (CT P)}->∀p∈CT.tab l,aq P p.1 p.2
 |[],_,h=>by cases h
 |c::l,p,h=>by
  rcases ajq.1 h with rfl|h
  .exact c.ok
  .exact CT.zA p h
def fwB(fn:Func)(sg:bp):Bool:= !(fn.name== "runtime.NumGoroutine")&&fn.body.isSome&&rv 0 sg.inn.ah&&Nat.ble sg.inn.ah.length fn.ntmps&&aje fn.results.toList.length sg.out.ah.length
theorem fw(E:Env P){f:FuncId}{fn:Func}{N:Nat}{sg:bp}(a:tJ)(hf:P.funcs[f]? =some fn)(hc:fwB fn sg=true)
 (w8:∀x,sg.fn x=Tl E fn.ntmps N (fn.body.getD .skip) fn.results.toList a sg.inn sg.out x):aq P f sg:=by
 unfold fwB at hc;simp only[akm,Bool.not_eq_true']at hc;obtain⟨⟨⟨⟨h1,h2⟩,h3⟩,h4⟩,h5⟩:=hc;obtain⟨c,hc⟩:=ajH.1 h2;exact Tm (E:=E) (N:=N) (a:=a) hf h1 (by rw[hc];rfl) rfl h3 h4 h5 w8
@[reducible] def SS.l(r:Row):SS:= .val false (.leaf r)
@[reducible] def SS.g(r:Row):SS:= .val true (.leaf r)
theorem M6{f:FuncId}{fn:Func}{sg:bp}(hf:P.funcs[f]? =some fn)(hn:(fn.name== "runtime.NumGoroutine")=false)(hb:fn.body.isNone=false)(w8:∀x,sg.fn x=none):aq P f sg:=
 ⟨⟨fn,hf,hn,hb⟩,fun x y h=>by rw[w8 x]at h;cases h⟩
abbrev ae:Row:= .int .i64
end
end Go.Proofs.YtilaieogabgamaaGreatDoor
end
section
open _root_.Nat renaming le_refl->ai8
open _root_.Option.some renaming inj->ai4
namespace Go.Proofs.YtilaieogabgamaaGreatDoor
open Go Go.RowKit
inductive HE(F:Nat->Prop)(w:World):Nat->List (Nat×SS)->List ik->List Value->Prop where
 |nil {k:Nat}:HE F w k [] [] []
 |cons {k:Nat} {agg:Bool} {r:Row} {x:r.den} {v:Value} {ss:List (Nat×SS)} {ds:List ik} {vs:List Value} (h:aE ⟨fun _=>none,fun _=>none,fun _ _=>False⟩ F w agg (.leaf r x) v) (hs:HE F w (k+1) ss ds vs):HE F w k ((k, .val agg (.leaf r))::ss) (⟨r,x⟩::ds) (v::vs)
theorem HE.ah{F:Nat->Prop}{w:World}{k:Nat}{ss:List (Nat×SS)}{ds:List ik}{vs:List Value}(h:HE F w k ss ds vs):(∀t d,find (cS ss ds).1 t=some d->k<=t/\ai ⟨fun _=>none,fun _=>none,fun _ _=>False⟩ F w d (vs.getD (t-k) undef))/\(cS ss ds).2=[]/\vs.length=ss.length:=by
 induction h with
 |nil=>exact⟨fun _ _ h=>(by cases h),rfl,rfl⟩
 | @cons k agg r x v ss ds vs h hs ih=>
   refine⟨fun t d hf=>?_,ih.2.1,by simp[ih.2.2]⟩;have pS:find ((k,ak.val agg (bif r.beq r then Tree.leaf r x else .nil))::(cS ss ds).1) t=some d:=hf;rw[aA]at pS;split at pS
   .rename_i e;subst e;obtain rfl:=ai4 pS;rw[Row.beq_refl,Nat.sub_self];exact⟨ai8 _,h⟩
   .obtain⟨h1,h2⟩:=ih.1 t d pS;refine⟨by omega,?_⟩;rw[show t-k=(t-(k+1))+1 from by omega];simpa using h2
theorem vK(F:Nat->Prop)(w:World)(k:IntKind)(x:Int):aE ⟨fun _=>none,fun _=>none,fun _ _=>False⟩ F w false (.leaf (.int k) x) (.int k x):=aE.mA rfl
theorem BE{F:Nat->Prop}{w:World}{r:Row}{x:r.den}{es:List Value}(h:cA F w r es x):aE ⟨fun _=>none,fun _=>none,fun _ _=>False⟩ F w true (.leaf r x) (.agg es.toArray):=⟨es,h,rfl,by simp⟩
theorem HF{P:Program}{f:FuncId}{inn:JS}{fn:cx inn.rows->Option Bool}(h:aq P f ⟨inn,⟨[(0, .val false (.leaf .bool))],[],[],0⟩,fn⟩){x:cx inn.rows}{y:Bool}(hy:fn x=some y){ds:List ik}(uw:cY inn.rows x=ds){W:World}{vs:List Value}
 (ha:HE (fun b=>b<W.heap.size) W 0 inn.ah ds vs)(ho:inn.objs=[])(hgl:qt (fun b=>b<W.heap.size) W):Calls P f vs.toArray W fun e W'=>e= .returned (.bool y)/\Below W.heap.size W W':=by
 obtain⟨h1,h2,h3⟩:=ha.ah;subst uw
 refine(h.ok x y hy vs W ⟨fun _=>none,fun _=>none,fun _ _=>False⟩ (fun b=>b<W.heap.size) (fun _=>False) h3 (fun t d hd=>by simpa using(h1 t d hd).2) ?_ (fun _ _=>⟨rfl,rfl⟩) (fun _ h=>h.elim)).mono fun e W' ⟨us,he,MQ,H',F',a1,_,_,_,a5,_⟩=>?_
 .show au _ _ _ W (find (gi 0 inn.objs _)) inn.nxt
  rw[ho];exact⟨fun _ _ _ h=>(by cases h),fun _ _ _ _ _ _ _ _ _ h=>(by cases h),fun _ _ _=>⟨rfl,rfl⟩,fun _ h=>h,fun _ h=> .inl h,hgl⟩
 .refine⟨?_,⟨a1.os,a1.tape,a1.output,a1.size,fun k hk=>a1.block k hk (fun h=>h)⟩⟩
  match us,MQ with
  |[u],_=>
   have:=a5 0 (dD y) rfl;have hu:u= .bool y:=aE.bool (x:=y) this;rw[he,hu];rfl
end Go.Proofs.YtilaieogabgamaaGreatDoor
end
section
open _root_.Array renaming getElem?_eq_some_iff->aj0
open _root_.List renaming getElem?_drop->ajp,getElem?_eq_getElem->ai5,getElem?_map->aj2,length_map->ajG
open _root_.Nat renaming add_zero->aj7
open _root_.Option.some renaming injEq->ajg
open _root_.Prod.mk renaming injEq->aj3
namespace Go.Proofs.YtilaieogabgamaaGreatDoor
open Go Go.RowKit
theorem HG{H:Type}{enc:TypeId×Value->H}{P:Program}{W:World}{base:Nat}{spare:Nat->Bool}{held:Bool}{fuel:Nat}{t e:TypeId}{n:Nat}{k:IntKind}(ht:P.underlying t=some (.array n e))(he:P.underlying e=some (.int k))(hc:P.cellsOf e=1)(RR:P.cellsOf t=n)
 {cs:List Value}{ns:List Int}{q:List MemPlace}(hd:DataW.trod enc P W base spare held fuel t cs=some (.agg (ns.map fun x=> .lit (.int k x)),q)):cs=ns.map fun x=> .int k x:=by
 obtain⟨xs,m,_,hx,hl,hn,qW⟩:=DataW.trod_array ht hd;simp only[aj3,DataW.agg.injEq]at hx
 have hln:ns.length=n:=by rw[<-hn,<-ajG (f:=fun x:Int=>(DataW.lit (.int k x):DataW H)),hx.1,ajG]
 apply List.ext_getElem?
 intro i;by_cases hi:i<n
 .have h:=qW i hi;rw[hc,Nat.mul_one,ai5 (by omega:i<xs.length)]at h;obtain⟨z,h1,h2,_⟩:=DataW.trod_int he h
  have h3:(xs.map (·.1))[i]? =some (.lit (.int k z)):=by
   rw[aj2,ai5 (by omega:i<xs.length),h2];rfl
  rw[<-hx.1,aj2,ai5 (by omega:i<ns.length)]at h3;simp only[Option.map_some,ajg,DataW.lit.injEq,Lit.int.injEq,true_and]at h3;rw[aj2,ai5 (by omega:i<ns.length),h3]
  have h4:((cs.drop i).take 1)[0]? =some (.int k z):=by rw[h1];rfl
  rw[List.getElem?_take_of_lt (by omega),ajp,aj7]at h4;exact h4
 .rw[List.getElem?_eq_none (by omega),List.getElem?_eq_none (by simp;omega)]
theorem M7{W:World}{b off:Nat}{v:Value}(h:W.cell? ⟨b,off,none⟩=some v):b<W.heap.size:=by
 unfold World.cell? at h;split at h
 .rename_i hb;exact(aj0.1 hb).1
 all_goals simp_all
end Go.Proofs.YtilaieogabgamaaGreatDoor
end
section
open _root_.Nat renaming beq->aje
open _root_.Option.some renaming inj->ai4
namespace Go.Proofs.YtilaieogabgamaaGreatDoor
open Go Go.RowKit
def PL(l:Nat)(J:(Nat->Value)->World->Prop)(Q:Exit->(Nat->Value)->World->Prop):Exit->(Nat->Value)->World->Prop
 | .goto l',ρ,w=>l'=l/\J ρ w
 |e,ρ,w=>Q e ρ w
def Tn(l:Nat)(J:Act->World->Prop)(Q:Exit->Act->World->Prop):Exit->Act->World->Prop
 | .goto l',a,w=>l'=l/\J a w
 |e,a,w=>Q e a w
theorem xg{P:Program}{a:Act}{w:World}{Q:Exit->Act->World->Prop}{c rest:Code}(l:Nat)(J:Nat->Act->World->Prop)(hf:findLabel c l=some rest)
 (first:c.wp P (Tn l (fun a w=>∃n,J n a w) Q) a w)
 (pass:∀n a w,J n a w->rest.wp P (Tn l (fun a' w'=>∃m,m<n/\J m a' w') Q) a w):(Code.scope c).wp P Q a w:=by
 intro b k cs
 have hg:gotoIn l (.inScope c::k)=some (.code rest:: .inScope c::k):=by simp[gotoIn,hf]
 have key:∀n a w,J n a w->∃e a' w',Q e a' w'/\Arrives P (lone (b.at a (.code rest:: .inScope c::k)) cs w) b k cs e a' w':=by
  intro n
  induction n using Nat.strongRecOn with
  |_ n ih=>
   intro a w hJ;obtain⟨e,sT,sU,hq,sV⟩:=pass n a w hJ b (.inScope c::k) cs
   cases e with
   |normal=>exact⟨.normal,sT,sU,hq,Steps.trans sV (.one step_inScope)⟩
   |exit id=>exact⟨.exit id,sT,sU,hq,fun k' hk=>sV k' (by simp[exitTo,hk])⟩
   |goto l'=>
    obtain⟨rfl,m,al,WT⟩:=hq;obtain⟨PM,PN,PO,Kx,zC⟩:=ih m al sT sU WT;exact⟨PM,PN,PO,Kx, .of_steps (sV _ hg) zC⟩
   |ret=>exact⟨_,sT,sU,hq,sV⟩
   |panic ch=>exact⟨_,sT,sU,hq,sV⟩
   |outgrown=>exact⟨_,sT,sU,hq,sV⟩
 obtain⟨e,sT,sU,hq,sV⟩:=first b (.inScope c::k) cs
 cases e with
 |normal=>exact⟨.normal,sT,sU,hq, .head step_scope (Steps.trans sV (.one step_inScope))⟩
 |exit id=>exact⟨.exit id,sT,sU,hq,fun k' hk=> .head step_scope (sV k' (by simp[exitTo,hk]))⟩
 |goto l'=>
  obtain⟨rfl,m,WT⟩:=hq;obtain⟨PM,PN,PO,Kx,zC⟩:=key m sT sU WT;exact⟨PM,PN,PO,Kx, .of_steps (.head step_scope (sV _ hg)) zC⟩
 |ret=>exact⟨_,sT,sU,hq, .of_steps (.one step_scope) sV⟩
 |panic ch=>exact⟨_,sT,sU,hq, .of_steps (.one step_scope) sV⟩
 |outgrown=>exact⟨_,sT,sU,hq, .of_steps (.one step_scope) sV⟩
theorem HH{P:Program}{n:Nat}{Q:Exit->(Nat->Value)->World->Prop}{ρ:Nat->Value}{w:World}{x b:Code}{l:Nat}(J:Nat->(Nat->Value)->World->Prop)(hf:findLabel x l=some (.seq .skip b))
 (first:qn P n x (PL l (fun ρ w=>∃m,J m ρ w) Q) ρ w)(pass:∀m ρ w,J m ρ w->qn P n b (PL l (fun ρ w=>∃k,k<m/\J k ρ w) Q) ρ w):qn P n (.scope x) Q ρ w:=by
 intro act WU
 refine xg l (fun m a w=>∃ρ,Fr n a ρ/\J m ρ w) hf (wp_mono (first act WU) fun e a' w' ⟨b7,h1,h2⟩=>?_) fun m a w ⟨ρ,hr,hJ⟩=>wp_seq (wp_skip (wp_mono (pass m ρ w hJ a hr) fun e a' w' ⟨b7,h1,h2⟩=>?_))
 .cases e with
  |goto l'=>exact⟨h2.1,h2.2.imp fun m hm=>⟨b7,h1,hm⟩⟩
  |_=>exact⟨b7,h1,h2⟩
 .cases e with
  |goto l'=>exact⟨h2.1,h2.2.imp fun m hm=>⟨hm.1,b7,h1,hm.2⟩⟩
  |_=>exact⟨b7,h1,h2⟩
def tL(l:Nat):Code->Option Code
 | .seq a b=>match a with
   | .label l'=>bif aje l' l then some b else none
   |a=>bif (findLabel a l).isNone then tL l b else none
 |_=>none
theorem BF{l:Nat}:{x b:Code}->tL l x=some b->findLabel x l=some (.seq .skip b)
 | .seq a y,b,h=>by
   unfold tL at h;split at h
   .rename_i l';obtain⟨h1,rfl⟩:=lW h;obtain rfl:=beq_true h1;simp[findLabel]
   .obtain⟨h1,h2⟩:=aD h;have h3:=BF h2
    have h4:findLabel a l=none:=by simpa using h1
    simp[findLabel,h4,h3]
 | .skip,_,h=>by cases h
 | .ret,_,h=>by cases h
 | .exit _,_,h=>by cases h
 | .cond _ _ _,_,h=>by cases h
 | .region _ _ _,_,h=>by cases h
 | .block _ _,_,h=>by cases h
 | .loop _,_,h=>by cases h
 | .label _,_,h=>by cases h
 | .scope _,_,h=>by cases h
 | .goto _,_,h=>by cases h
 | .rangeFunc ..,_,h=>by cases h
 | .refuse _,_,h=>by cases h
noncomputable def Fw{P:Program}(E:Env P)(nt N l:Nat){R:Type}:Code->tJ->State->(Ex->State->Option R)->(State->Option R)->Option R
 | .seq a b,an,st,k,kL=>match a with
   | .label _=>kL st
   |a=>exec E nt N a an.l st (fun e bU=>match e with
    | .normal=>Fw E nt N l b an.r bU k kL
    |e=>k e bU)
 |_,_,_,_,_=>none
noncomputable def Ky{P:Program}(E:Env P)(nt N l:Nat)(x:Code){R:Type}(L:JS)(a1 a2:tJ)(st:State)(k:Ex->State->Option R):Option R:=
 match tL l x with
 |some b=>bJ (J:=cx L.rows) (R:=R) (Fw E nt N l (R:=cx L.rows⊕R) x a1 st (noGoto fun e bU=>(k e bU).map .inr) (fun bU=>(carry st L bU).map .inl)) fun s0=>
   Loop (S:=cx L.rows) (X:=R) (fun s=>exec E nt N b (R:=cx L.rows⊕R) a2 (behind st (writes x) L s) (fun e bU=>match e with
    | .goto i=>bif aje i l then(carry st L bU).map .inl else none
    |e=>(k e bU).map .inr)) N s0
 |none=>none
noncomputable def Fx{P:Program}(E:Env P)(nt N l:Nat)(c:Code){R:Type}(L:JS)(a0 a1 a2:tJ)(st:State)(k:Ex->State->Option R):Option R:=
 match c with
 | .seq r (.scope x)=>exec E nt N r a0 st (fun e bU=>match e with
   | .normal=>Ky E nt N l x L a1 a2 bU k
   |e=>k e bU)
 |_=>none
section
variable {P:Program} {nt N:Nat} {R:Type}
variable {ρ:Nat->Value} {w w0:World} {H:ao} {F F0 G:Nat->Prop}
theorem rD{l:Nat}:{x b:Code}->tL l x=some b->∀t∈writes b,t∈writes x
 | .seq a y,b,h,t,ht=>by
   unfold tL at h;split at h
   .obtain⟨h1,rfl⟩:=lW h;simp[writes,ht]
   .obtain⟨h1,h2⟩:=aD h;simp[writes,rD h2 t ht]
 | .skip,_,h,_,_=>by cases h
 | .ret,_,h,_,_=>by cases h
 | .exit _,_,h,_,_=>by cases h
 | .cond _ _ _,_,h,_,_=>by cases h
 | .region _ _ _,_,h,_,_=>by cases h
 | .block _ _,_,h,_,_=>by cases h
 | .loop _,_,h,_,_=>by cases h
 | .label _,_,h,_,_=>by cases h
 | .scope _,_,h,_,_=>by cases h
 | .goto _,_,h,_,_=>by cases h
 | .rangeFunc ..,_,h,_,_=>by cases h
 | .refuse _,_,h,_,_=>by cases h
theorem BG{E:Env P}{l:Nat}{q:R}:(c:Code)->{b:Code}->{a:tJ}->{st:State}->{k:Ex->State->Option R}->{kL:State->Option R}->{H:ao}->{F:Nat->Prop}->{w:World}->{ρ:Nat->Value}->{Q:Exit->(Nat->Value)->World->Prop}->
 tL l c=some b->Fw E nt N l c a st k kL=some q->cE G w0 F0 H F w ρ st->
 (∀e bU H' F' w' b7,k e bU=some q->HD G w0 F0 (writes c) H F w ρ H' F' w' b7 bU->Q e.nD b7 w')->
 (∀bU H' F' w' b7,kL bU=some q->HD G w0 F0 (writes c) H F w ρ H' F' w' b7 bU->qn P nt b Q b7 w')->qn P nt c Q ρ w
 | .seq a y,b,an,st,k,kL,H,F,w,ρ,Q,ht,h,hh,hk,hL=>by
   unfold tL at ht;unfold Fw at h;split at ht
   .obtain⟨h1,rfl⟩:=lW ht;exact pj (fun act hf=>wp_label ⟨ρ,hf,hL st H F w ρ h ⟨hh,cz.refl H F w,fun _ _=>rfl⟩⟩)
   .rename_i bN;obtain⟨h1,h2⟩:=aD ht;split at h
    .rename_i l';exact absurd rfl (bN l')
    refine pj (fV a h hh fun e bU H' F' w' b7 g1 g2=>?_)
    have out:∀{e:Ex},k e bU=some q->Q e.nD b7 w':=fun{e}g1=>hk e bU H' F' w' b7 g1 ⟨g2.here,g2.keeps,fun t ht=>g2.same t fun hm=>ht (by simp[writes,hm])⟩
    cases e with
    |normal=>
     refine BG y h2 g1 g2.here (fun e Kz si AX tC rC m1 m2=>?_) fun Kz si AX tC rC m1 m2=>?_
     .exact hk e Kz si AX tC rC m1 ⟨m2.here,g2.keeps.trans m2.keeps,fun t ht=>(m2.same t fun hm=>ht (by simp[writes,hm])).trans (g2.same t fun hm=>ht (by simp[writes,hm]))⟩
     .exact hL Kz si AX tC rC m1 ⟨m2.here,g2.keeps.trans m2.keeps,fun t ht=>(m2.same t fun hm=>ht (by simp[writes,hm])).trans (g2.same t fun hm=>ht (by simp[writes,hm]))⟩
    |exit i=>exact out g1
    |ret=>exact out g1
    |goto i=>exact out g1
 | .skip,_,_,_,_,_,_,_,_,_,_,h,_,_,_,_=>by cases h
 | .ret,_,_,_,_,_,_,_,_,_,_,h,_,_,_,_=>by cases h
 | .exit _,_,_,_,_,_,_,_,_,_,_,h,_,_,_,_=>by cases h
 | .cond _ _ _,_,_,_,_,_,_,_,_,_,_,h,_,_,_,_=>by cases h
 | .region _ _ _,_,_,_,_,_,_,_,_,_,_,h,_,_,_,_=>by cases h
 | .block _ _,_,_,_,_,_,_,_,_,_,_,h,_,_,_,_=>by cases h
 | .loop _,_,_,_,_,_,_,_,_,_,_,h,_,_,_,_=>by cases h
 | .label _,_,_,_,_,_,_,_,_,_,_,h,_,_,_,_=>by cases h
 | .scope _,_,_,_,_,_,_,_,_,_,_,h,_,_,_,_=>by cases h
 | .goto _,_,_,_,_,_,_,_,_,_,_,h,_,_,_,_=>by cases h
 | .rangeFunc ..,_,_,_,_,_,_,_,_,_,_,h,_,_,_,_=>by cases h
 | .refuse _,_,_,_,_,_,_,_,_,_,_,h,_,_,_,_=>by cases h
theorem KA{E:Env P}{l:Nat}{x:Code}{L:JS}{a1 a2:tJ}{q:R}{st:State}{k:Ex->State->Option R}{Q:Exit->(Nat->Value)->World->Prop}(h:Ky E nt N l x L a1 a2 st k=some q)(hh:cE G w0 F0 H F w ρ st)
 (hk:∀e bU H' F' w' b7,k e bU=some q->HD G w0 F0 (writes x) H F w ρ H' F' w' b7 bU->Q e.nD b7 w'):qn P nt (.scope x) Q ρ w:=by
 unfold Ky at h;split at h
 case h_2=>cases h
 rename_i b hb;unfold bJ at h;obtain⟨s,hs,h⟩:=bind_some h;have hbw:=rD hb
 let I:cx L.rows->(Nat->Value)->World->Prop:=fun s b7 w'=>∃H' F',cE G w0 F0 H' F' w' b7 (behind st (writes x) L s)/\cz H F w H' F' w'/\∀t,t∉writes x->b7 t=ρ t
 let body:cx L.rows->Option (cx L.rows⊕R):=fun s=>exec E nt N b (R:=cx L.rows⊕R) a2 (behind st (writes x) L s) (fun e bU=>match e with
  | .goto i=>bif aje i l then(carry st L bU).map .inl else none
  |e=>(k e bU).map .inr)
 have pass:∀m CM w1,(∃s,I s CM w1/\Loop body m s=some q)->qn P nt b (PL l (fun ρ w=>∃k,k<m/\∃s,I s ρ w/\Loop body k s=some q) Q) CM w1:=by
  rintro m CM w1 ⟨s,⟨H1,F1,g1,g2,g3⟩,hl⟩
  cases m with
  |zero=>cases hl
  |succ m=>
   unfold Loop at hl
   cases hy:body s with
   |none=>rw[hy]at hl;cases hl
   |some y=>
    rw[hy]at hl
    refine fV b hy g1 fun e bU H' F' w' b7 m1 m2=>?_
    have sm:∀t,t∉writes x->b7 t=ρ t:=fun t ht=>(m2.same t fun hm=>ht (hbw t hm)).trans (g3 t ht)
    have out:∀{e:Ex},(k e bU).map Sum.inr=some y->Q e.nD b7 w':=fun{e}h1=>by
     obtain⟨r,hr,rfl⟩:=map_inl h1;obtain rfl:=ai4 hl;exact hk e bU H' F' w' b7 hr ⟨m2.here,g2.trans m2.keeps,sm⟩
    cases e with
    |normal=>exact out (e:= .normal) m1
    |exit i=>exact out (e:= .exit i) m1
    |ret=>exact out (e:= .ret) m1
    |goto i=>
     obtain⟨h1,h2⟩:=aD m1;obtain rfl:=beq_true h1;obtain⟨j,hj,rfl⟩:=map_inl h2;obtain⟨H2,F2,n1,n2⟩:=lf (W:=writes x) hj hh m2.here (g2.trans m2.keeps) sm;exact⟨rfl,m,Nat.lt_succ_self m,j,⟨H2,F2,n1,n2,sm⟩,hl⟩
 refine HH (fun m ρ w=>∃s,I s ρ w/\Loop body m s=some q) (BF hb) ?_ pass
 refine BG x hb hs hh (fun e bU H' F' w' b7 m1 m2=>?_) fun bU H' F' w' b7 m1 m2=>?_
 .cases e with
  |goto i=>cases m1
  |normal=>
   obtain⟨r,hr,rfl⟩:=map_inl (show(k .normal bU).map Sum.inr=some s from m1);obtain rfl:=ai4 h;exact hk .normal bU H' F' w' b7 hr m2
  |exit i=>
   obtain⟨r,hr,rfl⟩:=map_inl (show(k (.exit i) bU).map Sum.inr=some s from m1);obtain rfl:=ai4 h;exact hk (.exit i) bU H' F' w' b7 hr m2
  |ret=>
   obtain⟨r,hr,rfl⟩:=map_inl (show(k .ret bU).map Sum.inr=some s from m1);obtain rfl:=ai4 h;exact hk .ret bU H' F' w' b7 hr m2
 .obtain⟨j,hj,rfl⟩:=map_inl m1;obtain⟨H2,F2,n1,n2⟩:=lf (W:=writes x) hj hh m2.here m2.keeps m2.same
  refine IT (pass N b7 w' ⟨j,⟨H2,F2,n1,n2,m2.same⟩,h⟩) fun e Ve w2 hq=>?_
  cases e with
  |goto i=>exact⟨hq.1,hq.2.imp fun m hm=>hm.2⟩
  |_=>exact hq
theorem BH{E:Env P}{l:Nat}{c:Code}{L:JS}{a0 a1 a2:tJ}:OC P nt c fun st k=>Fx E nt N l c L a0 a1 a2 st k:=by
 intro R q st k H F w ρ G w0 F0 Q h hh hk;unfold Fx at h;split at h
 case h_2=>cases h
 rename_i r x;refine pj (fV r h hh fun e bU H' F' w' b7 g1 g2=>?_)
 have out:∀{e:Ex},k e bU=some q->Q e.nD b7 w':=fun{e}g1=>hk e bU H' F' w' b7 g1 ⟨g2.here,g2.keeps,fun t ht=>g2.same t fun hm=>ht (by simp[writes,hm])⟩
 cases e with
 |normal=>
  refine KA g1 g2.here fun e Kz si AX tC rC m1 m2=>?_
  exact hk e Kz si AX tC rC m1 ⟨m2.here,g2.keeps.trans m2.keeps,fun t ht=>(m2.same t fun hm=>ht (by simp[writes,hm])).trans (g2.same t fun hm=>ht (by simp[writes,hm]))⟩
 |exit i=>exact out g1
 |ret=>exact out g1
 |goto i=>exact out g1
theorem KB{E:Env P}{f:FuncId}{fn:Func}{c:Code}{rs:List ResultVar}{N l:Nat}{L:JS}{a0 a1 a2:tJ}{sg:bp}(hf:P.funcs[f]? =some fn)(hn:(fn.name== "runtime.NumGoroutine")=false)(hb:fn.body=some c)(IC:fn.results.toList=rs)
 (nS:rv 0 sg.inn.ah=true)(hlen:Nat.ble sg.inn.ah.length fn.ntmps=true)(uO:aje rs.length sg.out.ah.length=true)
 (w8:∀x,sg.fn x=Fx E fn.ntmps N l c L a0 a1 a2 (init sg.inn x) (PK E.T rs sg.inn.nxt sg.out)):aq P f sg:=
 Kw (E:=E) (run:=fun st k=>Fx E fn.ntmps N l c L a0 a1 a2 st k) BH hf hn hb IC nS hlen uO w8
end
end Go.Proofs.YtilaieogabgamaaGreatDoor
end
section
open _root_.Array renaming getElem?_eq_some_iff->aj0
open _root_.Go.Lib renaming compact->aj5,indexByte->akp
open _root_.Go.Sort renaming ahead->akl,grow->akC,mapBlock->akS,putCells->akI,putRow->akd
open _root_.List.cons renaming injEq->aka
open _root_.List renaming drop_eq_getElem_cons->ajK,getElem?_drop->ajp,getElem?_take->ajF,length_append->ai6,replicate->ai9,take_length->aju
open _root_.Nat renaming beq->aje,eq_of_beq_eq_true->ajT,le_refl->ai8,le_trans->ajE,lt_of_lt_of_le->ajJ,min_eq_left->ajQ,zero_le->ajt
open _root_.Option.some renaming inj->ai4
open _root_.Go.Value renaming int->aj6,ownBlock->ajz
namespace Go.Proofs.YtilaieogabgamaaGreatDoor
open Go Go.RowKit
def mc(l:List Int):List Int:=l.mergeSort fun x y=>decide (x<=y)
section
variable {P:Program} {w w':World} {F:Nat->Prop} {T:TypeId}
theorem BI(w:World):akC w #[]=w:=by
 unfold akC;rw[Array.append_empty]
theorem zD{g off:Nat}{d:Array Int}{n:Nat}{os:Array Obj}(h:w'=akC (akd (aj6 .i64) (akl w n) g off d) os):Ext (fun k=>k=g) w w':=by
 subst h;refine⟨rfl,rfl,rfl,?_,fun k hk hn=>?_⟩
 .simp[akC,akd,akS,akl]
 .simp only[akC];rw[Array.getElem?_append_left (by simpa[akd,akS,akl]using hk)];simp only[akd,akS,akl,Array.getElem?_modify];rw[if_neg (fun e=>hn e.symm)]
theorem M8{g off:Nat}{d:Array Int}{n:Nat}{os:Array Obj}(h:w'=akC (akd (aj6 .i64) (akl w n) g off d) os){cur:Array Value}(hg:w.heap[g]? =some (.cells cur T (0,0))):
 w'.heap[g]? =some (.cells (akI (aj6 .i64) off d cur) T (0,0)):=by
 subst h;have al:g<w.heap.size:=(aj0.1 hg).1;simp only[akC];rw[Array.getElem?_append_left (by simpa[akd,akS,akl]using al)];simp only[akd,akS,akl,Array.getElem?_modify];rw[if_pos trivial,hg];rfl
theorem DX{l:List Int}{xs:List Value}(hx:xs.length=l.length*1)(h:∀i(hi:i<l.length),cA F w ae ((xs.drop (i*1)).take 1) l[i]):xs=l.map (aj6 .i64):=by
 apply List.ext_getElem (by simpa using hx);intro i h1 h2
 have hi:i<l.length:=by simpa using h2
 have:(xs.drop (i*1)).take 1=[aj6 .i64 l[i]]:=h i hi;rw[Nat.mul_one,ajK h1,List.take_succ_cons,List.take_zero]at this;simpa only[List.getElem_map,aka,and_true]using this
theorem HI{off:Nat}{d:Array Int}{cur:Array Value}(h:off+d.size<=cur.size):((akI (aj6 .i64) off d cur).toList.drop off).take d.size=d.toList.map (aj6 .i64):=by
 apply List.ext_getElem (by simp[akI];omega);intro i h1 h2
 have hi:i<d.size:=by simpa using h2
 rw[List.getElem_take,List.getElem_drop,List.getElem_map,Array.getElem_toList,Array.getElem_toList];simp only[akI,Array.getElem_mapIdx];rw[if_pos ⟨by omega,by omega⟩,show off+i-off=i by omega,getElem!_pos d i hi]
theorem sW{v:Value}{l:List Int}(h:iE 0 F w T ae v l):(v= .slice none 0 0/\l=[])\/∃g o0 cap cur,v= .slice (some ⟨g,o0,none⟩) l.length cap/\w.heap[g]? =some (.cells cur T (0,0))/\l.length<=cap/\cap<=maxLen/\o0+cap<=cur.size/\Go.Sort.Holds (aj6 .i64) w g o0 l.toArray:=by
 obtain⟨_,xs,⟨hx,h2⟩,h3⟩:=h;have e:=DX hx h3
 rcases h2 with⟨rfl,h0⟩|⟨g,o0,cap,cur,rfl,_,hg,h4,h5,h6,h7⟩
 .exact .inl ⟨rfl,List.eq_nil_of_length_eq_zero h0⟩
 .refine .inr ⟨g,o0,cap,cur,rfl,hg,h4,h5,by simpa[Row.size]using h6,fun j hj=>⟨?_,frozen_of_row w g _ cur T hg⟩⟩
  have hj:j<l.length:=by simpa using hj
  rw[cell_of_row w g _ cur T (0,0) hg]
  have:xs[j]? =some (aj6 .i64 l[j]):=by rw[e];simp[hj]
  rw[<-h7,ajF]at this;split at this
  .rw[ajp]at this;rw[getElem!_pos l.toArray j (by simpa using hj)];simpa using this
  .cases this
theorem vL{g o0 cap:Nat}{l d:List Int}{cur:Array Value}{n:Nat}{os:Array Obj}(h:iE 0 F w T ae (.slice (some ⟨g,o0,none⟩) l.length cap) l)(hg:w.heap[g]? =some (.cells cur T (0,0)))(hs:o0+cap<=cur.size)(hc:cap<=maxLen)
 (hl:d.length<=cap)(m:Nat)(hm:m<=d.length)(hw:w'=akC (akd (aj6 .i64) (akl w n) g o0 d.toArray) os):iE 0 F w' T ae (.slice (some ⟨g,o0,none⟩) m cap) (d.take m):=by
 have DY:=M8 hw hg;have hp:=HI (off:=o0) (d:=d.toArray) (cur:=cur) (by simp;omega);refine⟨fun k hk=>h.no k (by simpa[bm,ajz]using hk),(d.take m).map (aj6 .i64),⟨by simp[Row.size], .inr ⟨g,o0,cap,_,by simp[ajQ hm],ajt _,DY,by simp;omega,hc,by simp[akI,Row.size];omega,?_⟩⟩,fun i hi=>?_⟩
 .have:((akI (aj6 .i64) o0 d.toArray cur).toList.drop o0).take m=(d.take m).map (aj6 .i64):=by
   rw[show m=min m d.toArray.size by simp[ajQ hm],<-List.take_take,hp,List.map_take];simp[ajQ hm]
  simpa[Row.size,ajQ hm]using this
 .have gv:i<d.length:=by simp at hi;omega
  show((List.map (aj6 .i64) (d.take m)).drop (i*1)).take 1=[aj6 .i64 (d.take m)[i]]
  rw[Nat.mul_one,ajK (by simpa using hi)];simp
theorem oQ(d:Array Int):∀m,(Go.Lib.compactUpTo d m).length<=m
 |0=>by simp[Go.Lib.compactUpTo]
 |m+1=>by
  have:=oQ d m;rw[Go.Lib.compactUpTo_succ,ai6]
  split<;>simp<;>omega
theorem nZ(l:List Int):(aj5 l).length<=l.length:=oQ _ _
theorem me{α:Type}{k o:Nat}{x:α}(h:o≠k):find [(k,x)] o=none:=by
 have:aje k o=false:=by
  cases hb:aje k o with
  |false=>rfl
  |true=>exact absurd (ajT hb).symm h
 simp[find,this]
theorem DZ{f:FuncId}{r:Row}{fn:List r.den->Option (List r.den)}(hb:∃fn,P.funcs[f]? =some fn/\(fn.name== "runtime.NumGoroutine")=false/\fn.body.isNone=false)
 (hr:r.beq r=true)
 (hc:∀{F:Nat->Prop}{w:World}{v:Value}{l m:List r.den},fn l=some m->iE 0 F w T r v l->(∀b,F b->b<w.heap.size)->Calls P f #[v] w fun e w'=>e= .returned (.tuple #[])/\Ext (bm v) w w'/\iE 0 F w' T r v m):
 aq P f ⟨⟨[(0, .val false (.own 0))],[(0, .own T r)],[],1⟩,⟨[],[(0, .own T r)],[],2⟩,fn⟩:=by
 refine⟨hb,fun x y wO args w H F G hlen fO cC dX hG=>?_⟩;have dX:gJ H 1:=dX
 match args,hlen with
 |[v],_=>
 have hx:(gi 0 [(0,OS.own T r)] (cS [(0,SS.val false (.own 0))] (cY [.slice r] x)).2)=[(0,(0, .own T r x))]:=by
  show[(0,(0,(bX (.own T r) [⟨.slice r,x⟩]).1))]=_
  simp only[bX,hr,cond_true]
 have hy:(gi 1 [(0,OS.own T r)] (cS [] (cY [.slice r] y)).2)=[(0,(1, .own T r y))]:=by
  show[(0,(1,(bX (.own T r) [⟨.slice r,y⟩]).1))]=_
  simp only[bX,hr,cond_true]
 have cC:au (fun k=>w.heap.size<=k\/G k) H F w (find [(0,(0,Th.own T r x))]) 1:=by rw[<-hx];exact cC
 have hd:ai H F w (.val false (.own 0)) v:=fO 0 _ rfl;obtain⟨cs,⟨v',hv,h1,rfl⟩,_,qp⟩:=hd
 obtain rfl:v'=v:=by have:=qp rfl;simpa using this
 have dH:=cC.own rfl hv;obtain⟨v2,tA,cc⟩:=cC.obj 0 0 _ rfl;rw[hv]at tA;obtain rfl:=ai4 tA
 refine(hc wO dH cC.lt).mono fun e w' ⟨he,bI,fQ⟩=>⟨[],he,rfl,H.bz 1 (.own T r y),F,⟨bI.os,bI.tape,bI.output,bI.size,fun k hk hn=>bI.block k hk fun hm=>?_⟩,ao.fI (dX 1 (ai8 _)).2,fun b h=>h,fun b h=> .inl h,fun t d h=>?_,?_,?_⟩
 .rcases cc.use k hm with h|h
  .omega
  .exact hn h
 .cases h
 .show au _ _ F w' (find (gi 1 [(0,OS.own T r)] (cS [] (cY [.slice r] y)).2)) 2
  rw[hy];refine⟨fun o s t ho=>?_,fun o o' s s' t t' u u' bN ho iN=>?_,fun m h1 h2=>⟨(dX m (by have:2<=m:=h1;omega)).1,?_⟩,fun b hb=>ajJ (cC.lt b hb) bI.size,fun b hb=> .inl (ajE bI.size hb),cC.gl.step (Step.ext bI cC.lt dH.no)⟩
  .obtain⟨rfl,h⟩:o=0/\(1,Th.own T r y)=(s,t):=by
    by_cases h0:o=0
    .subst h0;exact⟨rfl,ai4 ho⟩
    .exfalso;have:find [(0,(1,Th.own T r y))] o=none:=me h0;rw[this]at ho;cases ho
   cases h;refine⟨v',hv,h1,by simp[ao.bz,Th.base],iE.to _ fQ,fQ.no,fQ.lt,fun k hk=>?_⟩;exact cc.use k hk
  .have key:∀o x,find [(0,(1,Th.own T r y))] o=some x->o=0:=fun o x h=>by
    by_cases h0:o=0
    .exact h0
    .have:find [(0,(1,Th.own T r y))] o=none:=me h0;rw[this]at h;cases h
   exact absurd ((key o _ ho).trans (key o' _ iN).symm) bN
  .have h1:2<=m:=h1
   show(if m=1 then _ else H.con m)=none
   rw[if_neg (by omega)];exact(dX m (by omega)).2
 .intro m hm;have hm:2<=m:=hm;refine⟨(dX m (by omega)).1,?_⟩
  show(if m=1 then _ else H.con m)=none
  rw[if_neg (by omega)];exact(dX m (by omega)).2
theorem HJ{f:FuncId}{r:Row}{fn:List r.den->Option (List r.den)}(hb:∃fn,P.funcs[f]? =some fn/\(fn.name== "runtime.NumGoroutine")=false/\fn.body.isNone=false)
 (hr:r.beq r=true)
 (hc:∀{F:Nat->Prop}{w:World}{v:Value}{l m:List r.den},fn l=some m->iE 0 F w T r v l->(∀b,F b->b<w.heap.size)->Calls P f #[v] w fun e w'=>∃v',e= .returned v'/\Ext (bm v) w w'/\iE 0 F w' T r v' m/\∀k,bm v' k->bm v k):
 aq P f ⟨⟨[(0, .val false (.own 0))],[(0, .own T r)],[],1⟩,⟨[(0, .val false (.own 1))],[(1, .own T r)],[],2⟩,fn⟩:=by
 refine⟨hb,fun x y wO args w H F G hlen fO cC dX hG=>?_⟩;have dX:gJ H 1:=dX
 match args,hlen with
 |[v],_=>
 have hx:(gi 0 [(0,OS.own T r)] (cS [(0,SS.val false (.own 0))] (cY [.slice r] x)).2)=[(0,(0, .own T r x))]:=by
  show[(0,(0,(bX (.own T r) [⟨.slice r,x⟩]).1))]=_
  simp only[bX,hr,cond_true]
 have hy:(gi 1 [(1,OS.own T r)] (cS [(0,SS.val false (.own 1))] (cY [.slice r] y)).2)=[(1,(1, .own T r y))]:=by
  show[(1,(1,(bX (.own T r) [⟨.slice r,y⟩]).1))]=_
  simp only[bX,hr,cond_true]
 have cC:au (fun k=>w.heap.size<=k\/G k) H F w (find [(0,(0,Th.own T r x))]) 1:=by rw[<-hx];exact cC
 have hd:ai H F w (.val false (.own 0)) v:=fO 0 _ rfl;obtain⟨cs,⟨v',hv,h1,rfl⟩,_,qp⟩:=hd
 obtain rfl:v'=v:=by have:=qp rfl;simpa using this
 have dH:=cC.own rfl hv;obtain⟨v2,tA,cc⟩:=cC.obj 0 0 _ rfl;rw[hv]at tA;obtain rfl:=ai4 tA;have wT:=dX 1 (ai8 _)
 refine(hc wO dH cC.lt).mono fun e w' ⟨v3,he,bI,fQ,AU⟩=>?_
 have PP:v3.oneCell'=true:=(jG.one fQ.2)
 have hle:H.le ((H.bz 1 (.own T r y)).cq 1 v3):=⟨fun o u h=>by
  show(if o=1 then some v3 else H.val o)=some u
  rw[if_neg (fun e=>by rw[e,wT.1]at h;cases h)]
  exact h,(ao.fI (t:= .own T r y) wT.2).con,(ao.fI (t:= .own T r y) wT.2).sub⟩
 refine⟨[v3],he,rfl,(H.bz 1 (.own T r y)).cq 1 v3,F,⟨bI.os,bI.tape,bI.output,bI.size,fun k hk hn=>bI.block k hk fun hm=>?_⟩,hle,fun b h=>h,fun b h=> .inl h,fun t d h=>?_,?_,?_⟩
 .rcases cc.use k hm with h|h
  .omega
  .exact hn h
 .have ht:t=0/\d= .val false (.own 1):=by
   have h:find [(0,ak.val false (.own 1))] t=some d:=h;by_cases h0:t=0
   .subst h0;exact⟨rfl,(ai4 h).symm⟩
   .have e:find [(0,ak.val false (.own 1))] t=none:=me h0;rw[e]at h;cases h
  obtain⟨rfl,rfl⟩:=ht;exact⟨[v3],⟨v3,by simp[ao.cq],PP,rfl⟩,rfl,fun _=>rfl⟩
 .show au _ _ F w' (find (gi 1 [(1,OS.own T r)] (cS [(0,SS.val false (.own 1))] (cY [.slice r] y)).2)) 2
  rw[hy]
  have key:∀o x,find [(1,(1,Th.own T r y))] o=some x->o=1/\x=(1,Th.own T r y):=fun o x h=>by
   by_cases h0:o=1
   .subst h0;exact⟨rfl,(ai4 h).symm⟩
   .have:find [(1,(1,Th.own T r y))] o=none:=me h0;rw[this]at h;cases h
  refine⟨fun o s t ho=>?_,fun o o' s s' t t' u u' bN ho iN=>?_,fun m h1 h2=>⟨?_,?_⟩,fun b hb=>ajJ (cC.lt b hb) bI.size,fun b hb=> .inl (ajE bI.size hb),cC.gl.step (Step.ext bI cC.lt dH.no)⟩
  .obtain⟨rfl,h⟩:=key o _ ho;cases h;exact⟨v3,by simp[ao.cq],PP,by simp[ao.bz,ao.cq,Th.base],iE.to _ fQ,fQ.no,fQ.lt,fun k hk=>cc.use k (AU k hk)⟩
  .exact absurd ((key o _ ho).1.trans (key o' _ iN).1.symm) bN
  .have h1:2<=m:=h1
   show(if m=1 then _ else H.val m)=none
   rw[if_neg (by omega)];exact(dX m (by omega)).1
  .have h1:2<=m:=h1
   show(if m=1 then _ else H.con m)=none
   rw[if_neg (by omega)];exact(dX m (by omega)).2
 .intro m hm;have hm:2<=m:=hm;refine⟨?_,?_⟩
  .show(if m=1 then _ else H.val m)=none
   rw[if_neg (by omega)];exact(dX m (by omega)).1
  .show(if m=1 then _ else H.con m)=none
   rw[if_neg (by omega)];exact(dX m (by omega)).2
def ye(l:List Int):Option (List Int):=if l.length<4611686018427387904 then some (mc l)else none
theorem M9{f:FuncId}(hb:∃fn,P.funcs[f]? =some fn/\(fn.name== "runtime.NumGoroutine")=false/\fn.body.isNone=false)
 (h1:∀(lA off cap:Nat)(zs:List Int)(w:World),Go.Sort.Holds (aj6 .i64) w lA off zs.toArray->lA<w.heap.size->zs.length<4611686018427387904->
   Calls P f #[.slice (some ⟨lA,off,none⟩) zs.length cap] w fun e w'=>e= .returned (.tuple #[])/\∃n os,w'=akC (akd (aj6 .i64) (akl w n) lA off (zs.mergeSort fun x y=>decide (x<=y)).toArray) os)
 (h2:∀(p:Option Addr)(cap:Nat)(w:World),Calls P f #[.slice p 0 cap] w fun e w'=>e= .returned (.tuple #[])/\w'=w):
 aq P f ⟨⟨[(0, .val false (.own 0))],[(0, .own T ae)],[],1⟩,⟨[],[(0, .own T ae)],[],2⟩,fun x=>ye x⟩:=by
 refine DZ (r:=ae) hb rfl fun{F w v l m}hm ho hF=>?_
 have hm:ye l=some m:=hm;unfold ye at hm;split at hm
 case isFalse=>cases hm
 rename_i hlen;obtain rfl:=ai4 hm
 rcases sW ho with⟨rfl,rfl⟩|⟨g,o0,cap,cur,rfl,hg,ua,Mt,kz,hh⟩
 .refine(h2 none 0 w).mono fun e w' ⟨he,hw⟩=>⟨he,hw▸⟨rfl,rfl,rfl,ai8 _,fun _ _ _=>rfl⟩,hw▸?_⟩
  simpa[mc]using ho
 .refine(h1 g o0 cap l w hh (aj0.1 hg).1 hlen).mono fun e w' ⟨he,n,os,hw⟩=>⟨he,?_,?_⟩
  .have:=zD hw;exact⟨this.os,this.tape,this.output,this.size,fun k hk hn=>this.block k hk fun e=>hn (by simp[bm,ajz,e])⟩
  .have hl:(mc l).length=l.length:=List.length_mergeSort ..;have:=vL (d:=mc l) ho hg kz Mt (by omega) (mc l).length (ai8 _) hw;rw[aju,hl]at this;exact this
def nE(l:List Int):Option (List Int):=if l.length<=9223372036854775807 then some (aj5 l)else none
theorem D1{f:FuncId}(hb:∃fn,P.funcs[f]? =some fn/\(fn.name== "runtime.NumGoroutine")=false/\fn.body.isNone=false)
 (h1:∀(lA off cap:Nat)(zs:List Int)(w:World),Go.Sort.Holds (aj6 .i64) w lA off zs.toArray->zs.length<=9223372036854775807->zs.length<=cap->
   Calls P f #[.slice (some ⟨lA,off,none⟩) zs.length cap] w fun e w'=>e= .returned (.slice (some ⟨lA,off,none⟩) (aj5 zs).length cap)/\∃q,w'=akd (aj6 .i64) (akl w q) lA off (aj5 zs++ai9 (zs.length-(aj5 zs).length) 0).toArray)
 (h2:∀(p:Option Addr)(cap:Nat)(w:World),Calls P f #[.slice p 0 cap] w fun e w'=>e= .returned (.slice p 0 cap)/\w'=w):
 aq P f ⟨⟨[(0, .val false (.own 0))],[(0, .own T ae)],[],1⟩,⟨[(0, .val false (.own 1))],[(1, .own T ae)],[],2⟩,fun x=>nE x⟩:=by
 refine HJ (r:=ae) hb rfl fun{F w v l m}hm ho hF=>?_
 have hm:nE l=some m:=hm;unfold nE at hm;split at hm
 case isFalse=>cases hm
 rename_i hlen;obtain rfl:=ai4 hm
 rcases sW ho with⟨rfl,rfl⟩|⟨g,o0,cap,cur,rfl,hg,ua,Mt,kz,hh⟩
 .refine(h2 none 0 w).mono fun e w' ⟨he,hw⟩=>⟨_,he,hw▸⟨rfl,rfl,rfl,ai8 _,fun _ _ _=>rfl⟩,hw▸?_,fun k hk=>hk⟩
  exact ho
 .have xh:(aj5 l).length<=l.length:=nZ l
  refine(h1 g o0 cap l w hh hlen ua).mono fun e w' ⟨he,n,hw⟩=>⟨_,he,?_,?_,fun k hk=>by simpa[bm,ajz]using hk⟩
  all_goals have hw:w'=akC (akd (aj6 .i64) (akl w n) g o0 (aj5 l++ai9 (l.length-(aj5 l).length) 0).toArray) #[]:=by rw[hw,BI]
  .have:=zD hw;exact⟨this.os,this.tape,this.output,this.size,fun k hk hn=>this.block k hk fun e=>hn (by simp[bm,ajz,e])⟩
  .have:=vL (d:=aj5 l++ai9 (l.length-(aj5 l).length) 0) ho hg kz Mt (by simp;omega) (aj5 l).length (by simp) hw;rw[List.take_left]at this;exact this
def pG(x:ByteArray×ByteArray):Option Bool:=if x.2.size=1 then some (decide (0<=akp x.1.data.toList (x.2.data.getD 0 0)))else none
theorem BJ{f:FuncId}(hb:∃fn,P.funcs[f]? =some fn/\(fn.name== "runtime.NumGoroutine")=false/\fn.body.isNone=false)
 (h1:∀(s:ByteArray)(c:UInt8)(w:World),Calls P f #[.string s, .string ⟨#[c]⟩] w fun e w'=>e= .returned (.bool (decide (0<=akp s.data.toList c)))/\w'=w):
 aq P f ⟨⟨[(0, .val false (.leaf .str)),(1, .val false (.leaf .str))],[],[],0⟩,⟨[(0, .val false (.leaf .bool))],[],[],0⟩,fun x=>pG x⟩:=by
 refine⟨hb,fun x y wO args w H F G hlen fO cC dX hG=>?_⟩
 match args,hlen with
 |[u,v],_=>
 obtain⟨s,t⟩:=x;have wO:pG (s,t)=some y:=wO;unfold pG at wO;split at wO
 case isFalse=>cases wO
 rename_i kz;obtain rfl:=ai4 wO;have hu:aE H F w false (.leaf .str s) u:=fO 0 _ rfl;have hv:aE H F w false (.leaf .str t) v:=fO 1 _ rfl;obtain⟨cs,hc,_,h2⟩:=hu;obtain⟨qZ,Vi,_,Jm⟩:=hv;have hc:cs=[.string s]:=hc;have Vi:qZ=[.string t]:=Vi
 have eu:u= .string s:=by have:=(h2 rfl).symm.trans hc;simpa using this
 have ev:v= .string t:=by have:=(Jm rfl).symm.trans Vi;simpa using this
 subst eu ev
 obtain⟨⟨⟨l⟩⟩,ht⟩:∃t':ByteArray,t'=t:=⟨t,rfl⟩
 match l,ht with
 |[c],ht=>
  subst ht
  refine(h1 s c w).mono fun e w' ⟨he,hw⟩=>?_
  subst hw;refine⟨[_],he,rfl,H,F,⟨rfl,rfl,rfl,ai8 _,fun _ _ _=>rfl⟩,ao.le.refl H,fun _ h=>h,fun _ h=> .inl h,fun i d h=>?_,?_,dX⟩
  .have hd:i=0/\d= .val false (.leaf .bool (decide (0<=akp s.data.toList c))):=by
    have h:find [(0,ak.val false (.leaf .bool (decide (0<=akp s.data.toList c))))] i=some d:=h;by_cases h0:i=0
    .subst h0;exact⟨rfl,(ai4 h).symm⟩
    .rw[me h0]at h;cases h
   obtain⟨rfl,rfl⟩:=hd;exact aE.mA rfl
  .exact cC
 |[],ht=>subst ht;cases kz
 |_::_::_,ht=>subst ht;simp[ByteArray.size]at kz
end
end Go.Proofs.YtilaieogabgamaaGreatDoor
end
