/- Joined texts: Fn Law Laid Jump. -/
import Derived.Test.YtlfjlhcigpejdaaGreatDoorU5
import Derived.Scope
import Derived.Test.YtlfjlhcigpejdaaGreatDoorU1
import Derived.ProofKit
import Derived.LaidMore
import Derived.OpenShut
import Derived.Stop.Joined
section
open _root_.Go.Addr.mk renaming injEq->Zr
open _root_.Array renaming toArray_toList->YH
open _root_.Bool renaming and_eq_true->Y5
open _root_.List.cons renaming injEq->Zd
open _root_.List renaming getD->Y3,getElem?_drop->Yo,getElem?_eq_getElem->X9,getElem?_take->Yz
open _root_.Nat renaming add_zero->Y0,beq->Yb,eq_of_beq_eq_true->YR,le_refl->Yd
open _root_.Option renaming isSome_iff_exists->YA,none_or->Zi
open _root_.Option.some renaming inj->X7,injEq->Ye
open _root_.Prod.mk renaming inj->Zm
open _root_.Go.Result renaming andThen_ok->YG
open _root_.Go.Sem renaming run_bind->Ys
open _root_.Sum renaming inl->YT,inr->Yv
open _root_.Go.Value.pointer renaming injEq->ZD
open _root_.Go.Value.slice renaming injEq->Zh
namespace Go.Proofs.YtlfjlhcigpejdaaGreatDoor
open Go Go.RowKit
inductive Ex where
 |normal
 |exit (id:Nat)
 |ret
 |goto (l:Nat)
def Ex.ke:Ex->Exit
 | .normal=> .normal
 | .exit id=> .exit id
 | .ret=> .ret
 | .goto l=> .goto l
def noGoto{R:Type}(k:Ex->State->Option R):Ex->State->Option R
 | .goto _,_=>none
 |e,st=>k e st
inductive pe where
 |nil
 |two (a b:pe)
 |join (J:JS) (a b:pe)
 |meet (J:JS) (a b:pe)
 |loop (L:JS) (a:pe)
abbrev pe.o(a:pe):pe:= .two .nil a
def pe.l:pe->pe
 | .two a _=>a
 |_=> .nil
def pe.r:pe->pe
 | .two _ b=>b
 |_=> .nil
def mf:List Oper->List Nat
 |[]=>[]
 |o::l=>match o.dst with
  |some d=>d::mf l
  |none=>mf l
def writes:Code->List Nat
 | .region _ ops _=>mf ops.toList
 | .seq a b=>writes a++writes b
 | .cond _ a b=>writes a++writes b
 | .block _ a=>writes a
 | .loop a=>writes a
 | .scope a=>writes a
 |_=>[]
def wB:List Nat->List (Nat×aj)->List (Nat×aj)
 |[],l=>l
 |t::ts,l=>(t, .dead)::wB ts l
def Ic:List (Nat×OS)->List Nat
 |[]=>[]
 |(j,_)::l=>j::Ic l
def zY(st:State)(J:JS):List (Nat×(Nat×Th)):=del (Ic J.objs++J.drop) st.objs
def behind(st:State)(W:List Nat)(J:JS)(x:bA J.rows):State:=
 {ah:=(cD J.ah (dh _ x)).1++wB W st.ah,objs:=gz st.nxt J.objs (cD J.ah (dh _ x)).2++zY st J,nxt:=J.nxt}
def yD(st:State)(J:JS)(jX:State):Option (bA J.rows):=
 match sL st.nxt (zY st J) J jX.ah jX.objs with
 |some (x,_)=>some x
 |none=>none
def EG(ob:Nat->Option (Nat×Th))(n o:Nat):Option cU:=
 match ob o with
 |some (_, .deep T d l none)=>some {dst:= .dead,eat:=[o],make:=[(o,(n, .own T d.row l))]}
 |_=>none
def jx(st:State):List (Nat×OS)->State
 |[]=>st
 |(j, .own _ _)::os=>match EG (find st.objs) st.nxt j with
  |some e=>jx (st.apply none e) os
  |none=>jx st os
 |_::os=>jx st os
def EH(st:State)(t o:Nat)(r:Row):Option State:=
 match find st.objs o with
 |some (_, .box _ t0)=>match dp st.objs t0.owns with
  |some aD=>match find aD o with
   |some (_, .box _ t1)=>match flat (find aD) r t1 with
    |some x=>some (State.apply {st with objs:=aD} (some t) {dst:= .at r x,eat:=[o]})
    |none=>none
   |_=>none
  |none=>none
 |_=>none
noncomputable def ux{R:Type}(st:State)(k:State->Option R):List (Nat×SS)->Option R
 |[]=>k st
 |(t, .at r)::ss=>match find st.ah t with
  |some (.ptr o [] 0)=>match EH st t o r with
   |some bn=>ux bn k ss
   |none=>none
  |some (.dlm o d i [] 0)=>match dp st.objs [o]with
   |some aD=>match find aD o with
    |some (_, .fdeep _ d' l)=>bif Yb d.low.size d'.row.size then(idx l i).bind fun x=>ux {ah:=(t, .at d'.row x)::st.ah,objs:=aD,nxt:=st.nxt} k ss else none
    |_=>none
   |none=>none
  |_=>ux st k ss
 |_::ss=>ux st k ss
noncomputable def carry(st:State)(J:JS)(jX:State):Option (bA J.rows):=ux (jx (kX jX) J.objs) (yD st J) J.ah
def da{J R:Type}(m:Option (J⊕R))(k:J->Option R):Option R:=m.bind fun s=>match s with
 | .inl j=>k j
 | .inr r=>some r
noncomputable def exec{P:Program}(E:Env P)(nt N:Nat):Code->{R:Type}->pe->State->(Ex->State->Option R)->Option R
 | .skip,_,_,st,k=>k .normal st
 | .label _,_,_,st,k=>k .normal st
 | .scope x,_,a,st,k=>exec E nt N x a.l st (noGoto k)
 | .goto l,_,_,st,k=>k (.goto l) st
 | .ret,_,_,st,k=>k .ret st
 | .exit id,_,_,st,k=>k (.exit id) st
 | .cond c x y,_,a,st,k=>match CN st.ah c with
   |some D=>match asBool D with
    |some b=>if b=true then exec E nt N x a.l st k else exec E nt N y a.r st k
    |none=>none
   |none=>none
 | .region _ ops draw,_,_,st,k=>bif draw then jw E nt ops ops.toList st [] (k .normal)else runs E nt ops ops.toList [] st (k .normal)
 | .seq x y,R,a,st,k=>match a with
   | .join J a1 a2=>da (exec E nt N x (R:=bA J.rows⊕R) a1 st (fun e bn=>match e with
       | .normal=>(carry st J bn).map .inl
       |e=>(k e bn).map .inr)) fun j=>exec E nt N y a2 (behind st (writes x) J j) k
   | .meet J a1 a2=>(exec E nt N x (R:=bA J.rows) a1 st (fun e bn=>match e with
       | .normal=>carry st J bn
       |_=>none)).bind fun j=>exec E nt N y a2 (behind st (writes x) J j) k
   |a=>exec E nt N x a.l st (fun e bn=>match e with
     | .normal=>exec E nt N y a.r bn k
     |e=>k e bn)
 | .block id x,R,a,st,k=>match a with
   | .join J a1 _=>da (exec E nt N x (R:=bA J.rows⊕R) a1 st (fun e bn=>match e with
       | .normal=>(carry st J bn).map .inl
       | .exit i=>bif Yb i id then(carry st J bn).map .inl else(k (.exit i) bn).map .inr
       |e=>(k e bn).map .inr)) fun j=>k .normal (behind st (writes x) J j)
   | .meet J a1 _=>(exec E nt N x (R:=bA J.rows) a1 st (fun e bn=>match e with
       | .normal=>carry st J bn
       | .exit i=>bif Yb i id then carry st J bn else none
       |_=>none)).bind fun j=>k .normal (behind st (writes x) J j)
   |a=>exec E nt N x a.l st (fun e bn=>match e with
     | .exit i=>bif Yb i id then k .normal bn else k (.exit i) bn
     |e=>k e bn)
 | .loop x,R,a,st,k=>match a with
   | .loop L a1=>match carry st L st with
     |some s0=>Loop (S:=bA L.rows) (X:=R) (fun s=>exec E nt N x (R:=bA L.rows⊕R) a1 (behind st (writes x) L s) (fun e bn=>match e with
       | .normal=>(carry st L bn).map .inl
       |e=>(k e bn).map .inr)) N s0
     |none=>none
   |_=>none
 |_,_,_,_,_=>none
section
variable {P:Program} {nt N:Nat} {R:Type}
variable {ρ:Nat->Value} {w w0:World} {H:ao} {F F0 G:Nat->Prop}
theorem yE{W:List Nat}{l:List (Nat×aj)}{t:Nat}{d:aj}(h:find (wB W l) t=some d):d= .dead\/(t∉W/\find l t=some d):=by
 induction W with
 |nil=>exact .inr ⟨by simp,h⟩
 |cons s W ih=>
  have h':find ((s,aj.dead)::wB W l) t=some d:=h;rw[aw]at h';split at h'
  .exact .inl (X7 h').symm
  .rename_i e
   rcases ih h' with h1|⟨h1,h2⟩
   .exact .inl h1
   .exact .inr ⟨by simp[h1,Ne.symm e],h2⟩
theorem BZ{st jX:State}{W:List Nat}{J:JS}{x:bA J.rows}{H1:ao}{F1:Nat->Prop}{w1:World}{xA:Nat->Value}(h:yD st J jX=some x)(hh:bK G w0 F0 H F w ρ st)(k9:bK G w0 F0 H1 F1 w1 xA jX)(hk:bD H F w H1 F1 w1)
 (FH:∀t,t∉W->xA t=ρ t):∃H2 F2,bK G w0 F0 H2 F2 w1 xA (behind st W J x)/\bD H F w H2 F2 w1:=by
 unfold yD at h;split at h
 case h_2=>cases h
 rename_i _ y rest hp;obtain⟨bs,aD⟩:=rest;obtain rfl:=X7 h;obtain⟨F2,H2,a1,a2,a3,_,a5,_,a6,a7,a8⟩:=qL (U':=UU G w0) hp hh.sat.ob hh.sat.all hk k9.sat.ob k9.sat.slot
 have dH:Step F1 w1 F2 w1:=fun b hb=>⟨a2 b hb,rfl⟩
 have cA:=a8 k9.sat.ob.new (fun o s t v k _ h2 h3 h4=>by
  obtain⟨v',cy,bO⟩:=a1.obj _ _ _ h2;rw[h3]at cy;obtain rfl:=X7 cy
  exact bO.use k h4) (fun o s t v k h2 h3 h4=>by
  have h5:=(e8.1 h2).2;obtain⟨v',cy,bO⟩:=hh.sat.ob.obj _ _ _ h5;rw[hk.fP.val _ _ cy]at h3;obtain rfl:=X7 h3
  exact bO.use k (by rwa [hk.fP.sub _ _ bO.con]at h4))
 refine⟨H2,F2,⟨⟨fun t d hd=>?_,cA,a6⟩,⟨k9.glob.ext,fun b hb=>a2 b (k9.glob.le b hb),fun b hb=>?_⟩⟩,⟨a5,fun b hb=>⟨a2 b (hk.step b hb).1,(hk.step b hb).2⟩⟩⟩
 .have sk:find ((cD J.ah (dh J.rows y)).1++wB W st.ah) t=some d:=hd;rw[eZ]at sk
  cases hm:find (cD J.ah (dh J.rows y)).1 t with
  |some d'=>
   rw[hm]at sk;obtain rfl:=X7 sk;exact a7 t _ hm
  |none=>
   rw[hm,Zi]at sk
   rcases yE sk with rfl|⟨h1,h2⟩
   .trivial
   .rw[FH t h1]
    exact(hh.sat.slot t d h2).aO a5 fun b hb=>⟨a2 b (hk.step b hb).1,(hk.step b hb).2⟩
 .rcases a3 b hb with h1|h1
  .exact k9.glob.new b h1
  .exact .inr (k9.sat.ob.eJ b h1)
theorem B3{U:Nat->Prop}{ob:Nat->Option (Nat×Th)}{n:Nat}(hs:aq U H F w ob n){o:Nat}{e:cU}(h:EG ob n o=some e):gV H F w ob n e undef w:=by
 unfold EG at h;split at h
 case h_2=>cases h
 rename_i s T d l cA;obtain rfl:=X7 h;obtain⟨v,hv,bO⟩:=hs.obj _ _ _ cA
 obtain⟨lh,Ss,⟨xs,hx,Nk⟩,h2,h3,h4⟩:=(show AY F w T d.low (kz H F w d none) v l (H.sub s)from bO.ok)
 have hn:∀k,H.sub s k->¬F k:=bO.no
 have vd:gY 0 (fun b=>F b\/∃i,i<l.length/\Ss i b) w T d.row v l:=by
  refine⟨fun k hk hF=>?_,xs,?_,fun i hi=>?_⟩
  .rcases hF with hF|⟨i,hi,hm⟩
   .exact hn k (h4.aM k hk) hF
   .exact h4.out i k hi hm hk
  .rw[<-d.size,<-h2];exact hx
  .have dA:i<lh.length:=by omega
   have:=gu.freeze (h3 i dA hi) (fun k hk=>hn k (h4.part hi k hk)) (Nk i dA);rw[<-d.size]
   exact this.step fun b hb=>⟨hb.imp id fun hb=>⟨i,hi,hb⟩,rfl⟩
 have hf:=hs.fresh n (Yd _) (by omega)
 have gS:∀k,H.sub s k->bx H ob [o] k:=fun k hk=>⟨o,by simp,s,_,v,cA,hv,hk⟩
 refine⟨H.aS n (.own T d.row l),fun b=>F b\/∃i,i<l.length/\Ss i b,⟨⟨fun _ _ h=>h,fun s' t h=>?_,fun s' t h=>?_⟩,⟨rfl,rfl,rfl,Yd _,fun _ _ _=>rfl⟩,fun _ h=> .inl h,fun b hb=>?_,fun b hb=>?_⟩,fun m hm=>⟨id,fun h=>?_⟩,trivial,⟨fun o' s' q hq=>?_,fun o1 o2 s1 s2 q1 q2 u1 u2 bu g1 g2=>?_⟩,fun o' h=>?_⟩
 .have:s'≠n:=fun e=>by rw[e,hf.2]at h;cases h
  simp[ao.aS,this,h]
 .rfl
 .rcases hb with hb|⟨i,hi,hb⟩
  .exact .inl hb
  .exact .inr (.inr (gS b (h4.part hi b hb)))
 .rcases hb with hb|⟨i,hi,hb⟩
  .exact hs.lt b hb
  .exact bO.lt b (h4.part hi b hb)
 .simp[ao.aS,show m≠n from by omega,h]
 .obtain⟨rfl,e⟩:=be hq;obtain⟨rfl,rfl⟩:=Zm e;refine⟨v,hv,bO.one,by simp[ao.aS,Th.base],vd.2,fun k hk=>⟨vd.1 k hk,bO.lt k (h4.aM k hk), .inr (gS k (h4.aM k hk))⟩⟩
 .exact absurd ((be g1).1.trans (be g2).1.symm) bu
 .left
  obtain⟨y,hy⟩:=YA.1 h;rw[(be hy).1];simp
theorem bK.jx:(os:List (Nat×OS))->{st:State}->{H:ao}->{F:Nat->Prop}->bK G w0 F0 H F w ρ st->∃H' F',bK G w0 F0 H' F' w ρ (jx st os)/\bD H F w H' F' w
 |[],_,H,F,h=>⟨H,F,h,bD.refl H F w⟩
 |(j, .own _ _)::os,st,H,F,h=>by
  unfold Go.Proofs.YtlfjlhcigpejdaaGreatDoor.jx;split
  .rename_i e he;obtain⟨H',F',hp⟩:=B3 h.sat.ob he;have hs:=h.sat.apply (d:=none) hp;obtain⟨H2,F2,h2,k2⟩:=bK.jx os (st:=st.apply none e) ⟨hs,h.glob.iI hp.iI h.sat.ob.eJ⟩;exact⟨H2,F2,h2,(bD.wc hp.iI h.sat.ob.lt h.sat.ob.fe).trans k2⟩
  .exact bK.jx os h
 |(_, .box ..)::os,_,_,_,h=>bK.jx os h
 |(_, .map ..)::os,_,_,_,h=>bK.jx os h
 |(_, .deep ..)::os,_,_,_,h=>bK.jx os h
 |(_, .dmap ..)::os,_,_,_,h=>bK.jx os h
theorem bK.EH{st bn:State}{t o:Nat}{r:Row}(h:bK G w0 F0 H F w ρ st)(eR:find st.ah t=some (.ptr o [] 0))(hb:EH st t o r=some bn):∃F',bK G w0 F0 H F' w ρ bn/\bD H F w H F' w:=by
 unfold Go.Proofs.YtlfjlhcigpejdaaGreatDoor.EH at hb;split at hb
 case h_2=>cases hb
 split at hb
 case h_2=>cases hb
 rename_i aD rT;obtain⟨F1,h1,k1⟩:=h.oe rT;split at hb
 case h_2=>cases hb
 rename_i s1 T1 t1 cA;split at hb
 case h_2=>cases hb
 rename_i x hx;obtain rfl:=X7 hb;obtain⟨v,hv,bO⟩:=h1.sat.ob.obj _ _ _ cA
 obtain⟨b,es,rfl,Tm,hold⟩:=(show∃b es,v= .pointer (some ⟨b,0,none⟩)/\w.heap[b]? =some (.cells es.toArray T1 (0,0))/\bi H F1 w t1 es from bO.ok)
 obtain⟨b',cy,oq⟩:=h.sat.slot t _ eR;rw[hv]at cy;simp only[Ye,ZD,Zr,and_true]at cy;subst cy;have rS:=fA h1.sat.ob hx hold
 have hg:bx H (find aD) [o] b:=⟨o,by simp,s1,_,_,cA,hv,rfl⟩
 have dH:Step F1 w (fun k=>F1 k\/k=b) w:=fun k hk=>⟨.inl hk,rfl⟩
 have hp:iZ H F1 w (find aD) st.nxt {dst:= .at r x,eat:=[o]} (ρ t) w H (fun k=>F1 k\/k=b):=
  ⟨⟨ao.le.refl H,⟨rfl,rfl,rfl,Yd _,fun _ _ _=>rfl⟩,fun _ hk=> .inl hk,fun k hk=>hk.elim .inl fun e=> .inr (.inr (e▸hg)),fun k hk=>hk.elim (h1.sat.ob.lt k) fun e=>by rw[e];exact bO.lt b rfl⟩,fun m _=>⟨id,id⟩,
    ⟨b,0,oq, .inr rfl,es,rS.length,fun j u hu=>by
      show w.cell? ⟨b,0+j,none⟩=some u
      simp[World.cell?,Tm,hu],rS.step dH⟩,⟨fun _ _ _ h=>(by cases h),fun _ _ _ _ _ _ _ _ _ h=>(by cases h)⟩,fun _ h=>(by cases h)⟩
 have hs:=h1.sat.apply (d:=some t) hp
 have Tn:pA ρ (some t) (ρ t)=ρ:=by
  funext u
  show xD ρ t (ρ t) u=ρ u
  rw[lf];split
  .rename_i e;rw[e]
  .rfl
 rw[Tn]at hs;exact⟨_,⟨hs,h1.glob.iI hp.iI h1.sat.ob.eJ⟩,k1.trans (bD.wc hp.iI h1.sat.ob.lt h1.sat.ob.fe)⟩
theorem bK.ux{R:Type}{k:State->Option R}{q:R}:(ss:List (Nat×SS))->{st:State}->{H:ao}->{F:Nat->Prop}->bK G w0 F0 H F w ρ st->ux st k ss=some q->∃Ew H' F',k Ew=some q/\bK G w0 F0 H' F' w ρ Ew/\bD H F w H' F' w
 |[],st,H,F,h,hk=>⟨st,H,F,hk,h,bD.refl H F w⟩
 |(t, .at r)::ss,st,H,F,h,hk=>by
  unfold Go.Proofs.YtlfjlhcigpejdaaGreatDoor.ux at hk;split at hk
  .rename_i o eR;split at hk
   case h_2=>cases hk
   rename_i bn To;obtain⟨F1,h1,k1⟩:=h.EH eR To;obtain⟨Ew,H2,F2,g1,g2,g3⟩:=bK.ux ss h1 hk;exact⟨Ew,H2,F2,g1,g2,k1.trans g3⟩
  .rename_i o d i eR;split at hk
   case h_2=>cases hk
   rename_i aD rT;obtain⟨F1,h1,k1⟩:=h.oe rT;split at hk
   case h_2=>cases hk
   rename_i s1 T1 d' l cA;obtain⟨mv,hk⟩:=ay hk;have mv:=YR mv;obtain⟨x,hx,Tp⟩:=bind_some hk;obtain⟨j,rfl,hj,r8⟩:=dX hx;obtain⟨g,o0,q0,m,cap,hv,hq,oq⟩:=h1.sat.slot t _ eR;obtain⟨v,cy,bO⟩:=h1.sat.ob.obj _ _ _ cA;rw[hv]at cy;obtain rfl:=X7 cy
   obtain⟨A,Dp,e1,_,_,n8⟩:=(show bH F1 w (.slice d'.row) [_] l from bO.ok)
   obtain⟨b,off,es,hA,Tq,hlen,p5,rS⟩:=n8 j hj;simp only[Zd,Zh,and_true]at e1;obtain⟨e1,_,_⟩:=e1;rw[<-e1]at hA;simp only[Ye,Zr,and_true]at hA;obtain⟨rfl,rfl⟩:=hA
   have oZ:ai H F1 w (.at d'.row x) (ρ t):=by
    have e:j=q0:=by omega
    subst e;refine⟨g,o0+j*d.low.size+0,oq,Tq,es,hlen,fun jj u hu=>?_,by rw[<-r8];exact rS⟩;rw[mv];exact p5 jj u hu
   obtain⟨Ew,H2,F2,g1,g2,g3⟩:=bK.ux ss (st:={ah:=(t, .at d'.row x)::st.ah,objs:=aD,nxt:=st.nxt}) ⟨⟨fun t' q' jr=>by
    have jr:find ((t,aj.at d'.row x)::st.ah) t'=some q':=jr;rw[aw]at jr;by_cases e:t=t'
    .subst e;rw[if_pos rfl]at jr;obtain rfl:=X7 jr;exact oZ
    .rw[if_neg e]at jr
     exact h1.sat.slot t' q' jr,h1.sat.ob,h1.sat.all⟩,h1.glob⟩ Tp
   exact⟨Ew,H2,F2,g1,g2,k1.trans g3⟩
  .exact bK.ux ss h hk
 |(_, .val ..)::ss,_,_,_,h,hk=>bK.ux ss h hk
 |(_, .ptr ..)::ss,_,_,_,h,hk=>bK.ux ss h hk
 |(_, .undef)::ss,_,_,_,h,hk=>bK.ux ss h hk
 |(_, .fn ..)::ss,_,_,_,h,hk=>bK.ux ss h hk
 |(_, .ifc ..)::ss,_,_,_,h,hk=>bK.ux ss h hk
theorem iA{st jX:State}{W:List Nat}{J:JS}{x:bA J.rows}{H1:ao}{F1:Nat->Prop}{w1:World}{xA:Nat->Value}(h:carry st J jX=some x)(hh:bK G w0 F0 H F w ρ st)(k9:bK G w0 F0 H1 F1 w1 xA jX)(hk:bD H F w H1 F1 w1)
 (FH:∀t,t∉W->xA t=ρ t):∃H2 F2,bK G w0 F0 H2 F2 w1 xA (behind st W J x)/\bD H F w H2 F2 w1:=by
 obtain⟨XE,XF,N6,cx⟩:=k9.kX;obtain⟨XG,XH,N7,FB⟩:=N6.jx J.objs;unfold carry at h;obtain⟨Ew,XI,XJ,h3,Tr,MM⟩:=N7.ux J.ah h;exact BZ h3 hh Tr (((hk.trans cx).trans FB).trans MM) FH
theorem pf{l:List Oper}{o:Oper}{t:Nat}(ho:o∈l)(hd:o.dst=some t):t∈mf l:=by
 induction l with
 |nil=>cases ho
 |cons p l ih=>
  rcases List.mem_cons.1 ho with rfl|h
  .unfold mf;rw[hd];exact List.mem_cons_self
  .unfold mf;split
   .exact List.mem_cons_of_mem _ (ih h)
   .exact ih h
structure B4(G:Nat->Prop)(w0:World)(F0:Nat->Prop)(W:List Nat)(H:ao)(F:Nat->Prop)(w:World)(ρ:Nat->Value)(H':ao)(F':Nat->Prop)(w':World)(bk:Nat->Value)(bn:State):Prop where
 here:bK G w0 F0 H' F' w' bk bn
 keeps:bD H F w H' F' w'
 same:∀t,t∉W->bk t=ρ t
theorem map_inl{α β:Type}{o:Option α}{f:α->β}{r:β}(h:o.map f=some r):∃x,o=some x/\f x=r:=Option.map_eq_some_iff.1 h
theorem ew{E:Env P}:(c:Code)->{R:Type}->{q:R}->{a:pe}->{st:State}->{k:Ex->State->Option R}->{H:ao}->{F:Nat->Prop}->{w:World}->{ρ:Nat->Value}->{Q:Exit->(Nat->Value)->World->Prop}->
 exec E nt N c a st k=some q->bK G w0 F0 H F w ρ st->
 (∀e bn H' F' w' bk,k e bn=some q->B4 G w0 F0 (writes c) H F w ρ H' F' w' bk bn->Q e.ke bk w')->mO P nt c Q ρ w
 | .skip,R,q,a,st,k,H,F,w,ρ,Q,h,hh,hk=>C4 (hk .normal st H F w ρ h ⟨hh,bD.refl H F w,fun _ _=>rfl⟩)
 | .ret,R,q,a,st,k,H,F,w,ρ,Q,h,hh,hk=>FV (hk .ret st H F w ρ h ⟨hh,bD.refl H F w,fun _ _=>rfl⟩)
 | .exit id,R,q,a,st,k,H,F,w,ρ,Q,h,hh,hk=>C5 (hk (.exit id) st H F w ρ h ⟨hh,bD.refl H F w,fun _ _=>rfl⟩)
 | .cond c x y,R,q,a,st,k,H,F,w,ρ,Q,h,hh,hk=>by
   unfold exec at h;split at h
   case h_2=>cases h
   rename_i D hD;split at h
   case h_2=>cases h
   rename_i b hb;have hv:=jM hb (qh hh.sat.ob.gl hh.sat.slot _ _ hD);split at h
   .rename_i e;subst e;exact C6 hv (ew x h hh fun e bn H' F' w' bk h1 h2=>hk e bn H' F' w' bk h1 ⟨h2.here,h2.keeps,fun t ht=>h2.same t fun hm=>ht (by simp[writes,hm])⟩)
   .rename_i e
    have e:b=false:=by cases b<;>simp_all
    subst e;exact AD hv (ew y h hh fun e bn H' F' w' bk h1 h2=>hk e bn H' F' w' bk h1 ⟨h2.here,h2.keeps,fun t ht=>h2.same t fun hm=>ht (by simp[writes,hm])⟩)
 | .region id ops draw,R,q,a,st,k,H,F,w,ρ,Q,h,hh,hk=>by
   unfold exec at h
   cases draw with
   |true=>
    rw[cond_true]at h
    exact GQ E.mix h hh fun bn H' F' w' bk h1 h2 h3 h4=>hk .normal bn H' F' w' bk h1 ⟨h2,h3,fun t ht=>h4 t fun o ho e=>ht (pf ho e)⟩
   |false=>
    rw[cond_false]at h
    have:=ue (K:=fun ρ w=>Q .normal ρ w) (ops:=ops) (nt:=nt) h (fun _ _ h=>by cases h) hh fun bn H' F' w' bk h1 h2 h3 h4=>hk .normal bn H' F' w' bk h1 ⟨h2,h3,fun t ht=>h4 t fun o ho e=>ht (pf ho e)⟩
    have h2:=xE (id:=id) (l:=ops.toList) (P:=P) (n:=nt) (Q:=Q) (ρ:=ρ) (w:=w) (by rw[YH];exact this);rw[YH]at h2;exact h2
 | .seq x y,R,q,a,st,k,H,F,w,ρ,Q,h,hh,hk=>by
   have fin:∀{H1:ao}{F1:Nat->Prop}{w1:World}{xA:Nat->Value}{jX:State}{a2:pe},exec E nt N y a2 jX k=some q->bK G w0 F0 H1 F1 w1 xA jX->bD H F w H1 F1 w1->(∀t,t∉writes x->xA t=ρ t)->mO P nt y Q xA w1:=by
    intro H1 F1 w1 xA jX a2 g1 g2 g3 g4
    exact ew y g1 g2 fun e bn H' F' w' bk h1 h2=>hk e bn H' F' w' bk h1 ⟨h2.here,g3.trans h2.keeps,fun t ht=>(h2.same t fun hm=>ht (by simp[writes,hm])).trans (g4 t fun hm=>ht (by simp[writes,hm]))⟩
   have out:∀{e:Ex}{bn:State}{H':ao}{F':Nat->Prop}{w':World}{bk:Nat->Value},k e bn=some q->B4 G w0 F0 (writes x) H F w ρ H' F' w' bk bn->Q e.ke bk w':=by
    intro e bn H' F' w' bk g1 g2;exact hk e bn H' F' w' bk g1 ⟨g2.here,g2.keeps,fun t ht=>g2.same t fun hm=>ht (by simp[writes,hm])⟩
   unfold exec at h;split at h
   .rename_i J a1 a2;unfold da at h;obtain⟨s,hs,h⟩:=bind_some h;refine lO (ew x hs hh fun e bn H' F' w' bk h1 h2=>?_)
    cases e with
    |normal=>
     obtain⟨j,hj,rfl⟩:=map_inl h1;obtain⟨H2,F2,g1,g2⟩:=iA (W:=writes x) hj hh h2.here h2.keeps h2.same;exact fin h g1 g2 h2.same
    |exit id=>
     obtain⟨r,hr,rfl⟩:=map_inl h1;obtain rfl:=X7 h;exact out hr h2
    |ret=>
     obtain⟨r,hr,rfl⟩:=map_inl h1;obtain rfl:=X7 h;exact out hr h2
    |goto l=>
     obtain⟨r,hr,rfl⟩:=map_inl h1;obtain rfl:=X7 h;exact out hr h2
   .rename_i J a1 a2;obtain⟨s,hs,h⟩:=bind_some h;refine lO (ew x hs hh fun e bn H' F' w' bk h1 h2=>?_)
    cases e with
    |normal=>
     obtain⟨H2,F2,g1,g2⟩:=iA (W:=writes x) h1 hh h2.here h2.keeps h2.same;exact fin h g1 g2 h2.same
    |exit id=>cases h1
    |ret=>cases h1
    |goto l=>cases h1
   .refine lO (ew x h hh fun e bn H' F' w' bk h1 h2=>?_)
    cases e with
    |normal=>exact fin h1 h2.here h2.keeps h2.same
    |exit id=>exact out h1 h2
    |ret=>exact out h1 h2
    |goto l=>exact out h1 h2
 | .block id x,R,q,a,st,k,H,F,w,ρ,Q,h,hh,hk=>by
   have hw:writes (.block id x)=writes x:=rfl;rw[hw]at hk
   have N8:∀{e:Ex}{bk:Nat->Value}{w':World},(match e with| .exit i=>if i=id then Q .normal bk w' else Q (.exit i) bk w'|e=>Q e.ke bk w')->JQ id Q e.ke bk w':=by
    intro e bk w' g
    cases e with
    |normal=>exact g
    |ret=>exact g
    |goto l=>exact g
    |exit i=>
     by_cases e:i=id
     .subst e;simp only[if_pos]at g;exact Du g
     .simp only[if_neg e]at g;refine AS ?_ g
      cases hb:Yb i id with
      |false=>rfl
      |true=>exact absurd (beq_true hb) e
   have yF:∀{i:Nat},i≠id->Yb i id=false:=fun{i}e=>by
    cases hb:Yb i id with
    |false=>rfl
    |true=>exact absurd (beq_true hb) e
   unfold exec at h;split at h
   .rename_i J a1 a2;unfold da at h;obtain⟨s,hs,h⟩:=bind_some h;refine n9 (ew x hs hh fun e bn H' F' w' bk h1 h2=>N8 ?_)
    have inn:(carry st J bn).map YT=some s->Q .normal bk w':=fun h1=>by
     obtain⟨j,hj,rfl⟩:=map_inl h1;obtain⟨H2,F2,g1,g2⟩:=iA (W:=writes x) hj hh h2.here h2.keeps h2.same;exact hk .normal _ H2 F2 w' bk h ⟨g1,g2,h2.same⟩
    have out:∀{e:Ex},(k e bn).map Yv=some s->Q e.ke bk w':=fun{e}h1=>by
     obtain⟨r,hr,rfl⟩:=map_inl h1;obtain rfl:=X7 h;exact hk e bn H' F' w' bk hr h2
    cases e with
    |normal=>exact inn h1
    |exit i=>
     show if i=id then _ else _
     by_cases e:i=id
     .subst e;rw[if_pos rfl];refine inn ?_;simpa using h1
     .rw[if_neg e];simp only[yF e,cond_false]at h1;exact out (e:= .exit i) h1
    |ret=>exact out (e:= .ret) h1
    |goto l=>exact out (e:= .goto l) h1
   .rename_i J a1 a2;obtain⟨s,hs,h⟩:=bind_some h;refine n9 (ew x hs hh fun e bn H' F' w' bk h1 h2=>N8 ?_)
    have inn:carry st J bn=some s->Q .normal bk w':=fun h1=>by
     obtain⟨H2,F2,g1,g2⟩:=iA (W:=writes x) h1 hh h2.here h2.keeps h2.same;exact hk .normal _ H2 F2 w' bk h ⟨g1,g2,h2.same⟩
    cases e with
    |normal=>exact inn h1
    |exit i=>
     show if i=id then _ else _
     by_cases e:i=id
     .subst e;rw[if_pos rfl];refine inn ?_;simpa using h1
     .simp only[yF e,cond_false]at h1;cases h1
    |ret=>cases h1
    |goto l=>cases h1
   .refine n9 (ew x h hh fun e bn H' F' w' bk h1 h2=>N8 ?_)
    cases e with
    |normal=>exact hk .normal bn H' F' w' bk h1 h2
    |exit i=>
     show if i=id then _ else _
     by_cases e:i=id
     .subst e;rw[if_pos rfl];refine hk .normal bn H' F' w' bk ?_ h2;simpa using h1
     .rw[if_neg e];simp only[yF e,cond_false]at h1;exact hk (.exit i) bn H' F' w' bk h1 h2
    |ret=>exact hk .ret bn H' F' w' bk h1 h2
    |goto l=>exact hk (.goto l) bn H' F' w' bk h1 h2
 | .loop x,R,q,a,st,k,H,F,w,ρ,Q,h,hh,hk=>by
   have hw:writes (.loop x)=writes x:=rfl;rw[hw]at hk;unfold exec at h;split at h
   case h_2=>cases h
   rename_i L a1;split at h
   case h_2=>cases h
   rename_i s0 IT;refine C7 (fun s bk w'=>∃H' F',bK G w0 F0 H' F' w' bk (behind st (writes x) L s)/\bD H F w H' F' w'/\∀t,t∉writes x->bk t=ρ t) h ?_ ?_
   .obtain⟨H2,F2,g1,g2⟩:=iA (W:=writes x) IT hh hh (bD.refl H F w) fun _ _=>rfl
    exact⟨H2,F2,g1,g2,fun _ _=>rfl⟩
   .rintro s bk w' y ⟨H',F',g1,g2,g3⟩ hy
    refine ew x hy g1 fun e bn og vM o6 nL h1 h2=>?_
    have sm:∀t,t∉writes x->nL t=ρ t:=fun t ht=>(h2.same t ht).trans (g3 t ht)
    have out:∀{e:Ex},e≠ .normal->(k e bn).map Yv=some y->HD (fun s bk w'=>∃H' F',bK G w0 F0 H' F' w' bk (behind st (writes x) L s)/\bD H F w H' F' w'/\∀t,t∉writes x->bk t=ρ t) Q q y e.ke nL o6:=fun{e}he h1=>by
     obtain⟨r,hr,rfl⟩:=map_inl h1;refine⟨by cases e<;>simp_all[Ex.ke],fun hq=>?_⟩;subst hq;exact hk e bn og vM o6 nL hr ⟨h2.here,g2.trans h2.keeps,sm⟩
    cases e with
    |normal=>
     obtain⟨j,hj,rfl⟩:=map_inl h1;obtain⟨H2,F2,m1,m2⟩:=iA (W:=writes x) hj hh h2.here (g2.trans h2.keeps) sm;exact⟨rfl,H2,F2,m1,m2,sm⟩
    |exit i=>exact out (e:= .exit i) (by simp) h1
    |ret=>exact out (e:= .ret) (by simp) h1
    |goto l=>exact out (e:= .goto l) (by simp) h1
 | .label l,R,q,a,st,k,H,F,w,ρ,Q,h,hh,hk=>fun act hf=>wp_label ⟨ρ,hf,hk .normal st H F w ρ h ⟨hh,bD.refl H F w,fun _ _=>rfl⟩⟩
 | .scope x,R,q,a,st,k,H,F,w,ρ,Q,h,hh,hk=>by
   have h1:=ew (Q:=fun e ρ w=>match e with| .goto _=>False|e=>Q e ρ w) x (show exec E nt N x a.l st (noGoto k)=some q from h) hh fun e bn H' F' w' bk h1 h2=>by
    cases e with
    |goto l=>cases h1
    |_=>exact hk _ bn H' F' w' bk h1 h2
   intro act hf;refine wp_scope_straight (wp_mono (h1 act hf) fun e a' w' ⟨bk,nf,MD⟩=>?_)
   cases e<;>first
    |exact MD.elim
    |exact⟨bk,nf,MD⟩
 | .goto l,R,q,a,st,k,H,F,w,ρ,Q,h,hh,hk=>fun act hf=>wp_goto ⟨ρ,hf,hk (.goto l) st H F w ρ h ⟨hh,bD.refl H F w,fun _ _=>rfl⟩⟩
 | .rangeFunc ..,_,_,_,_,_,_,_,_,_,_,h,_,_=>by cases h
 | .refuse _,_,_,_,_,_,_,_,_,_,_,h,_,_=>by cases h
end
end Go.Proofs.YtlfjlhcigpejdaaGreatDoor
namespace Go.Proofs.YtlfjlhcigpejdaaGreatDoor
open Go Go.RowKit
def uy{P:Program}(T:aG P)(ah:List (Nat×aj))(objs:List (Nat×(Nat×Th)))(t:Nat)(T0:TypeId):Option aj:=
 match find T.und T0 with
 |none=>none
 |some kk=>match find ah t with
  |some (.ptr o p off)=>match find objs o with
   |some (_, .box _ tr)=>match tr.get p with
    |some (s,cF)=>bif Yb cF off&&jc T T0 kk s.size then some (.val (gQ kk) s)else none
    |none=>none
   |_=>none
  |_=>none
def uz{P:Program}(T:aG P)(ah:List (Nat×aj))(objs:List (Nat×(Nat×Th))):List ResultVar->Option (List aj)
 |[]=>some []
 | .tmp t::l=>match find ah t with
   |some d=>match uz T ah objs l with
    |some ds=>some (d::ds)
    |none=>none
   |none=>none
 | .cell t T0::l=>match uy T ah objs t T0 with
   |some d=>match uz T ah objs l with
    |some ds=>some (d::ds)
    |none=>none
   |none=>none
noncomputable def Ja{P:Program}(T:aG P)(rs:List ResultVar)(nb:Nat)(out:JS)(st:State):Option (bA out.rows):=
 match uz T st.ah st.objs rs with
 |some ds=>ux {ah:=fi 0 ds,objs:=(kX st).objs,nxt:=(kX st).nxt} (fun jX=>match sL nb [] out jX.ah jX.objs with
  |some (x,_)=>some x
  |none=>none) out.ah
 |none=>none
def init(inn:JS)(x:bA inn.rows):State:=
 {ah:=(cD inn.ah (dh _ x)).1,objs:=gz 0 inn.objs (cD inn.ah (dh _ x)).2,nxt:=inn.nxt}
noncomputable def Jb{P:Program}(T:aG P)(rs:List ResultVar)(nb:Nat)(out:JS):Ex->State->Option (bA out.rows)
 | .exit _,_=>none
 | .goto _,_=>none
 |_,st=>Ja T rs nb out st
noncomputable def Lb{P:Program}(E:Env P)(nt N:Nat)(c:Code)(rs:List ResultVar)(a:pe)(inn out:JS)(x:bA inn.rows):Option (bA out.rows):=
 exec E nt N c a (init inn x) (Jb E.T rs inn.nxt out)
section
variable {P:Program} {ρ:Nat->Value} {w:World} {H:ao} {F:Nat->Prop} {U:Nat->Prop} {n:Nat}
theorem wC(T:aG P){t:TypeId}{kk:CM}(hu:find T.und t=some kk){b off:Nat}{s:Tree}{cs:List Value}(hh:bi H F w s cs)(hc:∀j u,cs[j]? =some u->w.cell? ⟨b,off+j,none⟩=some u)
 (hz:if gQ kk=true then∃r,find T.row t=some r/\r.size=s.size else s.size=1):∃v,(loadVar t ⟨b,off,none⟩).run P w= .ok v w/\aB H F w (gQ kk) s v:=by
 obtain⟨dd,pN,qc⟩:=(T.und_ok _ _ hu).agg;have hl:=hh.length
 cases ha:gQ kk with
 |true=>
  rw[if_pos ha]at hz;obtain⟨r,hr,CP⟩:=hz;obtain⟨ti,z,h1,_,_,h4,_⟩:=T.row_ok _ _ hr
  have NP:(loadCells ⟨b,off,none⟩ cs.length).run P w= .ok cs.toArray w:=
   run_loadCells_list (P:=P) w ⟨b,off,none⟩ cs (fun j v hv=>by rw[bN];exact hc j v hv)
  refine⟨.agg cs.toArray,?_,cs,hh,rfl,by simp⟩
  have mv:ti.size=cs.length:=by omega
  simp[loadVar,Ys,dE pN,qc.trans ha,sizeOf,typeInfo,h1,mv,NP]
 |false=>
  rw[if_neg (by simp[ha])]at hz
  obtain⟨v,rfl⟩:∃v,cs=[v]:=by
   match cs,hl.trans hz with
   |[v],_=>exact⟨v,rfl⟩
  refine⟨v,?_,[v],hh,rfl,fun _=>rfl⟩;have:=hc 0 v rfl;simp only[Y0]at this;simp[loadVar,Ys,dE pN,qc.trans ha,this,go_sem]
theorem yG(T:aG P){ah:List (Nat×aj)}{objs:List (Nat×(Nat×Th))}{t:Nat}{T0:TypeId}{D:aj}(h:uy T ah objs t T0=some D)(eR:∀t d,find ah t=some d->ai H F w d (ρ t))(hs:aq U H F w (find objs) n):
 ∃a v,ρ t= .pointer (some a)/\(loadVar T0 a).run P w= .ok v w/\ai H F w D v:=by
 unfold uy at h;split at h
 .cases h
 rename_i kk hu;split at h
 case h_2=>cases h
 rename_i o p off hD;split at h
 case h_2=>cases h
 rename_i s0 T1 tr cA;split at h
 case h_2=>cases h
 rename_i s cF hg;obtain⟨h1,rfl⟩:=jb h;obtain⟨h1,h3⟩:=bU h1;obtain rfl:=beq_true h1;obtain⟨b,hb,e⟩:=eR _ _ hD;obtain⟨es,hh,HH⟩:=hs.box cA hb;obtain⟨g1,g2⟩:=HH.get hg
 obtain⟨v,hv,mP⟩:=wC (b:=b) (off:=cF) T hu g1 (fun j u hj=>by
  rw[qj hh];rw[Yz]at hj;split at hj
  .rwa [Yo]at hj
  .cases hj) (gk T h3)
 exact⟨_,v,e,hv,mP⟩
def GR(tmps:Array Value):ResultVar->Sem Value
 | .tmp t=>pure (tmps.getD t undef)
 | .cell a t=>do loadVar t (<-asAddr (tmps.getD a undef))
theorem uA(T:aG P){ah:List (Nat×aj)}{objs:List (Nat×(Nat×Th))}(eR:∀t d,find ah t=some d->ai H F w d (ρ t))(hs:aq U H F w (find objs) n){tmps:Array Value}(hf:∀t,tmps.getD t undef=ρ t):
 {rs:List ResultVar}->{ds:List aj}->uz T ah objs rs=some ds->∃vs:List Value,(rs.mapM (GR tmps)).run P w= .ok vs w/\dJ H F w ds vs
 |[],ds,h=>by obtain rfl:=X7 h;exact⟨[],by simp,rfl⟩
 | .tmp t::l,ds,h=>by
   unfold uz at h;split at h
   case h_2=>cases h
   rename_i d hd;split at h
   case h_2=>cases h
   rename_i MA pP;obtain rfl:=X7 h;obtain⟨vs,h1,h2⟩:=uA T eR hs hf pP;refine⟨ρ t::vs,?_,ρ t,vs,rfl,eR t d hd,h2⟩
   have hm:(GR tmps (.tmp t)).run P w= .ok (ρ t) w:=by rw[<-hf t];rfl
   rw[List.mapM_cons];simp only[Ys,hm,Sem.run_pure,YG,h1]
 | .cell t T0::l,ds,h=>by
   unfold uz at h;split at h
   case h_2=>cases h
   rename_i d hd;split at h
   case h_2=>cases h
   rename_i MA pP;obtain rfl:=X7 h;obtain⟨vs,h1,h2⟩:=uA T eR hs hf pP;obtain⟨a,v,e1,e2,e3⟩:=yG T hd eR hs;refine⟨v::vs,?_,v,vs,rfl,e3,h2⟩;have ha:(asAddr (.pointer (some a))).run P w= .ok a w:=rfl
   have hm:(GR tmps (.cell t T0)).run P w= .ok v w:=by
    show(asAddr (tmps.getD t undef)>>= fun b=>loadVar T0 b).run P w=_
    rw[hf t,e1,Ys,ha,YG,e2]
   rw[List.mapM_cons];simp only[Ys,hm,Sem.run_pure,YG,h1]
theorem yH(T:aG P){fn:Func}{rs:List ResultVar}(CP:fn.results.toList=rs){ah:List (Nat×aj)}{objs:List (Nat×(Nat×Th))}(eR:∀t d,find ah t=some d->ai H F w d (ρ t))(hs:aq U H F w (find objs) n){tmps:Array Value}(hf:∀t,tmps.getD t undef=ρ t)
 {ds:List aj}(h:uz T ah objs rs=some ds):∃vs:List Value,(results fn tmps).run P w= .ok (rU vs) w/\dJ H F w ds vs:=by
 obtain⟨vs,h1,h2⟩:=uA T eR hs hf h;refine⟨vs,?_,h2⟩;have e:fn.results=rs.toArray:=dq CP;have er:results fn tmps=(fn.results.mapM (GR tmps)>>= fun vs=>pure (if h:vs.size=1 then vs[0]else Value.tuple vs)):=rfl;rw[er,e,List.mapM_toArray]
 have:∀vs:List Value,(if h:vs.toArray.size=1 then vs.toArray[0]else Value.tuple vs.toArray)=rU vs:=by
  intro vs
  match vs with
  |[]=>rfl
  |[v]=>rfl
  |a::b::l=>simp[rU]
 simp only[Ys,Sem.run_map,h1,YG,Sem.run_pure,this]
theorem zZ:{l:List (Nat×SS)}->{vs:List gO}->{k t:Nat}->{d:aj}->nG k l=true->find (cD l vs).1 t=some d->t<k+l.length
 |[],_,_,_,_,_,h=>by cases h
 |(t0,s)::l,vs,k,t,d,hi,h=>by
  obtain⟨h1,h2⟩:=bU hi;have h':find ((t0,(c9 s vs).1)::(cD l (c9 s vs).2).1) t=some d:=h;rw[aw]at h';have:=beq_true h1;rw[List.length_cons];split at h'
  .omega
  .have:=zZ h2 h';omega
def Ie(P:Program)(nt:Nat)(c:Code)(run:{R:Type}->State->(Ex->State->Option R)->Option R):Prop:=
 ∀{R:Type}{q:R}{st:State}{k:Ex->State->Option R}{H:ao}{F:Nat->Prop}{w:World}{ρ:Nat->Value}{G:Nat->Prop}{w0:World}{F0:Nat->Prop}{Q:Exit->(Nat->Value)->World->Prop},
  run st k=some q->bK G w0 F0 H F w ρ st->(∀e bn H' F' w' bk,k e bn=some q->B4 G w0 F0 (writes c) H F w ρ H' F' w' bk bn->Q e.ke bk w')->mO P nt c Q ρ w
theorem EI{E:Env P}{f:FuncId}{fn:Func}{c:Code}{rs:List ResultVar}{sg:bf}{run:{R:Type}->State->(Ex->State->Option R)->Option R}(hW:Ie P fn.ntmps c run)(hf:P.funcs[f]? =some fn)(hn:(fn.name== "runtime.NumGoroutine")=false)(hb:fn.body=some c)(CP:fn.results.toList=rs)
 (kw:nG 0 sg.inn.ah=true)(hlen:Nat.ble sg.inn.ah.length fn.ntmps=true)(tG:Yb rs.length sg.out.ah.length=true)
 (wa:∀x,sg.fn x=run (init sg.inn x) (Jb E.T rs sg.inn.nxt sg.out)):aC P f sg:=by
 refine⟨⟨fn,hf,hn,by rw[hb];rfl⟩,fun x y FC args w H F G zm eR cA k7 hG=>?_⟩
 have hlen:sg.inn.ah.length<=fn.ntmps:=by simpa using hlen
 have tG:=beq_true tG
 refine(tB (R:=fun v w'=>∃vs,v=rU vs/\vs.length=sg.out.ah.length/\∃H' F',Ext G w w'/\H.le H'/\(∀b,F b->F' b)/\(∀b,F' b->F b\/w.heap.size<=b\/G b)/\
  (∀t d,find (cD sg.out.ah (dh _ y)).1 t=some d->ai H' F' w' d (vs.getD t undef))/\
  aq (fun k=>w.heap.size<=k\/G k) H' F' w' (find (gz sg.inn.nxt sg.out.objs (cD sg.out.ah (dh _ y)).2)) sg.out.nxt/\gx H' sg.out.nxt) hf hb (by omega) fun ρ FH=>?_).mono fun e w' ⟨v,he,vs,hv,h1,h2⟩=>⟨vs,by rw[he,hv],h1,h2⟩
 have N9:∀t,t<args.length->ρ t=args.getD t undef:=fun t ht=>by
  rw[FH t _ (X9 ht)];simp[Y3,ht]
 have keys:∀t d,find (cD sg.inn.ah (dh sg.inn.rows x)).1 t=some d->ai H F w d (ρ t):=fun t d hd=>by
  rw[N9 t (by have:=zZ kw hd;omega)];exact eR t d hd
 have hh:bK G w F H F w ρ (init sg.inn x):=⟨⟨keys,cA,k7⟩,⟨⟨rfl,rfl,rfl,Yd _,fun _ _ _=>rfl⟩,fun _ h=>h,fun _ h=> .inl h⟩⟩
 refine hW ((wa x).symm.trans FC) hh fun e bn H' F' w' bk h1 h2=>?_
 have main:Ja E.T rs sg.inn.nxt sg.out bn=some y->∀act,Fr fn.ntmps act bk->∃v,(results fn act.tmps).run P w'= .ok v w'/\∃vs,v=rU vs/\vs.length=sg.out.ah.length/\∃H' F',Ext G w w'/\H.le H'/\(∀b,F b->F' b)/\(∀b,F' b->F b\/w.heap.size<=b\/G b)/\
  (∀t d,find (cD sg.out.ah (dh _ y)).1 t=some d->ai H' F' w' d (vs.getD t undef))/\
  aq (fun k=>w.heap.size<=k\/G k) H' F' w' (find (gz sg.inn.nxt sg.out.objs (cD sg.out.ah (dh _ y)).2)) sg.out.nxt/\gx H' sg.out.nxt:=by
  intro hr act A3;unfold Ja at hr;split at hr
  case h_2=>cases hr
  rename_i ds pP;obtain⟨vs,g1,g2⟩:=yH E.T CP h2.here.sat.slot h2.here.sat.ob A3.get pP;have XK:=gy g2;refine⟨_,g1,vs,rfl,?_,?_⟩
  .have:∀{rs:List ResultVar}{ds:List aj},uz E.T bn.ah bn.objs rs=some ds->ds.length=rs.length:=by
    intro rs
    induction rs with
    |nil=>intro ds h;obtain rfl:=X7 h;rfl
    |cons r l ih=>
     intro ds h
     cases r<;>unfold uz at h<;>split at h<;>try cases h
     all_goals
      split at h
      case h_2=>cases h
      rename_i MA Oa;obtain rfl:=X7 h;simp[ih Oa]
   have:=this pP;omega
  .have IT:aq (UU G w) H F w (find (del [] [])) sg.inn.nxt:=⟨fun _ _ _ h=>(by cases h),fun _ _ _ _ _ _ _ _ _ h=>(by cases h),cA.fresh,cA.lt,cA.new,cA.gl⟩
   obtain⟨H4,F4,h4,k4⟩:=h2.here.kX;obtain⟨jX,H3,F3,hr,h3,k3⟩:=bK.ux (ρ:=fun t=>vs.getD t undef) (st:={ah:=fi 0 ds,objs:=(kX bn).objs,nxt:=(kX bn).nxt}) sg.out.ah ⟨⟨fun t d hd=>ai.aO k4.fP k4.step (by simpa using(lu g2 t d hd).2),h4.sat.ob,h4.sat.all⟩,h4.glob⟩ hr;split at hr
   case h_2=>cases hr
   rename_i _ z rest hp;obtain⟨bs,aD⟩:=rest;obtain rfl:=X7 hr;obtain⟨F2,H2,a1,a2,a3,_,a5,_,a6,a7,a8⟩:=qL (U':=UU G w) (ns:=[]) (objs0:=[]) (ρ:=fun t=>vs.getD t undef) hp IT k7 ((h2.keeps.trans k4).trans k3) h3.sat.ob (fun t d hd=>h3.sat.slot t d hd)
   have pE:=a8 h3.sat.ob.new (fun o s t v k _ m2 m3 m4=>by
    obtain⟨v',cy,bO⟩:=a1.obj _ _ _ m2;rw[m3]at cy;obtain rfl:=X7 cy
    exact bO.use k m4) (fun _ _ _ _ _ h=>by cases h)
   rw[show del [] ([]:List (Nat×(Nat×Th)))=[]from rfl,List.append_nil]at pE;refine⟨H2,F2,h3.glob.ext,a5,fun b hb=>a2 b (h3.glob.le b hb),fun b hb=>?_,a7,pE,a6⟩
   rcases a3 b hb with m1|m1
   .exact h3.glob.new b m1
   .exact .inr (h3.sat.ob.eJ b m1)
 cases e with
 |normal=>exact main h1
 |ret=>exact main h1
 |exit id=>cases h1
 |goto l=>cases h1
theorem Lc{E:Env P}{f:FuncId}{fn:Func}{c:Code}{rs:List ResultVar}{N:Nat}{a:pe}{sg:bf}(hf:P.funcs[f]? =some fn)(hn:(fn.name== "runtime.NumGoroutine")=false)(hb:fn.body=some c)(CP:fn.results.toList=rs)
 (kw:nG 0 sg.inn.ah=true)(hlen:Nat.ble sg.inn.ah.length fn.ntmps=true)(tG:Yb rs.length sg.out.ah.length=true)
 (wa:∀x,sg.fn x=Lb E fn.ntmps N c rs a sg.inn sg.out x):aC P f sg:=
 EI (E:=E) (run:=fun st k=>exec E fn.ntmps N c a st k) (fun h hh hk=>ew c h hh hk) hf hn hb CP kw hlen tG wa
structure CT(P:Program)where
 f:Nat
 sg:bf
 ok:aC P f sg
def ck{P:Program}{f:Nat}{sg:bf}(h:aC P f sg):CT P:=⟨f,sg,h⟩
def CT.tab{P:Program}:List (CT P)->List (Nat×bf)
 |[]=>[]
 |c::l=>(c.f,c.sg)::CT.tab l
theorem CT.uB{P:Program}:{l:List (CT P)}->∀p∈CT.tab l,aC P p.1 p.2
 |[],_,h=>by cases h
 |c::l,p,h=>by
  rcases List.mem_cons.1 h with rfl|h
  .exact c.ok
  .exact CT.uB p h
def Rm(fn:Func)(sg:bf):Bool:= !(fn.name== "runtime.NumGoroutine")&&fn.body.isSome&&nG 0 sg.inn.ah&&Nat.ble sg.inn.ah.length fn.ntmps&&Yb fn.results.toList.length sg.out.ah.length
theorem fw(E:Env P){f:FuncId}{fn:Func}{N:Nat}{sg:bf}(a:pe)(hf:P.funcs[f]? =some fn)(hc:Rm fn sg=true)
 (wa:∀x,sg.fn x=Lb E fn.ntmps N (fn.body.getD .skip) fn.results.toList a sg.inn sg.out x):aC P f sg:=by
 unfold Rm at hc;simp only[Y5,Bool.not_eq_true']at hc;obtain⟨⟨⟨⟨h1,h2⟩,h3⟩,h4⟩,h5⟩:=hc;obtain⟨c,hc⟩:=YA.1 h2;exact Lc (E:=E) (N:=N) (a:=a) hf h1 (by rw[hc];rfl) rfl h3 h4 h5 wa
@[reducible] def SS.l(r:Row):SS:= .val false (.leaf r)
@[reducible] def SS.g(r:Row):SS:= .val true (.leaf r)
abbrev ae:Row:= .int .i64
end
end Go.Proofs.YtlfjlhcigpejdaaGreatDoor
end
section
open _root_.Nat renaming le_refl->Yd
open _root_.Option.some renaming inj->X7
namespace Go.Proofs.YtlfjlhcigpejdaaGreatDoor
open Go Go.RowKit
inductive B5(F:Nat->Prop)(w:World):Nat->List (Nat×SS)->List gO->List Value->Prop where
 |nil {k:Nat}:B5 F w k [] [] []
 |cons {k:Nat} {agg:Bool} {r:Row} {x:r.den} {v:Value} {ss:List (Nat×SS)} {ds:List gO} {vs:List Value} (h:aB ⟨fun _=>none,fun _=>none,fun _ _=>False⟩ F w agg (.leaf r x) v) (hs:B5 F w (k+1) ss ds vs):B5 F w k ((k, .val agg (.leaf r))::ss) (⟨r,x⟩::ds) (v::vs)
theorem B5.ah{F:Nat->Prop}{w:World}{k:Nat}{ss:List (Nat×SS)}{ds:List gO}{vs:List Value}(h:B5 F w k ss ds vs):(∀t d,find (cD ss ds).1 t=some d->k<=t/\ai ⟨fun _=>none,fun _=>none,fun _ _=>False⟩ F w d (vs.getD (t-k) undef))/\(cD ss ds).2=[]/\vs.length=ss.length:=by
 induction h with
 |nil=>exact⟨fun _ _ h=>(by cases h),rfl,rfl⟩
 | @cons k agg r x v ss ds vs h hs ih=>
   refine⟨fun t d hf=>?_,ih.2.1,by simp[ih.2.2]⟩;have nf:find ((k,aj.val agg (bif r.beq r then Tree.leaf r x else .nil))::(cD ss ds).1) t=some d:=hf;rw[aw]at nf;split at nf
   .rename_i e;subst e;obtain rfl:=X7 nf;rw[Row.beq_refl,Nat.sub_self];exact⟨Yd _,h⟩
   .obtain⟨h1,h2⟩:=ih.1 t d nf;refine⟨by omega,?_⟩;rw[show t-k=(t-(k+1))+1 from by omega];simpa using h2
theorem yI{F:Nat->Prop}{w:World}{r:Row}{l:List r.den}{v:Value}(h:bH F w (.slice r) [v] l):aB ⟨fun _=>none,fun _=>none,fun _ _=>False⟩ F w false (.leaf (.slice r) l) v:=aB.jL h
theorem B6{P:Program}{f:FuncId}{inn:JS}{fn:bA inn.rows->Option Bool}(h:aC P f ⟨inn,⟨[(0, .val false (.leaf .bool))],[],[],0⟩,fn⟩){x:bA inn.rows}{y:Bool}(hy:fn x=some y){ds:List gO}(pP:dh inn.rows x=ds){W:World}{vs:List Value}
 (ha:B5 (fun b=>b<W.heap.size) W 0 inn.ah ds vs)(ho:inn.objs=[])(Jc:mQ (fun b=>b<W.heap.size) W):Calls P f vs.toArray W fun e W'=>e= .returned (.bool y)/\Below W.heap.size W W':=by
 obtain⟨h1,h2,h3⟩:=ha.ah;subst pP
 refine(h.ok x y hy vs W ⟨fun _=>none,fun _=>none,fun _ _=>False⟩ (fun b=>b<W.heap.size) (fun _=>False) h3 (fun t d hd=>by simpa using(h1 t d hd).2) ?_ (fun _ _=>⟨rfl,rfl⟩) (fun _ h=>h.elim)).mono fun e W' ⟨us,he,GB,H',F',a1,_,_,_,a5,_⟩=>?_
 .show aq _ _ _ W (find (gz 0 inn.objs _)) inn.nxt
  rw[ho];exact⟨fun _ _ _ h=>(by cases h),fun _ _ _ _ _ _ _ _ _ h=>(by cases h),fun _ _ _=>⟨rfl,rfl⟩,fun _ h=>h,fun _ h=> .inl h,Jc⟩
 .refine⟨?_,⟨a1.os,a1.tape,a1.output,a1.size,fun k hk=>a1.block k hk (fun h=>h)⟩⟩
  match us,GB with
  |[u],_=>
   have:=a5 0 (cJ y) rfl;have hu:u= .bool y:=aB.bool (x:=y) this;rw[he,hu];rfl
end Go.Proofs.YtlfjlhcigpejdaaGreatDoor
end
section
open _root_.List renaming getElem?_drop->Yo,getElem?_eq_getElem->X9,getElem?_map->Zj
open _root_.Nat renaming add_zero->Y0
open _root_.Option.some renaming injEq->Ye
open _root_.Prod.mk renaming injEq->YW
namespace Go.Proofs.YtlfjlhcigpejdaaGreatDoor
open Go Go.RowKit
theorem B7{H:Type}{enc:TypeId×Value->H}{P:Program}{W:World}{base:Nat}{spare:Nat->Bool}{held:Bool}{fuel:Nat}{t e:TypeId}{n:Nat}{k:IntKind}(ht:P.underlying t=some (.array n e))(he:P.underlying e=some (.int k))(hc:P.cellsOf e=1)(Ob:P.cellsOf t=n)
 {cs:List Value}{ns:List Int}{q:List MemPlace}(hd:DataW.trod enc P W base spare held fuel t cs=some (.agg (ns.map fun x=> .lit (.int k x)),q)):cs=ns.map fun x=> .int k x:=by
 obtain⟨xs,m,_,hx,hl,hn,n8⟩:=DataW.trod_array ht hd;simp only[YW,DataW.agg.injEq]at hx
 have XL:ns.length=n:=by rw[<-hn,<-List.length_map (f:=fun x:Int=>(DataW.lit (.int k x):DataW H)),hx.1,List.length_map]
 apply List.ext_getElem?
 intro i;by_cases hi:i<n
 .have h:=n8 i hi;rw[hc,Nat.mul_one,X9 (by omega:i<xs.length)]at h;obtain⟨z,h1,h2,_⟩:=DataW.trod_int he h
  have h3:(xs.map (·.1))[i]? =some (.lit (.int k z)):=by
   rw[Zj,X9 (by omega:i<xs.length),h2];rfl
  rw[<-hx.1,Zj,X9 (by omega:i<ns.length)]at h3;simp only[Option.map_some,Ye,DataW.lit.injEq,Lit.int.injEq,true_and]at h3;rw[Zj,X9 (by omega:i<ns.length),h3]
  have h4:((cs.drop i).take 1)[0]? =some (.int k z):=by rw[h1];rfl
  rw[List.getElem?_take_of_lt (by omega),Yo,Y0]at h4;exact h4
 .rw[List.getElem?_eq_none (by omega),List.getElem?_eq_none (by simp;omega)]
theorem GS{W:World}{b off:Nat}{v:Value}(h:W.cell? ⟨b,off,none⟩=some v):b<W.heap.size:=by
 unfold World.cell? at h;split at h
 .rename_i hb;exact(Array.getElem?_eq_some_iff.1 hb).1
 all_goals simp_all
end Go.Proofs.YtlfjlhcigpejdaaGreatDoor
end
section
open _root_.Nat renaming beq->Yb
open _root_.Option.some renaming inj->X7
open _root_.Sum renaming inr->Yv
namespace Go.Proofs.YtlfjlhcigpejdaaGreatDoor
open Go Go.RowKit
def Jd(l:Nat)(J:(Nat->Value)->World->Prop)(Q:Exit->(Nat->Value)->World->Prop):Exit->(Nat->Value)->World->Prop
 | .goto l',ρ,w=>l'=l/\J ρ w
 |e,ρ,w=>Q e ρ w
def Ld(l:Nat)(J:Act->World->Prop)(Q:Exit->Act->World->Prop):Exit->Act->World->Prop
 | .goto l',a,w=>l'=l/\J a w
 |e,a,w=>Q e a w
theorem r9{P:Program}{a:Act}{w:World}{Q:Exit->Act->World->Prop}{c rest:Code}(l:Nat)(J:Nat->Act->World->Prop)(hf:findLabel c l=some rest)
 (first:c.wp P (Ld l (fun a w=>∃n,J n a w) Q) a w)
 (pass:∀n a w,J n a w->rest.wp P (Ld l (fun a' w'=>∃m,m<n/\J m a' w') Q) a w):(Code.scope c).wp P Q a w:=by
 intro b k cs
 have hg:gotoIn l (.inScope c::k)=some (.code rest:: .inScope c::k):=by simp[gotoIn,hf]
 have key:∀n a w,J n a w->∃e a' w',Q e a' w'/\Arrives P (lone (b.at a (.code rest:: .inScope c::k)) cs w) b k cs e a' w':=by
  intro n
  induction n using Nat.strongRecOn with
  |_ n ih=>
   intro a w hJ;obtain⟨e,oM,oN,hq,oO⟩:=pass n a w hJ b (.inScope c::k) cs
   cases e with
   |normal=>exact⟨.normal,oM,oN,hq,Steps.trans oO (.one step_inScope)⟩
   |exit id=>exact⟨.exit id,oM,oN,hq,fun k' hk=>oO k' (by simp[exitTo,hk])⟩
   |goto l'=>
    obtain⟨rfl,m,aW,Oc⟩:=hq;obtain⟨Je,Jf,Jg,EJ,uC⟩:=ih m aW oM oN Oc;exact⟨Je,Jf,Jg,EJ, .of_steps (oO _ hg) uC⟩
   |ret=>exact⟨_,oM,oN,hq,oO⟩
   |panic ch=>exact⟨_,oM,oN,hq,oO⟩
   |outgrown=>exact⟨_,oM,oN,hq,oO⟩
 obtain⟨e,oM,oN,hq,oO⟩:=first b (.inScope c::k) cs
 cases e with
 |normal=>exact⟨.normal,oM,oN,hq, .head step_scope (Steps.trans oO (.one step_inScope))⟩
 |exit id=>exact⟨.exit id,oM,oN,hq,fun k' hk=> .head step_scope (oO k' (by simp[exitTo,hk]))⟩
 |goto l'=>
  obtain⟨rfl,m,Oc⟩:=hq;obtain⟨Je,Jf,Jg,EJ,uC⟩:=key m oM oN Oc;exact⟨Je,Jf,Jg,EJ, .of_steps (.head step_scope (oO _ hg)) uC⟩
 |ret=>exact⟨_,oM,oN,hq, .of_steps (.one step_scope) oO⟩
 |panic ch=>exact⟨_,oM,oN,hq, .of_steps (.one step_scope) oO⟩
 |outgrown=>exact⟨_,oM,oN,hq, .of_steps (.one step_scope) oO⟩
theorem B8{P:Program}{n:Nat}{Q:Exit->(Nat->Value)->World->Prop}{ρ:Nat->Value}{w:World}{x b:Code}{l:Nat}(J:Nat->(Nat->Value)->World->Prop)(hf:findLabel x l=some (.seq .skip b))
 (first:mO P n x (Jd l (fun ρ w=>∃m,J m ρ w) Q) ρ w)(pass:∀m ρ w,J m ρ w->mO P n b (Jd l (fun ρ w=>∃k,k<m/\J k ρ w) Q) ρ w):mO P n (.scope x) Q ρ w:=by
 intro act Od
 refine r9 l (fun m a w=>∃ρ,Fr n a ρ/\J m ρ w) hf (wp_mono (first act Od) fun e a' w' ⟨bk,h1,h2⟩=>?_) fun m a w ⟨ρ,hr,hJ⟩=>wp_seq (wp_skip (wp_mono (pass m ρ w hJ a hr) fun e a' w' ⟨bk,h1,h2⟩=>?_))
 .cases e with
  |goto l'=>exact⟨h2.1,h2.2.imp fun m hm=>⟨bk,h1,hm⟩⟩
  |_=>exact⟨bk,h1,h2⟩
 .cases e with
  |goto l'=>exact⟨h2.1,h2.2.imp fun m hm=>⟨hm.1,bk,h1,hm.2⟩⟩
  |_=>exact⟨bk,h1,h2⟩
def pg(l:Nat):Code->Option Code
 | .seq a b=>match a with
   | .label l'=>bif Yb l' l then some b else none
   |a=>bif (findLabel a l).isNone then pg l b else none
 |_=>none
theorem wD{l:Nat}:{x b:Code}->pg l x=some b->findLabel x l=some (.seq .skip b)
 | .seq a y,b,h=>by
   unfold pg at h;split at h
   .rename_i l';obtain⟨h1,rfl⟩:=jb h;obtain rfl:=beq_true h1;simp[findLabel]
   .obtain⟨h1,h2⟩:=ay h;have h3:=wD h2
    have h4:findLabel a l=none:=by simpa using h1
    simp[findLabel,h4,h3]
 | .skip,_,h=>by cases h
 | .ret,_,h=>by cases h
 | .exit _,_,h=>by cases h
 | .cond _ _ _,_,h=>by cases h
 | .region _ _ _,_,h=>by cases h
 | .block _ _,_,h=>by cases h
 | .loop _,_,h=>by cases h
 | .label _,_,h=>by cases h
 | .scope _,_,h=>by cases h
 | .goto _,_,h=>by cases h
 | .rangeFunc ..,_,h=>by cases h
 | .refuse _,_,h=>by cases h
noncomputable def z1{P:Program}(E:Env P)(nt N l:Nat){R:Type}:Code->pe->State->(Ex->State->Option R)->(State->Option R)->Option R
 | .seq a b,an,st,k,kL=>match a with
   | .label _=>kL st
   |a=>exec E nt N a an.l st (fun e bn=>match e with
    | .normal=>z1 E nt N l b an.r bn k kL
    |e=>k e bn)
 |_,_,_,_,_=>none
noncomputable def EK{P:Program}(E:Env P)(nt N l:Nat)(x:Code){R:Type}(L:JS)(a1 a2:pe)(st:State)(k:Ex->State->Option R):Option R:=
 match pg l x with
 |some b=>da (J:=bA L.rows) (R:=R) (z1 E nt N l (R:=bA L.rows⊕R) x a1 st (noGoto fun e bn=>(k e bn).map .inr) (fun bn=>(carry st L bn).map .inl)) fun s0=>
   Loop (S:=bA L.rows) (X:=R) (fun s=>exec E nt N b (R:=bA L.rows⊕R) a2 (behind st (writes x) L s) (fun e bn=>match e with
    | .goto i=>bif Yb i l then(carry st L bn).map .inl else none
    |e=>(k e bn).map .inr)) N s0
 |none=>none
noncomputable def z2{P:Program}(E:Env P)(nt N l:Nat)(c:Code){R:Type}(L:JS)(a0 a1 a2:pe)(st:State)(k:Ex->State->Option R):Option R:=
 match c with
 | .seq r (.scope x)=>exec E nt N r a0 st (fun e bn=>match e with
   | .normal=>EK E nt N l x L a1 a2 bn k
   |e=>k e bn)
 |_=>none
section
variable {P:Program} {nt N:Nat} {R:Type}
variable {ρ:Nat->Value} {w w0:World} {H:ao} {F F0 G:Nat->Prop}
theorem nM{l:Nat}:{x b:Code}->pg l x=some b->∀t∈writes b,t∈writes x
 | .seq a y,b,h,t,ht=>by
   unfold pg at h;split at h
   .obtain⟨h1,rfl⟩:=jb h;simp[writes,ht]
   .obtain⟨h1,h2⟩:=ay h;simp[writes,nM h2 t ht]
 | .skip,_,h,_,_=>by cases h
 | .ret,_,h,_,_=>by cases h
 | .exit _,_,h,_,_=>by cases h
 | .cond _ _ _,_,h,_,_=>by cases h
 | .region _ _ _,_,h,_,_=>by cases h
 | .block _ _,_,h,_,_=>by cases h
 | .loop _,_,h,_,_=>by cases h
 | .label _,_,h,_,_=>by cases h
 | .scope _,_,h,_,_=>by cases h
 | .goto _,_,h,_,_=>by cases h
 | .rangeFunc ..,_,h,_,_=>by cases h
 | .refuse _,_,h,_,_=>by cases h
theorem wE{E:Env P}{l:Nat}{q:R}:(c:Code)->{b:Code}->{a:pe}->{st:State}->{k:Ex->State->Option R}->{kL:State->Option R}->{H:ao}->{F:Nat->Prop}->{w:World}->{ρ:Nat->Value}->{Q:Exit->(Nat->Value)->World->Prop}->
 pg l c=some b->z1 E nt N l c a st k kL=some q->bK G w0 F0 H F w ρ st->
 (∀e bn H' F' w' bk,k e bn=some q->B4 G w0 F0 (writes c) H F w ρ H' F' w' bk bn->Q e.ke bk w')->
 (∀bn H' F' w' bk,kL bn=some q->B4 G w0 F0 (writes c) H F w ρ H' F' w' bk bn->mO P nt b Q bk w')->mO P nt c Q ρ w
 | .seq a y,b,an,st,k,kL,H,F,w,ρ,Q,ht,h,hh,hk,hL=>by
   unfold pg at ht;unfold z1 at h;split at ht
   .obtain⟨h1,rfl⟩:=jb ht;exact lO (fun act hf=>wp_label ⟨ρ,hf,hL st H F w ρ h ⟨hh,bD.refl H F w,fun _ _=>rfl⟩⟩)
   .rename_i bu;obtain⟨h1,h2⟩:=ay ht;split at h
    .rename_i l';exact absurd rfl (bu l')
    refine lO (ew a h hh fun e bn H' F' w' bk g1 g2=>?_)
    have out:∀{e:Ex},k e bn=some q->Q e.ke bk w':=fun{e}g1=>hk e bn H' F' w' bk g1 ⟨g2.here,g2.keeps,fun t ht=>g2.same t fun hm=>ht (by simp[writes,hm])⟩
    cases e with
    |normal=>
     refine wE y h2 g1 g2.here (fun e EL og vM o6 nL m1 m2=>?_) fun EL og vM o6 nL m1 m2=>?_
     .exact hk e EL og vM o6 nL m1 ⟨m2.here,g2.keeps.trans m2.keeps,fun t ht=>(m2.same t fun hm=>ht (by simp[writes,hm])).trans (g2.same t fun hm=>ht (by simp[writes,hm]))⟩
     .exact hL EL og vM o6 nL m1 ⟨m2.here,g2.keeps.trans m2.keeps,fun t ht=>(m2.same t fun hm=>ht (by simp[writes,hm])).trans (g2.same t fun hm=>ht (by simp[writes,hm]))⟩
    |exit i=>exact out g1
    |ret=>exact out g1
    |goto i=>exact out g1
 | .skip,_,_,_,_,_,_,_,_,_,_,h,_,_,_,_=>by cases h
 | .ret,_,_,_,_,_,_,_,_,_,_,h,_,_,_,_=>by cases h
 | .exit _,_,_,_,_,_,_,_,_,_,_,h,_,_,_,_=>by cases h
 | .cond _ _ _,_,_,_,_,_,_,_,_,_,_,h,_,_,_,_=>by cases h
 | .region _ _ _,_,_,_,_,_,_,_,_,_,_,h,_,_,_,_=>by cases h
 | .block _ _,_,_,_,_,_,_,_,_,_,_,h,_,_,_,_=>by cases h
 | .loop _,_,_,_,_,_,_,_,_,_,_,h,_,_,_,_=>by cases h
 | .label _,_,_,_,_,_,_,_,_,_,_,h,_,_,_,_=>by cases h
 | .scope _,_,_,_,_,_,_,_,_,_,_,h,_,_,_,_=>by cases h
 | .goto _,_,_,_,_,_,_,_,_,_,_,h,_,_,_,_=>by cases h
 | .rangeFunc ..,_,_,_,_,_,_,_,_,_,_,h,_,_,_,_=>by cases h
 | .refuse _,_,_,_,_,_,_,_,_,_,_,h,_,_,_,_=>by cases h
theorem EM{E:Env P}{l:Nat}{x:Code}{L:JS}{a1 a2:pe}{q:R}{st:State}{k:Ex->State->Option R}{Q:Exit->(Nat->Value)->World->Prop}(h:EK E nt N l x L a1 a2 st k=some q)(hh:bK G w0 F0 H F w ρ st)
 (hk:∀e bn H' F' w' bk,k e bn=some q->B4 G w0 F0 (writes x) H F w ρ H' F' w' bk bn->Q e.ke bk w'):mO P nt (.scope x) Q ρ w:=by
 unfold EK at h;split at h
 case h_2=>cases h
 rename_i b hb;unfold da at h;obtain⟨s,hs,h⟩:=bind_some h;have Ts:=nM hb
 let I:bA L.rows->(Nat->Value)->World->Prop:=fun s bk w'=>∃H' F',bK G w0 F0 H' F' w' bk (behind st (writes x) L s)/\bD H F w H' F' w'/\∀t,t∉writes x->bk t=ρ t
 let body:bA L.rows->Option (bA L.rows⊕R):=fun s=>exec E nt N b (R:=bA L.rows⊕R) a2 (behind st (writes x) L s) (fun e bn=>match e with
  | .goto i=>bif Yb i l then(carry st L bn).map .inl else none
  |e=>(k e bn).map .inr)
 have pass:∀m xA w1,(∃s,I s xA w1/\Loop body m s=some q)->mO P nt b (Jd l (fun ρ w=>∃k,k<m/\∃s,I s ρ w/\Loop body k s=some q) Q) xA w1:=by
  rintro m xA w1 ⟨s,⟨H1,F1,g1,g2,g3⟩,hl⟩
  cases m with
  |zero=>cases hl
  |succ m=>
   unfold Loop at hl
   cases hy:body s with
   |none=>rw[hy]at hl;cases hl
   |some y=>
    rw[hy]at hl
    refine ew b hy g1 fun e bn H' F' w' bk m1 m2=>?_
    have sm:∀t,t∉writes x->bk t=ρ t:=fun t ht=>(m2.same t fun hm=>ht (Ts t hm)).trans (g3 t ht)
    have out:∀{e:Ex},(k e bn).map Yv=some y->Q e.ke bk w':=fun{e}h1=>by
     obtain⟨r,hr,rfl⟩:=map_inl h1;obtain rfl:=X7 hl;exact hk e bn H' F' w' bk hr ⟨m2.here,g2.trans m2.keeps,sm⟩
    cases e with
    |normal=>exact out (e:= .normal) m1
    |exit i=>exact out (e:= .exit i) m1
    |ret=>exact out (e:= .ret) m1
    |goto i=>
     obtain⟨h1,h2⟩:=ay m1;obtain rfl:=beq_true h1;obtain⟨j,hj,rfl⟩:=map_inl h2;obtain⟨H2,F2,n1,n2⟩:=iA (W:=writes x) hj hh m2.here (g2.trans m2.keeps) sm;exact⟨rfl,m,Nat.lt_succ_self m,j,⟨H2,F2,n1,n2,sm⟩,hl⟩
 refine B8 (fun m ρ w=>∃s,I s ρ w/\Loop body m s=some q) (wD hb) ?_ pass
 refine wE x hb hs hh (fun e bn H' F' w' bk m1 m2=>?_) fun bn H' F' w' bk m1 m2=>?_
 .cases e with
  |goto i=>cases m1
  |normal=>
   obtain⟨r,hr,rfl⟩:=map_inl (show(k .normal bn).map Yv=some s from m1);obtain rfl:=X7 h;exact hk .normal bn H' F' w' bk hr m2
  |exit i=>
   obtain⟨r,hr,rfl⟩:=map_inl (show(k (.exit i) bn).map Yv=some s from m1);obtain rfl:=X7 h;exact hk (.exit i) bn H' F' w' bk hr m2
  |ret=>
   obtain⟨r,hr,rfl⟩:=map_inl (show(k .ret bn).map Yv=some s from m1);obtain rfl:=X7 h;exact hk .ret bn H' F' w' bk hr m2
 .obtain⟨j,hj,rfl⟩:=map_inl m1;obtain⟨H2,F2,n1,n2⟩:=iA (W:=writes x) hj hh m2.here m2.keeps m2.same
  refine C3 (pass N bk w' ⟨j,⟨H2,F2,n1,n2,m2.same⟩,h⟩) fun e MJ w2 hq=>?_
  cases e with
  |goto i=>exact⟨hq.1,hq.2.imp fun m hm=>hm.2⟩
  |_=>exact hq
theorem wF{E:Env P}{l:Nat}{c:Code}{L:JS}{a0 a1 a2:pe}:Ie P nt c fun st k=>z2 E nt N l c L a0 a1 a2 st k:=by
 intro R q st k H F w ρ G w0 F0 Q h hh hk;unfold z2 at h;split at h
 case h_2=>cases h
 rename_i r x;refine lO (ew r h hh fun e bn H' F' w' bk g1 g2=>?_)
 have out:∀{e:Ex},k e bn=some q->Q e.ke bk w':=fun{e}g1=>hk e bn H' F' w' bk g1 ⟨g2.here,g2.keeps,fun t ht=>g2.same t fun hm=>ht (by simp[writes,hm])⟩
 cases e with
 |normal=>
  refine EM g1 g2.here fun e EL og vM o6 nL m1 m2=>?_
  exact hk e EL og vM o6 nL m1 ⟨m2.here,g2.keeps.trans m2.keeps,fun t ht=>(m2.same t fun hm=>ht (by simp[writes,hm])).trans (g2.same t fun hm=>ht (by simp[writes,hm]))⟩
 |exit i=>exact out g1
 |ret=>exact out g1
 |goto i=>exact out g1
theorem EN{E:Env P}{f:FuncId}{fn:Func}{c:Code}{rs:List ResultVar}{N l:Nat}{L:JS}{a0 a1 a2:pe}{sg:bf}(hf:P.funcs[f]? =some fn)(hn:(fn.name== "runtime.NumGoroutine")=false)(hb:fn.body=some c)(CP:fn.results.toList=rs)
 (kw:nG 0 sg.inn.ah=true)(hlen:Nat.ble sg.inn.ah.length fn.ntmps=true)(tG:Yb rs.length sg.out.ah.length=true)
 (wa:∀x,sg.fn x=z2 E fn.ntmps N l c L a0 a1 a2 (init sg.inn x) (Jb E.T rs sg.inn.nxt sg.out)):aC P f sg:=
 EI (E:=E) (run:=fun st k=>z2 E fn.ntmps N l c L a0 a1 a2 st k) wF hf hn hb CP kw hlen tG wa
end
end Go.Proofs.YtlfjlhcigpejdaaGreatDoor
end
