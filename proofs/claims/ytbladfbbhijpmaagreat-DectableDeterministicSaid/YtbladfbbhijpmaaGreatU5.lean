/- Joined texts: Fn Law Jump Shelf. -/
import Derived.Test.YtbladfbbhijpmaaGreatU4
import Derived.Scope
import Derived.Test.YtbladfbbhijpmaaGreatU1
import Derived.Sort.Grow
import Derived.Lib.SlicesCompact
import Derived.Lib.Bytealg
open _root_.Bool renaming false->aaM,true->aaL
open _root_.Option renaming none->aaK
open _root_.Nat renaming le_refl->YY,beq->YZ,eq_of_beq_eq_true->ZM,le_trans->Zj,lt_of_lt_of_le->Zv,min_eq_left->Z3
open _root_.Option.some renaming inj->YU
open _root_.Array renaming getElem?_append_left->aas,getElem?_eq_some_iff->Zx
open _root_.Go.Lib renaming compact->ZZ,indexByte->aad
open _root_.Go.Sort renaming ahead->ZX,grow->Z2,mapBlock->Z9,putCells->ZO,putRow->ZP
open _root_.List.cons renaming injEq->Z8
open _root_.List renaming drop_eq_getElem_cons->ZA,getElem?_drop->Zc,getElem?_take->Zo,length_append->Zf,replicate->Zq,take_length->Zh
open _root_.Go.Value renaming int->ZS,ownBlock->Zw
section
open _root_.Bool renaming false->aaM,true->aaL,and_eq_true->ZE
open _root_.Option renaming none->aaK,isSome_iff_exists->ZC,none_or->Z4
open _root_.Go.Addr.mk renaming injEq->aam
open _root_.Array renaming toArray_toList->ZF
open _root_.List.cons renaming injEq->Z8
open _root_.List renaming getElem?_drop->Zc,getElem?_eq_getElem->YX,getElem?_take->Zo,length_cons->Ze,mem_cons->Y6,mem_cons_of_mem->Zm,mem_cons_self->Zz
open _root_.Nat renaming add_zero->Z1,beq->YZ,eq_of_beq_eq_true->ZM,le_refl->YY
open _root_.Option.some renaming inj->YU,injEq->Y3
open _root_.Prod.mk renaming inj->aan
open _root_.Go.Result renaming andThen_ok->ZD
open _root_.Go.Sem renaming run_bind->Zs
open _root_.Go.Value.pointer renaming injEq->aaG
open _root_.Go.Value.slice renaming injEq->aag
namespace Go.Proofs.YtbladfbbhijpmaaGreat
open Go Go.RowKit
inductive Ex where
 |normal
 |exit (id:Nat)
 |ret
 |goto (l:Nat)
def Ex.qx:Ex->Exit
 | .normal=> .normal
 | .exit id=> .exit id
 | .ret=> .ret
 | .goto l=> .goto l
def noGoto{R:Type}(k:Ex->State->Option R):Ex->State->Option R
 | .goto _,_=>aaK
 |e,st=>k e st
inductive qy where
 |nil
 |two (a b:qy)
 |join (J:JS) (a b:qy)
 |meet (J:JS) (a b:qy)
 |loop (L:JS) (a:qy)
 |loopK (L:JS) (a:qy)
abbrev qy.o(a:qy):qy:= .two .nil a
def qy.l:qy->qy
 | .two a _=>a
 |_=> .nil
def qy.r:qy->qy
 | .two _ b=>b
 |_=> .nil
def mZ:List Oper->List Nat
 |[]=>[]
 |o::l=>match o.dst with
  |some d=>d::mZ l
  |none=>mZ l
def writes:Code->List Nat
 | .region _ ops _=>mZ ops.toList
 | .seq a b=>writes a++writes b
 | .cond _ a b=>writes a++writes b
 | .block _ a=>writes a
 | .loop a=>writes a
 | .scope a=>writes a
 |_=>[]
def yh:List Nat->List (Nat×ag)->List (Nat×ag)
 |[],l=>l
 |t::ts,l=>(t, .dead)::yh ts l
def Kg:List (Nat×OS)->List Nat
 |[]=>[]
 |(j,_)::l=>j::Kg l
def B5(st:State)(J:JS):List (Nat×(Nat×Th)):=del (Kg J.objs++J.drop) st.objs
def behind(st:State)(W:List Nat)(J:JS)(x:ct J.rows):State:=
 {ah:=(cn J.ah (cA _ x)).1++yh W st.ah,objs:=eV st.nxt J.objs (cn J.ah (cA _ x)).2++B5 st J,nxt:=J.nxt}
def Ax(st:State)(J:JS)(st1:State):Option (ct J.rows):=
 match um st.nxt (B5 st J) J st1.ah st1.objs with
 |some (x,_)=>some x
 |none=>aaK
def GG(ob:Nat->Option (Nat×Th))(n o:Nat):Option cU:=
 match ob o with
 |some (_, .deep T d l aaK)=>some {dst:= .dead,eat:=[o],make:=[(o,(n, .own T d.row l))]}
 |_=>aaK
def jX(st:State):List (Nat×OS)->State
 |[]=>st
 |(j, .own _ _)::os=>match GG (find st.objs) st.nxt j with
  |some e=>jX (st.apply aaK e) os
  |none=>jX st os
 |_::os=>jX st os
def GH(st:State)(t o:Nat)(r:Row):Option State:=
 match find st.objs o with
 |some (_, .box _ t0)=>match dS st.objs t0.owns with
  |some aD=>match find aD o with
   |some (_, .box _ t1)=>match flat (find aD) r t1 with
    |some x=>some (State.apply {st with objs:=aD} (some t) {dst:= .at r x,eat:=[o]})
    |none=>aaK
   |_=>aaK
  |none=>aaK
 |_=>aaK
noncomputable def vX{R:Type}(st:State)(k:State->Option R):List (Nat×SS)->Option R
 |[]=>k st
 |(t, .at r)::ss=>match find st.ah t with
  |some (.ptr o [] 0)=>match GH st t o r with
   |some cy=>vX cy k ss
   |none=>aaK
  |some (.dlm o d i [] 0)=>match dS st.objs [o]with
   |some aD=>match find aD o with
    |some (_, .fdeep _ d' l)=>bif YZ d.low.size d'.row.size then(idx l i).bind λx=>vX {ah:=(t, .at d'.row x)::st.ah,objs:=aD,nxt:=st.nxt} k ss else aaK
    |_=>aaK
   |none=>aaK
  |_=>vX st k ss
 |_::ss=>vX st k ss
noncomputable def carry(st:State)(J:JS)(st1:State):Option (ct J.rows):=vX (jX (lH st1) J.objs) (Ax st J) J.ah
def bF{J R:Type}(m:Option (J⊕R))(k:J->Option R):Option R:=m.bind λs=>match s with
 | .inl j=>k j
 | .inr r=>some r
def mc{S R:Type}(body:S->(S->Option R)->Option R):Nat->S->Option R
 |0,_=>aaK
 |n+1,s=>body s (mc body n)
theorem DY{P:Program}{n:Nat}{Q:Exit->(Nat->Value)->World->Prop}{ρ:Nat->Value}{w:World}{S R:Type}{body:S->(S->Option R)->Option R}{c:Code}(I:S->(Nat->Value)->World->Prop){q:R}{N:Nat}{s:S}(hm:mc body N s=some q)(h0:I s ρ w)
 (hb:∀(kk:S->Option R)s ρ w,I s ρ w->body s kk=some q->qW P n c (λe bZ w'=>match e with| .normal=>∃s',kk s'=some q/\I s' bZ w'|e=>Q e bZ w') ρ w):qW P n (.loop c) Q ρ w:=by
 intro a hf;refine wp_loop_rounds N ?_
 induction N generalizing s ρ w a with
 |zero=>cases hm
 |succ k ih=>
  rw[rounds_succ]
  refine wp_mono (hb (mc body k) s ρ w h0 hm a hf) λe a' w' ⟨bZ,ni,hh⟩=>?_
  cases e with
  |normal=>
   obtain⟨s',h1,h2⟩:=hh;exact ih h1 h2 a' ni
  |_=>exact⟨bZ,ni,hh⟩
noncomputable def exec{P:Program}(E:Env P)(nt N:Nat):Code->{R:Type}->qy->State->(Ex->State->Option R)->Option R
 | .skip,_,_,st,k=>k .normal st
 | .label _,_,_,st,k=>k .normal st
 | .scope x,_,a,st,k=>exec E nt N x a.l st (noGoto k)
 | .goto l,_,_,st,k=>k (.goto l) st
 | .ret,_,_,st,k=>k .ret st
 | .exit id,_,_,st,k=>k (.exit id) st
 | .cond c x y,_,a,st,k=>match C0 st.ah c with
   |some D=>match asBool D with
    |some b=>if b=aaL then exec E nt N x a.l st k else exec E nt N y a.r st k
    |none=>aaK
   |none=>aaK
 | .region _ ops draw,_,_,st,k=>bif draw then jW E nt ops ops.toList st [] (k .normal)else runs E nt ops ops.toList [] st (k .normal)
 | .seq x y,R,a,st,k=>match a with
   | .join J a1 a2=>bF (exec E nt N x (R:=ct J.rows⊕R) a1 st (λe cy=>match e with
       | .normal=>(carry st J cy).map .inl
       |e=>(k e cy).map .inr)) λj=>exec E nt N y a2 (behind st (writes x) J j) k
   | .meet J a1 a2=>(exec E nt N x (R:=ct J.rows) a1 st (λe cy=>match e with
       | .normal=>carry st J cy
       |_=>aaK)).bind λj=>exec E nt N y a2 (behind st (writes x) J j) k
   |a=>exec E nt N x a.l st (λe cy=>match e with
     | .normal=>exec E nt N y a.r cy k
     |e=>k e cy)
 | .block id x,R,a,st,k=>match a with
   | .join J a1 _=>bF (exec E nt N x (R:=ct J.rows⊕R) a1 st (λe cy=>match e with
       | .normal=>(carry st J cy).map .inl
       | .exit i=>bif YZ i id then(carry st J cy).map .inl else(k (.exit i) cy).map .inr
       |e=>(k e cy).map .inr)) λj=>k .normal (behind st (writes x) J j)
   | .meet J a1 _=>(exec E nt N x (R:=ct J.rows) a1 st (λe cy=>match e with
       | .normal=>carry st J cy
       | .exit i=>bif YZ i id then carry st J cy else aaK
       |_=>aaK)).bind λj=>k .normal (behind st (writes x) J j)
   |a=>exec E nt N x a.l st (λe cy=>match e with
     | .exit i=>bif YZ i id then k .normal cy else k (.exit i) cy
     |e=>k e cy)
 | .loop x,R,a,st,k=>match a with
   | .loop L a1=>match carry st L st with
     |some s0=>Loop (S:=ct L.rows) (X:=R) (λs=>exec E nt N x (R:=ct L.rows⊕R) a1 (behind st (writes x) L s) (λe cy=>match e with
       | .normal=>(carry st L cy).map .inl
       |e=>(k e cy).map .inr)) N s0
     |none=>aaK
   | .loopK L a1=>match carry st L st with
     |some s0=>mc (S:=ct L.rows) (R:=R) (λs kk=>exec E nt N x (R:=R) a1 (behind st (writes x) L s) (λe cy=>match e with
       | .normal=>(carry st L cy).bind kk
       |e=>k e cy)) N s0
     |none=>aaK
   |_=>aaK
 |_,_,_,_,_=>aaK
section
variable {P:Program} {nt N:Nat} {R:Type}
variable {ρ:Nat->Value} {w w0:World} {H:aj} {F F0 G:Nat->Prop}
theorem Ay{W:List Nat}{l:List (Nat×ag)}{t:Nat}{d:ag}(h:find (yh W l) t=some d):d= .dead\/(t∉W/\find l t=some d):=by
 induction W with
 |nil=>exact .inr ⟨by simp,h⟩
 |cons s W ih=>
  have h':find ((s,ag.dead)::yh W l) t=some d:=h;rw[ax]at h';split at h'
  .exact .inl (YU h').symm
  .rename_i e
   rcases ih h' with h1|⟨h1,h2⟩
   .exact .inl h1
   .exact .inr ⟨by simp[h1,Ne.symm e],h2⟩
theorem DZ{st st1:State}{W:List Nat}{J:JS}{x:ct J.rows}{H1:aj}{F1:Nat->Prop}{w1:World}{ER:Nat->Value}(h:Ax st J st1=some x)(hh:bX G w0 F0 H F w ρ st)(jN:bX G w0 F0 H1 F1 w1 ER st1)(hk:bM H F w H1 F1 w1)
 (J6:∀t,t∉W->ER t=ρ t):∃H2 F2,bX G w0 F0 H2 F2 w1 ER (behind st W J x)/\bM H F w H2 F2 w1:=by
 unfold Ax at h;split at h
 case h_2=>cases h
 rename_i _ y rest hp;obtain⟨bs,aD⟩:=rest;obtain rfl:=YU h;obtain⟨F2,H2,a1,a2,a3,_,a5,_,a6,a7,a8⟩:=r7 (U':=UU G w0) hp hh.sat.ob hh.sat.all hk jN.sat.ob jN.sat.slot
 have dZ:Step F1 w1 F2 w1:=λb hb=>⟨a2 b hb,rfl⟩
 have bR:=a8 jN.sat.ob.new (λo s t v k _ h2 h3 h4=>by
  obtain⟨v',cV,bL⟩:=a1.obj _ _ _ h2;rw[h3]at cV;obtain rfl:=YU cV
  exact bL.use k h4) (λo s t v k h2 h3 h4=>by
  have h5:=(fi.1 h2).2;obtain⟨v',cV,bL⟩:=hh.sat.ob.obj _ _ _ h5;rw[hk.eL.val _ _ cV]at h3;obtain rfl:=YU h3
  exact bL.use k (by rwa [hk.eL.sub _ _ bL.con]at h4))
 refine⟨H2,F2,⟨⟨λt d hd=>?_,bR,a6⟩,⟨jN.glob.ext,λb hb=>a2 b (jN.glob.le b hb),λb hb=>?_⟩⟩,⟨a5,λb hb=>⟨a2 b (hk.step b hb).1,(hk.step b hb).2⟩⟩⟩
 .have tK:find ((cn J.ah (cA J.rows y)).1++yh W st.ah) t=some d:=hd;rw[fh]at tK
  cases hm:find (cn J.ah (cA J.rows y)).1 t with
  |some d'=>
   rw[hm]at tK;obtain rfl:=YU tK;exact a7 t _ hm
  |none=>
   rw[hm,Z4]at tK
   rcases Ay tK with rfl|⟨h1,h2⟩
   .trivial
   .rw[J6 t h1]
    exact(hh.sat.slot t d h2).keep a5 λb hb=>⟨a2 b (hk.step b hb).1,(hk.step b hb).2⟩
 .rcases a3 b hb with h1|h1
  .exact jN.glob.new b h1
  .exact .inr (jN.sat.ob.eh b h1)
theorem D1{U:Nat->Prop}{ob:Nat->Option (Nat×Th)}{n:Nat}(hs:al U H F w ob n){o:Nat}{e:cU}(h:GG ob n o=some e):jc H F w ob n e undef w:=by
 unfold GG at h;split at h
 case h_2=>cases h
 rename_i s T d l bR;obtain rfl:=YU h;obtain⟨v,hv,bL⟩:=hs.obj _ _ _ bR
 obtain⟨lh,Ss,⟨xs,hx,MV⟩,h2,h3,h4⟩:=(show CX F w T d.low (k6 H F w d aaK) v l (H.sub s)from bL.ok)
 have hn:∀k,H.sub s k->¬F k:=bL.no
 have zw:fN 0 (λb=>F b\/∃i,i<l.length/\Ss i b) w T d.row v l:=by
  refine⟨λk hk hF=>?_,xs,?_,λi hi=>?_⟩
  .rcases hF with hF|⟨i,hi,hm⟩
   .exact hn k (h4.ba k hk) hF
   .exact h4.out i k hi hm hk
  .rw[<-d.size,<-h2];exact hx
  .have ik:i<lh.length:=by omega
   have:=gI.freeze (h3 i ik hi) (λk hk=>hn k (h4.part hi k hk)) (MV i ik);rw[<-d.size]
   exact this.step λb hb=>⟨hb.imp id λhb=>⟨i,hi,hb⟩,rfl⟩
 have hf:=hs.fresh n (YY _) (by omega)
 have eU:∀k,H.sub s k->bE H ob [o] k:=λk hk=>⟨o,by simp,s,_,v,bR,hv,hk⟩
 refine⟨H.aV n (.own T d.row l),λb=>F b\/∃i,i<l.length/\Ss i b,⟨⟨λ_ _ h=>h,λs' t h=>?_,λs' t h=>?_⟩,⟨rfl,⟨rfl,YY _⟩,rfl,YY _,λ_ _ _=>rfl⟩,λ_ h=> .inl h,λb hb=>?_,λb hb=>?_⟩,λm hm=>⟨id,λh=>?_⟩,trivial,⟨λo' s' q hq=>?_,λo1 o2 s1 s2 q1 q2 u1 u2 cq g1 g2=>?_⟩,λo' h=>?_⟩
 .have:s'≠n:=λe=>by rw[e,hf.2]at h;cases h
  simp[aj.aV,this,h]
 .rfl
 .rcases hb with hb|⟨i,hi,hb⟩
  .exact .inl hb
  .exact .inr (.inr (eU b (h4.part hi b hb)))
 .rcases hb with hb|⟨i,hi,hb⟩
  .exact hs.lt b hb
  .exact bL.lt b (h4.part hi b hb)
 .simp[aj.aV,show m≠n from by omega,h]
 .obtain⟨rfl,e⟩:=bB hq;obtain⟨rfl,rfl⟩:=aan e;refine⟨v,hv,bL.one,by simp[aj.aV,Th.base],zw.2,λk hk=>⟨zw.1 k hk,bL.lt k (h4.ba k hk), .inr (eU k (h4.ba k hk))⟩⟩
 .exact absurd ((bB g1).1.trans (bB g2).1.symm) cq
 .left
  obtain⟨y,hy⟩:=ZC.1 h;rw[(bB hy).1];simp
theorem bX.jX:(os:List (Nat×OS))->{st:State}->{H:aj}->{F:Nat->Prop}->bX G w0 F0 H F w ρ st->∃H' F',bX G w0 F0 H' F' w ρ (jX st os)/\bM H F w H' F' w
 |[],_,H,F,h=>⟨H,F,h,bM.refl H F w⟩
 |(j, .own _ _)::os,st,H,F,h=>by
  unfold Go.Proofs.YtbladfbbhijpmaaGreat.jX;split
  .rename_i e he;obtain⟨H',F',hp⟩:=D1 h.sat.ob he;have hs:=h.sat.apply (d:=aaK) hp;obtain⟨H2,F2,h2,k2⟩:=bX.jX os (st:=st.apply aaK e) ⟨hs,h.glob.iB hp.iB h.sat.ob.eh⟩;exact⟨H2,F2,h2,(bM.uB hp.iB h.sat.ob.lt h.sat.ob.dx).trans k2⟩
  .exact bX.jX os h
 |(_, .box ..)::os,_,_,_,h=>bX.jX os h
 |(_, .map ..)::os,_,_,_,h=>bX.jX os h
 |(_, .deep ..)::os,_,_,_,h=>bX.jX os h
 |(_, .smap ..)::os,_,_,_,h=>bX.jX os h
theorem bX.GH{st cy:State}{t o:Nat}{r:Row}(h:bX G w0 F0 H F w ρ st)(fc:find st.ah t=some (.ptr o [] 0))(hb:GH st t o r=some cy):∃F',bX G w0 F0 H F' w ρ cy/\bM H F w H F' w:=by
 unfold Go.Proofs.YtbladfbbhijpmaaGreat.GH at hb;split at hb
 case h_2=>cases hb
 split at hb
 case h_2=>cases hb
 rename_i aD tf;obtain⟨F1,h1,k1⟩:=h.pf tf;split at hb
 case h_2=>cases hb
 rename_i s1 T1 t1 bR;split at hb
 case h_2=>cases hb
 rename_i x hx;obtain rfl:=YU hb;obtain⟨v,hv,bL⟩:=h1.sat.ob.obj _ _ _ bR
 obtain⟨b,es,rfl,VX,hold⟩:=(show∃b es,v= .pointer (some ⟨b,0,aaK⟩)/\w.heap[b]? =some (.cells es.toArray T1 (0,0))/\Holds H F1 w t1 es from bL.ok)
 obtain⟨b',cV,k9⟩:=h.sat.slot t _ fc;rw[hv]at cV;simp only[Y3,aaG,aam,and_true]at cV;subst cV;have oE:=eM h1.sat.ob hx hold
 have hg:bE H (find aD) [o] b:=⟨o,by simp,s1,_,_,bR,hv,rfl⟩
 have dZ:Step F1 w (λk=>F1 k\/k=b) w:=λk hk=>⟨.inl hk,rfl⟩
 have hp:iX H F1 w (find aD) st.nxt {dst:= .at r x,eat:=[o]} (ρ t) w H (λk=>F1 k\/k=b):=
  ⟨⟨aj.le.refl H,⟨rfl,⟨rfl,YY _⟩,rfl,YY _,λ_ _ _=>rfl⟩,λ_ hk=> .inl hk,λk hk=>hk.elim .inl λe=> .inr (.inr (e▸hg)),λk hk=>hk.elim (h1.sat.ob.lt k) λe=>by rw[e];exact bL.lt b rfl⟩,λm _=>⟨id,id⟩,
    ⟨b,0,k9, .inr rfl,es,oE.length,λj u hu=>by
      show w.cell? ⟨b,0+j,aaK⟩=some u
      simp[World.cell?,VX,hu],oE.step dZ⟩,⟨λ_ _ _ h=>(by cases h),λ_ _ _ _ _ _ _ _ _ h=>(by cases h)⟩,λ_ h=>(by cases h)⟩
 have hs:=h1.sat.apply (d:=some t) hp
 have VY:qM ρ (some t) (ρ t)=ρ:=by
  funext u
  show za ρ t (ρ t) u=ρ u
  rw[k7];split
  .rename_i e;rw[e]
  .rfl
 rw[VY]at hs;exact⟨_,⟨hs,h1.glob.iB hp.iB h1.sat.ob.eh⟩,k1.trans (bM.uB hp.iB h1.sat.ob.lt h1.sat.ob.dx)⟩
theorem bX.vX{R:Type}{k:State->Option R}{q:R}:(ss:List (Nat×SS))->{st:State}->{H:aj}->{F:Nat->Prop}->bX G w0 F0 H F w ρ st->vX st k ss=some q->∃st2 H' F',k st2=some q/\bX G w0 F0 H' F' w ρ st2/\bM H F w H' F' w
 |[],st,H,F,h,hk=>⟨st,H,F,hk,h,bM.refl H F w⟩
 |(t, .at r)::ss,st,H,F,h,hk=>by
  unfold Go.Proofs.YtbladfbbhijpmaaGreat.vX at hk;split at hk
  .rename_i o fc;split at hk
   case h_2=>cases hk
   rename_i cy VZ;obtain⟨F1,h1,k1⟩:=h.GH fc VZ;obtain⟨st2,H2,F2,g1,g2,g3⟩:=bX.vX ss h1 hk;exact⟨st2,H2,F2,g1,g2,k1.trans g3⟩
  .rename_i o d i fc;split at hk
   case h_2=>cases hk
   rename_i aD tf;obtain⟨F1,h1,k1⟩:=h.pf tf;split at hk
   case h_2=>cases hk
   rename_i s1 T1 d' l bR;obtain⟨iA,hk⟩:=ay hk;have iA:=ZM iA;obtain⟨x,hx,Po⟩:=bind_some hk;obtain⟨j,rfl,hj,V0⟩:=ef hx;obtain⟨g,o0,q0,m,cap,hv,hq,k9⟩:=h1.sat.slot t _ fc;obtain⟨v,cV,bL⟩:=h1.sat.ob.obj _ _ _ bR;rw[hv]at cV;obtain rfl:=YU cV
   obtain⟨A,Fj,e1,_,_,qI⟩:=(show bN F1 w (.slice d'.row) [_] l from bL.ok)
   obtain⟨b,off,es,hA,V2,hlen,ot,oE⟩:=qI j hj;simp only[Z8,aag,and_true]at e1;obtain⟨e1,_,_⟩:=e1;rw[<-e1]at hA;simp only[Y3,aam,and_true]at hA;obtain⟨rfl,rfl⟩:=hA
   have pb:af H F1 w (.at d'.row x) (ρ t):=by
    have e:j=q0:=by omega
    subst e;refine⟨g,o0+j*d.low.size+0,k9,V2,es,hlen,λjj u hu=>?_,by rw[<-V0];exact oE⟩;rw[iA];exact ot jj u hu
   obtain⟨st2,H2,F2,g1,g2,g3⟩:=bX.vX ss (st:={ah:=(t, .at d'.row x)::st.ah,objs:=aD,nxt:=st.nxt}) ⟨⟨λt' q' qi=>by
    have qi:find ((t,ag.at d'.row x)::st.ah) t'=some q':=qi;rw[ax]at qi;by_cases e:t=t'
    .subst e;rw[aaP rfl]at qi;obtain rfl:=YU qi;exact pb
    .rw[aaO e]at qi
     exact h1.sat.slot t' q' qi,h1.sat.ob,h1.sat.all⟩,h1.glob⟩ Po
   exact⟨st2,H2,F2,g1,g2,k1.trans g3⟩
  .exact bX.vX ss h hk
 |(_, .val ..)::ss,_,_,_,h,hk=>bX.vX ss h hk
 |(_, .ptr ..)::ss,_,_,_,h,hk=>bX.vX ss h hk
 |(_, .undef)::ss,_,_,_,h,hk=>bX.vX ss h hk
 |(_, .fn ..)::ss,_,_,_,h,hk=>bX.vX ss h hk
 |(_, .ifc ..)::ss,_,_,_,h,hk=>bX.vX ss h hk
theorem iO{st st1:State}{W:List Nat}{J:JS}{x:ct J.rows}{H1:aj}{F1:Nat->Prop}{w1:World}{ER:Nat->Value}(h:carry st J st1=some x)(hh:bX G w0 F0 H F w ρ st)(jN:bX G w0 F0 H1 F1 w1 ER st1)(hk:bM H F w H1 F1 w1)
 (J6:∀t,t∉W->ER t=ρ t):∃H2 F2,bX G w0 F0 H2 F2 w1 ER (behind st W J x)/\bM H F w H2 F2 w1:=by
 obtain⟨Yo,Yp,Q6,jd⟩:=jN.lH;obtain⟨Yq,Yr,Q7,Mo⟩:=Q6.jX J.objs;unfold carry at h;obtain⟨st2,Ys,Yt,h3,V3,V4⟩:=Q7.vX J.ah h;exact DZ h3 hh V3 (((hk.trans jd).trans Mo).trans V4) J6
theorem qz{l:List Oper}{o:Oper}{t:Nat}(ho:o∈l)(hd:o.dst=some t):t∈mZ l:=by
 induction l with
 |nil=>cases ho
 |cons p l ih=>
  rcases Y6.1 ho with rfl|h
  .unfold mZ;rw[hd];exact Zz
  .unfold mZ;split
   .exact Zm _ (ih h)
   .exact ih h
structure Li(G:Nat->Prop)(w0:World)(F0:Nat->Prop)(W:List Nat)(H:aj)(F:Nat->Prop)(w:World)(ρ:Nat->Value)(H':aj)(F':Nat->Prop)(w':World)(bZ:Nat->Value)(cy:State):Prop where
 here:bX G w0 F0 H' F' w' bZ cy
 keeps:bM H F w H' F' w'
 same:∀t,t∉W->bZ t=ρ t
theorem map_inl{α β:Type}{o:Option α}{f:α->β}{r:β}(h:o.map f=some r):∃x,o=some x/\f x=r:=Option.map_eq_some_iff.1 h
theorem fF{E:Env P}:(c:Code)->{R:Type}->{q:R}->{a:qy}->{st:State}->{k:Ex->State->Option R}->{H:aj}->{F:Nat->Prop}->{w:World}->{ρ:Nat->Value}->{Q:Exit->(Nat->Value)->World->Prop}->
 exec E nt N c a st k=some q->bX G w0 F0 H F w ρ st->
 (∀e cy H' F' w' bZ,k e cy=some q->Li G w0 F0 (writes c) H F w ρ H' F' w' bZ cy->Q e.qx bZ w')->qW P nt c Q ρ w
 | .skip,R,q,a,st,k,H,F,w,ρ,Q,h,hh,hk=>EY (hk .normal st H F w ρ h ⟨hh,bM.refl H F w,λ_ _=>rfl⟩)
 | .ret,R,q,a,st,k,H,F,w,ρ,Q,h,hh,hk=>Is (hk .ret st H F w ρ h ⟨hh,bM.refl H F w,λ_ _=>rfl⟩)
 | .exit id,R,q,a,st,k,H,F,w,ρ,Q,h,hh,hk=>EZ (hk (.exit id) st H F w ρ h ⟨hh,bM.refl H F w,λ_ _=>rfl⟩)
 | .cond c x y,R,q,a,st,k,H,F,w,ρ,Q,h,hh,hk=>by
   unfold exec at h;split at h
   case h_2=>cases h
   rename_i D hD;split at h
   case h_2=>cases h
   rename_i b hb;have hv:=kA hb (pg hh.sat.ob.gl hh.sat.slot _ _ hD);split at h
   .rename_i e;subst e;exact E0 hv (fF x h hh λe cy H' F' w' bZ h1 h2=>hk e cy H' F' w' bZ h1 ⟨h2.here,h2.keeps,λt ht=>h2.same t λhm=>ht (by simp[writes,hm])⟩)
   .rename_i e
    have e:b=aaM:=by cases b<;>simp_all
    subst e;exact CA hv (fF y h hh λe cy H' F' w' bZ h1 h2=>hk e cy H' F' w' bZ h1 ⟨h2.here,h2.keeps,λt ht=>h2.same t λhm=>ht (by simp[writes,hm])⟩)
 | .region id ops draw,R,q,a,st,k,H,F,w,ρ,Q,h,hh,hk=>by
   unfold exec at h
   cases draw with
   |true=>
    rw[cond_true]at h
    exact Jb E.mix h hh λcy H' F' w' bZ h1 h2 h3 h4=>hk .normal cy H' F' w' bZ h1 ⟨h2,h3,λt ht=>h4 t λo ho e=>ht (qz ho e)⟩
   |false=>
    rw[cond_false]at h
    have:=vH (K:=λρ w=>Q .normal ρ w) (ops:=ops) (nt:=nt) h (λ_ _ h=>by cases h) hh λcy H' F' w' bZ h1 h2 h3 h4=>hk .normal cy H' F' w' bZ h1 ⟨h2,h3,λt ht=>h4 t λo ho e=>ht (qz ho e)⟩
    have h2:=zr (id:=id) (l:=ops.toList) (P:=P) (n:=nt) (Q:=Q) (ρ:=ρ) (w:=w) (by rw[ZF];exact this);rw[ZF]at h2;exact h2
 | .seq x y,R,q,a,st,k,H,F,w,ρ,Q,h,hh,hk=>by
   have fin:∀{H1:aj}{F1:Nat->Prop}{w1:World}{ER:Nat->Value}{st1:State}{a2:qy},exec E nt N y a2 st1 k=some q->bX G w0 F0 H1 F1 w1 ER st1->bM H F w H1 F1 w1->(∀t,t∉writes x->ER t=ρ t)->qW P nt y Q ER w1:=by
    intro H1 F1 w1 ER st1 a2 g1 g2 g3 g4
    exact fF y g1 g2 λe cy H' F' w' bZ h1 h2=>hk e cy H' F' w' bZ h1 ⟨h2.here,g3.trans h2.keeps,λt ht=>(h2.same t λhm=>ht (by simp[writes,hm])).trans (g4 t λhm=>ht (by simp[writes,hm]))⟩
   have out:∀{e:Ex}{cy:State}{H':aj}{F':Nat->Prop}{w':World}{bZ:Nat->Value},k e cy=some q->Li G w0 F0 (writes x) H F w ρ H' F' w' bZ cy->Q e.qx bZ w':=by
    intro e cy H' F' w' bZ g1 g2;exact hk e cy H' F' w' bZ g1 ⟨g2.here,g2.keeps,λt ht=>g2.same t λhm=>ht (by simp[writes,hm])⟩
   unfold exec at h;split at h
   .rename_i J a1 a2;unfold bF at h;obtain⟨s,hs,h⟩:=bind_some h;refine u9 (fF x hs hh λe cy H' F' w' bZ h1 h2=>?_)
    cases e with
    |normal=>
     obtain⟨j,hj,rfl⟩:=map_inl h1;obtain⟨H2,F2,g1,g2⟩:=iO (W:=writes x) hj hh h2.here h2.keeps h2.same;exact fin h g1 g2 h2.same
    |exit id=>
     obtain⟨r,hr,rfl⟩:=map_inl h1;obtain rfl:=YU h;exact out hr h2
    |ret=>
     obtain⟨r,hr,rfl⟩:=map_inl h1;obtain rfl:=YU h;exact out hr h2
    |goto l=>
     obtain⟨r,hr,rfl⟩:=map_inl h1;obtain rfl:=YU h;exact out hr h2
   .rename_i J a1 a2;obtain⟨s,hs,h⟩:=bind_some h;refine u9 (fF x hs hh λe cy H' F' w' bZ h1 h2=>?_)
    cases e with
    |normal=>
     obtain⟨H2,F2,g1,g2⟩:=iO (W:=writes x) h1 hh h2.here h2.keeps h2.same;exact fin h g1 g2 h2.same
    |exit id=>cases h1
    |ret=>cases h1
    |goto l=>cases h1
   .refine u9 (fF x h hh λe cy H' F' w' bZ h1 h2=>?_)
    cases e with
    |normal=>exact fin h1 h2.here h2.keeps h2.same
    |exit id=>exact out h1 h2
    |ret=>exact out h1 h2
    |goto l=>exact out h1 h2
 | .block id x,R,q,a,st,k,H,F,w,ρ,Q,h,hh,hk=>by
   have hw:writes (.block id x)=writes x:=rfl;rw[hw]at hk
   have Q8:∀{e:Ex}{bZ:Nat->Value}{w':World},(match e with| .exit i=>if i=id then Q .normal bZ w' else Q (.exit i) bZ w'|e=>Q e.qx bZ w')->Mm id Q e.qx bZ w':=by
    intro e bZ w' g
    cases e with
    |normal=>exact g
    |ret=>exact g
    |goto l=>exact g
    |exit i=>
     by_cases e:i=id
     .subst e;simp only[aaP]at g;exact Fq g
     .simp only[aaO e]at g;refine CQ ?_ g
      cases hb:YZ i id with
      |false=>rfl
      |true=>exact absurd (beq_true hb) e
   have Az:∀{i:Nat},i≠id->YZ i id=aaM:=λ{i}e=>by
    cases hb:YZ i id with
    |false=>rfl
    |true=>exact absurd (beq_true hb) e
   unfold exec at h;split at h
   .rename_i J a1 a2;unfold bF at h;obtain⟨s,hs,h⟩:=bind_some h;refine o9 (fF x hs hh λe cy H' F' w' bZ h1 h2=>Q8 ?_)
    have inn:(carry st J cy).map Sum.inl=some s->Q .normal bZ w':=λh1=>by
     obtain⟨j,hj,rfl⟩:=map_inl h1;obtain⟨H2,F2,g1,g2⟩:=iO (W:=writes x) hj hh h2.here h2.keeps h2.same;exact hk .normal _ H2 F2 w' bZ h ⟨g1,g2,h2.same⟩
    have out:∀{e:Ex},(k e cy).map Sum.inr=some s->Q e.qx bZ w':=λ{e}h1=>by
     obtain⟨r,hr,rfl⟩:=map_inl h1;obtain rfl:=YU h;exact hk e cy H' F' w' bZ hr h2
    cases e with
    |normal=>exact inn h1
    |exit i=>
     show if i=id then _ else _
     by_cases e:i=id
     .subst e;rw[aaP rfl];refine inn ?_;simpa using h1
     .rw[aaO e];simp only[Az e,cond_false]at h1;exact out (e:= .exit i) h1
    |ret=>exact out (e:= .ret) h1
    |goto l=>exact out (e:= .goto l) h1
   .rename_i J a1 a2;obtain⟨s,hs,h⟩:=bind_some h;refine o9 (fF x hs hh λe cy H' F' w' bZ h1 h2=>Q8 ?_)
    have inn:carry st J cy=some s->Q .normal bZ w':=λh1=>by
     obtain⟨H2,F2,g1,g2⟩:=iO (W:=writes x) h1 hh h2.here h2.keeps h2.same;exact hk .normal _ H2 F2 w' bZ h ⟨g1,g2,h2.same⟩
    cases e with
    |normal=>exact inn h1
    |exit i=>
     show if i=id then _ else _
     by_cases e:i=id
     .subst e;rw[aaP rfl];refine inn ?_;simpa using h1
     .simp only[Az e,cond_false]at h1;cases h1
    |ret=>cases h1
    |goto l=>cases h1
   .refine o9 (fF x h hh λe cy H' F' w' bZ h1 h2=>Q8 ?_)
    cases e with
    |normal=>exact hk .normal cy H' F' w' bZ h1 h2
    |exit i=>
     show if i=id then _ else _
     by_cases e:i=id
     .subst e;rw[aaP rfl];refine hk .normal cy H' F' w' bZ ?_ h2;simpa using h1
     .rw[aaO e];simp only[Az e,cond_false]at h1;exact hk (.exit i) cy H' F' w' bZ h1 h2
    |ret=>exact hk .ret cy H' F' w' bZ h1 h2
    |goto l=>exact hk (.goto l) cy H' F' w' bZ h1 h2
 | .loop x,R,q,a,st,k,H,F,w,ρ,Q,h,hh,hk=>by
   have hw:writes (.loop x)=writes x:=rfl;rw[hw]at hk;unfold exec at h;split at h
   case h_3=>cases h
   case h_2=>
    rename_i L a1;split at h
    case h_2=>cases h
    rename_i s0 IX;refine DY (λs bZ w'=>∃H' F',bX G w0 F0 H' F' w' bZ (behind st (writes x) L s)/\bM H F w H' F' w'/\∀t,t∉writes x->bZ t=ρ t) h ?_ ?_
    .obtain⟨H2,F2,g1,g2⟩:=iO (W:=writes x) IX hh hh (bM.refl H F w) λ_ _=>rfl
     exact⟨H2,F2,g1,g2,λ_ _=>rfl⟩
    .rintro kk s bZ w' ⟨H',F',g1,g2,g3⟩ hy
     refine fF x hy g1 λe cy qL z6 q6 pU h1 h2=>?_
     have sm:∀t,t∉writes x->pU t=ρ t:=λt ht=>(h2.same t ht).trans (g3 t ht)
     cases e with
     |normal=>
      obtain⟨j,hj,CZ⟩:=Option.bind_eq_some_iff.1 h1;obtain⟨H2,F2,m1,m2⟩:=iO (W:=writes x) hj hh h2.here (g2.trans h2.keeps) sm;exact⟨j,CZ,H2,F2,m1,m2,sm⟩
     |exit i=>exact hk (.exit i) cy qL z6 q6 pU h1 ⟨h2.here,g2.trans h2.keeps,sm⟩
     |ret=>exact hk .ret cy qL z6 q6 pU h1 ⟨h2.here,g2.trans h2.keeps,sm⟩
     |goto l=>exact hk (.goto l) cy qL z6 q6 pU h1 ⟨h2.here,g2.trans h2.keeps,sm⟩
   rename_i L a1;split at h
   case h_2=>cases h
   rename_i s0 IX;refine E1 (λs bZ w'=>∃H' F',bX G w0 F0 H' F' w' bZ (behind st (writes x) L s)/\bM H F w H' F' w'/\∀t,t∉writes x->bZ t=ρ t) h ?_ ?_
   .obtain⟨H2,F2,g1,g2⟩:=iO (W:=writes x) IX hh hh (bM.refl H F w) λ_ _=>rfl
    exact⟨H2,F2,g1,g2,λ_ _=>rfl⟩
   .rintro s bZ w' y ⟨H',F',g1,g2,g3⟩ hy
    refine fF x hy g1 λe cy qL z6 q6 pU h1 h2=>?_
    have sm:∀t,t∉writes x->pU t=ρ t:=λt ht=>(h2.same t ht).trans (g3 t ht)
    have out:∀{e:Ex},e≠ .normal->(k e cy).map Sum.inr=some y->JP (λs bZ w'=>∃H' F',bX G w0 F0 H' F' w' bZ (behind st (writes x) L s)/\bM H F w H' F' w'/\∀t,t∉writes x->bZ t=ρ t) Q q y e.qx pU q6:=λ{e}he h1=>by
     obtain⟨r,hr,rfl⟩:=map_inl h1;refine⟨by cases e<;>simp_all[Ex.qx],λhq=>?_⟩;subst hq;exact hk e cy qL z6 q6 pU hr ⟨h2.here,g2.trans h2.keeps,sm⟩
    cases e with
    |normal=>
     obtain⟨j,hj,rfl⟩:=map_inl h1;obtain⟨H2,F2,m1,m2⟩:=iO (W:=writes x) hj hh h2.here (g2.trans h2.keeps) sm;exact⟨rfl,H2,F2,m1,m2,sm⟩
    |exit i=>exact out (e:= .exit i) (by simp) h1
    |ret=>exact out (e:= .ret) (by simp) h1
    |goto l=>exact out (e:= .goto l) (by simp) h1
 | .label l,R,q,a,st,k,H,F,w,ρ,Q,h,hh,hk=>λact hf=>wp_label ⟨ρ,hf,hk .normal st H F w ρ h ⟨hh,bM.refl H F w,λ_ _=>rfl⟩⟩
 | .scope x,R,q,a,st,k,H,F,w,ρ,Q,h,hh,hk=>by
   have h1:=fF (Q:=λe ρ w=>match e with| .goto _=>False|e=>Q e ρ w) x (show exec E nt N x a.l st (noGoto k)=some q from h) hh λe cy H' F' w' bZ h1 h2=>by
    cases e with
    |goto l=>cases h1
    |_=>exact hk _ cy H' F' w' bZ h1 h2
   intro act hf;refine wp_scope_straight (wp_mono (h1 act hf) λe a' w' ⟨bZ,ni,Pn⟩=>?_)
   cases e<;>first
    |exact Pn.elim
    |exact⟨bZ,ni,Pn⟩
 | .goto l,R,q,a,st,k,H,F,w,ρ,Q,h,hh,hk=>λact hf=>wp_goto ⟨ρ,hf,hk (.goto l) st H F w ρ h ⟨hh,bM.refl H F w,λ_ _=>rfl⟩⟩
 | .rangeFunc ..,_,_,_,_,_,_,_,_,_,_,h,_,_=>by cases h
 | .refuse _,_,_,_,_,_,_,_,_,_,_,h,_,_=>by cases h
end
end Go.Proofs.YtbladfbbhijpmaaGreat
namespace Go.Proofs.YtbladfbbhijpmaaGreat
open Go Go.RowKit
def vY{P:Program}(T:aJ P)(ah:List (Nat×ag))(objs:List (Nat×(Nat×Th)))(t:Nat)(T0:TypeId):Option ag:=
 match find T.und T0 with
 |none=>aaK
 |some kk=>match find ah t with
  |some (.ptr o p off)=>match find objs o with
   |some (_, .box _ tr)=>match tr.get p with
    |some (s,cN)=>bif YZ cN off&&jv T T0 kk s.size then some (.val (gJ kk) s)else aaK
    |none=>aaK
   |_=>aaK
  |_=>aaK
def vZ{P:Program}(T:aJ P)(ah:List (Nat×ag))(objs:List (Nat×(Nat×Th))):List ResultVar->Option (List ag)
 |[]=>some []
 | .tmp t::l=>match find ah t with
   |some d=>match vZ T ah objs l with
    |some ds=>some (d::ds)
    |none=>aaK
   |none=>aaK
 | .cell t T0::l=>match vY T ah objs t T0 with
   |some d=>match vZ T ah objs l with
    |some ds=>some (d::ds)
    |none=>aaK
   |none=>aaK
noncomputable def Lj{P:Program}(T:aJ P)(rs:List ResultVar)(nb:Nat)(out:JS)(st:State):Option (ct out.rows):=
 match vZ T st.ah st.objs rs with
 |some ds=>vX {ah:=fo 0 ds,objs:=(lH st).objs,nxt:=(lH st).nxt} (λst1=>match um nb [] out st1.ah st1.objs with
  |some (x,_)=>some x
  |none=>aaK) out.ah
 |none=>aaK
def init(inn:JS)(x:ct inn.rows):State:=
 {ah:=(cn inn.ah (cA _ x)).1,objs:=eV 0 inn.objs (cn inn.ah (cA _ x)).2,nxt:=inn.nxt}
noncomputable def NR{P:Program}(T:aJ P)(rs:List ResultVar)(nb:Nat)(out:JS):Ex->State->Option (ct out.rows)
 | .exit _,_=>aaK
 | .goto _,_=>aaK
 |_,st=>Lj T rs nb out st
noncomputable def Lk{P:Program}(E:Env P)(nt N:Nat)(c:Code)(rs:List ResultVar)(a:qy)(inn out:JS)(x:ct inn.rows):Option (ct out.rows):=
 exec E nt N c a (init inn x) (NR E.T rs inn.nxt out)
section
variable {P:Program} {ρ:Nat->Value} {w:World} {H:aj} {F:Nat->Prop} {U:Nat->Prop} {n:Nat}
theorem yi(T:aJ P){t:TypeId}{kk:EN}(hu:find T.und t=some kk){b off:Nat}{s:Tree}{cs:List Value}(hh:Holds H F w s cs)(hc:∀j u,cs[j]? =some u->w.cell? ⟨b,off+j,aaK⟩=some u)
 (hz:if gJ kk=aaL then∃r,find T.row t=some r/\r.size=s.size else s.size=1):∃v,(loadVar t ⟨b,off,aaK⟩).run P w= .ok v w/\aw H F w (gJ kk) s v:=by
 obtain⟨dd,tQ,sW⟩:=(T.und_ok _ _ hu).agg;have hl:=hh.length
 cases ha:gJ kk with
 |true=>
  rw[aaP ha]at hz;obtain⟨r,hr,Ia⟩:=hz;obtain⟨ti,z,h1,_,_,h4,_⟩:=T.row_ok _ _ hr
  have QK:(loadCells ⟨b,off,aaK⟩ cs.length).run P w= .ok cs.toArray w:=
   run_loadCells_list (P:=P) w ⟨b,off,aaK⟩ cs (λj v hv=>by rw[bT];exact hc j v hv)
  refine⟨.agg cs.toArray,?_,cs,hh,rfl,by simp⟩
  have iA:ti.size=cs.length:=by omega
  simp[loadVar,Zs,dG tQ,sW.trans ha,sizeOf,typeInfo,h1,iA,QK]
 |false=>
  rw[aaO (by simp[ha])]at hz
  obtain⟨v,rfl⟩:∃v,cs=[v]:=by
   match cs,hl.trans hz with
   |[v],_=>exact⟨v,rfl⟩
  refine⟨v,?_,[v],hh,rfl,λ_=>rfl⟩;have:=hc 0 v rfl;simp only[Z1]at this;simp[loadVar,Zs,dG tQ,sW.trans ha,this,go_sem]
theorem AA(T:aJ P){ah:List (Nat×ag)}{objs:List (Nat×(Nat×Th))}{t:Nat}{T0:TypeId}{D:ag}(h:vY T ah objs t T0=some D)(fc:∀t d,find ah t=some d->af H F w d (ρ t))(hs:al U H F w (find objs) n):
 ∃a v,ρ t= .pointer (some a)/\(loadVar T0 a).run P w= .ok v w/\af H F w D v:=by
 unfold vY at h;split at h
 .cases h
 rename_i kk hu;split at h
 case h_2=>cases h
 rename_i o p off hD;split at h
 case h_2=>cases h
 rename_i s0 T1 tr bR;split at h
 case h_2=>cases h
 rename_i s cN hg;obtain⟨h1,rfl⟩:=oA h;obtain⟨h1,h3⟩:=bO h1;obtain rfl:=beq_true h1;obtain⟨b,hb,e⟩:=fc _ _ hD;obtain⟨es,hh,JV⟩:=hs.box bR hb;obtain⟨g1,g2⟩:=JV.get hg
 obtain⟨v,hv,jL⟩:=yi (b:=b) (off:=cN) T hu g1 (λj u hj=>by
  rw[rF hh];rw[Zo]at hj;split at hj
  .rwa [Zc]at hj
  .cases hj) (gz T h3)
 exact⟨_,v,e,hv,jL⟩
def Jc(tmps:Array Value):ResultVar->Sem Value
 | .tmp t=>pure (tmps.getD t undef)
 | .cell a t=>do loadVar t (<-asAddr (tmps.getD a undef))
theorem v7(T:aJ P){ah:List (Nat×ag)}{objs:List (Nat×(Nat×Th))}(fc:∀t d,find ah t=some d->af H F w d (ρ t))(hs:al U H F w (find objs) n){tmps:Array Value}(hf:∀t,tmps.getD t undef=ρ t):
 {rs:List ResultVar}->{ds:List ag}->vZ T ah objs rs=some ds->∃vs:List Value,(rs.mapM (Jc tmps)).run P w= .ok vs w/\dK H F w ds vs
 |[],ds,h=>by obtain rfl:=YU h;exact⟨[],by simp,rfl⟩
 | .tmp t::l,ds,h=>by
   unfold vZ at h;split at h
   case h_2=>cases h
   rename_i d hd;split at h
   case h_2=>cases h
   rename_i Pj q9;obtain rfl:=YU h;obtain⟨vs,h1,h2⟩:=v7 T fc hs hf q9;refine⟨ρ t::vs,?_,ρ t,vs,rfl,fc t d hd,h2⟩
   have hm:(Jc tmps (.tmp t)).run P w= .ok (ρ t) w:=by rw[<-hf t];rfl
   rw[List.mapM_cons];simp only[Zs,hm,Sem.run_pure,ZD,h1]
 | .cell t T0::l,ds,h=>by
   unfold vZ at h;split at h
   case h_2=>cases h
   rename_i d hd;split at h
   case h_2=>cases h
   rename_i Pj q9;obtain rfl:=YU h;obtain⟨vs,h1,h2⟩:=v7 T fc hs hf q9;obtain⟨a,v,e1,e2,e3⟩:=AA T hd fc hs;refine⟨v::vs,?_,v,vs,rfl,e3,h2⟩;have ha:(asAddr (.pointer (some a))).run P w= .ok a w:=rfl
   have hm:(Jc tmps (.cell t T0)).run P w= .ok v w:=by
    show(asAddr (tmps.getD t undef)>>= λb=>loadVar T0 b).run P w=_
    rw[hf t,e1,Zs,ha,ZD,e2]
   rw[List.mapM_cons];simp only[Zs,hm,Sem.run_pure,ZD,h1]
theorem AB(T:aJ P){fn:Func}{rs:List ResultVar}(Ia:fn.results.toList=rs){ah:List (Nat×ag)}{objs:List (Nat×(Nat×Th))}(fc:∀t d,find ah t=some d->af H F w d (ρ t))(hs:al U H F w (find objs) n){tmps:Array Value}(hf:∀t,tmps.getD t undef=ρ t)
 {ds:List ag}(h:vZ T ah objs rs=some ds):∃vs:List Value,(results fn tmps).run P w= .ok (tg vs) w/\dK H F w ds vs:=by
 obtain⟨vs,h1,h2⟩:=v7 T fc hs hf h;refine⟨vs,?_,h2⟩;have e:fn.results=rs.toArray:=cO Ia;have er:results fn tmps=(fn.results.mapM (Jc tmps)>>= λvs=>pure (if h:vs.size=1 then vs[0]else Value.tuple vs)):=rfl;rw[er,e,List.mapM_toArray]
 have:∀vs:List Value,(if h:vs.toArray.size=1 then vs.toArray[0]else Value.tuple vs.toArray)=tg vs:=by
  intro vs
  match vs with
  |[]=>rfl
  |[v]=>rfl
  |a::b::l=>simp[tg]
 simp only[Zs,Sem.run_map,h1,ZD,Sem.run_pure,this]
theorem B6:{l:List (Nat×SS)}->{vs:List gL}->{k t:Nat}->{d:ag}->pM k l=aaL->find (cn l vs).1 t=some d->t<k+l.length
 |[],_,_,_,_,_,h=>by cases h
 |(t0,s)::l,vs,k,t,d,hi,h=>by
  obtain⟨h1,h2⟩:=bO hi;have h':find ((t0,(di s vs).1)::(cn l (di s vs).2).1) t=some d:=h;rw[ax]at h';have:=beq_true h1;rw[Ze];split at h'
  .omega
  .have:=B6 h2 h';omega
def NS(P:Program)(nt:Nat)(c:Code)(run:{R:Type}->State->(Ex->State->Option R)->Option R):Prop:=
 ∀{R:Type}{q:R}{st:State}{k:Ex->State->Option R}{H:aj}{F:Nat->Prop}{w:World}{ρ:Nat->Value}{G:Nat->Prop}{w0:World}{F0:Nat->Prop}{Q:Exit->(Nat->Value)->World->Prop},
  run st k=some q->bX G w0 F0 H F w ρ st->(∀e cy H' F' w' bZ,k e cy=some q->Li G w0 F0 (writes c) H F w ρ H' F' w' bZ cy->Q e.qx bZ w')->qW P nt c Q ρ w
theorem Ll{E:Env P}{f:FuncId}{fn:Func}{c:Code}{rs:List ResultVar}{sg:oq}{run:{R:Type}->State->(Ex->State->Option R)->Option R}(hW:NS P fn.ntmps c run)(hf:P.funcs[f]? =some fn)(hn:(fn.name== "runtime.NumGoroutine")=aaM)(hb:fn.body=some c)(Ia:fn.results.toList=rs)
 (k0:pM 0 sg.inn.ah=aaL)(hlen:Nat.ble sg.inn.ah.length fn.ntmps=aaL)(ve:YZ rs.length sg.out.ah.length=aaL)
 (Al:∀x,sg.fn x=run (init sg.inn x) (NR E.T rs sg.inn.nxt sg.out)):gK P f sg:=by
 refine⟨⟨fn,hf,hn,by rw[hb];rfl⟩,λx y nI args w H F G Bn fc bR dy hG=>?_⟩
 have hlen:sg.inn.ah.length<=fn.ntmps:=by simpa using hlen
 have ve:=beq_true ve
 refine(va (R:=λv w'=>∃vs,v=tg vs/\vs.length=sg.out.ah.length/\∃H' F',Ext G w w'/\H.le H'/\(∀b,F b->F' b)/\(∀b,F' b->F b\/w.heap.size<=b\/G b)/\
  (∀t d,find (cn sg.out.ah (cA _ y)).1 t=some d->af H' F' w' d (vs.getD t undef))/\
  al (λk=>w.heap.size<=k\/G k) H' F' w' (find (eV sg.inn.nxt sg.out.objs (cn sg.out.ah (cA _ y)).2)) sg.out.nxt/\fj H' sg.out.nxt) hf hb (by omega) λρ J6=>?_).mono λe w' ⟨v,he,vs,hv,h1,h2⟩=>⟨vs,by rw[he,hv],h1,h2⟩
 have Q9:∀t,t<args.length->ρ t=args.getD t undef:=λt ht=>by
  rw[J6 t _ (YX ht)];simp[List.getD,ht]
 have keys:∀t d,find (cn sg.inn.ah (cA sg.inn.rows x)).1 t=some d->af H F w d (ρ t):=λt d hd=>by
  rw[Q9 t (by have:=B6 k0 hd;omega)];exact fc t d hd
 have hh:bX G w F H F w ρ (init sg.inn x):=⟨⟨keys,bR,dy⟩,⟨⟨rfl,⟨rfl,YY _⟩,rfl,YY _,λ_ _ _=>rfl⟩,λ_ h=>h,λ_ h=> .inl h⟩⟩
 refine hW ((Al x).symm.trans nI) hh λe cy H' F' w' bZ h1 h2=>?_
 have main:Lj E.T rs sg.inn.nxt sg.out cy=some y->∀act,Fr fn.ntmps act bZ->∃v,(results fn act.tmps).run P w'= .ok v w'/\∃vs,v=tg vs/\vs.length=sg.out.ah.length/\∃H' F',Ext G w w'/\H.le H'/\(∀b,F b->F' b)/\(∀b,F' b->F b\/w.heap.size<=b\/G b)/\
  (∀t d,find (cn sg.out.ah (cA _ y)).1 t=some d->af H' F' w' d (vs.getD t undef))/\
  al (λk=>w.heap.size<=k\/G k) H' F' w' (find (eV sg.inn.nxt sg.out.objs (cn sg.out.ah (cA _ y)).2)) sg.out.nxt/\fj H' sg.out.nxt:=by
  intro hr act vf;unfold Lj at hr;split at hr
  case h_2=>cases hr
  rename_i ds q9;obtain⟨vs,g1,g2⟩:=AB E.T Ia h2.here.sat.slot h2.here.sat.ob vf.get q9;have Yu:=gM g2;refine⟨_,g1,vs,rfl,?_,?_⟩
  .have:∀{rs:List ResultVar}{ds:List ag},vZ E.T cy.ah cy.objs rs=some ds->ds.length=rs.length:=by
    intro rs
    induction rs with
    |nil=>intro ds h;obtain rfl:=YU h;rfl
    |cons r l ih=>
     intro ds h
     cases r<;>unfold vZ at h<;>split at h<;>try cases h
     all_goals
      split at h
      case h_2=>cases h
      rename_i Pj Ra;obtain rfl:=YU h;simp[ih Ra]
   have:=this q9;omega
  .have IX:al (UU G w) H F w (find (del [] [])) sg.inn.nxt:=⟨λ_ _ _ h=>(by cases h),λ_ _ _ _ _ _ _ _ _ h=>(by cases h),bR.fresh,bR.lt,bR.new,bR.gl⟩
   obtain⟨H4,F4,h4,k4⟩:=h2.here.lH;obtain⟨st1,H3,F3,hr,h3,k3⟩:=bX.vX (ρ:=λt=>vs.getD t undef) (st:={ah:=fo 0 ds,objs:=(lH cy).objs,nxt:=(lH cy).nxt}) sg.out.ah ⟨⟨λt d hd=>af.keep k4.eL k4.step (by simpa using(lX g2 t d hd).2),h4.sat.ob,h4.sat.all⟩,h4.glob⟩ hr;split at hr
   case h_2=>cases hr
   rename_i _ z rest hp;obtain⟨bs,aD⟩:=rest;obtain rfl:=YU hr;obtain⟨F2,H2,a1,a2,a3,_,a5,_,a6,a7,a8⟩:=r7 (U':=UU G w) (ns:=[]) (objs0:=[]) (ρ:=λt=>vs.getD t undef) hp IX dy ((h2.keeps.trans k4).trans k3) h3.sat.ob (λt d hd=>h3.sat.slot t d hd)
   have qO:=a8 h3.sat.ob.new (λo s t v k _ m2 m3 m4=>by
    obtain⟨v',cV,bL⟩:=a1.obj _ _ _ m2;rw[m3]at cV;obtain rfl:=YU cV
    exact bL.use k m4) (λ_ _ _ _ _ h=>by cases h)
   rw[show del [] ([]:List (Nat×(Nat×Th)))=[]from rfl,List.append_nil]at qO;refine⟨H2,F2,h3.glob.ext,a5,λb hb=>a2 b (h3.glob.le b hb),λb hb=>?_,a7,qO,a6⟩
   rcases a3 b hb with m1|m1
   .exact h3.glob.new b m1
   .exact .inr (h3.sat.ob.eh b m1)
 cases e with
 |normal=>exact main h1
 |ret=>exact main h1
 |exit id=>cases h1
 |goto l=>cases h1
theorem NT{E:Env P}{f:FuncId}{fn:Func}{c:Code}{rs:List ResultVar}{N:Nat}{a:qy}{sg:oq}(hf:P.funcs[f]? =some fn)(hn:(fn.name== "runtime.NumGoroutine")=aaM)(hb:fn.body=some c)(Ia:fn.results.toList=rs)
 (k0:pM 0 sg.inn.ah=aaL)(hlen:Nat.ble sg.inn.ah.length fn.ntmps=aaL)(ve:YZ rs.length sg.out.ah.length=aaL)
 (Al:∀x,sg.fn x=Lk E fn.ntmps N c rs a sg.inn sg.out x):gK P f sg:=
 Ll (E:=E) (run:=λst k=>exec E fn.ntmps N c a st k) (λh hh hk=>fF c h hh hk) hf hn hb Ia k0 hlen ve Al
structure CT(P:Program)where
 f:Nat
 sg:oq
 ok:gK P f sg
def ck{P:Program}{f:Nat}{sg:oq}(h:gK P f sg):CT P:=⟨f,sg,h⟩
def CT.tab{P:Program}:List (CT P)->List (Nat×oq)
 |[]=>[]
 |c::l=>(c.f,c.sg)::CT.tab l
theorem CT.GI{P:Program}:{l:List (CT P)}->∀p∈CT.tab l,gK P p.1 p.2
 |[],_,h=>by cases h
 |c::l,p,h=>by
  rcases Y6.1 h with rfl|h
  .exact c.ok
  .exact CT.GI p h
def Rb(fn:Func)(sg:oq):Bool:= !(fn.name== "runtime.NumGoroutine")&&fn.body.isSome&&pM 0 sg.inn.ah&&Nat.ble sg.inn.ah.length fn.ntmps&&YZ fn.results.toList.length sg.out.ah.length
theorem fw(E:Env P){f:FuncId}{fn:Func}{N:Nat}{sg:oq}(a:qy)(hf:P.funcs[f]? =some fn)(hc:Rb fn sg=aaL)
 (Al:∀x,sg.fn x=Lk E fn.ntmps N (fn.body.getD .skip) fn.results.toList a sg.inn sg.out x):gK P f sg:=by
 unfold Rb at hc;simp only[ZE,Bool.not_eq_true']at hc;obtain⟨⟨⟨⟨h1,h2⟩,h3⟩,h4⟩,h5⟩:=hc;obtain⟨c,hc⟩:=ZC.1 h2;exact NT (E:=E) (N:=N) (a:=a) hf h1 (by rw[hc];rfl) rfl h3 h4 h5 Al
@[reducible] def SS.l(r:Row):SS:= .val aaM (.leaf r)
@[reducible] def SS.g(r:Row):SS:= .val aaL (.leaf r)
abbrev ae:Row:= .int .i64
def nn{α:Type}:Nat->List α->List (Nat×α)
 |_,[]=>[]
 |n,a::l=>(n,a)::nn (n+1) l
abbrev JS.j1(l:List SS)(o:List OS)(k:Nat):JS:=⟨nn 0 l,nn 0 o,[],k⟩
abbrev JS.i1(l:List SS):JS:= .j1 l [] 0
abbrev JS.w1(t:Nat)(r:Row):JS:= .j1 [.val aaM (.own 0)] [.own t r] 1
abbrev qy.mb(i n:Nat):qy:= .meet ⟨[(i, .l .bool)],[],[],n⟩ .nil .nil
abbrev qy.lp(i n:Nat)(a:qy):qy:= .loop ⟨[(i, .l ae)],[],[],n⟩ a
abbrev u2{A B R:Type}(f:A->B->R)(x:A×B):R:=f x.1 x.2
abbrev u3{A B C R:Type}(f:A->B->C->R)(x:A×B×C):R:=f x.1 x.2.1 x.2.2
abbrev u4{A B C D R:Type}(f:A->B->C->D->R)(x:A×B×C×D):R:=f x.1 x.2.1 x.2.2.1 x.2.2.2
abbrev u5{A B C D E R:Type}(f:A->B->C->D->E->R)(x:A×B×C×D×E):R:=f x.1 x.2.1 x.2.2.1 x.2.2.2.1 x.2.2.2.2
abbrev u6{A B C D E F R:Type}(f:A->B->C->D->E->F->R)(x:A×B×C×D×E×F):R:=f x.1 x.2.1 x.2.2.1 x.2.2.2.1 x.2.2.2.2.1 x.2.2.2.2.2
end
end Go.Proofs.YtbladfbbhijpmaaGreat
end
namespace Go.Proofs.YtbladfbbhijpmaaGreat
open Go Go.RowKit
set_option maxRecDepth 100000
set_option linter.unusedSimpArgs false
set_option linter.unusedVariables false
set_option linter.defProp false
inductive AD(F:Nat->Prop)(w:World):Nat->List (Nat×SS)->List gL->List Value->Prop where
 |nil {k:Nat}:AD F w k [] [] []
 |cons {k:Nat} {agg:Bool} {r:Row} {x:r.den} {v:Value} {ss:List (Nat×SS)} {ds:List gL} {vs:List Value} (h:aw ⟨λ_=>aaK,λ_=>aaK,λ_ _=>False⟩ F w agg (.leaf r x) v) (hs:AD F w (k+1) ss ds vs):AD F w k ((k, .val agg (.leaf r))::ss) (⟨r,x⟩::ds) (v::vs)
theorem AD.ah{F:Nat->Prop}{w:World}{k:Nat}{ss:List (Nat×SS)}{ds:List gL}{vs:List Value}(h:AD F w k ss ds vs):(∀t d,find (cn ss ds).1 t=some d->k<=t/\af ⟨λ_=>aaK,λ_=>aaK,λ_ _=>False⟩ F w d (vs.getD (t-k) undef))/\(cn ss ds).2=[]/\vs.length=ss.length:=by
 induction h with
 |nil=>exact⟨λ_ _ h=>(by cases h),rfl,rfl⟩
 | @cons k agg r x v ss ds vs h hs ih=>
   refine⟨λt d hf=>?_,ih.2.1,by simp[ih.2.2]⟩;have ni:find ((k,ag.val agg (bif r.beq r then Tree.leaf r x else .nil))::(cn ss ds).1) t=some d:=hf;rw[ax]at ni;split at ni
   .rename_i e;subst e;obtain rfl:=YU ni;rw[Row.beq_refl,Nat.sub_self];exact⟨YY _,h⟩
   .obtain⟨h1,h2⟩:=ih.1 t d ni;refine⟨by omega,?_⟩;rw[show t-k=(t-(k+1))+1 from by omega];simpa using h2
theorem me{F:Nat->Prop}{w:World}{r:Row}{x:r.den}{es:List Value}(h:bN F w r es x):aw ⟨λ_=>aaK,λ_=>aaK,λ_ _=>False⟩ F w aaL (.leaf r x) (.agg es.toArray):=⟨es,h,rfl,by simp⟩
theorem D2{P:Program}{f:FuncId}{inn:JS}{fn:ct inn.rows->Option Bool}(h:gK P f ⟨inn,⟨[(0, .val aaM (.leaf .bool))],[],[],0⟩,fn⟩){x:ct inn.rows}{y:Bool}(hy:fn x=some y){ds:List gL}(q9:cA inn.rows x=ds){W:World}{vs:List Value}
 (ha:AD (λb=>b<W.heap.size) W 0 inn.ah ds vs)(ho:inn.objs=[])(Lm:nJ (λb=>b<W.heap.size) W):Calls P f vs.toArray W λe W'=>e= .returned (.bool y)/\Below W.heap.size W W':=by
 obtain⟨h1,h2,h3⟩:=ha.ah;subst q9
 refine(h.ok x y hy vs W ⟨λ_=>aaK,λ_=>aaK,λ_ _=>False⟩ (λb=>b<W.heap.size) (λ_=>False) h3 (λt d hd=>by simpa using(h1 t d hd).2) ?_ (λ_ _=>⟨rfl,rfl⟩) (λ_ h=>h.elim)).mono λe W' ⟨us,he,Gl,H',F',a1,_,_,_,a5,_⟩=>?_
 .show al _ _ _ W (find (eV 0 inn.objs _)) inn.nxt
  rw[ho];exact⟨λ_ _ _ h=>(by cases h),λ_ _ _ _ _ _ _ _ _ h=>(by cases h),λ_ _ _=>⟨rfl,rfl⟩,λ_ h=>h,λ_ h=> .inl h,Lm⟩
 .refine⟨?_,⟨a1.os,a1.tape.1,a1.output,a1.size,λk hk=>a1.block k hk (λh=>h)⟩⟩
  match us,Gl with
  |[u],_=>
   have:=a5 0 (cR y) rfl;have hu:u= .bool y:=aw.bool (x:=y) this;rw[he,hu];rfl
section
section
variable {P:Program} {nt N:Nat} {R:Type}
variable {ρ:Nat->Value} {w w0:World} {H:aj} {F F0 G:Nat->Prop}
end
end
section
def nA(l:List Int):List Int:=l.mergeSort λx y=>decide (x<=y)
section
variable {P:Program} {w w':World} {F:Nat->Prop} {T:TypeId}
theorem GJ(w:World):Z2 w #[]=w:=by
 unfold Z2;rw[Array.append_empty]
theorem B7{g off:Nat}{d:Array Int}{n:Nat}{os:Array Obj}(h:w'=Z2 (ZP (ZS .i64) (ZX w n) g off d) os):Ext (λk=>k=g) w w':=by
 subst h;refine⟨rfl,⟨rfl,Nat.le_add_right _ _⟩,rfl,?_,λk hk hn=>?_⟩
 .simp[Z2,ZP,Z9,ZX]
 .simp only[Z2];rw[aas (by simpa[ZP,Z9,ZX]using hk)];simp only[ZP,Z9,ZX,Array.getElem?_modify];rw[aaO (λe=>hn e.symm)]
theorem Jd{g off:Nat}{d:Array Int}{n:Nat}{os:Array Obj}(h:w'=Z2 (ZP (ZS .i64) (ZX w n) g off d) os){cur:Array Value}(hg:w.heap[g]? =some (.cells cur T (0,0))):
 w'.heap[g]? =some (.cells (ZO (ZS .i64) off d cur) T (0,0)):=by
 subst h;have ai:g<w.heap.size:=(Zx.1 hg).1;simp only[Z2];rw[aas (by simpa[ZP,Z9,ZX]using ai)];simp only[ZP,Z9,ZX,Array.getElem?_modify];rw[aaP trivial,hg];rfl
theorem AE{l:List Int}{xs:List Value}(hx:xs.length=l.length*1)(h:∀i(hi:i<l.length),bN F w ae ((xs.drop (i*1)).take 1) l[i]):xs=l.map (ZS .i64):=by
 apply List.ext_getElem (by simpa using hx);intro i h1 h2
 have hi:i<l.length:=by simpa using h2
 have:(xs.drop (i*1)).take 1=[ZS .i64 l[i]]:=h i hi;rw[Nat.mul_one,ZA h1,List.take_succ_cons,List.take_zero]at this;simpa only[List.getElem_map,Z8,and_true]using this
theorem D3{off:Nat}{d:Array Int}{cur:Array Value}(h:off+d.size<=cur.size):((ZO (ZS .i64) off d cur).toList.drop off).take d.size=d.toList.map (ZS .i64):=by
 apply List.ext_getElem (by simp[ZO];omega);intro i h1 h2
 have hi:i<d.size:=by simpa using h2
 rw[List.getElem_take,List.getElem_drop,List.getElem_map,Array.getElem_toList,Array.getElem_toList];simp only[ZO,Array.getElem_mapIdx];rw[aaP ⟨by omega,by omega⟩,show off+i-off=i by omega,getElem!_pos d i hi]
theorem uH{v:Value}{l:List Int}(h:fN 0 F w T ae v l):(v= .slice aaK 0 0/\l=[])\/∃g o0 cap cur,v= .slice (some ⟨g,o0,aaK⟩) l.length cap/\w.heap[g]? =some (.cells cur T (0,0))/\l.length<=cap/\cap<=maxLen/\o0+cap<=cur.size/\Go.Sort.Holds (ZS .i64) w g o0 l.toArray:=by
 obtain⟨_,xs,⟨hx,h2⟩,h3⟩:=h;have e:=AE hx h3
 rcases h2 with⟨rfl,h0⟩|⟨g,o0,cap,cur,rfl,_,hg,h4,h5,h6,h7⟩
 .exact .inl ⟨rfl,List.eq_nil_of_length_eq_zero h0⟩
 .refine .inr ⟨g,o0,cap,cur,rfl,hg,h4,h5,by simpa[Row.size]using h6,λj hj=>⟨?_,frozen_of_row w g _ cur T hg⟩⟩
  have hj:j<l.length:=by simpa using hj
  rw[cell_of_row w g _ cur T (0,0) hg]
  have:xs[j]? =some (ZS .i64 l[j]):=by rw[e];simp[hj]
  rw[<-h7,Zo]at this;split at this
  .rw[Zc]at this;rw[getElem!_pos l.toArray j (by simpa using hj)];simpa using this
  .cases this
theorem yj{g o0 cap:Nat}{l d:List Int}{cur:Array Value}{n:Nat}{os:Array Obj}(h:fN 0 F w T ae (.slice (some ⟨g,o0,aaK⟩) l.length cap) l)(hg:w.heap[g]? =some (.cells cur T (0,0)))(hs:o0+cap<=cur.size)(hc:cap<=maxLen)
 (hl:d.length<=cap)(m:Nat)(hm:m<=d.length)(hw:w'=Z2 (ZP (ZS .i64) (ZX w n) g o0 d.toArray) os):fN 0 F w' T ae (.slice (some ⟨g,o0,aaK⟩) m cap) (d.take m):=by
 have GK:=Jd hw hg;have hp:=D3 (off:=o0) (d:=d.toArray) (cur:=cur) (by simp;omega);refine⟨λk hk=>h.no k (by simpa[ba,Zw]using hk),(d.take m).map (ZS .i64),⟨by simp[Row.size], .inr ⟨g,o0,cap,_,by simp[Z3 hm],Nat.zero_le _,GK,by simp;omega,hc,by simp[ZO,Row.size];omega,?_⟩⟩,λi hi=>?_⟩
 .have:((ZO (ZS .i64) o0 d.toArray cur).toList.drop o0).take m=(d.take m).map (ZS .i64):=by
   rw[show m=min m d.toArray.size by simp[Z3 hm],<-List.take_take,hp,List.map_take];simp[Z3 hm]
  simpa[Row.size,Z3 hm]using this
 .have ik:i<d.length:=by simp at hi;omega
  show((List.map (ZS .i64) (d.take m)).drop (i*1)).take 1=[ZS .i64 (d.take m)[i]]
  rw[Nat.mul_one,ZA (by simpa using hi)];simp
theorem mf(d:Array Int):∀m,(Go.Lib.compactUpTo d m).length<=m
 |0=>by simp[Go.Lib.compactUpTo]
 |m+1=>by
  have:=mf d m;rw[Go.Lib.compactUpTo_succ,Zf]
  split<;>simp<;>omega
theorem sy(l:List Int):(ZZ l).length<=l.length:=mf _ _
theorem jz{α:Type}{k o:Nat}{x:α}(h:o≠k):find [(k,x)] o=aaK:=by
 have:YZ k o=aaM:=by
  cases hb:YZ k o with
  |false=>rfl
  |true=>exact absurd (ZM hb).symm h
 simp[find,this]
theorem AF{f:FuncId}{r:Row}{fn:List r.den->Option (List r.den)}(hb:∃fn,P.funcs[f]? =some fn/\(fn.name== "runtime.NumGoroutine")=aaM/\fn.body.isNone=aaM)
 (hr:r.beq r=aaL)
 (hc:∀{F:Nat->Prop}{w:World}{v:Value}{l m:List r.den},fn l=some m->fN 0 F w T r v l->(∀b,F b->b<w.heap.size)->Calls P f #[v] w λe w'=>e= .returned (.tuple #[])/\Ext (ba v) w w'/\fN 0 F w' T r v m):
 gK P f ⟨⟨[(0, .val aaM (.own 0))],[(0, .own T r)],[],1⟩,⟨[],[(0, .own T r)],[],2⟩,fn⟩:=by
 refine⟨hb,λx y nI args w H F G hlen fc bR dy hG=>?_⟩;have dy:fj H 1:=dy
 match args,hlen with
 |[v],_=>
 have hx:(eV 0 [(0,OS.own T r)] (cn [(0,SS.val aaM (.own 0))] (cA [.slice r] x)).2)=[(0,(0, .own T r x))]:=by
  show[(0,(0,(b9 (.own T r) [⟨.slice r,x⟩]).1))]=_
  simp only[b9,hr,cond_true]
 have hy:(eV 1 [(0,OS.own T r)] (cn [] (cA [.slice r] y)).2)=[(0,(1, .own T r y))]:=by
  show[(0,(1,(b9 (.own T r) [⟨.slice r,y⟩]).1))]=_
  simp only[b9,hr,cond_true]
 have bR:al (λk=>w.heap.size<=k\/G k) H F w (find [(0,(0,Th.own T r x))]) 1:=by rw[<-hx];exact bR
 have hd:af H F w (.val aaM (.own 0)) v:=fc 0 _ rfl;obtain⟨cs,⟨v',hv,h1,rfl⟩,_,nG⟩:=hd
 obtain rfl:v'=v:=by have:=nG rfl;simpa using this
 have dc:=bR.own rfl hv;obtain⟨v2,jK,bL⟩:=bR.obj 0 0 _ rfl;rw[hv]at jK;obtain rfl:=YU jK
 refine(hc nI dc bR.lt).mono λe w' ⟨he,bl,eT⟩=>⟨[],he,rfl,H.aV 1 (.own T r y),F,⟨bl.os,bl.tape,bl.output,bl.size,λk hk hn=>bl.block k hk λhm=>?_⟩,aj.ei (dy 1 (YY _)).2,λb h=>h,λb h=> .inl h,λt d h=>?_,?_,?_⟩
 .rcases bL.use k hm with h|h
  .omega
  .exact hn h
 .cases h
 .show al _ _ F w' (find (eV 1 [(0,OS.own T r)] (cn [] (cA [.slice r] y)).2)) 2
  rw[hy];refine⟨λo s t ho=>?_,λo o' s s' t t' u u' cq ho ij=>?_,λm h1 h2=>⟨(dy m (by have:2<=m:=h1;omega)).1,?_⟩,λb hb=>Zv (bR.lt b hb) bl.size,λb hb=> .inl (Zj bl.size hb),bR.gl.step (Step.ext bl bR.lt dc.no)⟩
  .obtain⟨rfl,h⟩:o=0/\(1,Th.own T r y)=(s,t):=by
    by_cases h0:o=0
    .subst h0;exact⟨rfl,YU ho⟩
    .exfalso;have:find [(0,(1,Th.own T r y))] o=aaK:=jz h0;rw[this]at ho;cases ho
   cases h;refine⟨v',hv,h1,by simp[aj.aV,Th.base],fN.to _ eT,eT.no,eT.lt,λk hk=>?_⟩;exact bL.use k hk
  .have key:∀o x,find [(0,(1,Th.own T r y))] o=some x->o=0:=λo x h=>by
    by_cases h0:o=0
    .exact h0
    .have:find [(0,(1,Th.own T r y))] o=aaK:=jz h0;rw[this]at h;cases h
   exact absurd ((key o _ ho).trans (key o' _ ij).symm) cq
  .have h1:2<=m:=h1
   show(if m=1 then _ else H.con m)=aaK
   rw[aaO (by omega)];exact(dy m (by omega)).2
 .intro m hm;have hm:2<=m:=hm;refine⟨(dy m (by omega)).1,?_⟩
  show(if m=1 then _ else H.con m)=aaK
  rw[aaO (by omega)];exact(dy m (by omega)).2
theorem D4{f:FuncId}{r:Row}{fn:List r.den->Option (List r.den)}(hb:∃fn,P.funcs[f]? =some fn/\(fn.name== "runtime.NumGoroutine")=aaM/\fn.body.isNone=aaM)
 (hr:r.beq r=aaL)
 (hc:∀{F:Nat->Prop}{w:World}{v:Value}{l m:List r.den},fn l=some m->fN 0 F w T r v l->(∀b,F b->b<w.heap.size)->Calls P f #[v] w λe w'=>∃v',e= .returned v'/\Ext (ba v) w w'/\fN 0 F w' T r v' m/\∀k,ba v' k->ba v k):
 gK P f ⟨⟨[(0, .val aaM (.own 0))],[(0, .own T r)],[],1⟩,⟨[(0, .val aaM (.own 1))],[(1, .own T r)],[],2⟩,fn⟩:=by
 refine⟨hb,λx y nI args w H F G hlen fc bR dy hG=>?_⟩;have dy:fj H 1:=dy
 match args,hlen with
 |[v],_=>
 have hx:(eV 0 [(0,OS.own T r)] (cn [(0,SS.val aaM (.own 0))] (cA [.slice r] x)).2)=[(0,(0, .own T r x))]:=by
  show[(0,(0,(b9 (.own T r) [⟨.slice r,x⟩]).1))]=_
  simp only[b9,hr,cond_true]
 have hy:(eV 1 [(1,OS.own T r)] (cn [(0,SS.val aaM (.own 1))] (cA [.slice r] y)).2)=[(1,(1, .own T r y))]:=by
  show[(1,(1,(b9 (.own T r) [⟨.slice r,y⟩]).1))]=_
  simp only[b9,hr,cond_true]
 have bR:al (λk=>w.heap.size<=k\/G k) H F w (find [(0,(0,Th.own T r x))]) 1:=by rw[<-hx];exact bR
 have hd:af H F w (.val aaM (.own 0)) v:=fc 0 _ rfl;obtain⟨cs,⟨v',hv,h1,rfl⟩,_,nG⟩:=hd
 obtain rfl:v'=v:=by have:=nG rfl;simpa using this
 have dc:=bR.own rfl hv;obtain⟨v2,jK,bL⟩:=bR.obj 0 0 _ rfl;rw[hv]at jK;obtain rfl:=YU jK;have vf:=dy 1 (YY _)
 refine(hc nI dc bR.lt).mono λe w' ⟨v3,he,bl,eT,F5⟩=>?_
 have TW:v3.oneCell'=aaL:=(iL.one eT.2)
 have hle:H.le ((H.aV 1 (.own T r y)).bS 1 v3):=⟨λo u h=>by
  show(if o=1 then some v3 else H.val o)=some u
  rw[aaO (λe=>by rw[e,vf.1]at h;cases h)]
  exact h,(aj.ei (t:= .own T r y) vf.2).con,(aj.ei (t:= .own T r y) vf.2).sub⟩
 refine⟨[v3],he,rfl,(H.aV 1 (.own T r y)).bS 1 v3,F,⟨bl.os,bl.tape,bl.output,bl.size,λk hk hn=>bl.block k hk λhm=>?_⟩,hle,λb h=>h,λb h=> .inl h,λt d h=>?_,?_,?_⟩
 .rcases bL.use k hm with h|h
  .omega
  .exact hn h
 .have ht:t=0/\d= .val aaM (.own 1):=by
   have h:find [(0,ag.val aaM (.own 1))] t=some d:=h;by_cases h0:t=0
   .subst h0;exact⟨rfl,(YU h).symm⟩
   .have e:find [(0,ag.val aaM (.own 1))] t=aaK:=jz h0;rw[e]at h;cases h
  obtain⟨rfl,rfl⟩:=ht;exact⟨[v3],⟨v3,by simp[aj.bS],TW,rfl⟩,rfl,λ_=>rfl⟩
 .show al _ _ F w' (find (eV 1 [(1,OS.own T r)] (cn [(0,SS.val aaM (.own 1))] (cA [.slice r] y)).2)) 2
  rw[hy]
  have key:∀o x,find [(1,(1,Th.own T r y))] o=some x->o=1/\x=(1,Th.own T r y):=λo x h=>by
   by_cases h0:o=1
   .subst h0;exact⟨rfl,(YU h).symm⟩
   .have:find [(1,(1,Th.own T r y))] o=aaK:=jz h0;rw[this]at h;cases h
  refine⟨λo s t ho=>?_,λo o' s s' t t' u u' cq ho ij=>?_,λm h1 h2=>⟨?_,?_⟩,λb hb=>Zv (bR.lt b hb) bl.size,λb hb=> .inl (Zj bl.size hb),bR.gl.step (Step.ext bl bR.lt dc.no)⟩
  .obtain⟨rfl,h⟩:=key o _ ho;cases h;exact⟨v3,by simp[aj.bS],TW,by simp[aj.aV,aj.bS,Th.base],fN.to _ eT,eT.no,eT.lt,λk hk=>bL.use k (F5 k hk)⟩
  .exact absurd ((key o _ ho).1.trans (key o' _ ij).1.symm) cq
  .have h1:2<=m:=h1
   show(if m=1 then _ else H.val m)=aaK
   rw[aaO (by omega)];exact(dy m (by omega)).1
  .have h1:2<=m:=h1
   show(if m=1 then _ else H.con m)=aaK
   rw[aaO (by omega)];exact(dy m (by omega)).2
 .intro m hm;have hm:2<=m:=hm;refine⟨?_,?_⟩
  .show(if m=1 then _ else H.val m)=aaK
   rw[aaO (by omega)];exact(dy m (by omega)).1
  .show(if m=1 then _ else H.con m)=aaK
   rw[aaO (by omega)];exact(dy m (by omega)).2
def yk(l:List Int):Option (List Int):=if l.length<4611686018427387904 then some (nA l)else aaK
theorem Je{f:FuncId}(hb:∃fn,P.funcs[f]? =some fn/\(fn.name== "runtime.NumGoroutine")=aaM/\fn.body.isNone=aaM)
 (h1:∀(kr off cap:Nat)(zs:List Int)(w:World),Go.Sort.Holds (ZS .i64) w kr off zs.toArray->kr<w.heap.size->zs.length<4611686018427387904->
   Calls P f #[.slice (some ⟨kr,off,aaK⟩) zs.length cap] w λe w'=>e= .returned (.tuple #[])/\∃n os,w'=Z2 (ZP (ZS .i64) (ZX w n) kr off (zs.mergeSort λx y=>decide (x<=y)).toArray) os)
 (h2:∀(p:Option Addr)(cap:Nat)(w:World),Calls P f #[.slice p 0 cap] w λe w'=>e= .returned (.tuple #[])/\w'=w):
 gK P f ⟨⟨[(0, .val aaM (.own 0))],[(0, .own T ae)],[],1⟩,⟨[],[(0, .own T ae)],[],2⟩,λx=>yk x⟩:=by
 refine AF (r:=ae) hb rfl λ{F w v l m}hm ho hF=>?_
 have hm:yk l=some m:=hm;unfold yk at hm;split at hm
 case isFalse=>cases hm
 rename_i hlen;obtain rfl:=YU hm
 rcases uH ho with⟨rfl,rfl⟩|⟨g,o0,cap,cur,rfl,hg,wO,FL,iA,hh⟩
 .refine(h2 aaK 0 w).mono λe w' ⟨he,hw⟩=>⟨he,hw▸⟨rfl,⟨rfl,YY _⟩,rfl,YY _,λ_ _ _=>rfl⟩,hw▸?_⟩
  simpa[nA]using ho
 .refine(h1 g o0 cap l w hh (Zx.1 hg).1 hlen).mono λe w' ⟨he,n,os,hw⟩=>⟨he,?_,?_⟩
  .have:=B7 hw;exact⟨this.os,this.tape,this.output,this.size,λk hk hn=>this.block k hk λe=>hn (by simp[ba,Zw,e])⟩
  .have hl:(nA l).length=l.length:=List.length_mergeSort ..;have:=yj (d:=nA l) ho hg iA FL (by omega) (nA l).length (YY _) hw;rw[Zh,hl]at this;exact this
def mg(l:List Int):Option (List Int):=if l.length<=9223372036854775807 then some (ZZ l)else aaK
theorem AG{f:FuncId}(hb:∃fn,P.funcs[f]? =some fn/\(fn.name== "runtime.NumGoroutine")=aaM/\fn.body.isNone=aaM)
 (h1:∀(kr off cap:Nat)(zs:List Int)(w:World),Go.Sort.Holds (ZS .i64) w kr off zs.toArray->zs.length<=9223372036854775807->zs.length<=cap->
   Calls P f #[.slice (some ⟨kr,off,aaK⟩) zs.length cap] w λe w'=>e= .returned (.slice (some ⟨kr,off,aaK⟩) (ZZ zs).length cap)/\∃q,w'=ZP (ZS .i64) (ZX w q) kr off (ZZ zs++Zq (zs.length-(ZZ zs).length) 0).toArray)
 (h2:∀(p:Option Addr)(cap:Nat)(w:World),Calls P f #[.slice p 0 cap] w λe w'=>e= .returned (.slice p 0 cap)/\w'=w):
 gK P f ⟨⟨[(0, .val aaM (.own 0))],[(0, .own T ae)],[],1⟩,⟨[(0, .val aaM (.own 1))],[(1, .own T ae)],[],2⟩,λx=>mg x⟩:=by
 refine D4 (r:=ae) hb rfl λ{F w v l m}hm ho hF=>?_
 have hm:mg l=some m:=hm;unfold mg at hm;split at hm
 case isFalse=>cases hm
 rename_i hlen;obtain rfl:=YU hm
 rcases uH ho with⟨rfl,rfl⟩|⟨g,o0,cap,cur,rfl,hg,wO,FL,iA,hh⟩
 .refine(h2 aaK 0 w).mono λe w' ⟨he,hw⟩=>⟨_,he,hw▸⟨rfl,⟨rfl,YY _⟩,rfl,YY _,λ_ _ _=>rfl⟩,hw▸?_,λk hk=>hk⟩
  exact ho
 .have ES:(ZZ l).length<=l.length:=sy l
  refine(h1 g o0 cap l w hh hlen wO).mono λe w' ⟨he,n,hw⟩=>⟨_,he,?_,?_,λk hk=>by simpa[ba,Zw]using hk⟩
  all_goals have hw:w'=Z2 (ZP (ZS .i64) (ZX w n) g o0 (ZZ l++Zq (l.length-(ZZ l).length) 0).toArray) #[]:=by rw[hw,GJ]
  .have:=B7 hw;exact⟨this.os,this.tape,this.output,this.size,λk hk hn=>this.block k hk λe=>hn (by simp[ba,Zw,e])⟩
  .have:=yj (d:=ZZ l++Zq (l.length-(ZZ l).length) 0) ho hg iA FL (by simp;omega) (ZZ l).length (by simp) hw;rw[List.take_left]at this;exact this
def na(x:ByteArray×ByteArray):Option Bool:=if x.2.size=1 then some (decide (0<=aad x.1.data.toList (x.2.data.getD 0 0)))else aaK
theorem yl{f:FuncId}(hb:∃fn,P.funcs[f]? =some fn/\(fn.name== "runtime.NumGoroutine")=aaM/\fn.body.isNone=aaM)
 (h1:∀(s:ByteArray)(c:UInt8)(w:World),Calls P f #[.string s, .string ⟨#[c]⟩] w λe w'=>e= .returned (.bool (decide (0<=aad s.data.toList c)))/\w'=w):
 gK P f ⟨⟨[(0, .val aaM (.leaf .str)),(1, .val aaM (.leaf .str))],[],[],0⟩,⟨[(0, .val aaM (.leaf .bool))],[],[],0⟩,λx=>na x⟩:=by
 refine⟨hb,λx y nI args w H F G hlen fc bR dy hG=>?_⟩
 match args,hlen with
 |[u,v],_=>
 obtain⟨s,t⟩:=x;have nI:na (s,t)=some y:=nI;unfold na at nI;split at nI
 case isFalse=>cases nI
 rename_i iA;obtain rfl:=YU nI;have hu:aw H F w aaM (.leaf .str s) u:=fc 0 _ rfl;have hv:aw H F w aaM (.leaf .str t) v:=fc 1 _ rfl;obtain⟨cs,hc,_,h2⟩:=hu;obtain⟨nH,Rc,_,sX⟩:=hv;have hc:cs=[.string s]:=hc;have Rc:nH=[.string t]:=Rc
 have eu:u= .string s:=by have:=(h2 rfl).symm.trans hc;simpa using this
 have ev:v= .string t:=by have:=(sX rfl).symm.trans Rc;simpa using this
 subst eu ev
 obtain⟨⟨⟨l⟩⟩,ht⟩:∃t':ByteArray,t'=t:=⟨t,rfl⟩
 match l,ht with
 |[c],ht=>
  subst ht
  refine(h1 s c w).mono λe w' ⟨he,hw⟩=>?_
  subst hw;refine⟨[_],he,rfl,H,F,⟨rfl,⟨rfl,YY _⟩,rfl,YY _,λ_ _ _=>rfl⟩,aj.le.refl H,λ_ h=>h,λ_ h=> .inl h,λi d h=>?_,?_,dy⟩
  .have hd:i=0/\d= .val aaM (.leaf .bool (decide (0<=aad s.data.toList c))):=by
    have h:find [(0,ag.val aaM (.leaf .bool (decide (0<=aad s.data.toList c))))] i=some d:=h;by_cases h0:i=0
    .subst h0;exact⟨rfl,(YU h).symm⟩
    .rw[jz h0]at h;cases h
   obtain⟨rfl,rfl⟩:=hd;exact aw.kz rfl
  .exact bR
 |[],ht=>subst ht;cases iA
 |_::_::_,ht=>subst ht;simp[ByteArray.size]at iA
end
end
end Go.Proofs.YtbladfbbhijpmaaGreat
