/- Joined texts: Fn Law Jump Shelf. -/
import Derived.Test.YtbladfbbhijpmaaGreatU4
import Derived.Scope
import Derived.Test.YtbladfbbhijpmaaGreatU1
import Derived.Sort.Grow
import Derived.Lib.SlicesCompact
import Derived.Lib.Bytealg
open _root_.Bool renaming false->acR,true->acQ
open _root_.Option renaming none->acP
open _root_.Nat renaming le_refl->aaX,beq->aaY,eq_of_beq_eq_true->abK,le_trans->abi,lt_of_lt_of_le->abt,min_eq_left->ab5
open _root_.Option.some renaming inj->aaT
open _root_.Array renaming getElem?_append_left->acv,getElem?_eq_some_iff->abx
open _root_.Go.Lib renaming compact->ab1,indexByte->acf
open _root_.Go.Sort renaming ahead->abX,grow->ab4,mapBlock->aca,putCells->abM,putRow->abO
open _root_.List.cons renaming injEq->ab9
open _root_.List renaming drop_eq_getElem_cons->abv,getElem?_drop->abe,getElem?_take->abl,length_append->aba,replicate->abn,take_length->abg
open _root_.Go.Value renaming int->abQ,ownBlock->abu
section
open _root_.Bool renaming false->acR,true->acQ,and_eq_true->abR
open _root_.Option renaming none->acP,isSome_iff_exists->abB,none_or->abT
open _root_.Go.Addr.mk renaming injEq->acp
open _root_.Array renaming toArray_toList->abE
open _root_.List.cons renaming injEq->ab9
open _root_.List renaming getElem?_drop->abe,getElem?_eq_getElem->aaW,getElem?_take->abl,length_cons->aa6,mem_cons->aa7,mem_cons_of_mem->abz,mem_cons_self->abW
open _root_.Nat renaming add_zero->ab3,beq->aaY,eq_of_beq_eq_true->abK,le_refl->aaX
open _root_.Option.some renaming inj->aaT,injEq->aa1
open _root_.Prod.mk renaming inj->acq
open _root_.Go.Result renaming andThen_ok->abC
open _root_.Go.Sem renaming run_bind->abp
open _root_.Go.Value.pointer renaming injEq->acL
open _root_.Go.Value.slice renaming injEq->aci
namespace Go.Proofs.YtbladfbbhijpmaaGreat
open Go Go.RowKit
inductive Ex where
 |normal
 |exit (id:Nat)
 |ret
 |goto (l:Nat)
def Ex.rA:Ex->Exit
 | .normal=> .normal
 | .exit id=> .exit id
 | .ret=> .ret
 | .goto l=> .goto l
def noGoto{R:Type}(k:Ex->State->Option R):Ex->State->Option R
 | .goto _,_=>acP
 |e,st=>k e st
inductive rB where
 |nil
 |two (a b:rB)
 |join (J:JS) (a b:rB)
 |meet (J:JS) (a b:rB)
 |loop (L:JS) (a:rB)
 |loopK (L:JS) (a:rB)
abbrev rB.o(a:rB):rB:= .two .nil a
def rB.l:rB->rB
 | .two a _=>a
 |_=> .nil
def rB.r:rB->rB
 | .two _ b=>b
 |_=> .nil
def oh:List Oper->List Nat
 |[]=>[]
 |o::l=>match o.dst with
  |some d=>d::oh l
  |none=>oh l
def writes:Code->List Nat
 | .region _ ops _=>oh ops.toList
 | .seq a b=>writes a++writes b
 | .cond _ a b=>writes a++writes b
 | .block _ a=>writes a
 | .loop a=>writes a
 | .scope a=>writes a
 |_=>[]
def zn:List Nat->List (Nat×aj)->List (Nat×aj)
 |[],l=>l
 |t::ts,l=>(t, .dead)::zn ts l
def Li:List (Nat×OS)->List Nat
 |[]=>[]
 |(j,_)::l=>j::Li l
def CQ(st:State)(J:JS):List (Nat×(Nat×Th)):=del (Li J.objs++J.drop) st.objs
def behind(st:State)(W:List Nat)(J:JS)(x:cE J.rows):State:=
 {ak:=(cB J.ak (cK _ x)).1++zn W st.ak,objs:=e8 st.nxt J.objs (cB J.ak (cK _ x)).2++CQ st J,nxt:=J.nxt}
def Bn(st:State)(J:JS)(st1:State):Option (cE J.rows):=
 match vn st.nxt (CQ st J) J st1.ak st1.objs with
 |some (x,_)=>some x
 |none=>acP
def Hs(ob:Nat->Option (Nat×Th))(n o:Nat):Option c9:=
 match ob o with
 |some (_, .deep T d l acP)=>some {dst:= .dead,eat:=[o],make:=[(o,(n, .own T d.row l))]}
 |_=>acP
def k8(st:State):List (Nat×OS)->State
 |[]=>st
 |(j, .own _ _)::os=>match Hs (find st.objs) st.nxt j with
  |some e=>k8 (st.apply acP e) os
  |none=>k8 st os
 |_::os=>k8 st os
def Ht(st:State)(t o:Nat)(r:Row):Option State:=
 match find st.objs o with
 |some (_, .box _ t0)=>match dZ st.objs t0.owns with
  |some aG=>match find aG o with
   |some (_, .box _ t1)=>match flat (find aG) r t1 with
    |some x=>some (State.apply {st with objs:=aG} (some t) {dst:= .at r x,eat:=[o]})
    |none=>acP
   |_=>acP
  |none=>acP
 |_=>acP
noncomputable def w9{R:Type}(st:State)(k:State->Option R):List (Nat×SS)->Option R
 |[]=>k st
 |(t, .at r)::ss=>match find st.ak t with
  |some (.ptr o [] 0)=>match Ht st t o r with
   |some cG=>w9 cG k ss
   |none=>acP
  |some (.dlm o d i [] 0)=>match dZ st.objs [o]with
   |some aG=>match find aG o with
    |some (_, .fdeep _ d' l)=>bif aaY d.low.size d'.row.size then(idx l i).bind λx=>w9 {ak:=(t, .at d'.row x)::st.ak,objs:=aG,nxt:=st.nxt} k ss else acP
    |_=>acP
   |none=>acP
  |_=>w9 st k ss
 |_::ss=>w9 st k ss
noncomputable def carry(st:State)(J:JS)(st1:State):Option (cE J.rows):=w9 (k8 (mL st1) J.objs) (Bn st J) J.ak
def br{J R:Type}(m:Option (J⊕R))(k:J->Option R):Option R:=m.bind λs=>match s with
 | .inl j=>k j
 | .inr r=>some r
def nq{S R:Type}(body:S->(S->Option R)->Option R):Nat->S->Option R
 |0,_=>acP
 |n+1,s=>body s (nq body n)
theorem EO{P:Program}{n:Nat}{Q:Exit->(Nat->Value)->World->Prop}{ρ:Nat->Value}{w:World}{S R:Type}{body:S->(S->Option R)->Option R}{c:Code}(I:S->(Nat->Value)->World->Prop){q:R}{N:Nat}{s:S}(hm:nq body N s=some q)(h0:I s ρ w)
 (hb:∀(kk:S->Option R)s ρ w,I s ρ w->body s kk=some q->r3 P n c (λe cq w'=>match e with| .normal=>∃s',kk s'=some q/\I s' cq w'|e=>Q e cq w') ρ w):r3 P n (.loop c) Q ρ w:=by
 intro a hf;refine wp_loop_rounds N ?_
 induction N generalizing s ρ w a with
 |zero=>cases hm
 |succ k ih=>
  rw[rounds_succ]
  refine wp_mono (hb (nq body k) s ρ w h0 hm a hf) λe a' w' ⟨cq,ov,hh⟩=>?_
  cases e with
  |normal=>
   obtain⟨s',h1,h2⟩:=hh;exact ih h1 h2 a' ov
  |_=>exact⟨cq,ov,hh⟩
noncomputable def exec{P:Program}(E:Env P)(nt N:Nat):Code->{R:Type}->rB->State->(Ex->State->Option R)->Option R
 | .skip,_,_,st,k=>k .normal st
 | .label _,_,_,st,k=>k .normal st
 | .scope x,_,a,st,k=>exec E nt N x a.l st (noGoto k)
 | .goto l,_,_,st,k=>k (.goto l) st
 | .ret,_,_,st,k=>k .ret st
 | .exit id,_,_,st,k=>k (.exit id) st
 | .cond c x y,_,a,st,k=>match DO st.ak c with
   |some D=>match asBool D with
    |some b=>if b=acQ then exec E nt N x a.l st k else exec E nt N y a.r st k
    |none=>acP
   |none=>acP
 | .region _ ops draw,_,_,st,k=>bif draw then k7 E nt ops ops.toList st [] (k .normal)else runs E nt ops ops.toList [] st (k .normal)
 | .seq x y,R,a,st,k=>match a with
   | .join J a1 a2=>br (exec E nt N x (R:=cE J.rows⊕R) a1 st (λe cG=>match e with
       | .normal=>(carry st J cG).map .inl
       |e=>(k e cG).map .inr)) λj=>exec E nt N y a2 (behind st (writes x) J j) k
   | .meet J a1 a2=>(exec E nt N x (R:=cE J.rows) a1 st (λe cG=>match e with
       | .normal=>carry st J cG
       |_=>acP)).bind λj=>exec E nt N y a2 (behind st (writes x) J j) k
   |a=>exec E nt N x a.l st (λe cG=>match e with
     | .normal=>exec E nt N y a.r cG k
     |e=>k e cG)
 | .block id x,R,a,st,k=>match a with
   | .join J a1 _=>br (exec E nt N x (R:=cE J.rows⊕R) a1 st (λe cG=>match e with
       | .normal=>(carry st J cG).map .inl
       | .exit i=>bif aaY i id then(carry st J cG).map .inl else(k (.exit i) cG).map .inr
       |e=>(k e cG).map .inr)) λj=>k .normal (behind st (writes x) J j)
   | .meet J a1 _=>(exec E nt N x (R:=cE J.rows) a1 st (λe cG=>match e with
       | .normal=>carry st J cG
       | .exit i=>bif aaY i id then carry st J cG else acP
       |_=>acP)).bind λj=>k .normal (behind st (writes x) J j)
   |a=>exec E nt N x a.l st (λe cG=>match e with
     | .exit i=>bif aaY i id then k .normal cG else k (.exit i) cG
     |e=>k e cG)
 | .loop x,R,a,st,k=>match a with
   | .loop L a1=>match carry st L st with
     |some s0=>Loop (S:=cE L.rows) (X:=R) (λs=>exec E nt N x (R:=cE L.rows⊕R) a1 (behind st (writes x) L s) (λe cG=>match e with
       | .normal=>(carry st L cG).map .inl
       |e=>(k e cG).map .inr)) N s0
     |none=>acP
   | .loopK L a1=>match carry st L st with
     |some s0=>nq (S:=cE L.rows) (R:=R) (λs kk=>exec E nt N x (R:=R) a1 (behind st (writes x) L s) (λe cG=>match e with
       | .normal=>(carry st L cG).bind kk
       |e=>k e cG)) N s0
     |none=>acP
   |_=>acP
 |_,_,_,_,_=>acP
section
variable {P:Program} {nt N:Nat} {R:Type}
variable {ρ:Nat->Value} {w w0:World} {H:an} {F F0 G:Nat->Prop}
theorem Bo{W:List Nat}{l:List (Nat×aj)}{t:Nat}{d:aj}(h:find (zn W l) t=some d):d= .dead\/(t∉W/\find l t=some d):=by
 induction W with
 |nil=>exact .inr ⟨by simp,h⟩
 |cons s W ih=>
  have h':find ((s,aj.dead)::zn W l) t=some d:=h;rw[aA]at h';split at h'
  .exact .inl (aaT h').symm
  .rename_i e
   rcases ih h' with h1|⟨h1,h2⟩
   .exact .inl h1
   .exact .inr ⟨by simp[h1,Ne.symm e],h2⟩
theorem EP{st st1:State}{W:List Nat}{J:JS}{x:cE J.rows}{H1:an}{F1:Nat->Prop}{w1:World}{FH:Nat->Value}(h:Bn st J st1=some x)(hh:cg G w0 F0 H F w ρ st)(kV:cg G w0 F0 H1 F1 w1 FH st1)(hk:bQ H F w H1 F1 w1)
 (K8:∀t,t∉W->FH t=ρ t):∃H2 F2,cg G w0 F0 H2 F2 w1 FH (behind st W J x)/\bQ H F w H2 F2 w1:=by
 unfold Bn at h;split at h
 case h_2=>cases h
 rename_i _ y rest hp;obtain⟨bs,aG⟩:=rest;obtain rfl:=aaT h;obtain⟨F2,H2,a1,a2,a3,_,a5,_,a6,a7,a8⟩:=tn (U':=UU G w0) hp hh.sat.ob hh.sat.all hk kV.sat.ob kV.sat.slot
 have dW:Step F1 w1 F2 w1:=λb hb=>⟨a2 b hb,rfl⟩
 have bW:=a8 kV.sat.ob.new (λo s t v k _ h2 h3 h4=>by
  obtain⟨v',da,bP⟩:=a1.obj _ _ _ h2;rw[h3]at da;obtain rfl:=aaT da
  exact bP.use k h4) (λo s t v k h2 h3 h4=>by
  have h5:=(fE.1 h2).2;obtain⟨v',da,bP⟩:=hh.sat.ob.obj _ _ _ h5;rw[hk.eR.val _ _ da]at h3;obtain rfl:=aaT h3
  exact bP.use k (by rwa [hk.eR.sub _ _ bP.con]at h4))
 refine⟨H2,F2,⟨⟨λt d hd=>?_,bW,a6⟩,⟨kV.glob.ext,λb hb=>a2 b (kV.glob.le b hb),λb hb=>?_⟩⟩,⟨a5,λb hb=>⟨a2 b (hk.step b hb).1,(hk.step b hb).2⟩⟩⟩
 .have uR:find ((cB J.ak (cK J.rows y)).1++zn W st.ak) t=some d:=hd;rw[fD]at uR
  cases hm:find (cB J.ak (cK J.rows y)).1 t with
  |some d'=>
   rw[hm]at uR;obtain rfl:=aaT uR;exact a7 t _ hm
  |none=>
   rw[hm,abT]at uR
   rcases Bo uR with rfl|⟨h1,h2⟩
   .trivial
   .rw[K8 t h1]
    exact(hh.sat.slot t d h2).keep a5 λb hb=>⟨a2 b (hk.step b hb).1,(hk.step b hb).2⟩
 .rcases a3 b hb with h1|h1
  .exact kV.glob.new b h1
  .exact .inr (kV.sat.ob.eo b h1)
theorem EQ{U:Nat->Prop}{ob:Nat->Option (Nat×Th)}{n:Nat}(hs:aq U H F w ob n){o:Nat}{e:c9}(h:Hs ob n o=some e):kg H F w ob n e undef w:=by
 unfold Hs at h;split at h
 case h_2=>cases h
 rename_i s T d l bW;obtain rfl:=aaT h;obtain⟨v,hv,bP⟩:=hs.obj _ _ _ bW
 obtain⟨lh,Ss,⟨xs,hx,NL⟩,h2,h3,h4⟩:=(show DL F w T d.low (mg H F w d acP) v l (H.sub s)from bP.ok)
 have hn:∀k,H.sub s k->¬F k:=bP.no
 have Au:gv 0 (λb=>F b\/∃i,i<l.length/\Ss i b) w T d.row v l:=by
  refine⟨λk hk hF=>?_,xs,?_,λi hi=>?_⟩
  .rcases hF with hF|⟨i,hi,hm⟩
   .exact hn k (h4.bh k hk) hF
   .exact h4.out i k hi hm hk
  .rw[<-d.size,<-h2];exact hx
  .have jF:i<lh.length:=by omega
   have:=iq.freeze (h3 i jF hi) (λk hk=>hn k (h4.part hi k hk)) (NL i jF);rw[<-d.size]
   exact this.step λb hb=>⟨hb.imp id λhb=>⟨i,hi,hb⟩,rfl⟩
 have hf:=hs.fresh n (aaX _) (by omega)
 have e7:∀k,H.sub s k->bJ H ob [o] k:=λk hk=>⟨o,by simp,s,_,v,bW,hv,hk⟩
 refine⟨H.ba n (.own T d.row l),λb=>F b\/∃i,i<l.length/\Ss i b,⟨⟨λ_ _ h=>h,λs' t h=>?_,λs' t h=>?_⟩,⟨rfl,⟨rfl,aaX _⟩,rfl,aaX _,λ_ _ _=>rfl⟩,λ_ h=> .inl h,λb hb=>?_,λb hb=>?_⟩,λm hm=>⟨id,λh=>?_⟩,trivial,⟨λo' s' q hq=>?_,λo1 o2 s1 s2 q1 q2 u1 u2 cA g1 g2=>?_⟩,λo' h=>?_⟩
 .have:s'≠n:=λe=>by rw[e,hf.2]at h;cases h
  simp[an.ba,this,h]
 .rfl
 .rcases hb with hb|⟨i,hi,hb⟩
  .exact .inl hb
  .exact .inr (.inr (e7 b (h4.part hi b hb)))
 .rcases hb with hb|⟨i,hi,hb⟩
  .exact hs.lt b hb
  .exact bP.lt b (h4.part hi b hb)
 .simp[an.ba,show m≠n from by omega,h]
 .obtain⟨rfl,e⟩:=bG hq;obtain⟨rfl,rfl⟩:=acq e;refine⟨v,hv,bP.one,by simp[an.ba,Th.base],Au.2,λk hk=>⟨Au.1 k hk,bP.lt k (h4.bh k hk), .inr (e7 k (h4.bh k hk))⟩⟩
 .exact absurd ((bG g1).1.trans (bG g2).1.symm) cA
 .left
  obtain⟨y,hy⟩:=abB.1 h;rw[(bG hy).1];simp
theorem cg.k8:(os:List (Nat×OS))->{st:State}->{H:an}->{F:Nat->Prop}->cg G w0 F0 H F w ρ st->∃H' F',cg G w0 F0 H' F' w ρ (k8 st os)/\bQ H F w H' F' w
 |[],_,H,F,h=>⟨H,F,h,bQ.refl H F w⟩
 |(j, .own _ _)::os,st,H,F,h=>by
  unfold Go.Proofs.YtbladfbbhijpmaaGreat.k8;split
  .rename_i e he;obtain⟨H',F',hp⟩:=EQ h.sat.ob he;have hs:=h.sat.apply (d:=acP) hp;obtain⟨H2,F2,h2,k2⟩:=cg.k8 os (st:=st.apply acP e) ⟨hs,h.glob.jr hp.jr h.sat.ob.eo⟩;exact⟨H2,F2,h2,(bQ.vA hp.jr h.sat.ob.lt h.sat.ob.dC).trans k2⟩
  .exact cg.k8 os h
 |(_, .box ..)::os,_,_,_,h=>cg.k8 os h
 |(_, .map ..)::os,_,_,_,h=>cg.k8 os h
 |(_, .deep ..)::os,_,_,_,h=>cg.k8 os h
 |(_, .smap ..)::os,_,_,_,h=>cg.k8 os h
theorem cg.Ht{st cG:State}{t o:Nat}{r:Row}(h:cg G w0 F0 H F w ρ st)(fq:find st.ak t=some (.ptr o [] 0))(hb:Ht st t o r=some cG):∃F',cg G w0 F0 H F' w ρ cG/\bQ H F w H F' w:=by
 unfold Go.Proofs.YtbladfbbhijpmaaGreat.Ht at hb;split at hb
 case h_2=>cases hb
 split at hb
 case h_2=>cases hb
 rename_i aG ux;obtain⟨F1,h1,k1⟩:=h.qk ux;split at hb
 case h_2=>cases hb
 rename_i s1 T1 t1 bW;split at hb
 case h_2=>cases hb
 rename_i x hx;obtain rfl:=aaT hb;obtain⟨v,hv,bP⟩:=h1.sat.ob.obj _ _ _ bW
 obtain⟨b,es,rfl,XB,hold⟩:=(show∃b es,v= .pointer (some ⟨b,0,acP⟩)/\w.heap[b]? =some (.cells es.toArray T1 (0,0))/\Holds H F1 w t1 es from bP.ok)
 obtain⟨b',da,mZ⟩:=h.sat.slot t _ fq;rw[hv]at da;simp only[aa1,acL,acp,and_true]at da;subst da;have pG:=eT h1.sat.ob hx hold
 have hg:bJ H (find aG) [o] b:=⟨o,by simp,s1,_,_,bW,hv,rfl⟩
 have dW:Step F1 w (λk=>F1 k\/k=b) w:=λk hk=>⟨.inl hk,rfl⟩
 have hp:jV H F1 w (find aG) st.nxt {dst:= .at r x,eat:=[o]} (ρ t) w H (λk=>F1 k\/k=b):=
  ⟨⟨an.le.refl H,⟨rfl,⟨rfl,aaX _⟩,rfl,aaX _,λ_ _ _=>rfl⟩,λ_ hk=> .inl hk,λk hk=>hk.elim .inl λe=> .inr (.inr (e▸hg)),λk hk=>hk.elim (h1.sat.ob.lt k) λe=>by rw[e];exact bP.lt b rfl⟩,λm _=>⟨id,id⟩,
    ⟨b,0,mZ, .inr rfl,es,pG.length,λj u hu=>by
      show w.cell? ⟨b,0+j,acP⟩=some u
      simp[World.cell?,XB,hu],pG.step dW⟩,⟨λ_ _ _ h=>(by cases h),λ_ _ _ _ _ _ _ _ _ h=>(by cases h)⟩,λ_ h=>(by cases h)⟩
 have hs:=h1.sat.apply (d:=some t) hp
 have XC:rO ρ (some t) (ρ t)=ρ:=by
  funext u
  show Ae ρ t (ρ t) u=ρ u
  rw[mh];split
  .rename_i e;rw[e]
  .rfl
 rw[XC]at hs;exact⟨_,⟨hs,h1.glob.jr hp.jr h1.sat.ob.eo⟩,k1.trans (bQ.vA hp.jr h1.sat.ob.lt h1.sat.ob.dC)⟩
theorem cg.w9{R:Type}{k:State->Option R}{q:R}:(ss:List (Nat×SS))->{st:State}->{H:an}->{F:Nat->Prop}->cg G w0 F0 H F w ρ st->w9 st k ss=some q->∃st2 H' F',k st2=some q/\cg G w0 F0 H' F' w ρ st2/\bQ H F w H' F' w
 |[],st,H,F,h,hk=>⟨st,H,F,hk,h,bQ.refl H F w⟩
 |(t, .at r)::ss,st,H,F,h,hk=>by
  unfold Go.Proofs.YtbladfbbhijpmaaGreat.w9 at hk;split at hk
  .rename_i o fq;split at hk
   case h_2=>cases hk
   rename_i cG XD;obtain⟨F1,h1,k1⟩:=h.Ht fq XD;obtain⟨st2,H2,F2,g1,g2,g3⟩:=cg.w9 ss h1 hk;exact⟨st2,H2,F2,g1,g2,k1.trans g3⟩
  .rename_i o d i fq;split at hk
   case h_2=>cases hk
   rename_i aG ux;obtain⟨F1,h1,k1⟩:=h.qk ux;split at hk
   case h_2=>cases hk
   rename_i s1 T1 d' l bW;obtain⟨jc,hk⟩:=aB hk;have jc:=abK jc;obtain⟨x,hx,Qn⟩:=bind_some hk;obtain⟨j,rfl,hj,VA⟩:=ei hx;obtain⟨g,o0,q0,m,cap,hv,hq,mZ⟩:=h1.sat.slot t _ fq;obtain⟨v,da,bP⟩:=h1.sat.ob.obj _ _ _ bW;rw[hv]at da;obtain rfl:=aaT da
   obtain⟨A,Gd,e1,_,_,rK⟩:=(show bT F1 w (.slice d'.row) [_] l from bP.ok)
   obtain⟨b,off,es,hA,XE,hlen,pw,pG⟩:=rK j hj;simp only[ab9,aci,and_true]at e1;obtain⟨e1,_,_⟩:=e1;rw[<-e1]at hA;simp only[aa1,acp,and_true]at hA;obtain⟨rfl,rfl⟩:=hA
   have qg:ah H F1 w (.at d'.row x) (ρ t):=by
    have e:j=q0:=by omega
    subst e;refine⟨g,o0+j*d.low.size+0,mZ,XE,es,hlen,λjj u hu=>?_,by rw[<-VA];exact pG⟩;rw[jc];exact pw jj u hu
   obtain⟨st2,H2,F2,g1,g2,g3⟩:=cg.w9 ss (st:={ak:=(t, .at d'.row x)::st.ak,objs:=aG,nxt:=st.nxt}) ⟨⟨λt' q' rk=>by
    have rk:find ((t,aj.at d'.row x)::st.ak) t'=some q':=rk;rw[aA]at rk;by_cases e:t=t'
    .subst e;rw[acU rfl]at rk;obtain rfl:=aaT rk;exact qg
    .rw[acT e]at rk
     exact h1.sat.slot t' q' rk,h1.sat.ob,h1.sat.all⟩,h1.glob⟩ Qn
   exact⟨st2,H2,F2,g1,g2,k1.trans g3⟩
  .exact cg.w9 ss h hk
 |(_, .val ..)::ss,_,_,_,h,hk=>cg.w9 ss h hk
 |(_, .ptr ..)::ss,_,_,_,h,hk=>cg.w9 ss h hk
 |(_, .undef)::ss,_,_,_,h,hk=>cg.w9 ss h hk
 |(_, .fn ..)::ss,_,_,_,h,hk=>cg.w9 ss h hk
 |(_, .ifc ..)::ss,_,_,_,h,hk=>cg.w9 ss h hk
theorem jJ{st st1:State}{W:List Nat}{J:JS}{x:cE J.rows}{H1:an}{F1:Nat->Prop}{w1:World}{FH:Nat->Value}(h:carry st J st1=some x)(hh:cg G w0 F0 H F w ρ st)(kV:cg G w0 F0 H1 F1 w1 FH st1)(hk:bQ H F w H1 F1 w1)
 (K8:∀t,t∉W->FH t=ρ t):∃H2 F2,cg G w0 F0 H2 F2 w1 FH (behind st W J x)/\bQ H F w H2 F2 w1:=by
 obtain⟨H1',F1',R6,kh⟩:=kV.mL;obtain⟨H2',F2',R7,Nc⟩:=R6.k8 J.objs;unfold carry at h;obtain⟨st2,H3',F3',h3,XF,XG⟩:=R7.w9 J.ak h;exact EP h3 hh XF (((hk.trans kh).trans Nc).trans XG) K8
theorem rC{l:List Oper}{o:Oper}{t:Nat}(ho:o∈l)(hd:o.dst=some t):t∈oh l:=by
 induction l with
 |nil=>cases ho
 |cons p l ih=>
  rcases aa7.1 ho with rfl|h
  .unfold oh;rw[hd];exact abW
  .unfold oh;split
   .exact abz _ (ih h)
   .exact ih h
structure Me(G:Nat->Prop)(w0:World)(F0:Nat->Prop)(W:List Nat)(H:an)(F:Nat->Prop)(w:World)(ρ:Nat->Value)(H':an)(F':Nat->Prop)(w':World)(cq:Nat->Value)(cG:State):Prop where
 here:cg G w0 F0 H' F' w' cq cG
 keeps:bQ H F w H' F' w'
 same:∀t,t∉W->cq t=ρ t
theorem map_inl{α β:Type}{o:Option α}{f:α->β}{r:β}(h:o.map f=some r):∃x,o=some x/\f x=r:=Option.map_eq_some_iff.1 h
theorem fW{E:Env P}:(c:Code)->{R:Type}->{q:R}->{a:rB}->{st:State}->{k:Ex->State->Option R}->{H:an}->{F:Nat->Prop}->{w:World}->{ρ:Nat->Value}->{Q:Exit->(Nat->Value)->World->Prop}->
 exec E nt N c a st k=some q->cg G w0 F0 H F w ρ st->
 (∀e cG H' F' w' cq,k e cG=some q->Me G w0 F0 (writes c) H F w ρ H' F' w' cq cG->Q e.rA cq w')->r3 P nt c Q ρ w
 | .skip,R,q,a,st,k,H,F,w,ρ,Q,h,hh,hk=>FN (hk .normal st H F w ρ h ⟨hh,bQ.refl H F w,λ_ _=>rfl⟩)
 | .ret,R,q,a,st,k,H,F,w,ρ,Q,h,hh,hk=>Jh (hk .ret st H F w ρ h ⟨hh,bQ.refl H F w,λ_ _=>rfl⟩)
 | .exit id,R,q,a,st,k,H,F,w,ρ,Q,h,hh,hk=>FO (hk (.exit id) st H F w ρ h ⟨hh,bQ.refl H F w,λ_ _=>rfl⟩)
 | .cond c x y,R,q,a,st,k,H,F,w,ρ,Q,h,hh,hk=>by
   unfold exec at h;split at h
   case h_2=>cases h
   rename_i D hD;split at h
   case h_2=>cases h
   rename_i b hb;have hv:=lD hb (ql hh.sat.ob.gl hh.sat.slot _ _ hD);split at h
   .rename_i e;subst e;exact FP hv (fW x h hh λe cG H' F' w' cq h1 h2=>hk e cG H' F' w' cq h1 ⟨h2.here,h2.keeps,λt ht=>h2.same t λhm=>ht (by simp[writes,hm])⟩)
   .rename_i e
    have e:b=acR:=by cases b<;>simp_all
    subst e;exact Dn hv (fW y h hh λe cG H' F' w' cq h1 h2=>hk e cG H' F' w' cq h1 ⟨h2.here,h2.keeps,λt ht=>h2.same t λhm=>ht (by simp[writes,hm])⟩)
 | .region id ops draw,R,q,a,st,k,H,F,w,ρ,Q,h,hh,hk=>by
   unfold exec at h
   cases draw with
   |true=>
    rw[cond_true]at h
    exact J2 E.mix h hh λcG H' F' w' cq h1 h2 h3 h4=>hk .normal cG H' F' w' cq h1 ⟨h2,h3,λt ht=>h4 t λo ho e=>ht (rC ho e)⟩
   |false=>
    rw[cond_false]at h
    have:=wP (K:=λρ w=>Q .normal ρ w) (ops:=ops) (nt:=nt) h (λ_ _ h=>by cases h) hh λcG H' F' w' cq h1 h2 h3 h4=>hk .normal cG H' F' w' cq h1 ⟨h2,h3,λt ht=>h4 t λo ho e=>ht (rC ho e)⟩
    have h2:=Ap (id:=id) (l:=ops.toList) (P:=P) (n:=nt) (Q:=Q) (ρ:=ρ) (w:=w) (by rw[abE];exact this);rw[abE]at h2;exact h2
 | .seq x y,R,q,a,st,k,H,F,w,ρ,Q,h,hh,hk=>by
   have fin:∀{H1:an}{F1:Nat->Prop}{w1:World}{FH:Nat->Value}{st1:State}{a2:rB},exec E nt N y a2 st1 k=some q->cg G w0 F0 H1 F1 w1 FH st1->bQ H F w H1 F1 w1->(∀t,t∉writes x->FH t=ρ t)->r3 P nt y Q FH w1:=by
    intro H1 F1 w1 FH st1 a2 g1 g2 g3 g4
    exact fW y g1 g2 λe cG H' F' w' cq h1 h2=>hk e cG H' F' w' cq h1 ⟨h2.here,g3.trans h2.keeps,λt ht=>(h2.same t λhm=>ht (by simp[writes,hm])).trans (g4 t λhm=>ht (by simp[writes,hm]))⟩
   have out:∀{e:Ex}{cG:State}{H':an}{F':Nat->Prop}{w':World}{cq:Nat->Value},k e cG=some q->Me G w0 F0 (writes x) H F w ρ H' F' w' cq cG->Q e.rA cq w':=by
    intro e cG H' F' w' cq g1 g2;exact hk e cG H' F' w' cq g1 ⟨g2.here,g2.keeps,λt ht=>g2.same t λhm=>ht (by simp[writes,hm])⟩
   unfold exec at h;split at h
   .rename_i J a1 a2;unfold br at h;obtain⟨s,hs,h⟩:=bind_some h;refine wa (fW x hs hh λe cG H' F' w' cq h1 h2=>?_)
    cases e with
    |normal=>
     obtain⟨j,hj,rfl⟩:=map_inl h1;obtain⟨H2,F2,g1,g2⟩:=jJ (W:=writes x) hj hh h2.here h2.keeps h2.same;exact fin h g1 g2 h2.same
    |exit id=>
     obtain⟨r,hr,rfl⟩:=map_inl h1;obtain rfl:=aaT h;exact out hr h2
    |ret=>
     obtain⟨r,hr,rfl⟩:=map_inl h1;obtain rfl:=aaT h;exact out hr h2
    |goto l=>
     obtain⟨r,hr,rfl⟩:=map_inl h1;obtain rfl:=aaT h;exact out hr h2
   .rename_i J a1 a2;obtain⟨s,hs,h⟩:=bind_some h;refine wa (fW x hs hh λe cG H' F' w' cq h1 h2=>?_)
    cases e with
    |normal=>
     obtain⟨H2,F2,g1,g2⟩:=jJ (W:=writes x) h1 hh h2.here h2.keeps h2.same;exact fin h g1 g2 h2.same
    |exit id=>cases h1
    |ret=>cases h1
    |goto l=>cases h1
   .refine wa (fW x h hh λe cG H' F' w' cq h1 h2=>?_)
    cases e with
    |normal=>exact fin h1 h2.here h2.keeps h2.same
    |exit id=>exact out h1 h2
    |ret=>exact out h1 h2
    |goto l=>exact out h1 h2
 | .block id x,R,q,a,st,k,H,F,w,ρ,Q,h,hh,hk=>by
   have hw:writes (.block id x)=writes x:=rfl;rw[hw]at hk
   have R8:∀{e:Ex}{cq:Nat->Value}{w':World},(match e with| .exit i=>if i=id then Q .normal cq w' else Q (.exit i) cq w'|e=>Q e.rA cq w')->Na id Q e.rA cq w':=by
    intro e cq w' g
    cases e with
    |normal=>exact g
    |ret=>exact g
    |goto l=>exact g
    |exit i=>
     by_cases e:i=id
     .subst e;simp only[acU]at g;exact Gi g
     .simp only[acT e]at g;refine DF ?_ g
      cases hb:aaY i id with
      |false=>rfl
      |true=>exact absurd (beq_true hb) e
   have Bp:∀{i:Nat},i≠id->aaY i id=acR:=λ{i}e=>by
    cases hb:aaY i id with
    |false=>rfl
    |true=>exact absurd (beq_true hb) e
   unfold exec at h;split at h
   .rename_i J a1 a2;unfold br at h;obtain⟨s,hs,h⟩:=bind_some h;refine qf (fW x hs hh λe cG H' F' w' cq h1 h2=>R8 ?_)
    have inn:(carry st J cG).map Sum.inl=some s->Q .normal cq w':=λh1=>by
     obtain⟨j,hj,rfl⟩:=map_inl h1;obtain⟨H2,F2,g1,g2⟩:=jJ (W:=writes x) hj hh h2.here h2.keeps h2.same;exact hk .normal _ H2 F2 w' cq h ⟨g1,g2,h2.same⟩
    have out:∀{e:Ex},(k e cG).map Sum.inr=some s->Q e.rA cq w':=λ{e}h1=>by
     obtain⟨r,hr,rfl⟩:=map_inl h1;obtain rfl:=aaT h;exact hk e cG H' F' w' cq hr h2
    cases e with
    |normal=>exact inn h1
    |exit i=>
     show if i=id then _ else _
     by_cases e:i=id
     .subst e;rw[acU rfl];refine inn ?_;simpa using h1
     .rw[acT e];simp only[Bp e,cond_false]at h1;exact out (e:= .exit i) h1
    |ret=>exact out (e:= .ret) h1
    |goto l=>exact out (e:= .goto l) h1
   .rename_i J a1 a2;obtain⟨s,hs,h⟩:=bind_some h;refine qf (fW x hs hh λe cG H' F' w' cq h1 h2=>R8 ?_)
    have inn:carry st J cG=some s->Q .normal cq w':=λh1=>by
     obtain⟨H2,F2,g1,g2⟩:=jJ (W:=writes x) h1 hh h2.here h2.keeps h2.same;exact hk .normal _ H2 F2 w' cq h ⟨g1,g2,h2.same⟩
    cases e with
    |normal=>exact inn h1
    |exit i=>
     show if i=id then _ else _
     by_cases e:i=id
     .subst e;rw[acU rfl];refine inn ?_;simpa using h1
     .simp only[Bp e,cond_false]at h1;cases h1
    |ret=>cases h1
    |goto l=>cases h1
   .refine qf (fW x h hh λe cG H' F' w' cq h1 h2=>R8 ?_)
    cases e with
    |normal=>exact hk .normal cG H' F' w' cq h1 h2
    |exit i=>
     show if i=id then _ else _
     by_cases e:i=id
     .subst e;rw[acU rfl];refine hk .normal cG H' F' w' cq ?_ h2;simpa using h1
     .rw[acT e];simp only[Bp e,cond_false]at h1;exact hk (.exit i) cG H' F' w' cq h1 h2
    |ret=>exact hk .ret cG H' F' w' cq h1 h2
    |goto l=>exact hk (.goto l) cG H' F' w' cq h1 h2
 | .loop x,R,q,a,st,k,H,F,w,ρ,Q,h,hh,hk=>by
   have hw:writes (.loop x)=writes x:=rfl;rw[hw]at hk;unfold exec at h;split at h
   case h_3=>cases h
   case h_2=>
    rename_i L a1;split at h
    case h_2=>cases h
    rename_i s0 JN;refine EO (λs cq w'=>∃H' F',cg G w0 F0 H' F' w' cq (behind st (writes x) L s)/\bQ H F w H' F' w'/\∀t,t∉writes x->cq t=ρ t) h ?_ ?_
    .obtain⟨H2,F2,g1,g2⟩:=jJ (W:=writes x) JN hh hh (bQ.refl H F w) λ_ _=>rfl
     exact⟨H2,F2,g1,g2,λ_ _=>rfl⟩
    .rintro kk s cq w' ⟨H',F',g1,g2,g3⟩ hy
     refine fW x hy g1 λe cG rN AX r8 qW h1 h2=>?_
     have sm:∀t,t∉writes x->qW t=ρ t:=λt ht=>(h2.same t ht).trans (g3 t ht)
     cases e with
     |normal=>
      obtain⟨j,hj,DN⟩:=Option.bind_eq_some_iff.1 h1;obtain⟨H2,F2,m1,m2⟩:=jJ (W:=writes x) hj hh h2.here (g2.trans h2.keeps) sm;exact⟨j,DN,H2,F2,m1,m2,sm⟩
     |exit i=>exact hk (.exit i) cG rN AX r8 qW h1 ⟨h2.here,g2.trans h2.keeps,sm⟩
     |ret=>exact hk .ret cG rN AX r8 qW h1 ⟨h2.here,g2.trans h2.keeps,sm⟩
     |goto l=>exact hk (.goto l) cG rN AX r8 qW h1 ⟨h2.here,g2.trans h2.keeps,sm⟩
   rename_i L a1;split at h
   case h_2=>cases h
   rename_i s0 JN;refine FQ (λs cq w'=>∃H' F',cg G w0 F0 H' F' w' cq (behind st (writes x) L s)/\bQ H F w H' F' w'/\∀t,t∉writes x->cq t=ρ t) h ?_ ?_
   .obtain⟨H2,F2,g1,g2⟩:=jJ (W:=writes x) JN hh hh (bQ.refl H F w) λ_ _=>rfl
    exact⟨H2,F2,g1,g2,λ_ _=>rfl⟩
   .rintro s cq w' y ⟨H',F',g1,g2,g3⟩ hy
    refine fW x hy g1 λe cG rN AX r8 qW h1 h2=>?_
    have sm:∀t,t∉writes x->qW t=ρ t:=λt ht=>(h2.same t ht).trans (g3 t ht)
    have out:∀{e:Ex},e≠ .normal->(k e cG).map Sum.inr=some y->KS (λs cq w'=>∃H' F',cg G w0 F0 H' F' w' cq (behind st (writes x) L s)/\bQ H F w H' F' w'/\∀t,t∉writes x->cq t=ρ t) Q q y e.rA qW r8:=λ{e}he h1=>by
     obtain⟨r,hr,rfl⟩:=map_inl h1;refine⟨by cases e<;>simp_all[Ex.rA],λhq=>?_⟩;subst hq;exact hk e cG rN AX r8 qW hr ⟨h2.here,g2.trans h2.keeps,sm⟩
    cases e with
    |normal=>
     obtain⟨j,hj,rfl⟩:=map_inl h1;obtain⟨H2,F2,m1,m2⟩:=jJ (W:=writes x) hj hh h2.here (g2.trans h2.keeps) sm;exact⟨rfl,H2,F2,m1,m2,sm⟩
    |exit i=>exact out (e:= .exit i) (by simp) h1
    |ret=>exact out (e:= .ret) (by simp) h1
    |goto l=>exact out (e:= .goto l) (by simp) h1
 | .label l,R,q,a,st,k,H,F,w,ρ,Q,h,hh,hk=>λact hf=>wp_label ⟨ρ,hf,hk .normal st H F w ρ h ⟨hh,bQ.refl H F w,λ_ _=>rfl⟩⟩
 | .scope x,R,q,a,st,k,H,F,w,ρ,Q,h,hh,hk=>by
   have h1:=fW (Q:=λe ρ w=>match e with| .goto _=>False|e=>Q e ρ w) x (show exec E nt N x a.l st (noGoto k)=some q from h) hh λe cG H' F' w' cq h1 h2=>by
    cases e with
    |goto l=>cases h1
    |_=>exact hk _ cG H' F' w' cq h1 h2
   intro act hf;refine wp_scope_straight (wp_mono (h1 act hf) λe a' w' ⟨cq,ov,Qm⟩=>?_)
   cases e<;>first
    |exact Qm.elim
    |exact⟨cq,ov,Qm⟩
 | .goto l,R,q,a,st,k,H,F,w,ρ,Q,h,hh,hk=>λact hf=>wp_goto ⟨ρ,hf,hk (.goto l) st H F w ρ h ⟨hh,bQ.refl H F w,λ_ _=>rfl⟩⟩
 | .rangeFunc ..,_,_,_,_,_,_,_,_,_,_,h,_,_=>by cases h
 | .refuse _,_,_,_,_,_,_,_,_,_,_,h,_,_=>by cases h
end
end Go.Proofs.YtbladfbbhijpmaaGreat
namespace Go.Proofs.YtbladfbbhijpmaaGreat
open Go Go.RowKit
def xc{P:Program}(T:aM P)(ak:List (Nat×aj))(objs:List (Nat×(Nat×Th)))(t:Nat)(T0:TypeId):Option aj:=
 match find T.und T0 with
 |none=>acP
 |some kk=>match find ak t with
  |some (.ptr o p off)=>match find objs o with
   |some (_, .box _ tr)=>match tr.get p with
    |some (s,cV)=>bif aaY cV off&&kH T T0 kk s.size then some (.val (ir kk) s)else acP
    |none=>acP
   |_=>acP
  |_=>acP
def xd{P:Program}(T:aM P)(ak:List (Nat×aj))(objs:List (Nat×(Nat×Th))):List ResultVar->Option (List aj)
 |[]=>some []
 | .tmp t::l=>match find ak t with
   |some d=>match xd T ak objs l with
    |some ds=>some (d::ds)
    |none=>acP
   |none=>acP
 | .cell t T0::l=>match xc T ak objs t T0 with
   |some d=>match xd T ak objs l with
    |some ds=>some (d::ds)
    |none=>acP
   |none=>acP
noncomputable def Mf{P:Program}(T:aM P)(rs:List ResultVar)(nb:Nat)(out:JS)(st:State):Option (cE out.rows):=
 match xd T st.ak st.objs rs with
 |some ds=>w9 {ak:=fI 0 ds,objs:=(mL st).objs,nxt:=(mL st).nxt} (λst1=>match vn nb [] out st1.ak st1.objs with
  |some (x,_)=>some x
  |none=>acP) out.ak
 |none=>acP
def init(inn:JS)(x:cE inn.rows):State:=
 {ak:=(cB inn.ak (cK _ x)).1,objs:=e8 0 inn.objs (cB inn.ak (cK _ x)).2,nxt:=inn.nxt}
noncomputable def OK{P:Program}(T:aM P)(rs:List ResultVar)(nb:Nat)(out:JS):Ex->State->Option (cE out.rows)
 | .exit _,_=>acP
 | .goto _,_=>acP
 |_,st=>Mf T rs nb out st
noncomputable def Mg{P:Program}(E:Env P)(nt N:Nat)(c:Code)(rs:List ResultVar)(a:rB)(inn out:JS)(x:cE inn.rows):Option (cE out.rows):=
 exec E nt N c a (init inn x) (OK E.T rs inn.nxt out)
section
variable {P:Program} {ρ:Nat->Value} {w:World} {H:an} {F:Nat->Prop} {U:Nat->Prop} {n:Nat}
theorem zo(T:aM P){t:TypeId}{kk:FC}(hu:find T.und t=some kk){b off:Nat}{s:Tree}{cs:List Value}(hh:Holds H F w s cs)(hc:∀j u,cs[j]? =some u->w.cell? ⟨b,off+j,acP⟩=some u)
 (hz:if ir kk=acQ then∃r,find T.row t=some r/\r.size=s.size else s.size=1):∃v,(loadVar t ⟨b,off,acP⟩).run P w= .ok v w/\az H F w (ir kk) s v:=by
 obtain⟨dd,ur,ul⟩:=(T.und_ok _ _ hu).agg;have hl:=hh.length
 cases ha:ir kk with
 |true=>
  rw[acU ha]at hz;obtain⟨r,hr,I3⟩:=hz;obtain⟨ti,z,h1,_,_,h4,_⟩:=T.row_ok _ _ hr
  have RJ:(loadCells ⟨b,off,acP⟩ cs.length).run P w= .ok cs.toArray w:=
   run_loadCells_list (P:=P) w ⟨b,off,acP⟩ cs (λj v hv=>by rw[bZ];exact hc j v hv)
  refine⟨.agg cs.toArray,?_,cs,hh,rfl,by simp⟩
  have jc:ti.size=cs.length:=by omega
  simp[loadVar,abp,dK ur,ul.trans ha,sizeOf,typeInfo,h1,jc,RJ]
 |false=>
  rw[acT (by simp[ha])]at hz
  obtain⟨v,rfl⟩:∃v,cs=[v]:=by
   match cs,hl.trans hz with
   |[v],_=>exact⟨v,rfl⟩
  refine⟨v,?_,[v],hh,rfl,λ_=>rfl⟩;have:=hc 0 v rfl;simp only[ab3]at this;simp[loadVar,abp,dK ur,ul.trans ha,this,go_sem]
theorem Bq(T:aM P){ak:List (Nat×aj)}{objs:List (Nat×(Nat×Th))}{t:Nat}{T0:TypeId}{D:aj}(h:xc T ak objs t T0=some D)(fq:∀t d,find ak t=some d->ah H F w d (ρ t))(hs:aq U H F w (find objs) n):
 ∃a v,ρ t= .pointer (some a)/\(loadVar T0 a).run P w= .ok v w/\ah H F w D v:=by
 unfold xc at h;split at h
 .cases h
 rename_i kk hu;split at h
 case h_2=>cases h
 rename_i o p off hD;split at h
 case h_2=>cases h
 rename_i s0 T1 tr bW;split at h
 case h_2=>cases h
 rename_i s cV hg;obtain⟨h1,rfl⟩:=pC h;obtain⟨h1,h3⟩:=bU h1;obtain rfl:=beq_true h1;obtain⟨b,hb,e⟩:=fq _ _ hD;obtain⟨es,hh,KX⟩:=hs.box bW hb;obtain⟨g1,g2⟩:=KX.get hg
 obtain⟨v,hv,kz⟩:=zo (b:=b) (off:=cV) T hu g1 (λj u hj=>by
  rw[sL hh];rw[abl]at hj;split at hj
  .rwa [abe]at hj
  .cases hj) (hZ T h3)
 exact⟨_,v,e,hv,kz⟩
def J3(tmps:Array Value):ResultVar->Sem Value
 | .tmp t=>pure (tmps.getD t undef)
 | .cell a t=>do loadVar t (<-asAddr (tmps.getD a undef))
theorem xe(T:aM P){ak:List (Nat×aj)}{objs:List (Nat×(Nat×Th))}(fq:∀t d,find ak t=some d->ah H F w d (ρ t))(hs:aq U H F w (find objs) n){tmps:Array Value}(hf:∀t,tmps.getD t undef=ρ t):
 {rs:List ResultVar}->{ds:List aj}->xd T ak objs rs=some ds->∃vs:List Value,(rs.mapM (J3 tmps)).run P w= .ok vs w/\dP H F w ds vs
 |[],ds,h=>by obtain rfl:=aaT h;exact⟨[],by simp,rfl⟩
 | .tmp t::l,ds,h=>by
   unfold xd at h;split at h
   case h_2=>cases h
   rename_i d hd;split at h
   case h_2=>cases h
   rename_i Qi sd;obtain rfl:=aaT h;obtain⟨vs,h1,h2⟩:=xe T fq hs hf sd;refine⟨ρ t::vs,?_,ρ t,vs,rfl,fq t d hd,h2⟩
   have hm:(J3 tmps (.tmp t)).run P w= .ok (ρ t) w:=by rw[<-hf t];rfl
   rw[List.mapM_cons];simp only[abp,hm,Sem.run_pure,abC,h1]
 | .cell t T0::l,ds,h=>by
   unfold xd at h;split at h
   case h_2=>cases h
   rename_i d hd;split at h
   case h_2=>cases h
   rename_i Qi sd;obtain rfl:=aaT h;obtain⟨vs,h1,h2⟩:=xe T fq hs hf sd;obtain⟨a,v,e1,e2,e3⟩:=Bq T hd fq hs;refine⟨v::vs,?_,v,vs,rfl,e3,h2⟩;have ha:(asAddr (.pointer (some a))).run P w= .ok a w:=rfl
   have hm:(J3 tmps (.cell t T0)).run P w= .ok v w:=by
    show(asAddr (tmps.getD t undef)>>= λb=>loadVar T0 b).run P w=_
    rw[hf t,e1,abp,ha,abC,e2]
   rw[List.mapM_cons];simp only[abp,hm,Sem.run_pure,abC,h1]
theorem Br(T:aM P){fn:Func}{rs:List ResultVar}(I3:fn.results.toList=rs){ak:List (Nat×aj)}{objs:List (Nat×(Nat×Th))}(fq:∀t d,find ak t=some d->ah H F w d (ρ t))(hs:aq U H F w (find objs) n){tmps:Array Value}(hf:∀t,tmps.getD t undef=ρ t)
 {ds:List aj}(h:xd T ak objs rs=some ds):∃vs:List Value,(results fn tmps).run P w= .ok (uy vs) w/\dP H F w ds vs:=by
 obtain⟨vs,h1,h2⟩:=xe T fq hs hf h;refine⟨vs,?_,h2⟩;have e:fn.results=rs.toArray:=cW I3;have er:results fn tmps=(fn.results.mapM (J3 tmps)>>= λvs=>pure (if h:vs.size=1 then vs[0]else Value.tuple vs)):=rfl;rw[er,e,List.mapM_toArray]
 have:∀vs:List Value,(if h:vs.toArray.size=1 then vs.toArray[0]else Value.tuple vs.toArray)=uy vs:=by
  intro vs
  match vs with
  |[]=>rfl
  |[v]=>rfl
  |a::b::l=>simp[uy]
 simp only[abp,Sem.run_map,h1,abC,Sem.run_pure,this]
theorem CR:{l:List (Nat×SS)}->{vs:List iu}->{k t:Nat}->{d:aj}->qP k l=acQ->find (cB l vs).1 t=some d->t<k+l.length
 |[],_,_,_,_,_,h=>by cases h
 |(t0,s)::l,vs,k,t,d,hi,h=>by
  obtain⟨h1,h2⟩:=bU hi;have h':find ((t0,(dt s vs).1)::(cB l (dt s vs).2).1) t=some d:=h;rw[aA]at h';have:=beq_true h1;rw[aa6];split at h'
  .omega
  .have:=CR h2 h';omega
def OL(P:Program)(nt:Nat)(c:Code)(run:{R:Type}->State->(Ex->State->Option R)->Option R):Prop:=
 ∀{R:Type}{q:R}{st:State}{k:Ex->State->Option R}{H:an}{F:Nat->Prop}{w:World}{ρ:Nat->Value}{G:Nat->Prop}{w0:World}{F0:Nat->Prop}{Q:Exit->(Nat->Value)->World->Prop},
  run st k=some q->cg G w0 F0 H F w ρ st->(∀e cG H' F' w' cq,k e cG=some q->Me G w0 F0 (writes c) H F w ρ H' F' w' cq cG->Q e.rA cq w')->r3 P nt c Q ρ w
theorem Mh{E:Env P}{f:FuncId}{fn:Func}{c:Code}{rs:List ResultVar}{sg:ng}{run:{R:Type}->State->(Ex->State->Option R)->Option R}(hW:OL P fn.ntmps c run)(hf:P.funcs[f]? =some fn)(hn:(fn.name== "runtime.NumGoroutine")=acR)(hb:fn.body=some c)(I3:fn.results.toList=rs)
 (mf:qP 0 sg.inn.ak=acQ)(hlen:Nat.ble sg.inn.ak.length fn.ntmps=acQ)(wi:aaY rs.length sg.out.ak.length=acQ)
 (yQ:∀x,sg.fn x=run (init sg.inn x) (OK E.T rs sg.inn.nxt sg.out)):fH P f sg:=by
 refine⟨⟨fn,hf,hn,by rw[hb];rfl⟩,λx y oP args w H F G Cd fq bW dF hG=>?_⟩
 have hlen:sg.inn.ak.length<=fn.ntmps:=by simpa using hlen
 have wi:=beq_true wi
 refine(wb (R:=λv w'=>∃vs,v=uy vs/\vs.length=sg.out.ak.length/\∃H' F',Ext G w w'/\H.le H'/\(∀b,F b->F' b)/\(∀b,F' b->F b\/w.heap.size<=b\/G b)/\
  (∀t d,find (cB sg.out.ak (cK _ y)).1 t=some d->ah H' F' w' d (vs.getD t undef))/\
  aq (λk=>w.heap.size<=k\/G k) H' F' w' (find (e8 sg.inn.nxt sg.out.objs (cB sg.out.ak (cK _ y)).2)) sg.out.nxt/\fF H' sg.out.nxt) hf hb (by omega) λρ K8=>?_).mono λe w' ⟨v,he,vs,hv,h1,h2⟩=>⟨vs,by rw[he,hv],h1,h2⟩
 have R9:∀t,t<args.length->ρ t=args.getD t undef:=λt ht=>by
  rw[K8 t _ (aaW ht)];simp[List.getD,ht]
 have keys:∀t d,find (cB sg.inn.ak (cK sg.inn.rows x)).1 t=some d->ah H F w d (ρ t):=λt d hd=>by
  rw[R9 t (by have:=CR mf hd;omega)];exact fq t d hd
 have hh:cg G w F H F w ρ (init sg.inn x):=⟨⟨keys,bW,dF⟩,⟨⟨rfl,⟨rfl,aaX _⟩,rfl,aaX _,λ_ _ _=>rfl⟩,λ_ h=>h,λ_ h=> .inl h⟩⟩
 refine hW ((yQ x).symm.trans oP) hh λe cG H' F' w' cq h1 h2=>?_
 have main:Mf E.T rs sg.inn.nxt sg.out cG=some y->∀act,Fr fn.ntmps act cq->∃v,(results fn act.tmps).run P w'= .ok v w'/\∃vs,v=uy vs/\vs.length=sg.out.ak.length/\∃H' F',Ext G w w'/\H.le H'/\(∀b,F b->F' b)/\(∀b,F' b->F b\/w.heap.size<=b\/G b)/\
  (∀t d,find (cB sg.out.ak (cK _ y)).1 t=some d->ah H' F' w' d (vs.getD t undef))/\
  aq (λk=>w.heap.size<=k\/G k) H' F' w' (find (e8 sg.inn.nxt sg.out.objs (cB sg.out.ak (cK _ y)).2)) sg.out.nxt/\fF H' sg.out.nxt:=by
  intro hr act wj;unfold Mf at hr;split at hr
  case h_2=>cases hr
  rename_i ds sd;obtain⟨vs,g1,g2⟩:=Br E.T I3 h2.here.sat.slot h2.here.sat.ob wj.get sd;have hdl:=iw g2;refine⟨_,g1,vs,rfl,?_,?_⟩
  .have:∀{rs:List ResultVar}{ds:List aj},xd E.T cG.ak cG.objs rs=some ds->ds.length=rs.length:=by
    intro rs
    induction rs with
    |nil=>intro ds h;obtain rfl:=aaT h;rfl
    |cons r l ih=>
     intro ds h
     cases r<;>unfold xd at h<;>split at h<;>try cases h
     all_goals
      split at h
      case h_2=>cases h
      rename_i Qi Sa;obtain rfl:=aaT h;simp[ih Sa]
   have:=this sd;omega
  .have JN:aq (UU G w) H F w (find (del [] [])) sg.inn.nxt:=⟨λ_ _ _ h=>(by cases h),λ_ _ _ _ _ _ _ _ _ h=>(by cases h),bW.fresh,bW.lt,bW.new,bW.gl⟩
   obtain⟨H4,F4,h4,k4⟩:=h2.here.mL;obtain⟨st1,H3,F3,hr,h3,k3⟩:=cg.w9 (ρ:=λt=>vs.getD t undef) (st:={ak:=fI 0 ds,objs:=(mL cG).objs,nxt:=(mL cG).nxt}) sg.out.ak ⟨⟨λt d hd=>ah.keep k4.eR k4.step (by simpa using(ni g2 t d hd).2),h4.sat.ob,h4.sat.all⟩,h4.glob⟩ hr;split at hr
   case h_2=>cases hr
   rename_i _ z rest hp;obtain⟨bs,aG⟩:=rest;obtain rfl:=aaT hr;obtain⟨F2,H2,a1,a2,a3,_,a5,_,a6,a7,a8⟩:=tn (U':=UU G w) (ns:=[]) (objs0:=[]) (ρ:=λt=>vs.getD t undef) hp JN dF ((h2.keeps.trans k4).trans k3) h3.sat.ob (λt d hd=>h3.sat.slot t d hd)
   have rR:=a8 h3.sat.ob.new (λo s t v k _ m2 m3 m4=>by
    obtain⟨v',da,bP⟩:=a1.obj _ _ _ m2;rw[m3]at da;obtain rfl:=aaT da
    exact bP.use k m4) (λ_ _ _ _ _ h=>by cases h)
   rw[show del [] ([]:List (Nat×(Nat×Th)))=[]from rfl,List.append_nil]at rR;refine⟨H2,F2,h3.glob.ext,a5,λb hb=>a2 b (h3.glob.le b hb),λb hb=>?_,a7,rR,a6⟩
   rcases a3 b hb with m1|m1
   .exact h3.glob.new b m1
   .exact .inr (h3.sat.ob.eo b m1)
 cases e with
 |normal=>exact main h1
 |ret=>exact main h1
 |exit id=>cases h1
 |goto l=>cases h1
theorem OM{E:Env P}{f:FuncId}{fn:Func}{c:Code}{rs:List ResultVar}{N:Nat}{a:rB}{sg:ng}(hf:P.funcs[f]? =some fn)(hn:(fn.name== "runtime.NumGoroutine")=acR)(hb:fn.body=some c)(I3:fn.results.toList=rs)
 (mf:qP 0 sg.inn.ak=acQ)(hlen:Nat.ble sg.inn.ak.length fn.ntmps=acQ)(wi:aaY rs.length sg.out.ak.length=acQ)
 (yQ:∀x,sg.fn x=Mg E fn.ntmps N c rs a sg.inn sg.out x):fH P f sg:=
 Mh (E:=E) (run:=λst k=>exec E fn.ntmps N c a st k) (λh hh hk=>fW c h hh hk) hf hn hb I3 mf hlen wi yQ
structure CT(P:Program)where
 f:Nat
 sg:ng
 ok:fH P f sg
def ck{P:Program}{f:Nat}{sg:ng}(h:fH P f sg):CT P:=⟨f,sg,h⟩
def CT.tab{P:Program}:List (CT P)->List (Nat×ng)
 |[]=>[]
 |c::l=>(c.f,c.sg)::CT.tab l
theorem CT.Hu{P:Program}:{l:List (CT P)}->∀p∈CT.tab l,fH P p.1 p.2
 |[],_,h=>by cases h
 |c::l,p,h=>by
  rcases aa7.1 h with rfl|h
  .exact c.ok
  .exact CT.Hu p h
def Sb(fn:Func)(sg:ng):Bool:= !(fn.name== "runtime.NumGoroutine")&&fn.body.isSome&&qP 0 sg.inn.ak&&Nat.ble sg.inn.ak.length fn.ntmps&&aaY fn.results.toList.length sg.out.ak.length
theorem fw(E:Env P){f:FuncId}{fn:Func}{N:Nat}{sg:ng}(a:rB)(hf:P.funcs[f]? =some fn)(hc:Sb fn sg=acQ)
 (yQ:∀x,sg.fn x=Mg E fn.ntmps N (fn.body.getD .skip) fn.results.toList a sg.inn sg.out x):fH P f sg:=by
 unfold Sb at hc;simp only[abR,Bool.not_eq_true']at hc;obtain⟨⟨⟨⟨h1,h2⟩,h3⟩,h4⟩,h5⟩:=hc;obtain⟨c,hc⟩:=abB.1 h2;exact OM (E:=E) (N:=N) (a:=a) hf h1 (by rw[hc];rfl) rfl h3 h4 h5 yQ
@[reducible] def SS.l(r:Row):SS:= .val acR (.leaf r)
@[reducible] def SS.g(r:Row):SS:= .val acQ (.leaf r)
theorem xf{f:FuncId}{fn:Func}{sg:ng}(hf:P.funcs[f]? =some fn)(hn:(fn.name== "runtime.NumGoroutine")=acR)(hb:fn.body.isNone=acR)(yQ:∀x,sg.fn x=acP):fH P f sg:=
 ⟨⟨fn,hf,hn,hb⟩,λx y h=>by rw[yQ x]at h;cases h⟩
abbrev ae:Row:= .int .i64
def nn{α:Type}:Nat->List α->List (Nat×α)
 |_,[]=>[]
 |n,a::l=>(n,a)::nn (n+1) l
abbrev JS.j1(l:List SS)(o:List OS)(k:Nat):JS:=⟨nn 0 l,nn 0 o,[],k⟩
abbrev JS.i1(l:List SS):JS:= .j1 l [] 0
abbrev JS.w1(t:Nat)(r:Row):JS:= .j1 [.val acR (.own 0)] [.own t r] 1
abbrev rB.mb(i n:Nat):rB:= .meet ⟨[(i, .l .bool)],[],[],n⟩ .nil .nil
abbrev rB.lp(i n:Nat)(a:rB):rB:= .loop ⟨[(i, .l ae)],[],[],n⟩ a
abbrev u2{A B R:Type}(f:A->B->R)(x:A×B):R:=f x.1 x.2
abbrev u3{A B C R:Type}(f:A->B->C->R)(x:A×B×C):R:=f x.1 x.2.1 x.2.2
abbrev u4{A B C D R:Type}(f:A->B->C->D->R)(x:A×B×C×D):R:=f x.1 x.2.1 x.2.2.1 x.2.2.2
abbrev u5{A B C D E R:Type}(f:A->B->C->D->E->R)(x:A×B×C×D×E):R:=f x.1 x.2.1 x.2.2.1 x.2.2.2.1 x.2.2.2.2
abbrev u6{A B C D E F R:Type}(f:A->B->C->D->E->F->R)(x:A×B×C×D×E×F):R:=f x.1 x.2.1 x.2.2.1 x.2.2.2.1 x.2.2.2.2.1 x.2.2.2.2.2
end
end Go.Proofs.YtbladfbbhijpmaaGreat
end
namespace Go.Proofs.YtbladfbbhijpmaaGreat
open Go Go.RowKit
set_option maxRecDepth 100000
set_option linter.unusedSimpArgs false
set_option linter.unusedVariables false
set_option linter.defProp false
inductive Bt(F:Nat->Prop)(w:World):Nat->List (Nat×SS)->List iu->List Value->Prop where
 |nil {k:Nat}:Bt F w k [] [] []
 |cons {k:Nat} {agg:Bool} {r:Row} {x:r.den} {v:Value} {ss:List (Nat×SS)} {ds:List iu} {vs:List Value} (h:az ⟨λ_=>acP,λ_=>acP,λ_ _=>False⟩ F w agg (.leaf r x) v) (hs:Bt F w (k+1) ss ds vs):Bt F w k ((k, .val agg (.leaf r))::ss) (⟨r,x⟩::ds) (v::vs)
theorem Bt.ak{F:Nat->Prop}{w:World}{k:Nat}{ss:List (Nat×SS)}{ds:List iu}{vs:List Value}(h:Bt F w k ss ds vs):(∀t d,find (cB ss ds).1 t=some d->k<=t/\ah ⟨λ_=>acP,λ_=>acP,λ_ _=>False⟩ F w d (vs.getD (t-k) undef))/\(cB ss ds).2=[]/\vs.length=ss.length:=by
 induction h with
 |nil=>exact⟨λ_ _ h=>(by cases h),rfl,rfl⟩
 | @cons k agg r x v ss ds vs h hs ih=>
   refine⟨λt d hf=>?_,ih.2.1,by simp[ih.2.2]⟩;have ov:find ((k,aj.val agg (bif r.beq r then Tree.leaf r x else .nil))::(cB ss ds).1) t=some d:=hf;rw[aA]at ov;split at ov
   .rename_i e;subst e;obtain rfl:=aaT ov;rw[Row.beq_refl,Nat.sub_self];exact⟨aaX _,h⟩
   .obtain⟨h1,h2⟩:=ih.1 t d ov;refine⟨by omega,?_⟩;rw[show t-k=(t-(k+1))+1 from by omega];simpa using h2
theorem nr{F:Nat->Prop}{w:World}{r:Row}{x:r.den}{es:List Value}(h:bT F w r es x):az ⟨λ_=>acP,λ_=>acP,λ_ _=>False⟩ F w acQ (.leaf r x) (.agg es.toArray):=⟨es,h,rfl,by simp⟩
theorem ER{P:Program}{f:FuncId}{inn:JS}{fn:cE inn.rows->Option Bool}(h:fH P f ⟨inn,⟨[(0, .val acR (.leaf .bool))],[],[],0⟩,fn⟩){x:cE inn.rows}{y:Bool}(hy:fn x=some y){ds:List iu}(sd:cK inn.rows x=ds){W:World}{vs:List Value}
 (ha:Bt (λb=>b<W.heap.size) W 0 inn.ak ds vs)(ho:inn.objs=[])(Mi:oQ (λb=>b<W.heap.size) W):Calls P f vs.toArray W λe W'=>e= .returned (.bool y)/\Below W.heap.size W W':=by
 obtain⟨h1,h2,h3⟩:=ha.ak;subst sd
 refine(h.ok x y hy vs W ⟨λ_=>acP,λ_=>acP,λ_ _=>False⟩ (λb=>b<W.heap.size) (λ_=>False) h3 (λt d hd=>by simpa using(h1 t d hd).2) ?_ (λ_ _=>⟨rfl,rfl⟩) (λ_ h=>h.elim)).mono λe W' ⟨us,he,G9,H',F',a1,_,_,_,a5,_⟩=>?_
 .show aq _ _ _ W (find (e8 0 inn.objs _)) inn.nxt
  rw[ho];exact⟨λ_ _ _ h=>(by cases h),λ_ _ _ _ _ _ _ _ _ h=>(by cases h),λ_ _ _=>⟨rfl,rfl⟩,λ_ h=>h,λ_ h=> .inl h,Mi⟩
 .refine⟨?_,⟨a1.os,a1.tape.1,a1.output,a1.size,λk hk=>a1.block k hk (λh=>h)⟩⟩
  match us,G9 with
  |[u],_=>
   have:=a5 0 (cZ y) rfl;have hu:u= .bool y:=az.bool (x:=y) this;rw[he,hu];rfl
section
section
variable {P:Program} {nt N:Nat} {R:Type}
variable {ρ:Nat->Value} {w w0:World} {H:an} {F F0 G:Nat->Prop}
end
end
section
def oF(l:List Int):List Int:=l.mergeSort λx y=>decide (x<=y)
section
variable {P:Program} {w w':World} {F:Nat->Prop} {T:TypeId}
theorem Hv(w:World):ab4 w #[]=w:=by
 unfold ab4;rw[Array.append_empty]
theorem CU{g off:Nat}{d:Array Int}{n:Nat}{os:Array Obj}(h:w'=ab4 (abO (abQ .i64) (abX w n) g off d) os):Ext (λk=>k=g) w w':=by
 subst h;refine⟨rfl,⟨rfl,Nat.le_add_right _ _⟩,rfl,?_,λk hk hn=>?_⟩
 .simp[ab4,abO,aca,abX]
 .simp only[ab4];rw[acv (by simpa[abO,aca,abX]using hk)];simp only[abO,aca,abX,Array.getElem?_modify];rw[acT (λe=>hn e.symm)]
theorem J4{g off:Nat}{d:Array Int}{n:Nat}{os:Array Obj}(h:w'=ab4 (abO (abQ .i64) (abX w n) g off d) os){cur:Array Value}(hg:w.heap[g]? =some (.cells cur T (0,0))):
 w'.heap[g]? =some (.cells (abM (abQ .i64) off d cur) T (0,0)):=by
 subst h;have ag:g<w.heap.size:=(abx.1 hg).1;simp only[ab4];rw[acv (by simpa[abO,aca,abX]using ag)];simp only[abO,aca,abX,Array.getElem?_modify];rw[acU trivial,hg];rfl
theorem Bu{l:List Int}{xs:List Value}(hx:xs.length=l.length*1)(h:∀i(hi:i<l.length),bT F w ae ((xs.drop (i*1)).take 1) l[i]):xs=l.map (abQ .i64):=by
 apply List.ext_getElem (by simpa using hx);intro i h1 h2
 have hi:i<l.length:=by simpa using h2
 have:(xs.drop (i*1)).take 1=[abQ .i64 l[i]]:=h i hi;rw[Nat.mul_one,abv h1,List.take_succ_cons,List.take_zero]at this;simpa only[List.getElem_map,ab9,and_true]using this
theorem ES{off:Nat}{d:Array Int}{cur:Array Value}(h:off+d.size<=cur.size):((abM (abQ .i64) off d cur).toList.drop off).take d.size=d.toList.map (abQ .i64):=by
 apply List.ext_getElem (by simp[abM];omega);intro i h1 h2
 have hi:i<d.size:=by simpa using h2
 rw[List.getElem_take,List.getElem_drop,List.getElem_map,Array.getElem_toList,Array.getElem_toList];simp only[abM,Array.getElem_mapIdx];rw[acU ⟨by omega,by omega⟩,show off+i-off=i by omega,getElem!_pos d i hi]
theorem vG{v:Value}{l:List Int}(h:gv 0 F w T ae v l):(v= .slice acP 0 0/\l=[])\/∃g o0 cap cur,v= .slice (some ⟨g,o0,acP⟩) l.length cap/\w.heap[g]? =some (.cells cur T (0,0))/\l.length<=cap/\cap<=maxLen/\o0+cap<=cur.size/\Go.Sort.Holds (abQ .i64) w g o0 l.toArray:=by
 obtain⟨_,xs,⟨hx,h2⟩,h3⟩:=h;have e:=Bu hx h3
 rcases h2 with⟨rfl,h0⟩|⟨g,o0,cap,cur,rfl,_,hg,h4,h5,h6,h7⟩
 .exact .inl ⟨rfl,List.eq_nil_of_length_eq_zero h0⟩
 .refine .inr ⟨g,o0,cap,cur,rfl,hg,h4,h5,by simpa[Row.size]using h6,λj hj=>⟨?_,frozen_of_row w g _ cur T hg⟩⟩
  have hj:j<l.length:=by simpa using hj
  rw[cell_of_row w g _ cur T (0,0) hg]
  have:xs[j]? =some (abQ .i64 l[j]):=by rw[e];simp[hj]
  rw[<-h7,abl]at this;split at this
  .rw[abe]at this;rw[getElem!_pos l.toArray j (by simpa using hj)];simpa using this
  .cases this
theorem zp{g o0 cap:Nat}{l d:List Int}{cur:Array Value}{n:Nat}{os:Array Obj}(h:gv 0 F w T ae (.slice (some ⟨g,o0,acP⟩) l.length cap) l)(hg:w.heap[g]? =some (.cells cur T (0,0)))(hs:o0+cap<=cur.size)(hc:cap<=maxLen)
 (hl:d.length<=cap)(m:Nat)(hm:m<=d.length)(hw:w'=ab4 (abO (abQ .i64) (abX w n) g o0 d.toArray) os):gv 0 F w' T ae (.slice (some ⟨g,o0,acP⟩) m cap) (d.take m):=by
 have Hw:=J4 hw hg;have hp:=ES (off:=o0) (d:=d.toArray) (cur:=cur) (by simp;omega);refine⟨λk hk=>h.no k (by simpa[bh,abu]using hk),(d.take m).map (abQ .i64),⟨by simp[Row.size], .inr ⟨g,o0,cap,_,by simp[ab5 hm],Nat.zero_le _,Hw,by simp;omega,hc,by simp[abM,Row.size];omega,?_⟩⟩,λi hi=>?_⟩
 .have:((abM (abQ .i64) o0 d.toArray cur).toList.drop o0).take m=(d.take m).map (abQ .i64):=by
   rw[show m=min m d.toArray.size by simp[ab5 hm],<-List.take_take,hp,List.map_take];simp[ab5 hm]
  simpa[Row.size,ab5 hm]using this
 .have jF:i<d.length:=by simp at hi;omega
  show((List.map (abQ .i64) (d.take m)).drop (i*1)).take 1=[abQ .i64 (d.take m)[i]]
  rw[Nat.mul_one,abv (by simpa using hi)];simp
theorem nu(d:Array Int):∀m,(Go.Lib.compactUpTo d m).length<=m
 |0=>by simp[Go.Lib.compactUpTo]
 |m+1=>by
  have:=nu d m;rw[Go.Lib.compactUpTo_succ,aba]
  split<;>simp<;>omega
theorem tI(l:List Int):(ab1 l).length<=l.length:=nu _ _
theorem kL{α:Type}{k o:Nat}{x:α}(h:o≠k):find [(k,x)] o=acP:=by
 have:aaY k o=acR:=by
  cases hb:aaY k o with
  |false=>rfl
  |true=>exact absurd (abK hb).symm h
 simp[find,this]
theorem Bv{f:FuncId}{r:Row}{fn:List r.den->Option (List r.den)}(hb:∃fn,P.funcs[f]? =some fn/\(fn.name== "runtime.NumGoroutine")=acR/\fn.body.isNone=acR)
 (hr:r.beq r=acQ)
 (hc:∀{F:Nat->Prop}{w:World}{v:Value}{l m:List r.den},fn l=some m->gv 0 F w T r v l->(∀b,F b->b<w.heap.size)->Calls P f #[v] w λe w'=>e= .returned (.tuple #[])/\Ext (bh v) w w'/\gv 0 F w' T r v m):
 fH P f ⟨⟨[(0, .val acR (.own 0))],[(0, .own T r)],[],1⟩,⟨[],[(0, .own T r)],[],2⟩,fn⟩:=by
 refine⟨hb,λx y oP args w H F G hlen fq bW dF hG=>?_⟩;have dF:fF H 1:=dF
 match args,hlen with
 |[v],_=>
 have hx:(e8 0 [(0,OS.own T r)] (cB [(0,SS.val acR (.own 0))] (cK [.slice r] x)).2)=[(0,(0, .own T r x))]:=by
  show[(0,(0,(cu (.own T r) [⟨.slice r,x⟩]).1))]=_
  simp only[cu,hr,cond_true]
 have hy:(e8 1 [(0,OS.own T r)] (cB [] (cK [.slice r] y)).2)=[(0,(1, .own T r y))]:=by
  show[(0,(1,(cu (.own T r) [⟨.slice r,y⟩]).1))]=_
  simp only[cu,hr,cond_true]
 have bW:aq (λk=>w.heap.size<=k\/G k) H F w (find [(0,(0,Th.own T r x))]) 1:=by rw[<-hx];exact bW
 have hd:ah H F w (.val acR (.own 0)) v:=fq 0 _ rfl;obtain⟨cs,⟨v',hv,h1,rfl⟩,_,oN⟩:=hd
 obtain rfl:v'=v:=by have:=oN rfl;simpa using this
 have dm:=bW.own rfl hv;obtain⟨v2,lu,bP⟩:=bW.obj 0 0 _ rfl;rw[hv]at lu;obtain rfl:=aaT lu
 refine(hc oP dm bW.lt).mono λe w' ⟨he,bo,eZ⟩=>⟨[],he,rfl,H.ba 1 (.own T r y),F,⟨bo.os,bo.tape,bo.output,bo.size,λk hk hn=>bo.block k hk λhm=>?_⟩,an.ew (dF 1 (aaX _)).2,λb h=>h,λb h=> .inl h,λt d h=>?_,?_,?_⟩
 .rcases bP.use k hm with h|h
  .omega
  .exact hn h
 .cases h
 .show aq _ _ F w' (find (e8 1 [(0,OS.own T r)] (cB [] (cK [.slice r] y)).2)) 2
  rw[hy];refine⟨λo s t ho=>?_,λo o' s s' t t' u u' cA ho iY=>?_,λm h1 h2=>⟨(dF m (by have:2<=m:=h1;omega)).1,?_⟩,λb hb=>abt (bW.lt b hb) bo.size,λb hb=> .inl (abi bo.size hb),bW.gl.step (Step.ext bo bW.lt dm.no)⟩
  .obtain⟨rfl,h⟩:o=0/\(1,Th.own T r y)=(s,t):=by
    by_cases h0:o=0
    .subst h0;exact⟨rfl,aaT ho⟩
    .exfalso;have:find [(0,(1,Th.own T r y))] o=acP:=kL h0;rw[this]at ho;cases ho
   cases h;refine⟨v',hv,h1,by simp[an.ba,Th.base],gv.to _ eZ,eZ.no,eZ.lt,λk hk=>?_⟩;exact bP.use k hk
  .have key:∀o x,find [(0,(1,Th.own T r y))] o=some x->o=0:=λo x h=>by
    by_cases h0:o=0
    .exact h0
    .have:find [(0,(1,Th.own T r y))] o=acP:=kL h0;rw[this]at h;cases h
   exact absurd ((key o _ ho).trans (key o' _ iY).symm) cA
  .have h1:2<=m:=h1
   show(if m=1 then _ else H.con m)=acP
   rw[acT (by omega)];exact(dF m (by omega)).2
 .intro m hm;have hm:2<=m:=hm;refine⟨(dF m (by omega)).1,?_⟩
  show(if m=1 then _ else H.con m)=acP
  rw[acT (by omega)];exact(dF m (by omega)).2
theorem ET{f:FuncId}{r:Row}{fn:List r.den->Option (List r.den)}(hb:∃fn,P.funcs[f]? =some fn/\(fn.name== "runtime.NumGoroutine")=acR/\fn.body.isNone=acR)
 (hr:r.beq r=acQ)
 (hc:∀{F:Nat->Prop}{w:World}{v:Value}{l m:List r.den},fn l=some m->gv 0 F w T r v l->(∀b,F b->b<w.heap.size)->Calls P f #[v] w λe w'=>∃v',e= .returned v'/\Ext (bh v) w w'/\gv 0 F w' T r v' m/\∀k,bh v' k->bh v k):
 fH P f ⟨⟨[(0, .val acR (.own 0))],[(0, .own T r)],[],1⟩,⟨[(0, .val acR (.own 1))],[(1, .own T r)],[],2⟩,fn⟩:=by
 refine⟨hb,λx y oP args w H F G hlen fq bW dF hG=>?_⟩;have dF:fF H 1:=dF
 match args,hlen with
 |[v],_=>
 have hx:(e8 0 [(0,OS.own T r)] (cB [(0,SS.val acR (.own 0))] (cK [.slice r] x)).2)=[(0,(0, .own T r x))]:=by
  show[(0,(0,(cu (.own T r) [⟨.slice r,x⟩]).1))]=_
  simp only[cu,hr,cond_true]
 have hy:(e8 1 [(1,OS.own T r)] (cB [(0,SS.val acR (.own 1))] (cK [.slice r] y)).2)=[(1,(1, .own T r y))]:=by
  show[(1,(1,(cu (.own T r) [⟨.slice r,y⟩]).1))]=_
  simp only[cu,hr,cond_true]
 have bW:aq (λk=>w.heap.size<=k\/G k) H F w (find [(0,(0,Th.own T r x))]) 1:=by rw[<-hx];exact bW
 have hd:ah H F w (.val acR (.own 0)) v:=fq 0 _ rfl;obtain⟨cs,⟨v',hv,h1,rfl⟩,_,oN⟩:=hd
 obtain rfl:v'=v:=by have:=oN rfl;simpa using this
 have dm:=bW.own rfl hv;obtain⟨v2,lu,bP⟩:=bW.obj 0 0 _ rfl;rw[hv]at lu;obtain rfl:=aaT lu;have wj:=dF 1 (aaX _)
 refine(hc oP dm bW.lt).mono λe w' ⟨v3,he,bo,eZ,GS⟩=>?_
 have VB:v3.oneCell'=acQ:=(jG.one eZ.2)
 have hle:H.le ((H.ba 1 (.own T r y)).bX 1 v3):=⟨λo u h=>by
  show(if o=1 then some v3 else H.val o)=some u
  rw[acT (λe=>by rw[e,wj.1]at h;cases h)]
  exact h,(an.ew (t:= .own T r y) wj.2).con,(an.ew (t:= .own T r y) wj.2).sub⟩
 refine⟨[v3],he,rfl,(H.ba 1 (.own T r y)).bX 1 v3,F,⟨bo.os,bo.tape,bo.output,bo.size,λk hk hn=>bo.block k hk λhm=>?_⟩,hle,λb h=>h,λb h=> .inl h,λt d h=>?_,?_,?_⟩
 .rcases bP.use k hm with h|h
  .omega
  .exact hn h
 .have ht:t=0/\d= .val acR (.own 1):=by
   have h:find [(0,aj.val acR (.own 1))] t=some d:=h;by_cases h0:t=0
   .subst h0;exact⟨rfl,(aaT h).symm⟩
   .have e:find [(0,aj.val acR (.own 1))] t=acP:=kL h0;rw[e]at h;cases h
  obtain⟨rfl,rfl⟩:=ht;exact⟨[v3],⟨v3,by simp[an.bX],VB,rfl⟩,rfl,λ_=>rfl⟩
 .show aq _ _ F w' (find (e8 1 [(1,OS.own T r)] (cB [(0,SS.val acR (.own 1))] (cK [.slice r] y)).2)) 2
  rw[hy]
  have key:∀o x,find [(1,(1,Th.own T r y))] o=some x->o=1/\x=(1,Th.own T r y):=λo x h=>by
   by_cases h0:o=1
   .subst h0;exact⟨rfl,(aaT h).symm⟩
   .have:find [(1,(1,Th.own T r y))] o=acP:=kL h0;rw[this]at h;cases h
  refine⟨λo s t ho=>?_,λo o' s s' t t' u u' cA ho iY=>?_,λm h1 h2=>⟨?_,?_⟩,λb hb=>abt (bW.lt b hb) bo.size,λb hb=> .inl (abi bo.size hb),bW.gl.step (Step.ext bo bW.lt dm.no)⟩
  .obtain⟨rfl,h⟩:=key o _ ho;cases h;exact⟨v3,by simp[an.bX],VB,by simp[an.ba,an.bX,Th.base],gv.to _ eZ,eZ.no,eZ.lt,λk hk=>bP.use k (GS k hk)⟩
  .exact absurd ((key o _ ho).1.trans (key o' _ iY).1.symm) cA
  .have h1:2<=m:=h1
   show(if m=1 then _ else H.val m)=acP
   rw[acT (by omega)];exact(dF m (by omega)).1
  .have h1:2<=m:=h1
   show(if m=1 then _ else H.con m)=acP
   rw[acT (by omega)];exact(dF m (by omega)).2
 .intro m hm;have hm:2<=m:=hm;refine⟨?_,?_⟩
  .show(if m=1 then _ else H.val m)=acP
   rw[acT (by omega)];exact(dF m (by omega)).1
  .show(if m=1 then _ else H.con m)=acP
   rw[acT (by omega)];exact(dF m (by omega)).2
def zq(l:List Int):Option (List Int):=if l.length<4611686018427387904 then some (oF l)else acP
theorem J5{f:FuncId}(hb:∃fn,P.funcs[f]? =some fn/\(fn.name== "runtime.NumGoroutine")=acR/\fn.body.isNone=acR)
 (h1:∀(lA off cap:Nat)(zs:List Int)(w:World),Go.Sort.Holds (abQ .i64) w lA off zs.toArray->lA<w.heap.size->zs.length<4611686018427387904->
   Calls P f #[.slice (some ⟨lA,off,acP⟩) zs.length cap] w λe w'=>e= .returned (.tuple #[])/\∃n os,w'=ab4 (abO (abQ .i64) (abX w n) lA off (zs.mergeSort λx y=>decide (x<=y)).toArray) os)
 (h2:∀(p:Option Addr)(cap:Nat)(w:World),Calls P f #[.slice p 0 cap] w λe w'=>e= .returned (.tuple #[])/\w'=w):
 fH P f ⟨⟨[(0, .val acR (.own 0))],[(0, .own T ae)],[],1⟩,⟨[],[(0, .own T ae)],[],2⟩,λx=>zq x⟩:=by
 refine Bv (r:=ae) hb rfl λ{F w v l m}hm ho hF=>?_
 have hm:zq l=some m:=hm;unfold zq at hm;split at hm
 case isFalse=>cases hm
 rename_i hlen;obtain rfl:=aaT hm
 rcases vG ho with⟨rfl,rfl⟩|⟨g,o0,cap,cur,rfl,hg,xO,GD,jc,hh⟩
 .refine(h2 acP 0 w).mono λe w' ⟨he,hw⟩=>⟨he,hw▸⟨rfl,⟨rfl,aaX _⟩,rfl,aaX _,λ_ _ _=>rfl⟩,hw▸?_⟩
  simpa[oF]using ho
 .refine(h1 g o0 cap l w hh (abx.1 hg).1 hlen).mono λe w' ⟨he,n,os,hw⟩=>⟨he,?_,?_⟩
  .have:=CU hw;exact⟨this.os,this.tape,this.output,this.size,λk hk hn=>this.block k hk λe=>hn (by simp[bh,abu,e])⟩
  .have hl:(oF l).length=l.length:=List.length_mergeSort ..;have:=zp (d:=oF l) ho hg jc GD (by omega) (oF l).length (aaX _) hw;rw[abg,hl]at this;exact this
def nv(l:List Int):Option (List Int):=if l.length<=9223372036854775807 then some (ab1 l)else acP
theorem Bw{f:FuncId}(hb:∃fn,P.funcs[f]? =some fn/\(fn.name== "runtime.NumGoroutine")=acR/\fn.body.isNone=acR)
 (h1:∀(lA off cap:Nat)(zs:List Int)(w:World),Go.Sort.Holds (abQ .i64) w lA off zs.toArray->zs.length<=9223372036854775807->zs.length<=cap->
   Calls P f #[.slice (some ⟨lA,off,acP⟩) zs.length cap] w λe w'=>e= .returned (.slice (some ⟨lA,off,acP⟩) (ab1 zs).length cap)/\∃q,w'=abO (abQ .i64) (abX w q) lA off (ab1 zs++abn (zs.length-(ab1 zs).length) 0).toArray)
 (h2:∀(p:Option Addr)(cap:Nat)(w:World),Calls P f #[.slice p 0 cap] w λe w'=>e= .returned (.slice p 0 cap)/\w'=w):
 fH P f ⟨⟨[(0, .val acR (.own 0))],[(0, .own T ae)],[],1⟩,⟨[(0, .val acR (.own 1))],[(1, .own T ae)],[],2⟩,λx=>nv x⟩:=by
 refine ET (r:=ae) hb rfl λ{F w v l m}hm ho hF=>?_
 have hm:nv l=some m:=hm;unfold nv at hm;split at hm
 case isFalse=>cases hm
 rename_i hlen;obtain rfl:=aaT hm
 rcases vG ho with⟨rfl,rfl⟩|⟨g,o0,cap,cur,rfl,hg,xO,GD,jc,hh⟩
 .refine(h2 acP 0 w).mono λe w' ⟨he,hw⟩=>⟨_,he,hw▸⟨rfl,⟨rfl,aaX _⟩,rfl,aaX _,λ_ _ _=>rfl⟩,hw▸?_,λk hk=>hk⟩
  exact ho
 .have Bx:(ab1 l).length<=l.length:=tI l
  refine(h1 g o0 cap l w hh hlen xO).mono λe w' ⟨he,n,hw⟩=>⟨_,he,?_,?_,λk hk=>by simpa[bh,abu]using hk⟩
  all_goals have hw:w'=ab4 (abO (abQ .i64) (abX w n) g o0 (ab1 l++abn (l.length-(ab1 l).length) 0).toArray) #[]:=by rw[hw,Hv]
  .have:=CU hw;exact⟨this.os,this.tape,this.output,this.size,λk hk hn=>this.block k hk λe=>hn (by simp[bh,abu,e])⟩
  .have:=zp (d:=ab1 l++abn (l.length-(ab1 l).length) 0) ho hg jc GD (by simp;omega) (ab1 l).length (by simp) hw;rw[List.take_left]at this;exact this
def oi(x:ByteArray×ByteArray):Option Bool:=if x.2.size=1 then some (decide (0<=acf x.1.data.toList (x.2.data.getD 0 0)))else acP
theorem zr{f:FuncId}(hb:∃fn,P.funcs[f]? =some fn/\(fn.name== "runtime.NumGoroutine")=acR/\fn.body.isNone=acR)
 (h1:∀(s:ByteArray)(c:UInt8)(w:World),Calls P f #[.string s, .string ⟨#[c]⟩] w λe w'=>e= .returned (.bool (decide (0<=acf s.data.toList c)))/\w'=w):
 fH P f ⟨⟨[(0, .val acR (.leaf .str)),(1, .val acR (.leaf .str))],[],[],0⟩,⟨[(0, .val acR (.leaf .bool))],[],[],0⟩,λx=>oi x⟩:=by
 refine⟨hb,λx y oP args w H F G hlen fq bW dF hG=>?_⟩
 match args,hlen with
 |[u,v],_=>
 obtain⟨s,t⟩:=x;have oP:oi (s,t)=some y:=oP;unfold oi at oP;split at oP
 case isFalse=>cases oP
 rename_i jc;obtain rfl:=aaT oP;have hu:az H F w acR (.leaf .str s) u:=fq 0 _ rfl;have hv:az H F w acR (.leaf .str t) v:=fq 1 _ rfl;obtain⟨cs,hc,_,h2⟩:=hu;obtain⟨oO,Sc,_,um⟩:=hv;have hc:cs=[.string s]:=hc;have Sc:oO=[.string t]:=Sc
 have eu:u= .string s:=by have:=(h2 rfl).symm.trans hc;simpa using this
 have ev:v= .string t:=by have:=(um rfl).symm.trans Sc;simpa using this
 subst eu ev
 obtain⟨⟨⟨l⟩⟩,ht⟩:∃t':ByteArray,t'=t:=⟨t,rfl⟩
 match l,ht with
 |[c],ht=>
  subst ht
  refine(h1 s c w).mono λe w' ⟨he,hw⟩=>?_
  subst hw;refine⟨[_],he,rfl,H,F,⟨rfl,⟨rfl,aaX _⟩,rfl,aaX _,λ_ _ _=>rfl⟩,an.le.refl H,λ_ h=>h,λ_ h=> .inl h,λi d h=>?_,?_,dF⟩
  .have hd:i=0/\d= .val acR (.leaf .bool (decide (0<=acf s.data.toList c))):=by
    have h:find [(0,aj.val acR (.leaf .bool (decide (0<=acf s.data.toList c))))] i=some d:=h;by_cases h0:i=0
    .subst h0;exact⟨rfl,(aaT h).symm⟩
    .rw[kL h0]at h;cases h
   obtain⟨rfl,rfl⟩:=hd;exact az.lC rfl
  .exact bW
 |[],ht=>subst ht;cases jc
 |_::_::_,ht=>subst ht;simp[ByteArray.size]at jc
end
end
end Go.Proofs.YtbladfbbhijpmaaGreat
