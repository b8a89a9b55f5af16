/- Joined texts: Fn Law Jump Shelf. -/
import Derived.Test.YtbladfbbhijpmaaGreatU4
import Derived.Scope
import Derived.Test.YtbladfbbhijpmaaGreatU1
import Derived.Sort.Grow
import Derived.Lib.SlicesCompact
import Derived.Lib.Bytealg
open _root_.Bool renaming false->Yy,true->Yx
open _root_.Option renaming none->Yw
open _root_.Nat renaming le_refl->WH,beq->WI,eq_of_beq_eq_true->Xw,le_trans->Xa,lt_of_lt_of_le->Xg,min_eq_left->XN
open _root_.Option.some renaming inj->WD
open _root_.Array renaming getElem?_append_left->Yf,getElem?_eq_some_iff->Xj
open _root_.Go.Lib renaming compact->XJ
open _root_.Go.Sort renaming ahead->XH,grow->XM,mapBlock->XU,putCells->XA,putRow->XB
open _root_.List.cons renaming injEq->XT
open _root_.List renaming drop_eq_getElem_cons->Xm,getElem?_drop->WV,getElem?_take->W5,length_append->WZ,replicate->Xb,take_length->W3
open _root_.Go.Value renaming int->XD,ownBlock->Xh
section
open _root_.Bool renaming false->Yy,true->Yx,and_eq_true->Xz
open _root_.Option renaming none->Yw,isSome_iff_exists->Xo,none_or->X3
open _root_.Go.Addr.mk renaming injEq->X8
open _root_.Array renaming toArray_toList->Xq
open _root_.List.cons renaming injEq->XT
open _root_.List renaming getElem?_drop->WV,getElem?_eq_getElem->WJ,getElem?_take->W5,length_cons->WX,mem_cons->WS,mem_cons_of_mem->Xk,mem_cons_self->Xx
open _root_.Nat renaming add_zero->XL,beq->WI,eq_of_beq_eq_true->Xw,le_refl->WH
open _root_.Option.some renaming inj->WD,injEq->WL
open _root_.Prod.mk renaming inj->X9
open _root_.Go.Result renaming andThen_ok->Xp
open _root_.Go.Sem renaming run_bind->Xd
open _root_.Go.Value.pointer renaming injEq->Ys
open _root_.Go.Value.slice renaming injEq->X2
namespace Go.Proofs.YtbladfbbhijpmaaGreat
open Go Go.RowKit
inductive Ex where
 |normal
 |exit (id:Nat)
 |ret
 |goto (l:Nat)
def Ex.pk:Ex->Exit
 | .normal=> .normal
 | .exit id=> .exit id
 | .ret=> .ret
 | .goto l=> .goto l
def noGoto{R:Type}(k:Ex->State->Option R):Ex->State->Option R
 | .goto _,_=>Yw
 |e,st=>k e st
inductive pn where
 |nil
 |two (a b:pn)
 |join (J:JS) (a b:pn)
 |meet (J:JS) (a b:pn)
 |loop (L:JS) (a:pn)
 |loopK (L:JS) (a:pn)
abbrev pn.o(a:pn):pn:= .two .nil a
def pn.l:pn->pn
 | .two a _=>a
 |_=> .nil
def pn.r:pn->pn
 | .two _ b=>b
 |_=> .nil
def me:List Oper->List Nat
 |[]=>[]
 |o::l=>match o.dst with
  |some d=>d::me l
  |none=>me l
def writes:Code->List Nat
 | .region _ ops _=>me ops.toList
 | .seq a b=>writes a++writes b
 | .cond _ a b=>writes a++writes b
 | .block _ a=>writes a
 | .loop a=>writes a
 | .scope a=>writes a
 |_=>[]
def wS:List Nat->List (Nat×ag)->List (Nat×ag)
 |[],l=>l
 |t::ts,l=>(t, .dead)::wS ts l
def Iz:List (Nat×OS)->List Nat
 |[]=>[]
 |(j,_)::l=>j::Iz l
def Ar(st:State)(J:JS):List (Nat×(Nat×Th)):=del (Iz J.objs++J.drop) st.objs
def behind(st:State)(W:List Nat)(J:JS)(x:bZ J.rows):State:=
 {ah:=(bX J.ah (cm _ x)).1++wS W st.ah,objs:=ec st.nxt J.objs (bX J.ah (cm _ x)).2++Ar st J,nxt:=J.nxt}
def yQ(st:State)(J:JS)(st1:State):Option (bZ J.rows):=
 match sM st.nxt (Ar st J) J st1.ah st1.objs with
 |some (x,_)=>some x
 |none=>Yw
def EK(ob:Nat->Option (Nat×Th))(n o:Nat):Option cI:=
 match ob o with
 |some (_, .deep T d l Yw)=>some {dst:= .dead,eat:=[o],make:=[(o,(n, .own T d.row l))]}
 |_=>Yw
def jc(st:State):List (Nat×OS)->State
 |[]=>st
 |(j, .own _ _)::os=>match EK (find st.objs) st.nxt j with
  |some e=>jc (st.apply Yw e) os
  |none=>jc st os
 |_::os=>jc st os
def EL(st:State)(t o:Nat)(r:Row):Option State:=
 match find st.objs o with
 |some (_, .box _ t0)=>match dw st.objs t0.owns with
  |some aA=>match find aA o with
   |some (_, .box _ t1)=>match flat (find aA) r t1 with
    |some x=>some (State.apply {st with objs:=aA} (some t) {dst:= .at r x,eat:=[o]})
    |none=>Yw
   |_=>Yw
  |none=>Yw
 |_=>Yw
noncomputable def uI{R:Type}(st:State)(k:State->Option R):List (Nat×SS)->Option R
 |[]=>k st
 |(t, .at r)::ss=>match find st.ah t with
  |some (.ptr o [] 0)=>match EL st t o r with
   |some b9=>uI b9 k ss
   |none=>Yw
  |some (.dlm o d i [] 0)=>match dw st.objs [o]with
   |some aA=>match find aA o with
    |some (_, .fdeep _ d' l)=>bif WI d.low.size d'.row.size then(idx l i).bind λx=>uI {ah:=(t, .at d'.row x)::st.ah,objs:=aA,nxt:=st.nxt} k ss else Yw
    |_=>Yw
   |none=>Yw
  |_=>uI st k ss
 |_::ss=>uI st k ss
noncomputable def carry(st:State)(J:JS)(st1:State):Option (bZ J.rows):=uI (jc (kI st1) J.objs) (yQ st J) J.ah
def bG{J R:Type}(m:Option (J⊕R))(k:J->Option R):Option R:=m.bind λs=>match s with
 | .inl j=>k j
 | .inr r=>some r
def lc{S R:Type}(body:S->(S->Option R)->Option R):Nat->S->Option R
 |0,_=>Yw
 |n+1,s=>body s (lc body n)
theorem Cd{P:Program}{n:Nat}{Q:Exit->(Nat->Value)->World->Prop}{ρ:Nat->Value}{w:World}{S R:Type}{body:S->(S->Option R)->Option R}{c:Code}(I:S->(Nat->Value)->World->Prop){q:R}{N:Nat}{s:S}(hm:lc body N s=some q)(h0:I s ρ w)
 (hb:∀(kk:S->Option R)s ρ w,I s ρ w->body s kk=some q->pS P n c (λe bR w'=>match e with| .normal=>∃s',kk s'=some q/\I s' bR w'|e=>Q e bR w') ρ w):pS P n (.loop c) Q ρ w:=by
 intro a hf;refine wp_loop_rounds N ?_
 induction N generalizing s ρ w a with
 |zero=>cases hm
 |succ k ih=>
  rw[rounds_succ]
  refine wp_mono (hb (lc body k) s ρ w h0 hm a hf) λe a' w' ⟨bR,ml,hh⟩=>?_
  cases e with
  |normal=>
   obtain⟨s',h1,h2⟩:=hh;exact ih h1 h2 a' ml
  |_=>exact⟨bR,ml,hh⟩
noncomputable def exec{P:Program}(E:Env P)(nt N:Nat):Code->{R:Type}->pn->State->(Ex->State->Option R)->Option R
 | .skip,_,_,st,k=>k .normal st
 | .label _,_,_,st,k=>k .normal st
 | .scope x,_,a,st,k=>exec E nt N x a.l st (noGoto k)
 | .goto l,_,_,st,k=>k (.goto l) st
 | .ret,_,_,st,k=>k .ret st
 | .exit id,_,_,st,k=>k (.exit id) st
 | .cond c x y,_,a,st,k=>match Bd st.ah c with
   |some D=>match asBool D with
    |some b=>if b=Yx then exec E nt N x a.l st k else exec E nt N y a.r st k
    |none=>Yw
   |none=>Yw
 | .region _ ops draw,_,_,st,k=>bif draw then jb E nt ops ops.toList st [] (k .normal)else runs E nt ops ops.toList [] st (k .normal)
 | .seq x y,R,a,st,k=>match a with
   | .join J a1 a2=>bG (exec E nt N x (R:=bZ J.rows⊕R) a1 st (λe b9=>match e with
       | .normal=>(carry st J b9).map .inl
       |e=>(k e b9).map .inr)) λj=>exec E nt N y a2 (behind st (writes x) J j) k
   | .meet J a1 a2=>(exec E nt N x (R:=bZ J.rows) a1 st (λe b9=>match e with
       | .normal=>carry st J b9
       |_=>Yw)).bind λj=>exec E nt N y a2 (behind st (writes x) J j) k
   |a=>exec E nt N x a.l st (λe b9=>match e with
     | .normal=>exec E nt N y a.r b9 k
     |e=>k e b9)
 | .block id x,R,a,st,k=>match a with
   | .join J a1 _=>bG (exec E nt N x (R:=bZ J.rows⊕R) a1 st (λe b9=>match e with
       | .normal=>(carry st J b9).map .inl
       | .exit i=>bif WI i id then(carry st J b9).map .inl else(k (.exit i) b9).map .inr
       |e=>(k e b9).map .inr)) λj=>k .normal (behind st (writes x) J j)
   | .meet J a1 _=>(exec E nt N x (R:=bZ J.rows) a1 st (λe b9=>match e with
       | .normal=>carry st J b9
       | .exit i=>bif WI i id then carry st J b9 else Yw
       |_=>Yw)).bind λj=>k .normal (behind st (writes x) J j)
   |a=>exec E nt N x a.l st (λe b9=>match e with
     | .exit i=>bif WI i id then k .normal b9 else k (.exit i) b9
     |e=>k e b9)
 | .loop x,R,a,st,k=>match a with
   | .loop L a1=>match carry st L st with
     |some s0=>Loop (S:=bZ L.rows) (X:=R) (λs=>exec E nt N x (R:=bZ L.rows⊕R) a1 (behind st (writes x) L s) (λe b9=>match e with
       | .normal=>(carry st L b9).map .inl
       |e=>(k e b9).map .inr)) N s0
     |none=>Yw
   | .loopK L a1=>match carry st L st with
     |some s0=>lc (S:=bZ L.rows) (R:=R) (λs kk=>exec E nt N x (R:=R) a1 (behind st (writes x) L s) (λe b9=>match e with
       | .normal=>(carry st L b9).bind kk
       |e=>k e b9)) N s0
     |none=>Yw
   |_=>Yw
 |_,_,_,_,_=>Yw
section
variable {P:Program} {nt N:Nat} {R:Type}
variable {ρ:Nat->Value} {w w0:World} {H:ai} {F F0 G:Nat->Prop}
theorem yR{W:List Nat}{l:List (Nat×ag)}{t:Nat}{d:ag}(h:find (wS W l) t=some d):d= .dead\/(t∉W/\find l t=some d):=by
 induction W with
 |nil=>exact .inr ⟨by simp,h⟩
 |cons s W ih=>
  have h':find ((s,ag.dead)::wS W l) t=some d:=h;rw[aw]at h';split at h'
  .exact .inl (WD h').symm
  .rename_i e
   rcases ih h' with h1|⟨h1,h2⟩
   .exact .inl h1
   .exact .inr ⟨by simp[h1,Ne.symm e],h2⟩
theorem Ce{st st1:State}{W:List Nat}{J:JS}{x:bZ J.rows}{H1:ai}{F1:Nat->Prop}{w1:World}{CZ:Nat->Value}(h:yQ st J st1=some x)(hh:bP G w0 F0 H F w ρ st)(iR:bP G w0 F0 H1 F1 w1 CZ st1)(hk:bx H F w H1 F1 w1)
 (Ip:∀t,t∉W->CZ t=ρ t):∃H2 F2,bP G w0 F0 H2 F2 w1 CZ (behind st W J x)/\bx H F w H2 F2 w1:=by
 unfold yQ at h;split at h
 case h_2=>cases h
 rename_i _ y rest hp;obtain⟨bs,aA⟩:=rest;obtain rfl:=WD h;obtain⟨F2,H2,a1,a2,a3,_,a5,_,a6,a7,a8⟩:=qR (U':=UU G w0) hp hh.sat.ob hh.sat.all hk iR.sat.ob iR.sat.slot
 have dz:Step F1 w1 F2 w1:=λb hb=>⟨a2 b hb,rfl⟩
 have bH:=a8 iR.sat.ob.new (λo s t v k _ h2 h3 h4=>by
  obtain⟨v',cM,bF⟩:=a1.obj _ _ _ h2;rw[h3]at cM;obtain rfl:=WD cM
  exact bF.use k h4) (λo s t v k h2 h3 h4=>by
  have h5:=(eE.1 h2).2;obtain⟨v',cM,bF⟩:=hh.sat.ob.obj _ _ _ h5;rw[hk.dR.val _ _ cM]at h3;obtain rfl:=WD h3
  exact bF.use k (by rwa [hk.dR.sub _ _ bF.con]at h4))
 refine⟨H2,F2,⟨⟨λt d hd=>?_,bH,a6⟩,⟨iR.glob.ext,λb hb=>a2 b (iR.glob.le b hb),λb hb=>?_⟩⟩,⟨a5,λb hb=>⟨a2 b (hk.step b hb).1,(hk.step b hb).2⟩⟩⟩
 .have sb:find ((bX J.ah (cm J.rows y)).1++wS W st.ah) t=some d:=hd;rw[eD]at sb
  cases hm:find (bX J.ah (cm J.rows y)).1 t with
  |some d'=>
   rw[hm]at sb;obtain rfl:=WD sb;exact a7 t _ hm
  |none=>
   rw[hm,X3]at sb
   rcases yR sb with rfl|⟨h1,h2⟩
   .trivial
   .rw[Ip t h1]
    exact(hh.sat.slot t d h2).keep a5 λb hb=>⟨a2 b (hk.step b hb).1,(hk.step b hb).2⟩
 .rcases a3 b hb with h1|h1
  .exact iR.glob.new b h1
  .exact .inr (iR.sat.ob.dC b h1)
theorem Cf{U:Nat->Prop}{ob:Nat->Option (Nat×Th)}{n:Nat}(hs:ak U H F w ob n){o:Nat}{e:cI}(h:EK ob n o=some e):gW H F w ob n e undef w:=by
 unfold EK at h;split at h
 case h_2=>cases h
 rename_i s T d l bH;obtain rfl:=WD h;obtain⟨v,hv,bF⟩:=hs.obj _ _ _ bH
 obtain⟨lh,Ss,⟨xs,hx,KT⟩,h2,h3,h4⟩:=(show Ba F w T d.low (ke H F w d Yw) v l (H.sub s)from bF.ok)
 have hn:∀k,H.sub s k->¬F k:=bF.no
 have xO:e7 0 (λb=>F b\/∃i,i<l.length/\Ss i b) w T d.row v l:=by
  refine⟨λk hk hF=>?_,xs,?_,λi hi=>?_⟩
  .rcases hF with hF|⟨i,hi,hm⟩
   .exact hn k (h4.aN k hk) hF
   .exact h4.out i k hi hm hk
  .rw[<-d.size,<-h2];exact hx
  .have gC:i<lh.length:=by omega
   have:=fI.freeze (h3 i gC hi) (λk hk=>hn k (h4.part hi k hk)) (KT i gC);rw[<-d.size]
   exact this.step λb hb=>⟨hb.imp id λhb=>⟨i,hi,hb⟩,rfl⟩
 have hf:=hs.fresh n (WH _) (by omega)
 have dZ:∀k,H.sub s k->bn H ob [o] k:=λk hk=>⟨o,by simp,s,_,v,bH,hv,hk⟩
 refine⟨H.aK n (.own T d.row l),λb=>F b\/∃i,i<l.length/\Ss i b,⟨⟨λ_ _ h=>h,λs' t h=>?_,λs' t h=>?_⟩,⟨rfl,⟨rfl,WH _⟩,rfl,WH _,λ_ _ _=>rfl⟩,λ_ h=> .inl h,λb hb=>?_,λb hb=>?_⟩,λm hm=>⟨id,λh=>?_⟩,trivial,⟨λo' s' q hq=>?_,λo1 o2 s1 s2 q1 q2 u1 u2 bY g1 g2=>?_⟩,λo' h=>?_⟩
 .have:s'≠n:=λe=>by rw[e,hf.2]at h;cases h
  simp[ai.aK,this,h]
 .rfl
 .rcases hb with hb|⟨i,hi,hb⟩
  .exact .inl hb
  .exact .inr (.inr (dZ b (h4.part hi b hb)))
 .rcases hb with hb|⟨i,hi,hb⟩
  .exact hs.lt b hb
  .exact bF.lt b (h4.part hi b hb)
 .simp[ai.aK,show m≠n from by omega,h]
 .obtain⟨rfl,e⟩:=bf hq;obtain⟨rfl,rfl⟩:=X9 e;refine⟨v,hv,bF.one,by simp[ai.aK,Th.base],xO.2,λk hk=>⟨xO.1 k hk,bF.lt k (h4.aN k hk), .inr (dZ k (h4.aN k hk))⟩⟩
 .exact absurd ((bf g1).1.trans (bf g2).1.symm) bY
 .left
  obtain⟨y,hy⟩:=Xo.1 h;rw[(bf hy).1];simp
theorem bP.jc:(os:List (Nat×OS))->{st:State}->{H:ai}->{F:Nat->Prop}->bP G w0 F0 H F w ρ st->∃H' F',bP G w0 F0 H' F' w ρ (jc st os)/\bx H F w H' F' w
 |[],_,H,F,h=>⟨H,F,h,bx.refl H F w⟩
 |(j, .own _ _)::os,st,H,F,h=>by
  unfold Go.Proofs.YtbladfbbhijpmaaGreat.jc;split
  .rename_i e he;obtain⟨H',F',hp⟩:=Cf h.sat.ob he;have hs:=h.sat.apply (d:=Yw) hp;obtain⟨H2,F2,h2,k2⟩:=bP.jc os (st:=st.apply Yw e) ⟨hs,h.glob.gv hp.gv h.sat.ob.dC⟩;exact⟨H2,F2,h2,(bx.sX hp.gv h.sat.ob.lt h.sat.ob.db).trans k2⟩
  .exact bP.jc os h
 |(_, .box ..)::os,_,_,_,h=>bP.jc os h
 |(_, .map ..)::os,_,_,_,h=>bP.jc os h
 |(_, .deep ..)::os,_,_,_,h=>bP.jc os h
 |(_, .smap ..)::os,_,_,_,h=>bP.jc os h
theorem bP.EL{st b9:State}{t o:Nat}{r:Row}(h:bP G w0 F0 H F w ρ st)(eA:find st.ah t=some (.ptr o [] 0))(hb:EL st t o r=some b9):∃F',bP G w0 F0 H F' w ρ b9/\bx H F w H F' w:=by
 unfold Go.Proofs.YtbladfbbhijpmaaGreat.EL at hb;split at hb
 case h_2=>cases hb
 split at hb
 case h_2=>cases hb
 rename_i aA rQ;obtain⟨F1,h1,k1⟩:=h.oh rQ;split at hb
 case h_2=>cases hb
 rename_i s1 T1 t1 bH;split at hb
 case h_2=>cases hb
 rename_i x hx;obtain rfl:=WD hb;obtain⟨v,hv,bF⟩:=h1.sat.ob.obj _ _ _ bH
 obtain⟨b,es,rfl,TL,hold⟩:=(show∃b es,v= .pointer (some ⟨b,0,Yw⟩)/\w.heap[b]? =some (.cells es.toArray T1 (0,0))/\Holds H F1 w t1 es from bF.ok)
 obtain⟨b',cM,kY⟩:=h.sat.slot t _ eA;rw[hv]at cM;simp only[WL,Ys,X8,and_true]at cM;subst cM;have nG:=dS h1.sat.ob hx hold
 have hg:bn H (find aA) [o] b:=⟨o,by simp,s1,_,_,bH,hv,rfl⟩
 have dz:Step F1 w (λk=>F1 k\/k=b) w:=λk hk=>⟨.inl hk,rfl⟩
 have hp:gS H F1 w (find aA) st.nxt {dst:= .at r x,eat:=[o]} (ρ t) w H (λk=>F1 k\/k=b):=
  ⟨⟨ai.le.refl H,⟨rfl,⟨rfl,WH _⟩,rfl,WH _,λ_ _ _=>rfl⟩,λ_ hk=> .inl hk,λk hk=>hk.elim .inl λe=> .inr (.inr (e▸hg)),λk hk=>hk.elim (h1.sat.ob.lt k) λe=>by rw[e];exact bF.lt b rfl⟩,λm _=>⟨id,id⟩,
    ⟨b,0,kY, .inr rfl,es,nG.length,λj u hu=>by
      show w.cell? ⟨b,0+j,Yw⟩=some u
      simp[World.cell?,TL,hu],nG.step dz⟩,⟨λ_ _ _ h=>(by cases h),λ_ _ _ _ _ _ _ _ _ h=>(by cases h)⟩,λ_ h=>(by cases h)⟩
 have hs:=h1.sat.apply (d:=some t) hp
 have TM:pH ρ (some t) (ρ t)=ρ:=by
  funext u
  show xx ρ t (ρ t) u=ρ u
  rw[kf];split
  .rename_i e;rw[e]
  .rfl
 rw[TM]at hs;exact⟨_,⟨hs,h1.glob.gv hp.gv h1.sat.ob.dC⟩,k1.trans (bx.sX hp.gv h1.sat.ob.lt h1.sat.ob.db)⟩
theorem bP.uI{R:Type}{k:State->Option R}{q:R}:(ss:List (Nat×SS))->{st:State}->{H:ai}->{F:Nat->Prop}->bP G w0 F0 H F w ρ st->uI st k ss=some q->∃st2 H' F',k st2=some q/\bP G w0 F0 H' F' w ρ st2/\bx H F w H' F' w
 |[],st,H,F,h,hk=>⟨st,H,F,hk,h,bx.refl H F w⟩
 |(t, .at r)::ss,st,H,F,h,hk=>by
  unfold Go.Proofs.YtbladfbbhijpmaaGreat.uI at hk;split at hk
  .rename_i o eA;split at hk
   case h_2=>cases hk
   rename_i b9 TO;obtain⟨F1,h1,k1⟩:=h.EL eA TO;obtain⟨st2,H2,F2,g1,g2,g3⟩:=bP.uI ss h1 hk;exact⟨st2,H2,F2,g1,g2,k1.trans g3⟩
  .rename_i o d i eA;split at hk
   case h_2=>cases hk
   rename_i aA rQ;obtain⟨F1,h1,k1⟩:=h.oh rQ;split at hk
   case h_2=>cases hk
   rename_i s1 T1 d' l bH;obtain⟨ir,hk⟩:=ax hk;have ir:=Xw ir;obtain⟨x,hx,Np⟩:=bind_some hk;obtain⟨j,rfl,hj,TP⟩:=dB hx;obtain⟨g,o0,q0,m,cap,hv,hq,kY⟩:=h1.sat.slot t _ eA;obtain⟨v,cM,bF⟩:=h1.sat.ob.obj _ _ _ bH;rw[hv]at cM;obtain rfl:=WD cM
   obtain⟨A,Dn,e1,_,_,pD⟩:=(show bD F1 w (.slice d'.row) [_] l from bF.ok)
   obtain⟨b,off,es,hA,TQ,hlen,nr,nG⟩:=pD j hj;simp only[XT,X2,and_true]at e1;obtain⟨e1,_,_⟩:=e1;rw[<-e1]at hA;simp only[WL,X8,and_true]at hA;obtain⟨rfl,rfl⟩:=hA
   have pT:af H F1 w (.at d'.row x) (ρ t):=by
    have e:j=q0:=by omega
    subst e;refine⟨g,o0+j*d.low.size+0,kY,TQ,es,hlen,λjj u hu=>?_,by rw[<-TP];exact nG⟩;rw[ir];exact nr jj u hu
   obtain⟨st2,H2,F2,g1,g2,g3⟩:=bP.uI ss (st:={ah:=(t, .at d'.row x)::st.ah,objs:=aA,nxt:=st.nxt}) ⟨⟨λt' q' o8=>by
    have o8:find ((t,ag.at d'.row x)::st.ah) t'=some q':=o8;rw[aw]at o8;by_cases e:t=t'
    .subst e;rw[YB rfl]at o8;obtain rfl:=WD o8;exact pT
    .rw[YA e]at o8
     exact h1.sat.slot t' q' o8,h1.sat.ob,h1.sat.all⟩,h1.glob⟩ Np
   exact⟨st2,H2,F2,g1,g2,k1.trans g3⟩
  .exact bP.uI ss h hk
 |(_, .val ..)::ss,_,_,_,h,hk=>bP.uI ss h hk
 |(_, .ptr ..)::ss,_,_,_,h,hk=>bP.uI ss h hk
 |(_, .undef)::ss,_,_,_,h,hk=>bP.uI ss h hk
 |(_, .fn ..)::ss,_,_,_,h,hk=>bP.uI ss h hk
 |(_, .ifc ..)::ss,_,_,_,h,hk=>bP.uI ss h hk
theorem gG{st st1:State}{W:List Nat}{J:JS}{x:bZ J.rows}{H1:ai}{F1:Nat->Prop}{w1:World}{CZ:Nat->Value}(h:carry st J st1=some x)(hh:bP G w0 F0 H F w ρ st)(iR:bP G w0 F0 H1 F1 w1 CZ st1)(hk:bx H F w H1 F1 w1)
 (Ip:∀t,t∉W->CZ t=ρ t):∃H2 F2,bP G w0 F0 H2 F2 w1 CZ (behind st W J x)/\bx H F w H2 F2 w1:=by
 obtain⟨V6,V7,Pb,gX⟩:=iR.kI;obtain⟨V8,V9,Pd,Kl⟩:=Pb.jc J.objs;unfold carry at h;obtain⟨st2,Wa,Wb,h3,TR,TS⟩:=Pd.uI J.ah h;exact Ce h3 hh TR (((hk.trans gX).trans Kl).trans TS) Ip
theorem po{l:List Oper}{o:Oper}{t:Nat}(ho:o∈l)(hd:o.dst=some t):t∈me l:=by
 induction l with
 |nil=>cases ho
 |cons p l ih=>
  rcases WS.1 ho with rfl|h
  .unfold me;rw[hd];exact Xx
  .unfold me;split
   .exact Xk _ (ih h)
   .exact ih h
structure Js(G:Nat->Prop)(w0:World)(F0:Nat->Prop)(W:List Nat)(H:ai)(F:Nat->Prop)(w:World)(ρ:Nat->Value)(H':ai)(F':Nat->Prop)(w':World)(bR:Nat->Value)(b9:State):Prop where
 here:bP G w0 F0 H' F' w' bR b9
 keeps:bx H F w H' F' w'
 same:∀t,t∉W->bR t=ρ t
theorem map_inl{α β:Type}{o:Option α}{f:α->β}{r:β}(h:o.map f=some r):∃x,o=some x/\f x=r:=Option.map_eq_some_iff.1 h
theorem eT{E:Env P}:(c:Code)->{R:Type}->{q:R}->{a:pn}->{st:State}->{k:Ex->State->Option R}->{H:ai}->{F:Nat->Prop}->{w:World}->{ρ:Nat->Value}->{Q:Exit->(Nat->Value)->World->Prop}->
 exec E nt N c a st k=some q->bP G w0 F0 H F w ρ st->
 (∀e b9 H' F' w' bR,k e b9=some q->Js G w0 F0 (writes c) H F w ρ H' F' w' bR b9->Q e.pk bR w')->pS P nt c Q ρ w
 | .skip,R,q,a,st,k,H,F,w,ρ,Q,h,hh,hk=>C3 (hk .normal st H F w ρ h ⟨hh,bx.refl H F w,λ_ _=>rfl⟩)
 | .ret,R,q,a,st,k,H,F,w,ρ,Q,h,hh,hk=>Gv (hk .ret st H F w ρ h ⟨hh,bx.refl H F w,λ_ _=>rfl⟩)
 | .exit id,R,q,a,st,k,H,F,w,ρ,Q,h,hh,hk=>C4 (hk (.exit id) st H F w ρ h ⟨hh,bx.refl H F w,λ_ _=>rfl⟩)
 | .cond c x y,R,q,a,st,k,H,F,w,ρ,Q,h,hh,hk=>by
   unfold exec at h;split at h
   case h_2=>cases h
   rename_i D hD;split at h
   case h_2=>cases h
   rename_i b hb;have hv:=jz hb (oi hh.sat.ob.gl hh.sat.slot _ _ hD);split at h
   .rename_i e;subst e;exact C5 hv (eT x h hh λe b9 H' F' w' bR h1 h2=>hk e b9 H' F' w' bR h1 ⟨h2.here,h2.keeps,λt ht=>h2.same t λhm=>ht (by simp[writes,hm])⟩)
   .rename_i e
    have e:b=Yy:=by cases b<;>simp_all
    subst e;exact AN hv (eT y h hh λe b9 H' F' w' bR h1 h2=>hk e b9 H' F' w' bR h1 ⟨h2.here,h2.keeps,λt ht=>h2.same t λhm=>ht (by simp[writes,hm])⟩)
 | .region id ops draw,R,q,a,st,k,H,F,w,ρ,Q,h,hh,hk=>by
   unfold exec at h
   cases draw with
   |true=>
    rw[cond_true]at h
    exact Hg E.mix h hh λb9 H' F' w' bR h1 h2 h3 h4=>hk .normal b9 H' F' w' bR h1 ⟨h2,h3,λt ht=>h4 t λo ho e=>ht (po ho e)⟩
   |false=>
    rw[cond_false]at h
    have:=uq (K:=λρ w=>Q .normal ρ w) (ops:=ops) (nt:=nt) h (λ_ _ h=>by cases h) hh λb9 H' F' w' bR h1 h2 h3 h4=>hk .normal b9 H' F' w' bR h1 ⟨h2,h3,λt ht=>h4 t λo ho e=>ht (po ho e)⟩
    have h2:=xJ (id:=id) (l:=ops.toList) (P:=P) (n:=nt) (Q:=Q) (ρ:=ρ) (w:=w) (by rw[Xq];exact this);rw[Xq]at h2;exact h2
 | .seq x y,R,q,a,st,k,H,F,w,ρ,Q,h,hh,hk=>by
   have fin:∀{H1:ai}{F1:Nat->Prop}{w1:World}{CZ:Nat->Value}{st1:State}{a2:pn},exec E nt N y a2 st1 k=some q->bP G w0 F0 H1 F1 w1 CZ st1->bx H F w H1 F1 w1->(∀t,t∉writes x->CZ t=ρ t)->pS P nt y Q CZ w1:=by
    intro H1 F1 w1 CZ st1 a2 g1 g2 g3 g4
    exact eT y g1 g2 λe b9 H' F' w' bR h1 h2=>hk e b9 H' F' w' bR h1 ⟨h2.here,g3.trans h2.keeps,λt ht=>(h2.same t λhm=>ht (by simp[writes,hm])).trans (g4 t λhm=>ht (by simp[writes,hm]))⟩
   have out:∀{e:Ex}{b9:State}{H':ai}{F':Nat->Prop}{w':World}{bR:Nat->Value},k e b9=some q->Js G w0 F0 (writes x) H F w ρ H' F' w' bR b9->Q e.pk bR w':=by
    intro e b9 H' F' w' bR g1 g2;exact hk e b9 H' F' w' bR g1 ⟨g2.here,g2.keeps,λt ht=>g2.same t λhm=>ht (by simp[writes,hm])⟩
   unfold exec at h;split at h
   .rename_i J a1 a2;unfold bG at h;obtain⟨s,hs,h⟩:=bind_some h;refine tK (eT x hs hh λe b9 H' F' w' bR h1 h2=>?_)
    cases e with
    |normal=>
     obtain⟨j,hj,rfl⟩:=map_inl h1;obtain⟨H2,F2,g1,g2⟩:=gG (W:=writes x) hj hh h2.here h2.keeps h2.same;exact fin h g1 g2 h2.same
    |exit id=>
     obtain⟨r,hr,rfl⟩:=map_inl h1;obtain rfl:=WD h;exact out hr h2
    |ret=>
     obtain⟨r,hr,rfl⟩:=map_inl h1;obtain rfl:=WD h;exact out hr h2
    |goto l=>
     obtain⟨r,hr,rfl⟩:=map_inl h1;obtain rfl:=WD h;exact out hr h2
   .rename_i J a1 a2;obtain⟨s,hs,h⟩:=bind_some h;refine tK (eT x hs hh λe b9 H' F' w' bR h1 h2=>?_)
    cases e with
    |normal=>
     obtain⟨H2,F2,g1,g2⟩:=gG (W:=writes x) h1 hh h2.here h2.keeps h2.same;exact fin h g1 g2 h2.same
    |exit id=>cases h1
    |ret=>cases h1
    |goto l=>cases h1
   .refine tK (eT x h hh λe b9 H' F' w' bR h1 h2=>?_)
    cases e with
    |normal=>exact fin h1 h2.here h2.keeps h2.same
    |exit id=>exact out h1 h2
    |ret=>exact out h1 h2
    |goto l=>exact out h1 h2
 | .block id x,R,q,a,st,k,H,F,w,ρ,Q,h,hh,hk=>by
   have hw:writes (.block id x)=writes x:=rfl;rw[hw]at hk
   have Pe:∀{e:Ex}{bR:Nat->Value}{w':World},(match e with| .exit i=>if i=id then Q .normal bR w' else Q (.exit i) bR w'|e=>Q e.pk bR w')->Ki id Q e.pk bR w':=by
    intro e bR w' g
    cases e with
    |normal=>exact g
    |ret=>exact g
    |goto l=>exact g
    |exit i=>
     by_cases e:i=id
     .subst e;simp only[YB]at g;exact Du g
     .simp only[YA e]at g;refine A5 ?_ g
      cases hb:WI i id with
      |false=>rfl
      |true=>exact absurd (beq_true hb) e
   have yS:∀{i:Nat},i≠id->WI i id=Yy:=λ{i}e=>by
    cases hb:WI i id with
    |false=>rfl
    |true=>exact absurd (beq_true hb) e
   unfold exec at h;split at h
   .rename_i J a1 a2;unfold bG at h;obtain⟨s,hs,h⟩:=bind_some h;refine oa (eT x hs hh λe b9 H' F' w' bR h1 h2=>Pe ?_)
    have inn:(carry st J b9).map Sum.inl=some s->Q .normal bR w':=λh1=>by
     obtain⟨j,hj,rfl⟩:=map_inl h1;obtain⟨H2,F2,g1,g2⟩:=gG (W:=writes x) hj hh h2.here h2.keeps h2.same;exact hk .normal _ H2 F2 w' bR h ⟨g1,g2,h2.same⟩
    have out:∀{e:Ex},(k e b9).map Sum.inr=some s->Q e.pk bR w':=λ{e}h1=>by
     obtain⟨r,hr,rfl⟩:=map_inl h1;obtain rfl:=WD h;exact hk e b9 H' F' w' bR hr h2
    cases e with
    |normal=>exact inn h1
    |exit i=>
     show if i=id then _ else _
     by_cases e:i=id
     .subst e;rw[YB rfl];refine inn ?_;simpa using h1
     .rw[YA e];simp only[yS e,cond_false]at h1;exact out (e:= .exit i) h1
    |ret=>exact out (e:= .ret) h1
    |goto l=>exact out (e:= .goto l) h1
   .rename_i J a1 a2;obtain⟨s,hs,h⟩:=bind_some h;refine oa (eT x hs hh λe b9 H' F' w' bR h1 h2=>Pe ?_)
    have inn:carry st J b9=some s->Q .normal bR w':=λh1=>by
     obtain⟨H2,F2,g1,g2⟩:=gG (W:=writes x) h1 hh h2.here h2.keeps h2.same;exact hk .normal _ H2 F2 w' bR h ⟨g1,g2,h2.same⟩
    cases e with
    |normal=>exact inn h1
    |exit i=>
     show if i=id then _ else _
     by_cases e:i=id
     .subst e;rw[YB rfl];refine inn ?_;simpa using h1
     .simp only[yS e,cond_false]at h1;cases h1
    |ret=>cases h1
    |goto l=>cases h1
   .refine oa (eT x h hh λe b9 H' F' w' bR h1 h2=>Pe ?_)
    cases e with
    |normal=>exact hk .normal b9 H' F' w' bR h1 h2
    |exit i=>
     show if i=id then _ else _
     by_cases e:i=id
     .subst e;rw[YB rfl];refine hk .normal b9 H' F' w' bR ?_ h2;simpa using h1
     .rw[YA e];simp only[yS e,cond_false]at h1;exact hk (.exit i) b9 H' F' w' bR h1 h2
    |ret=>exact hk .ret b9 H' F' w' bR h1 h2
    |goto l=>exact hk (.goto l) b9 H' F' w' bR h1 h2
 | .loop x,R,q,a,st,k,H,F,w,ρ,Q,h,hh,hk=>by
   have hw:writes (.loop x)=writes x:=rfl;rw[hw]at hk;unfold exec at h;split at h
   case h_3=>cases h
   case h_2=>
    rename_i L a1;split at h
    case h_2=>cases h
    rename_i s0 G3;refine Cd (λs bR w'=>∃H' F',bP G w0 F0 H' F' w' bR (behind st (writes x) L s)/\bx H F w H' F' w'/\∀t,t∉writes x->bR t=ρ t) h ?_ ?_
    .obtain⟨H2,F2,g1,g2⟩:=gG (W:=writes x) G3 hh hh (bx.refl H F w) λ_ _=>rfl
     exact⟨H2,F2,g1,g2,λ_ _=>rfl⟩
    .rintro kk s bR w' ⟨H',F',g1,g2,g3⟩ hy
     refine eT x hy g1 λe b9 pG yq pY oS h1 h2=>?_
     have sm:∀t,t∉writes x->oS t=ρ t:=λt ht=>(h2.same t ht).trans (g3 t ht)
     cases e with
     |normal=>
      obtain⟨j,hj,Bc⟩:=Option.bind_eq_some_iff.1 h1;obtain⟨H2,F2,m1,m2⟩:=gG (W:=writes x) hj hh h2.here (g2.trans h2.keeps) sm;exact⟨j,Bc,H2,F2,m1,m2,sm⟩
     |exit i=>exact hk (.exit i) b9 pG yq pY oS h1 ⟨h2.here,g2.trans h2.keeps,sm⟩
     |ret=>exact hk .ret b9 pG yq pY oS h1 ⟨h2.here,g2.trans h2.keeps,sm⟩
     |goto l=>exact hk (.goto l) b9 pG yq pY oS h1 ⟨h2.here,g2.trans h2.keeps,sm⟩
   rename_i L a1;split at h
   case h_2=>cases h
   rename_i s0 G3;refine C6 (λs bR w'=>∃H' F',bP G w0 F0 H' F' w' bR (behind st (writes x) L s)/\bx H F w H' F' w'/\∀t,t∉writes x->bR t=ρ t) h ?_ ?_
   .obtain⟨H2,F2,g1,g2⟩:=gG (W:=writes x) G3 hh hh (bx.refl H F w) λ_ _=>rfl
    exact⟨H2,F2,g1,g2,λ_ _=>rfl⟩
   .rintro s bR w' y ⟨H',F',g1,g2,g3⟩ hy
    refine eT x hy g1 λe b9 pG yq pY oS h1 h2=>?_
    have sm:∀t,t∉writes x->oS t=ρ t:=λt ht=>(h2.same t ht).trans (g3 t ht)
    have out:∀{e:Ex},e≠ .normal->(k e b9).map Sum.inr=some y->HZ (λs bR w'=>∃H' F',bP G w0 F0 H' F' w' bR (behind st (writes x) L s)/\bx H F w H' F' w'/\∀t,t∉writes x->bR t=ρ t) Q q y e.pk oS pY:=λ{e}he h1=>by
     obtain⟨r,hr,rfl⟩:=map_inl h1;refine⟨by cases e<;>simp_all[Ex.pk],λhq=>?_⟩;subst hq;exact hk e b9 pG yq pY oS hr ⟨h2.here,g2.trans h2.keeps,sm⟩
    cases e with
    |normal=>
     obtain⟨j,hj,rfl⟩:=map_inl h1;obtain⟨H2,F2,m1,m2⟩:=gG (W:=writes x) hj hh h2.here (g2.trans h2.keeps) sm;exact⟨rfl,H2,F2,m1,m2,sm⟩
    |exit i=>exact out (e:= .exit i) (by simp) h1
    |ret=>exact out (e:= .ret) (by simp) h1
    |goto l=>exact out (e:= .goto l) (by simp) h1
 | .label l,R,q,a,st,k,H,F,w,ρ,Q,h,hh,hk=>λact hf=>wp_label ⟨ρ,hf,hk .normal st H F w ρ h ⟨hh,bx.refl H F w,λ_ _=>rfl⟩⟩
 | .scope x,R,q,a,st,k,H,F,w,ρ,Q,h,hh,hk=>by
   have h1:=eT (Q:=λe ρ w=>match e with| .goto _=>False|e=>Q e ρ w) x (show exec E nt N x a.l st (noGoto k)=some q from h) hh λe b9 H' F' w' bR h1 h2=>by
    cases e with
    |goto l=>cases h1
    |_=>exact hk _ b9 H' F' w' bR h1 h2
   intro act hf;refine wp_scope_straight (wp_mono (h1 act hf) λe a' w' ⟨bR,ml,No⟩=>?_)
   cases e<;>first
    |exact No.elim
    |exact⟨bR,ml,No⟩
 | .goto l,R,q,a,st,k,H,F,w,ρ,Q,h,hh,hk=>λact hf=>wp_goto ⟨ρ,hf,hk (.goto l) st H F w ρ h ⟨hh,bx.refl H F w,λ_ _=>rfl⟩⟩
 | .rangeFunc ..,_,_,_,_,_,_,_,_,_,_,h,_,_=>by cases h
 | .refuse _,_,_,_,_,_,_,_,_,_,_,h,_,_=>by cases h
end
end Go.Proofs.YtbladfbbhijpmaaGreat
namespace Go.Proofs.YtbladfbbhijpmaaGreat
open Go Go.RowKit
def uJ{P:Program}(T:aF P)(ah:List (Nat×ag))(objs:List (Nat×(Nat×Th)))(t:Nat)(T0:TypeId):Option ag:=
 match find T.und T0 with
 |none=>Yw
 |some kk=>match find ah t with
  |some (.ptr o p off)=>match find objs o with
   |some (_, .box _ tr)=>match tr.get p with
    |some (s,cC)=>bif WI cC off&&iC T T0 kk s.size then some (.val (fJ kk) s)else Yw
    |none=>Yw
   |_=>Yw
  |_=>Yw
def uK{P:Program}(T:aF P)(ah:List (Nat×ag))(objs:List (Nat×(Nat×Th))):List ResultVar->Option (List ag)
 |[]=>some []
 | .tmp t::l=>match find ah t with
   |some d=>match uK T ah objs l with
    |some ds=>some (d::ds)
    |none=>Yw
   |none=>Yw
 | .cell t T0::l=>match uJ T ah objs t T0 with
   |some d=>match uK T ah objs l with
    |some ds=>some (d::ds)
    |none=>Yw
   |none=>Yw
noncomputable def Jt{P:Program}(T:aF P)(rs:List ResultVar)(nb:Nat)(out:JS)(st:State):Option (bZ out.rows):=
 match uK T st.ah st.objs rs with
 |some ds=>uI {ah:=eH 0 ds,objs:=(kI st).objs,nxt:=(kI st).nxt} (λst1=>match sM nb [] out st1.ah st1.objs with
  |some (x,_)=>some x
  |none=>Yw) out.ah
 |none=>Yw
def init(inn:JS)(x:bZ inn.rows):State:=
 {ah:=(bX inn.ah (cm _ x)).1,objs:=ec 0 inn.objs (bX inn.ah (cm _ x)).2,nxt:=inn.nxt}
noncomputable def LO{P:Program}(T:aF P)(rs:List ResultVar)(nb:Nat)(out:JS):Ex->State->Option (bZ out.rows)
 | .exit _,_=>Yw
 | .goto _,_=>Yw
 |_,st=>Jt T rs nb out st
noncomputable def Ju{P:Program}(E:Env P)(nt N:Nat)(c:Code)(rs:List ResultVar)(a:pn)(inn out:JS)(x:bZ inn.rows):Option (bZ out.rows):=
 exec E nt N c a (init inn x) (LO E.T rs inn.nxt out)
section
variable {P:Program} {ρ:Nat->Value} {w:World} {H:ai} {F:Nat->Prop} {U:Nat->Prop} {n:Nat}
theorem wT(T:aF P){t:TypeId}{kk:CR}(hu:find T.und t=some kk){b off:Nat}{s:Tree}{cs:List Value}(hh:Holds H F w s cs)(hc:∀j u,cs[j]? =some u->w.cell? ⟨b,off+j,Yw⟩=some u)
 (hz:if fJ kk=Yx then∃r,find T.row t=some r/\r.size=s.size else s.size=1):∃v,(loadVar t ⟨b,off,Yw⟩).run P w= .ok v w/\au H F w (fJ kk) s v:=by
 obtain⟨dd,sj,rG⟩:=(T.und_ok _ _ hu).agg;have hl:=hh.length
 cases ha:fJ kk with
 |true=>
  rw[YB ha]at hz;obtain⟨r,hr,Gc⟩:=hz;obtain⟨ti,z,h1,_,_,h4,_⟩:=T.row_ok _ _ hr
  have OM:(loadCells ⟨b,off,Yw⟩ cs.length).run P w= .ok cs.toArray w:=
   run_loadCells_list (P:=P) w ⟨b,off,Yw⟩ cs (λj v hv=>by rw[bK];exact hc j v hv)
  refine⟨.agg cs.toArray,?_,cs,hh,rfl,by simp⟩
  have ir:ti.size=cs.length:=by omega
  simp[loadVar,Xd,dj sj,rG.trans ha,sizeOf,typeInfo,h1,ir,OM]
 |false=>
  rw[YA (by simp[ha])]at hz
  obtain⟨v,rfl⟩:∃v,cs=[v]:=by
   match cs,hl.trans hz with
   |[v],_=>exact⟨v,rfl⟩
  refine⟨v,?_,[v],hh,rfl,λ_=>rfl⟩;have:=hc 0 v rfl;simp only[XL]at this;simp[loadVar,Xd,dj sj,rG.trans ha,this,go_sem]
theorem yT(T:aF P){ah:List (Nat×ag)}{objs:List (Nat×(Nat×Th))}{t:Nat}{T0:TypeId}{D:ag}(h:uJ T ah objs t T0=some D)(eA:∀t d,find ah t=some d->af H F w d (ρ t))(hs:ak U H F w (find objs) n):
 ∃a v,ρ t= .pointer (some a)/\(loadVar T0 a).run P w= .ok v w/\af H F w D v:=by
 unfold uJ at h;split at h
 .cases h
 rename_i kk hu;split at h
 case h_2=>cases h
 rename_i o p off hD;split at h
 case h_2=>cases h
 rename_i s0 T1 tr bH;split at h
 case h_2=>cases h
 rename_i s cC hg;obtain⟨h1,rfl⟩:=nC h;obtain⟨h1,h3⟩:=bC h1;obtain rfl:=beq_true h1;obtain⟨b,hb,e⟩:=eA _ _ hD;obtain⟨es,hh,If⟩:=hs.box bH hb;obtain⟨g1,g2⟩:=If.get hg
 obtain⟨v,hv,iP⟩:=wT (b:=b) (off:=cC) T hu g1 (λj u hj=>by
  rw[qs hh];rw[W5]at hj;split at hj
  .rwa [WV]at hj
  .cases hj) (fy T h3)
 exact⟨_,v,e,hv,iP⟩
def Hh(tmps:Array Value):ResultVar->Sem Value
 | .tmp t=>pure (tmps.getD t undef)
 | .cell a t=>do loadVar t (<-asAddr (tmps.getD a undef))
theorem uL(T:aF P){ah:List (Nat×ag)}{objs:List (Nat×(Nat×Th))}(eA:∀t d,find ah t=some d->af H F w d (ρ t))(hs:ak U H F w (find objs) n){tmps:Array Value}(hf:∀t,tmps.getD t undef=ρ t):
 {rs:List ResultVar}->{ds:List ag}->uK T ah objs rs=some ds->∃vs:List Value,(rs.mapM (Hh tmps)).run P w= .ok vs w/\dp H F w ds vs
 |[],ds,h=>by obtain rfl:=WD h;exact⟨[],by simp,rfl⟩
 | .tmp t::l,ds,h=>by
   unfold uK at h;split at h
   case h_2=>cases h
   rename_i d hd;split at h
   case h_2=>cases h
   rename_i Nj p4;obtain rfl:=WD h;obtain⟨vs,h1,h2⟩:=uL T eA hs hf p4;refine⟨ρ t::vs,?_,ρ t,vs,rfl,eA t d hd,h2⟩
   have hm:(Hh tmps (.tmp t)).run P w= .ok (ρ t) w:=by rw[<-hf t];rfl
   rw[List.mapM_cons];simp only[Xd,hm,Sem.run_pure,Xp,h1]
 | .cell t T0::l,ds,h=>by
   unfold uK at h;split at h
   case h_2=>cases h
   rename_i d hd;split at h
   case h_2=>cases h
   rename_i Nj p4;obtain rfl:=WD h;obtain⟨vs,h1,h2⟩:=uL T eA hs hf p4;obtain⟨a,v,e1,e2,e3⟩:=yT T hd eA hs;refine⟨v::vs,?_,v,vs,rfl,e3,h2⟩;have ha:(asAddr (.pointer (some a))).run P w= .ok a w:=rfl
   have hm:(Hh tmps (.cell t T0)).run P w= .ok v w:=by
    show(asAddr (tmps.getD t undef)>>= λb=>loadVar T0 b).run P w=_
    rw[hf t,e1,Xd,ha,Xp,e2]
   rw[List.mapM_cons];simp only[Xd,hm,Sem.run_pure,Xp,h1]
theorem yU(T:aF P){fn:Func}{rs:List ResultVar}(Gc:fn.results.toList=rs){ah:List (Nat×ag)}{objs:List (Nat×(Nat×Th))}(eA:∀t d,find ah t=some d->af H F w d (ρ t))(hs:ak U H F w (find objs) n){tmps:Array Value}(hf:∀t,tmps.getD t undef=ρ t)
 {ds:List ag}(h:uK T ah objs rs=some ds):∃vs:List Value,(results fn tmps).run P w= .ok (rR vs) w/\dp H F w ds vs:=by
 obtain⟨vs,h1,h2⟩:=uL T eA hs hf h;refine⟨vs,?_,h2⟩;have e:fn.results=rs.toArray:=cD Gc;have er:results fn tmps=(fn.results.mapM (Hh tmps)>>= λvs=>pure (if h:vs.size=1 then vs[0]else Value.tuple vs)):=rfl;rw[er,e,List.mapM_toArray]
 have:∀vs:List Value,(if h:vs.toArray.size=1 then vs.toArray[0]else Value.tuple vs.toArray)=rR vs:=by
  intro vs
  match vs with
  |[]=>rfl
  |[v]=>rfl
  |a::b::l=>simp[rR]
 simp only[Xd,Sem.run_map,h1,Xp,Sem.run_pure,this]
theorem As:{l:List (Nat×SS)}->{vs:List fL}->{k t:Nat}->{d:ag}->oL k l=Yx->find (bX l vs).1 t=some d->t<k+l.length
 |[],_,_,_,_,_,h=>by cases h
 |(t0,s)::l,vs,k,t,d,hi,h=>by
  obtain⟨h1,h2⟩:=bC hi;have h':find ((t0,(cW s vs).1)::(bX l (cW s vs).2).1) t=some d:=h;rw[aw]at h';have:=beq_true h1;rw[WX];split at h'
  .omega
  .have:=As h2 h';omega
def LP(P:Program)(nt:Nat)(c:Code)(run:{R:Type}->State->(Ex->State->Option R)->Option R):Prop:=
 ∀{R:Type}{q:R}{st:State}{k:Ex->State->Option R}{H:ai}{F:Nat->Prop}{w:World}{ρ:Nat->Value}{G:Nat->Prop}{w0:World}{F0:Nat->Prop}{Q:Exit->(Nat->Value)->World->Prop},
  run st k=some q->bP G w0 F0 H F w ρ st->(∀e b9 H' F' w' bR,k e b9=some q->Js G w0 F0 (writes c) H F w ρ H' F' w' bR b9->Q e.pk bR w')->pS P nt c Q ρ w
theorem Jv{E:Env P}{f:FuncId}{fn:Func}{c:Code}{rs:List ResultVar}{sg:nq}{run:{R:Type}->State->(Ex->State->Option R)->Option R}(hW:LP P fn.ntmps c run)(hf:P.funcs[f]? =some fn)(hn:(fn.name== "runtime.NumGoroutine")=Yy)(hb:fn.body=some c)(Gc:fn.results.toList=rs)
 (kc:oL 0 sg.inn.ah=Yx)(hlen:Nat.ble sg.inn.ah.length fn.ntmps=Yx)(tO:WI rs.length sg.out.ah.length=Yx)
 (yF:∀x,sg.fn x=run (init sg.inn x) (LO E.T rs sg.inn.nxt sg.out)):fK P f sg:=by
 refine⟨⟨fn,hf,hn,by rw[hb];rfl⟩,λx y mJ args w H F G zJ eA bH df hG=>?_⟩
 have hlen:sg.inn.ah.length<=fn.ntmps:=by simpa using hlen
 have tO:=beq_true tO
 refine(tL (R:=λv w'=>∃vs,v=rR vs/\vs.length=sg.out.ah.length/\∃H' F',Ext G w w'/\H.le H'/\(∀b,F b->F' b)/\(∀b,F' b->F b\/w.heap.size<=b\/G b)/\
  (∀t d,find (bX sg.out.ah (cm _ y)).1 t=some d->af H' F' w' d (vs.getD t undef))/\
  ak (λk=>w.heap.size<=k\/G k) H' F' w' (find (ec sg.inn.nxt sg.out.objs (bX sg.out.ah (cm _ y)).2)) sg.out.nxt/\eF H' sg.out.nxt) hf hb (by omega) λρ Ip=>?_).mono λe w' ⟨v,he,vs,hv,h1,h2⟩=>⟨vs,by rw[he,hv],h1,h2⟩
 have Pf:∀t,t<args.length->ρ t=args.getD t undef:=λt ht=>by
  rw[Ip t _ (WJ ht)];simp[List.getD,ht]
 have keys:∀t d,find (bX sg.inn.ah (cm sg.inn.rows x)).1 t=some d->af H F w d (ρ t):=λt d hd=>by
  rw[Pf t (by have:=As kc hd;omega)];exact eA t d hd
 have hh:bP G w F H F w ρ (init sg.inn x):=⟨⟨keys,bH,df⟩,⟨⟨rfl,⟨rfl,WH _⟩,rfl,WH _,λ_ _ _=>rfl⟩,λ_ h=>h,λ_ h=> .inl h⟩⟩
 refine hW ((yF x).symm.trans mJ) hh λe b9 H' F' w' bR h1 h2=>?_
 have main:Jt E.T rs sg.inn.nxt sg.out b9=some y->∀act,Fr fn.ntmps act bR->∃v,(results fn act.tmps).run P w'= .ok v w'/\∃vs,v=rR vs/\vs.length=sg.out.ah.length/\∃H' F',Ext G w w'/\H.le H'/\(∀b,F b->F' b)/\(∀b,F' b->F b\/w.heap.size<=b\/G b)/\
  (∀t d,find (bX sg.out.ah (cm _ y)).1 t=some d->af H' F' w' d (vs.getD t undef))/\
  ak (λk=>w.heap.size<=k\/G k) H' F' w' (find (ec sg.inn.nxt sg.out.objs (bX sg.out.ah (cm _ y)).2)) sg.out.nxt/\eF H' sg.out.nxt:=by
  intro hr act tP;unfold Jt at hr;split at hr
  case h_2=>cases hr
  rename_i ds p4;obtain⟨vs,g1,g2⟩:=yU E.T Gc h2.here.sat.slot h2.here.sat.ob tP.get p4;have Wc:=fM g2;refine⟨_,g1,vs,rfl,?_,?_⟩
  .have:∀{rs:List ResultVar}{ds:List ag},uK E.T b9.ah b9.objs rs=some ds->ds.length=rs.length:=by
    intro rs
    induction rs with
    |nil=>intro ds h;obtain rfl:=WD h;rfl
    |cons r l ih=>
     intro ds h
     cases r<;>unfold uK at h<;>split at h<;>try cases h
     all_goals
      split at h
      case h_2=>cases h
      rename_i Nj Pg;obtain rfl:=WD h;simp[ih Pg]
   have:=this p4;omega
  .have G3:ak (UU G w) H F w (find (del [] [])) sg.inn.nxt:=⟨λ_ _ _ h=>(by cases h),λ_ _ _ _ _ _ _ _ _ h=>(by cases h),bH.fresh,bH.lt,bH.new,bH.gl⟩
   obtain⟨H4,F4,h4,k4⟩:=h2.here.kI;obtain⟨st1,H3,F3,hr,h3,k3⟩:=bP.uI (ρ:=λt=>vs.getD t undef) (st:={ah:=eH 0 ds,objs:=(kI b9).objs,nxt:=(kI b9).nxt}) sg.out.ah ⟨⟨λt d hd=>af.keep k4.dR k4.step (by simpa using(k8 g2 t d hd).2),h4.sat.ob,h4.sat.all⟩,h4.glob⟩ hr;split at hr
   case h_2=>cases hr
   rename_i _ z rest hp;obtain⟨bs,aA⟩:=rest;obtain rfl:=WD hr;obtain⟨F2,H2,a1,a2,a3,_,a5,_,a6,a7,a8⟩:=qR (U':=UU G w) (ns:=[]) (objs0:=[]) (ρ:=λt=>vs.getD t undef) hp G3 df ((h2.keeps.trans k4).trans k3) h3.sat.ob (λt d hd=>h3.sat.slot t d hd)
   have pK:=a8 h3.sat.ob.new (λo s t v k _ m2 m3 m4=>by
    obtain⟨v',cM,bF⟩:=a1.obj _ _ _ m2;rw[m3]at cM;obtain rfl:=WD cM
    exact bF.use k m4) (λ_ _ _ _ _ h=>by cases h)
   rw[show del [] ([]:List (Nat×(Nat×Th)))=[]from rfl,List.append_nil]at pK;refine⟨H2,F2,h3.glob.ext,a5,λb hb=>a2 b (h3.glob.le b hb),λb hb=>?_,a7,pK,a6⟩
   rcases a3 b hb with m1|m1
   .exact h3.glob.new b m1
   .exact .inr (h3.sat.ob.dC b m1)
 cases e with
 |normal=>exact main h1
 |ret=>exact main h1
 |exit id=>cases h1
 |goto l=>cases h1
theorem LQ{E:Env P}{f:FuncId}{fn:Func}{c:Code}{rs:List ResultVar}{N:Nat}{a:pn}{sg:nq}(hf:P.funcs[f]? =some fn)(hn:(fn.name== "runtime.NumGoroutine")=Yy)(hb:fn.body=some c)(Gc:fn.results.toList=rs)
 (kc:oL 0 sg.inn.ah=Yx)(hlen:Nat.ble sg.inn.ah.length fn.ntmps=Yx)(tO:WI rs.length sg.out.ah.length=Yx)
 (yF:∀x,sg.fn x=Ju E fn.ntmps N c rs a sg.inn sg.out x):fK P f sg:=
 Jv (E:=E) (run:=λst k=>exec E fn.ntmps N c a st k) (λh hh hk=>eT c h hh hk) hf hn hb Gc kc hlen tO yF
structure CT(P:Program)where
 f:Nat
 sg:nq
 ok:fK P f sg
def ck{P:Program}{f:Nat}{sg:nq}(h:fK P f sg):CT P:=⟨f,sg,h⟩
def CT.tab{P:Program}:List (CT P)->List (Nat×nq)
 |[]=>[]
 |c::l=>(c.f,c.sg)::CT.tab l
theorem CT.EM{P:Program}:{l:List (CT P)}->∀p∈CT.tab l,fK P p.1 p.2
 |[],_,h=>by cases h
 |c::l,p,h=>by
  rcases WS.1 h with rfl|h
  .exact c.ok
  .exact CT.EM p h
def Ph(fn:Func)(sg:nq):Bool:= !(fn.name== "runtime.NumGoroutine")&&fn.body.isSome&&oL 0 sg.inn.ah&&Nat.ble sg.inn.ah.length fn.ntmps&&WI fn.results.toList.length sg.out.ah.length
theorem fw(E:Env P){f:FuncId}{fn:Func}{N:Nat}{sg:nq}(a:pn)(hf:P.funcs[f]? =some fn)(hc:Ph fn sg=Yx)
 (yF:∀x,sg.fn x=Ju E fn.ntmps N (fn.body.getD .skip) fn.results.toList a sg.inn sg.out x):fK P f sg:=by
 unfold Ph at hc;simp only[Xz,Bool.not_eq_true']at hc;obtain⟨⟨⟨⟨h1,h2⟩,h3⟩,h4⟩,h5⟩:=hc;obtain⟨c,hc⟩:=Xo.1 h2;exact LQ (E:=E) (N:=N) (a:=a) hf h1 (by rw[hc];rfl) rfl h3 h4 h5 yF
@[reducible] def SS.l(r:Row):SS:= .val Yy (.leaf r)
@[reducible] def SS.g(r:Row):SS:= .val Yx (.leaf r)
abbrev ae:Row:= .int .i64
def nn{α:Type}:Nat->List α->List (Nat×α)
 |_,[]=>[]
 |n,a::l=>(n,a)::nn (n+1) l
abbrev JS.j1(l:List SS)(o:List OS)(k:Nat):JS:=⟨nn 0 l,nn 0 o,[],k⟩
abbrev JS.i1(l:List SS):JS:= .j1 l [] 0
abbrev JS.w1(t:Nat)(r:Row):JS:= .j1 [.val Yy (.own 0)] [.own t r] 1
abbrev pn.mb(i n:Nat):pn:= .meet ⟨[(i, .l .bool)],[],[],n⟩ .nil .nil
abbrev pn.lp(i n:Nat)(a:pn):pn:= .loop ⟨[(i, .l ae)],[],[],n⟩ a
abbrev u2{A B R:Type}(f:A->B->R)(x:A×B):R:=f x.1 x.2
abbrev u3{A B C R:Type}(f:A->B->C->R)(x:A×B×C):R:=f x.1 x.2.1 x.2.2
abbrev u4{A B C D R:Type}(f:A->B->C->D->R)(x:A×B×C×D):R:=f x.1 x.2.1 x.2.2.1 x.2.2.2
abbrev u5{A B C D E R:Type}(f:A->B->C->D->E->R)(x:A×B×C×D×E):R:=f x.1 x.2.1 x.2.2.1 x.2.2.2.1 x.2.2.2.2
abbrev u6{A B C D E F R:Type}(f:A->B->C->D->E->F->R)(x:A×B×C×D×E×F):R:=f x.1 x.2.1 x.2.2.1 x.2.2.2.1 x.2.2.2.2.1 x.2.2.2.2.2
end
end Go.Proofs.YtbladfbbhijpmaaGreat
end
namespace Go.Proofs.YtbladfbbhijpmaaGreat
open Go Go.RowKit
set_option maxRecDepth 100000
set_option linter.unusedSimpArgs false
set_option linter.unusedVariables false
set_option linter.defProp false
inductive yV(F:Nat->Prop)(w:World):Nat->List (Nat×SS)->List fL->List Value->Prop where
 |nil {k:Nat}:yV F w k [] [] []
 |cons {k:Nat} {agg:Bool} {r:Row} {x:r.den} {v:Value} {ss:List (Nat×SS)} {ds:List fL} {vs:List Value} (h:au ⟨λ_=>Yw,λ_=>Yw,λ_ _=>False⟩ F w agg (.leaf r x) v) (hs:yV F w (k+1) ss ds vs):yV F w k ((k, .val agg (.leaf r))::ss) (⟨r,x⟩::ds) (v::vs)
theorem yV.ah{F:Nat->Prop}{w:World}{k:Nat}{ss:List (Nat×SS)}{ds:List fL}{vs:List Value}(h:yV F w k ss ds vs):(∀t d,find (bX ss ds).1 t=some d->k<=t/\af ⟨λ_=>Yw,λ_=>Yw,λ_ _=>False⟩ F w d (vs.getD (t-k) undef))/\(bX ss ds).2=[]/\vs.length=ss.length:=by
 induction h with
 |nil=>exact⟨λ_ _ h=>(by cases h),rfl,rfl⟩
 | @cons k agg r x v ss ds vs h hs ih=>
   refine⟨λt d hf=>?_,ih.2.1,by simp[ih.2.2]⟩;have ml:find ((k,ag.val agg (bif r.beq r then Tree.leaf r x else .nil))::(bX ss ds).1) t=some d:=hf;rw[aw]at ml;split at ml
   .rename_i e;subst e;obtain rfl:=WD ml;rw[Row.beq_refl,Nat.sub_self];exact⟨WH _,h⟩
   .obtain⟨h1,h2⟩:=ih.1 t d ml;refine⟨by omega,?_⟩;rw[show t-k=(t-(k+1))+1 from by omega];simpa using h2
theorem EN(F:Nat->Prop)(w:World)(k:IntKind)(x:Int):au ⟨λ_=>Yw,λ_=>Yw,λ_ _=>False⟩ F w Yy (.leaf (.int k) x) (.int k x):=au.iX rfl
theorem pq{F:Nat->Prop}{w:World}{r:Row}{x:r.den}{es:List Value}(h:bD F w r es x):au ⟨λ_=>Yw,λ_=>Yw,λ_ _=>False⟩ F w Yx (.leaf r x) (.agg es.toArray):=⟨es,h,rfl,by simp⟩
theorem Cg{P:Program}{f:FuncId}{inn:JS}{fn:bZ inn.rows->Option Bool}(h:fK P f ⟨inn,⟨[(0, .val Yy (.leaf .bool))],[],[],0⟩,fn⟩){x:bZ inn.rows}{y:Bool}(hy:fn x=some y){ds:List fL}(p4:cm inn.rows x=ds){W:World}{vs:List Value}
 (ha:yV (λb=>b<W.heap.size) W 0 inn.ah ds vs)(ho:inn.objs=[])(Jw:mK (λb=>b<W.heap.size) W):Calls P f vs.toArray W λe W'=>e= .returned (.bool y)/\Below W.heap.size W W':=by
 obtain⟨h1,h2,h3⟩:=ha.ah;subst p4
 refine(h.ok x y hy vs W ⟨λ_=>Yw,λ_=>Yw,λ_ _=>False⟩ (λb=>b<W.heap.size) (λ_=>False) h3 (λt d hd=>by simpa using(h1 t d hd).2) ?_ (λ_ _=>⟨rfl,rfl⟩) (λ_ h=>h.elim)).mono λe W' ⟨us,he,Eo,H',F',a1,_,_,_,a5,_⟩=>?_
 .show ak _ _ _ W (find (ec 0 inn.objs _)) inn.nxt
  rw[ho];exact⟨λ_ _ _ h=>(by cases h),λ_ _ _ _ _ _ _ _ _ h=>(by cases h),λ_ _ _=>⟨rfl,rfl⟩,λ_ h=>h,λ_ h=> .inl h,Jw⟩
 .refine⟨?_,⟨a1.os,a1.tape.1,a1.output,a1.size,λk hk=>a1.block k hk (λh=>h)⟩⟩
  match us,Eo with
  |[u],_=>
   have:=a5 0 (cG y) rfl;have hu:u= .bool y:=au.bool (x:=y) this;rw[he,hu];rfl
section
section
variable {P:Program} {nt N:Nat} {R:Type}
variable {ρ:Nat->Value} {w w0:World} {H:ai} {F F0 G:Nat->Prop}
end
end
section
def mA(l:List Int):List Int:=l.mergeSort λx y=>decide (x<=y)
section
variable {P:Program} {w w':World} {F:Nat->Prop} {T:TypeId}
theorem EO(w:World):XM w #[]=w:=by
 unfold XM;rw[Array.append_empty]
theorem Au{g off:Nat}{d:Array Int}{n:Nat}{os:Array Obj}(h:w'=XM (XB (XD .i64) (XH w n) g off d) os):Ext (λk=>k=g) w w':=by
 subst h;refine⟨rfl,⟨rfl,Nat.le_add_right _ _⟩,rfl,?_,λk hk hn=>?_⟩
 .simp[XM,XB,XU,XH]
 .simp only[XM];rw[Yf (by simpa[XB,XU,XH]using hk)];simp only[XB,XU,XH,Array.getElem?_modify];rw[YA (λe=>hn e.symm)]
theorem Hi{g off:Nat}{d:Array Int}{n:Nat}{os:Array Obj}(h:w'=XM (XB (XD .i64) (XH w n) g off d) os){cur:Array Value}(hg:w.heap[g]? =some (.cells cur T (0,0))):
 w'.heap[g]? =some (.cells (XA (XD .i64) off d cur) T (0,0)):=by
 subst h;have av:g<w.heap.size:=(Xj.1 hg).1;simp only[XM];rw[Yf (by simpa[XB,XU,XH]using av)];simp only[XB,XU,XH,Array.getElem?_modify];rw[YB trivial,hg];rfl
theorem yW{l:List Int}{xs:List Value}(hx:xs.length=l.length*1)(h:∀i(hi:i<l.length),bD F w ae ((xs.drop (i*1)).take 1) l[i]):xs=l.map (XD .i64):=by
 apply List.ext_getElem (by simpa using hx);intro i h1 h2
 have hi:i<l.length:=by simpa using h2
 have:(xs.drop (i*1)).take 1=[XD .i64 l[i]]:=h i hi;rw[Nat.mul_one,Xm h1,List.take_succ_cons,List.take_zero]at this;simpa only[List.getElem_map,XT,and_true]using this
theorem Ch{off:Nat}{d:Array Int}{cur:Array Value}(h:off+d.size<=cur.size):((XA (XD .i64) off d cur).toList.drop off).take d.size=d.toList.map (XD .i64):=by
 apply List.ext_getElem (by simp[XA];omega);intro i h1 h2
 have hi:i<d.size:=by simpa using h2
 rw[List.getElem_take,List.getElem_drop,List.getElem_map,Array.getElem_toList,Array.getElem_toList];simp only[XA,Array.getElem_mapIdx];rw[YB ⟨by omega,by omega⟩,show off+i-off=i by omega,getElem!_pos d i hi]
theorem tf{v:Value}{l:List Int}(h:e7 0 F w T ae v l):(v= .slice Yw 0 0/\l=[])\/∃g o0 cap cur,v= .slice (some ⟨g,o0,Yw⟩) l.length cap/\w.heap[g]? =some (.cells cur T (0,0))/\l.length<=cap/\cap<=maxLen/\o0+cap<=cur.size/\Go.Sort.Holds (XD .i64) w g o0 l.toArray:=by
 obtain⟨_,xs,⟨hx,h2⟩,h3⟩:=h;have e:=yW hx h3
 rcases h2 with⟨rfl,h0⟩|⟨g,o0,cap,cur,rfl,_,hg,h4,h5,h6,h7⟩
 .exact .inl ⟨rfl,List.eq_nil_of_length_eq_zero h0⟩
 .refine .inr ⟨g,o0,cap,cur,rfl,hg,h4,h5,by simpa[Row.size]using h6,λj hj=>⟨?_,frozen_of_row w g _ cur T hg⟩⟩
  have hj:j<l.length:=by simpa using hj
  rw[cell_of_row w g _ cur T (0,0) hg]
  have:xs[j]? =some (XD .i64 l[j]):=by rw[e];simp[hj]
  rw[<-h7,W5]at this;split at this
  .rw[WV]at this;rw[getElem!_pos l.toArray j (by simpa using hj)];simpa using this
  .cases this
theorem wU{g o0 cap:Nat}{l d:List Int}{cur:Array Value}{n:Nat}{os:Array Obj}(h:e7 0 F w T ae (.slice (some ⟨g,o0,Yw⟩) l.length cap) l)(hg:w.heap[g]? =some (.cells cur T (0,0)))(hs:o0+cap<=cur.size)(hc:cap<=maxLen)
 (hl:d.length<=cap)(m:Nat)(hm:m<=d.length)(hw:w'=XM (XB (XD .i64) (XH w n) g o0 d.toArray) os):e7 0 F w' T ae (.slice (some ⟨g,o0,Yw⟩) m cap) (d.take m):=by
 have Jx:=Hi hw hg;have hp:=Ch (off:=o0) (d:=d.toArray) (cur:=cur) (by simp;omega);refine⟨λk hk=>h.no k (by simpa[aN,Xh]using hk),(d.take m).map (XD .i64),⟨by simp[Row.size], .inr ⟨g,o0,cap,_,by simp[XN hm],Nat.zero_le _,Jx,by simp;omega,hc,by simp[XA,Row.size];omega,?_⟩⟩,λi hi=>?_⟩
 .have:((XA (XD .i64) o0 d.toArray cur).toList.drop o0).take m=(d.take m).map (XD .i64):=by
   rw[show m=min m d.toArray.size by simp[XN hm],<-List.take_take,hp,List.map_take];simp[XN hm]
  simpa[Row.size,XN hm]using this
 .have gC:i<d.length:=by simp at hi;omega
  show((List.map (XD .i64) (d.take m)).drop (i*1)).take 1=[XD .i64 (d.take m)[i]]
  rw[Nat.mul_one,Xm (by simpa using hi)];simp
theorem lf(d:Array Int):∀m,(Go.Lib.compactUpTo d m).length<=m
 |0=>by simp[Go.Lib.compactUpTo]
 |m+1=>by
  have:=lf d m;rw[Go.Lib.compactUpTo_succ,WZ]
  split<;>simp<;>omega
theorem rb(l:List Int):(XJ l).length<=l.length:=lf _ _
theorem iG{α:Type}{k o:Nat}{x:α}(h:o≠k):find [(k,x)] o=Yw:=by
 have:WI k o=Yy:=by
  cases hb:WI k o with
  |false=>rfl
  |true=>exact absurd (Xw hb).symm h
 simp[find,this]
theorem yX{f:FuncId}{r:Row}{fn:List r.den->Option (List r.den)}(hb:∃fn,P.funcs[f]? =some fn/\(fn.name== "runtime.NumGoroutine")=Yy/\fn.body.isNone=Yy)
 (hr:r.beq r=Yx)
 (hc:∀{F:Nat->Prop}{w:World}{v:Value}{l m:List r.den},fn l=some m->e7 0 F w T r v l->(∀b,F b->b<w.heap.size)->Calls P f #[v] w λe w'=>e= .returned (.tuple #[])/\Ext (aN v) w w'/\e7 0 F w' T r v m):
 fK P f ⟨⟨[(0, .val Yy (.own 0))],[(0, .own T r)],[],1⟩,⟨[],[(0, .own T r)],[],2⟩,fn⟩:=by
 refine⟨hb,λx y mJ args w H F G hlen eA bH df hG=>?_⟩;have df:eF H 1:=df
 match args,hlen with
 |[v],_=>
 have hx:(ec 0 [(0,OS.own T r)] (bX [(0,SS.val Yy (.own 0))] (cm [.slice r] x)).2)=[(0,(0, .own T r x))]:=by
  show[(0,(0,(bT (.own T r) [⟨.slice r,x⟩]).1))]=_
  simp only[bT,hr,cond_true]
 have hy:(ec 1 [(0,OS.own T r)] (bX [] (cm [.slice r] y)).2)=[(0,(1, .own T r y))]:=by
  show[(0,(1,(bT (.own T r) [⟨.slice r,y⟩]).1))]=_
  simp only[bT,hr,cond_true]
 have bH:ak (λk=>w.heap.size<=k\/G k) H F w (find [(0,(0,Th.own T r x))]) 1:=by rw[<-hx];exact bH
 have hd:af H F w (.val Yy (.own 0)) v:=eA 0 _ rfl;obtain⟨cs,⟨v',hv,h1,rfl⟩,_,mH⟩:=hd
 obtain rfl:v'=v:=by have:=mH rfl;simpa using this
 have cS:=bH.own rfl hv;obtain⟨v2,jm,bF⟩:=bH.obj 0 0 _ rfl;rw[hv]at jm;obtain rfl:=WD jm
 refine(hc mJ cS bH.lt).mono λe w' ⟨he,aU,dY⟩=>⟨[],he,rfl,H.aK 1 (.own T r y),F,⟨aU.os,aU.tape,aU.output,aU.size,λk hk hn=>aU.block k hk λhm=>?_⟩,ai.dD (df 1 (WH _)).2,λb h=>h,λb h=> .inl h,λt d h=>?_,?_,?_⟩
 .rcases bF.use k hm with h|h
  .omega
  .exact hn h
 .cases h
 .show ak _ _ F w' (find (ec 1 [(0,OS.own T r)] (bX [] (cm [.slice r] y)).2)) 2
  rw[hy];refine⟨λo s t ho=>?_,λo o' s s' t t' u u' bY ho fZ=>?_,λm h1 h2=>⟨(df m (by have:2<=m:=h1;omega)).1,?_⟩,λb hb=>Xg (bH.lt b hb) aU.size,λb hb=> .inl (Xa aU.size hb),bH.gl.step (Step.ext aU bH.lt cS.no)⟩
  .obtain⟨rfl,h⟩:o=0/\(1,Th.own T r y)=(s,t):=by
    by_cases h0:o=0
    .subst h0;exact⟨rfl,WD ho⟩
    .exfalso;have:find [(0,(1,Th.own T r y))] o=Yw:=iG h0;rw[this]at ho;cases ho
   cases h;refine⟨v',hv,h1,by simp[ai.aK,Th.base],e7.to _ dY,dY.no,dY.lt,λk hk=>?_⟩;exact bF.use k hk
  .have key:∀o x,find [(0,(1,Th.own T r y))] o=some x->o=0:=λo x h=>by
    by_cases h0:o=0
    .exact h0
    .have:find [(0,(1,Th.own T r y))] o=Yw:=iG h0;rw[this]at h;cases h
   exact absurd ((key o _ ho).trans (key o' _ fZ).symm) bY
  .have h1:2<=m:=h1
   show(if m=1 then _ else H.con m)=Yw
   rw[YA (by omega)];exact(df m (by omega)).2
 .intro m hm;have hm:2<=m:=hm;refine⟨(df m (by omega)).1,?_⟩
  show(if m=1 then _ else H.con m)=Yw
  rw[YA (by omega)];exact(df m (by omega)).2
theorem Ci{f:FuncId}{r:Row}{fn:List r.den->Option (List r.den)}(hb:∃fn,P.funcs[f]? =some fn/\(fn.name== "runtime.NumGoroutine")=Yy/\fn.body.isNone=Yy)
 (hr:r.beq r=Yx)
 (hc:∀{F:Nat->Prop}{w:World}{v:Value}{l m:List r.den},fn l=some m->e7 0 F w T r v l->(∀b,F b->b<w.heap.size)->Calls P f #[v] w λe w'=>∃v',e= .returned v'/\Ext (aN v) w w'/\e7 0 F w' T r v' m/\∀k,aN v' k->aN v k):
 fK P f ⟨⟨[(0, .val Yy (.own 0))],[(0, .own T r)],[],1⟩,⟨[(0, .val Yy (.own 1))],[(1, .own T r)],[],2⟩,fn⟩:=by
 refine⟨hb,λx y mJ args w H F G hlen eA bH df hG=>?_⟩;have df:eF H 1:=df
 match args,hlen with
 |[v],_=>
 have hx:(ec 0 [(0,OS.own T r)] (bX [(0,SS.val Yy (.own 0))] (cm [.slice r] x)).2)=[(0,(0, .own T r x))]:=by
  show[(0,(0,(bT (.own T r) [⟨.slice r,x⟩]).1))]=_
  simp only[bT,hr,cond_true]
 have hy:(ec 1 [(1,OS.own T r)] (bX [(0,SS.val Yy (.own 1))] (cm [.slice r] y)).2)=[(1,(1, .own T r y))]:=by
  show[(1,(1,(bT (.own T r) [⟨.slice r,y⟩]).1))]=_
  simp only[bT,hr,cond_true]
 have bH:ak (λk=>w.heap.size<=k\/G k) H F w (find [(0,(0,Th.own T r x))]) 1:=by rw[<-hx];exact bH
 have hd:af H F w (.val Yy (.own 0)) v:=eA 0 _ rfl;obtain⟨cs,⟨v',hv,h1,rfl⟩,_,mH⟩:=hd
 obtain rfl:v'=v:=by have:=mH rfl;simpa using this
 have cS:=bH.own rfl hv;obtain⟨v2,jm,bF⟩:=bH.obj 0 0 _ rfl;rw[hv]at jm;obtain rfl:=WD jm;have tP:=df 1 (WH _)
 refine(hc mJ cS bH.lt).mono λe w' ⟨v3,he,aU,dY,D7⟩=>?_
 have RF:v3.oneCell'=Yx:=(gD.one dY.2)
 have hle:H.le ((H.aK 1 (.own T r y)).bI 1 v3):=⟨λo u h=>by
  show(if o=1 then some v3 else H.val o)=some u
  rw[YA (λe=>by rw[e,tP.1]at h;cases h)]
  exact h,(ai.dD (t:= .own T r y) tP.2).con,(ai.dD (t:= .own T r y) tP.2).sub⟩
 refine⟨[v3],he,rfl,(H.aK 1 (.own T r y)).bI 1 v3,F,⟨aU.os,aU.tape,aU.output,aU.size,λk hk hn=>aU.block k hk λhm=>?_⟩,hle,λb h=>h,λb h=> .inl h,λt d h=>?_,?_,?_⟩
 .rcases bF.use k hm with h|h
  .omega
  .exact hn h
 .have ht:t=0/\d= .val Yy (.own 1):=by
   have h:find [(0,ag.val Yy (.own 1))] t=some d:=h;by_cases h0:t=0
   .subst h0;exact⟨rfl,(WD h).symm⟩
   .have e:find [(0,ag.val Yy (.own 1))] t=Yw:=iG h0;rw[e]at h;cases h
  obtain⟨rfl,rfl⟩:=ht;exact⟨[v3],⟨v3,by simp[ai.bI],RF,rfl⟩,rfl,λ_=>rfl⟩
 .show ak _ _ F w' (find (ec 1 [(1,OS.own T r)] (bX [(0,SS.val Yy (.own 1))] (cm [.slice r] y)).2)) 2
  rw[hy]
  have key:∀o x,find [(1,(1,Th.own T r y))] o=some x->o=1/\x=(1,Th.own T r y):=λo x h=>by
   by_cases h0:o=1
   .subst h0;exact⟨rfl,(WD h).symm⟩
   .have:find [(1,(1,Th.own T r y))] o=Yw:=iG h0;rw[this]at h;cases h
  refine⟨λo s t ho=>?_,λo o' s s' t t' u u' bY ho fZ=>?_,λm h1 h2=>⟨?_,?_⟩,λb hb=>Xg (bH.lt b hb) aU.size,λb hb=> .inl (Xa aU.size hb),bH.gl.step (Step.ext aU bH.lt cS.no)⟩
  .obtain⟨rfl,h⟩:=key o _ ho;cases h;exact⟨v3,by simp[ai.bI],RF,by simp[ai.aK,ai.bI,Th.base],e7.to _ dY,dY.no,dY.lt,λk hk=>bF.use k (D7 k hk)⟩
  .exact absurd ((key o _ ho).1.trans (key o' _ fZ).1.symm) bY
  .have h1:2<=m:=h1
   show(if m=1 then _ else H.val m)=Yw
   rw[YA (by omega)];exact(df m (by omega)).1
  .have h1:2<=m:=h1
   show(if m=1 then _ else H.con m)=Yw
   rw[YA (by omega)];exact(df m (by omega)).2
 .intro m hm;have hm:2<=m:=hm;refine⟨?_,?_⟩
  .show(if m=1 then _ else H.val m)=Yw
   rw[YA (by omega)];exact(df m (by omega)).1
  .show(if m=1 then _ else H.con m)=Yw
   rw[YA (by omega)];exact(df m (by omega)).2
def wV(l:List Int):Option (List Int):=if l.length<4611686018427387904 then some (mA l)else Yw
theorem Hj{f:FuncId}(hb:∃fn,P.funcs[f]? =some fn/\(fn.name== "runtime.NumGoroutine")=Yy/\fn.body.isNone=Yy)
 (h1:∀(jx off cap:Nat)(zs:List Int)(w:World),Go.Sort.Holds (XD .i64) w jx off zs.toArray->jx<w.heap.size->zs.length<4611686018427387904->
   Calls P f #[.slice (some ⟨jx,off,Yw⟩) zs.length cap] w λe w'=>e= .returned (.tuple #[])/\∃n os,w'=XM (XB (XD .i64) (XH w n) jx off (zs.mergeSort λx y=>decide (x<=y)).toArray) os)
 (h2:∀(p:Option Addr)(cap:Nat)(w:World),Calls P f #[.slice p 0 cap] w λe w'=>e= .returned (.tuple #[])/\w'=w):
 fK P f ⟨⟨[(0, .val Yy (.own 0))],[(0, .own T ae)],[],1⟩,⟨[],[(0, .own T ae)],[],2⟩,λx=>wV x⟩:=by
 refine yX (r:=ae) hb rfl λ{F w v l m}hm ho hF=>?_
 have hm:wV l=some m:=hm;unfold wV at hm;split at hm
 case isFalse=>cases hm
 rename_i hlen;obtain rfl:=WD hm
 rcases tf ho with⟨rfl,rfl⟩|⟨g,o0,cap,cur,rfl,hg,vn,DQ,ir,hh⟩
 .refine(h2 Yw 0 w).mono λe w' ⟨he,hw⟩=>⟨he,hw▸⟨rfl,⟨rfl,WH _⟩,rfl,WH _,λ_ _ _=>rfl⟩,hw▸?_⟩
  simpa[mA]using ho
 .refine(h1 g o0 cap l w hh (Xj.1 hg).1 hlen).mono λe w' ⟨he,n,os,hw⟩=>⟨he,?_,?_⟩
  .have:=Au hw;exact⟨this.os,this.tape,this.output,this.size,λk hk hn=>this.block k hk λe=>hn (by simp[aN,Xh,e])⟩
  .have hl:(mA l).length=l.length:=List.length_mergeSort ..;have:=wU (d:=mA l) ho hg ir DQ (by omega) (mA l).length (WH _) hw;rw[W3,hl]at this;exact this
def lg(l:List Int):Option (List Int):=if l.length<=9223372036854775807 then some (XJ l)else Yw
theorem yY{f:FuncId}(hb:∃fn,P.funcs[f]? =some fn/\(fn.name== "runtime.NumGoroutine")=Yy/\fn.body.isNone=Yy)
 (h1:∀(jx off cap:Nat)(zs:List Int)(w:World),Go.Sort.Holds (XD .i64) w jx off zs.toArray->zs.length<=9223372036854775807->zs.length<=cap->
   Calls P f #[.slice (some ⟨jx,off,Yw⟩) zs.length cap] w λe w'=>e= .returned (.slice (some ⟨jx,off,Yw⟩) (XJ zs).length cap)/\∃q,w'=XB (XD .i64) (XH w q) jx off (XJ zs++Xb (zs.length-(XJ zs).length) 0).toArray)
 (h2:∀(p:Option Addr)(cap:Nat)(w:World),Calls P f #[.slice p 0 cap] w λe w'=>e= .returned (.slice p 0 cap)/\w'=w):
 fK P f ⟨⟨[(0, .val Yy (.own 0))],[(0, .own T ae)],[],1⟩,⟨[(0, .val Yy (.own 1))],[(1, .own T ae)],[],2⟩,λx=>lg x⟩:=by
 refine Ci (r:=ae) hb rfl λ{F w v l m}hm ho hF=>?_
 have hm:lg l=some m:=hm;unfold lg at hm;split at hm
 case isFalse=>cases hm
 rename_i hlen;obtain rfl:=WD hm
 rcases tf ho with⟨rfl,rfl⟩|⟨g,o0,cap,cur,rfl,hg,vn,DQ,ir,hh⟩
 .refine(h2 Yw 0 w).mono λe w' ⟨he,hw⟩=>⟨_,he,hw▸⟨rfl,⟨rfl,WH _⟩,rfl,WH _,λ_ _ _=>rfl⟩,hw▸?_,λk hk=>hk⟩
  exact ho
 .have Gj:(XJ l).length<=l.length:=rb l
  refine(h1 g o0 cap l w hh hlen vn).mono λe w' ⟨he,n,hw⟩=>⟨_,he,?_,?_,λk hk=>by simpa[aN,Xh]using hk⟩
  all_goals have hw:w'=XM (XB (XD .i64) (XH w n) g o0 (XJ l++Xb (l.length-(XJ l).length) 0).toArray) #[]:=by rw[hw,EO]
  .have:=Au hw;exact⟨this.os,this.tape,this.output,this.size,λk hk hn=>this.block k hk λe=>hn (by simp[aN,Xh,e])⟩
  .have:=wU (d:=XJ l++Xb (l.length-(XJ l).length) 0) ho hg ir DQ (by simp;omega) (XJ l).length (by simp) hw;rw[List.take_left]at this;exact this
def mf(x:ByteArray×ByteArray):Option Bool:=if x.2.size=1 then some (decide (0<=Go.Lib.indexByte x.1.data.toList (x.2.data.getD 0 0)))else Yw
theorem wW{f:FuncId}(hb:∃fn,P.funcs[f]? =some fn/\(fn.name== "runtime.NumGoroutine")=Yy/\fn.body.isNone=Yy)
 (h1:∀(s:ByteArray)(c:UInt8)(w:World),Calls P f #[.string s, .string ⟨#[c]⟩] w λe w'=>e= .returned (.bool (decide (0<=Go.Lib.indexByte s.data.toList c)))/\w'=w):
 fK P f ⟨⟨[(0, .val Yy (.leaf .str)),(1, .val Yy (.leaf .str))],[],[],0⟩,⟨[(0, .val Yy (.leaf .bool))],[],[],0⟩,λx=>mf x⟩:=by
 refine⟨hb,λx y mJ args w H F G hlen eA bH df hG=>?_⟩
 match args,hlen with
 |[u,v],_=>
 obtain⟨s,t⟩:=x;have mJ:mf (s,t)=some y:=mJ;unfold mf at mJ;split at mJ
 case isFalse=>cases mJ
 rename_i ir;obtain rfl:=WD mJ;have hu:au H F w Yy (.leaf .str s) u:=eA 0 _ rfl;have hv:au H F w Yy (.leaf .str t) v:=eA 1 _ rfl;obtain⟨cs,hc,_,h2⟩:=hu;obtain⟨mI,Pj,_,rH⟩:=hv;have hc:cs=[.string s]:=hc;have Pj:mI=[.string t]:=Pj
 have eu:u= .string s:=by have:=(h2 rfl).symm.trans hc;simpa using this
 have ev:v= .string t:=by have:=(rH rfl).symm.trans Pj;simpa using this
 subst eu ev
 obtain⟨⟨⟨l⟩⟩,ht⟩:∃t':ByteArray,t'=t:=⟨t,rfl⟩
 match l,ht with
 |[c],ht=>
  subst ht
  refine(h1 s c w).mono λe w' ⟨he,hw⟩=>?_
  subst hw;refine⟨[_],he,rfl,H,F,⟨rfl,⟨rfl,WH _⟩,rfl,WH _,λ_ _ _=>rfl⟩,ai.le.refl H,λ_ h=>h,λ_ h=> .inl h,λi d h=>?_,?_,df⟩
  .have hd:i=0/\d= .val Yy (.leaf .bool (decide (0<=Go.Lib.indexByte s.data.toList c))):=by
    have h:find [(0,ag.val Yy (.leaf .bool (decide (0<=Go.Lib.indexByte s.data.toList c))))] i=some d:=h;by_cases h0:i=0
    .subst h0;exact⟨rfl,(WD h).symm⟩
    .rw[iG h0]at h;cases h
   obtain⟨rfl,rfl⟩:=hd;exact au.iX rfl
  .exact bH
 |[],ht=>subst ht;cases ir
 |_::_::_,ht=>subst ht;simp[ByteArray.size]at ir
end
end
end Go.Proofs.YtbladfbbhijpmaaGreat
