/- Joined texts: PQ3 PQ4 PQ5 PQ6 PQ7 PQ8 P28 KO KP KP2. -/
import Derived.Test.YtlfjlhcigpejdaaGreatDoorU9
import Derived.Test.YtlfjlhcigpejdaaGreatDoorU1
section
open _root_.List renaming append_assoc->Yy,getElem?_eq_some_iff->Yc,length_append->Yr,take_length->YU,take_succ_eq_append_getElem->YQ
open _root_.Nat renaming zero_le->Yk
open _root_.Option.some renaming inj->X7
namespace Go.Proofs.YtlfjlhcigpejdaaGreatDoor
open Go Go.RowKit
set_option maxRecDepth 100000
namespace L
theorem nat_eq{u t:Nat}{x:Int}(h1:x=u)(h2:x=t):u=t:=by omega
def fX(n:Ty):Prop:=50<=(n.1:Int)/\(n.1:Int)<=53
instance(n:Ty):Decidable (fX n):=by unfold fX;infer_instance
def tv(n:Ty):Prop:=(n.1:Int)=50\/(n.1:Int)=52\/(n.1:Int)=53
theorem tv.fX{n:Ty}(h:tv n):fX n:=by
 obtain⟨(o:Int),(m:Int)⟩:=n;unfold tv at h;unfold L.fX;dsimp only[ae,Row.den]at*;omega
theorem mN{n:Ty}(h:(n.1:Int)=51):fX n:=by
 obtain⟨(o:Int),(m:Int)⟩:=n;unfold fX;dsimp only[ae,Row.den]at*;omega
theorem ij{n:Ty}(h:fX n):(n.1:Int)=51\/tv n:=by
 obtain⟨(o:Int),(m:Int)⟩:=n;unfold fX at h;unfold tv;dsimp only[ae,Row.den]at*;omega
theorem jJ{n:Ty}(h:tv n):¬(n.1:Int)=51:=by
 obtain⟨(o:Int),(m:Int)⟩:=n;unfold tv at h;dsimp only[ae,Row.den]at*;omega
theorem xl{n:Ty}(h:fX n):¬cf n.1:=by
 obtain⟨(o:Int),(m:Int)⟩:=n;unfold fX at h;unfold cf;dsimp only[ae,Row.den]at*;omega
section
variable {a b:List Ty} {env:aP.den} {p:Nat} {S:List Vl} {r:Vl×Int} {n:Ty}
theorem eI.JJ(hr:eI a env p S r)(hp:p=a.length):∃v S',S=v::S'/\r=(v,0):=by
 have no:∀{n:Ty},a[p]? =some n->False:=fun{n}h=>by subst hp;simp at h
 cases hr with
 |done=>exact⟨_,_,rfl,rfl⟩
 |jump h=>exact(no h).elim
 |op h=>exact(no h).elim
 |fail h=>exact(no h).elim
 |cond h=>exact(no h).elim
 |cbad h=>exact(no h).elim
theorem eI.Fj(hr:eI a env p S r)(hn:a[p]? =some n)(hj:¬fX n):∃k:Nat,ar n.1=k/\k<=S.length/\
 (((mz env n (S.drop (S.length-k))).2=0/\eI a env (p+1) (S.take (S.length-k)++[(mz env n (S.drop (S.length-k))).1]) r)\/((mz env n (S.drop (S.length-k))).2≠0/\r=(z3,(mz env n (S.drop (S.length-k))).2))):=by
 cases hr with
 |done=>simp at hn
 |jump h gW=>obtain rfl:=X7 (h.symm.trans hn);exact absurd (mN gW) hj
 |op h bu ha hs h0 next=>obtain rfl:=X7 (h.symm.trans hn);exact⟨_,ha,hs, .inl ⟨h0,next⟩⟩
 |fail h bu ha hs h0=>obtain rfl:=X7 (h.symm.trans hn);exact⟨_,ha,hs, .inr ⟨h0,rfl⟩⟩
 |cond h fQ=>obtain rfl:=X7 (h.symm.trans hn);exact absurd (tv.fX fQ) hj
 |cbad h fQ=>obtain rfl:=X7 (h.symm.trans hn);exact absurd (tv.fX fQ) hj
theorem eI.Ao(hr:eI a env p S r)(hn:a[p]? =some n)(gW:(n.1:Int)=51):∃t:Nat,(n.2:Int)=t/\p<t/\t<=a.length/\eI a env t S r:=by
 cases hr with
 |done=>simp at hn
 |jump h _ ht JI zA next=>obtain rfl:=X7 (h.symm.trans hn);exact⟨_,ht,JI,zA,next⟩
 |op h bu=>obtain rfl:=X7 (h.symm.trans hn);exact absurd (mN gW) bu
 |fail h bu=>obtain rfl:=X7 (h.symm.trans hn);exact absurd (mN gW) bu
 |cond h fQ=>obtain rfl:=X7 (h.symm.trans hn);exact absurd gW (jJ fQ)
 |cbad h fQ=>obtain rfl:=X7 (h.symm.trans hn);exact absurd gW (jJ fQ)
def Mj(top:Vl):Prop:=(top.1:Int)=1/\((top.2.2:Int)=0\/(top.2.2:Int)=1)
theorem eI.Hj(hr:eI a env p S r)(hn:a[p]? =some n)(hc:tv n):∃S' top,S=S'++[top]/\((¬Mj top/\r=(z3,8))\/
 (Mj top/\∃t:Nat,(n.2:Int)=t/\p<t/\t<=a.length/\eI a env (if Fi n top=true then t else p+1) (if Fi n top=false\/(n.1:Int)=50 then S' else S'++[top]) r)):=by
 cases hr with
 |done=>simp at hn
 |jump h gW=>obtain rfl:=X7 (h.symm.trans hn);exact absurd gW (jJ hc)
 |op h bu=>obtain rfl:=X7 (h.symm.trans hn);exact absurd (tv.fX hc) bu
 |fail h bu=>obtain rfl:=X7 (h.symm.trans hn);exact absurd (tv.fX hc) bu
 |cond h fQ ht JI zA hk hv next=>obtain rfl:=X7 (h.symm.trans hn);exact⟨_,_,rfl, .inr ⟨⟨hk,hv⟩,_,ht,JI,zA,next⟩⟩
 |cbad h fQ hk=>obtain rfl:=X7 (h.symm.trans hn);exact⟨_,_,rfl, .inl ⟨hk,rfl⟩⟩
theorem eI.lit{v:Vl}(hr:eI a env p S r)(hn:a[p]? =some n)(hj:¬fX n)(h0:ar n.1=0)(hv:mz env n []=(v,0)):eI a env (p+1) (S++[v]) r:=by
 obtain⟨k,h1,h2,h3⟩:=hr.Fj hn hj
 obtain rfl:k=0:=by omega
 rw[Nat.sub_zero,List.drop_length,YU,hv]at h3
 rcases h3 with h3|h3
 .exact h3.2
 .exact absurd rfl h3.1
theorem eI.WZ{vs:List Vl}{v:Vl}(hr:eI a env p (S++vs) r)(hn:a[p]? =some n)(hj:¬fX n)(h0:ar n.1=(vs.length:Int))(hv:mz env n vs=(v,0)):eI a env (p+1) (S++[v]) r:=by
 obtain⟨k,h1,h2,h3⟩:=hr.Fj hn hj
 obtain rfl:k=vs.length:=by omega
 rw[Yr,Nat.add_sub_cancel,List.drop_left,List.take_left,hv]at h3
 rcases h3 with h3|h3
 .exact h3.2
 .exact absurd rfl h3.1
end
inductive FO(a b:List Ty)(R:Nat->Nat->Prop)(p q:Nat):Prop
 |op {n:Ty} (ha:a[p]? =some n) (hb:b[q]? =some n) (hn:¬fX n) (hr:R (p+1) (q+1)):FO a b R p q
 |jump {n n':Ty} {t t':Nat} (ha:a[p]? =some n) (hb:b[q]? =some n') (h1:(n.1:Int)=51) (h2:(n'.1:Int)=51) (e1:(n.2:Int)=t) (e2:(n'.2:Int)=t') (hq:q<t') (hr:R t t'):FO a b R p q
 |cond {n n':Ty} {t t':Nat} (ha:a[p]? =some n) (hb:b[q]? =some n') (h1:tv n) (h2:(n'.1:Int)=n.1) (e1:(n.2:Int)=t) (e2:(n'.2:Int)=t') (hq:q<t') (hr:R t t') (hs:R (p+1) (q+1)):FO a b R p q
 |block {k:Nat} {n m:Ty} {vs:List Vl} {v:Vl} (hl:∀j,j<k->∃x y,a[p+j]? =some x/\vs[j]? =some y/\¬fX x/\ar x.1=0/\∀env,k0 env->mz env x []=(y,0)) (hk:vs.length=k) (hn:a[p+k]? =some n) (hj:¬fX n) (ha:ar n.1=k)
   (hv:∀env,k0 env->mz env n vs=(v,0)) (hm:b[q]? =some m) (Iq:¬fX m) (QC:ar m.1=0) (Mi:¬cf m.1) (QD:∀env,k0 env->mz env m []=(v,0)) (hr:R (p+k+1) (q+1)):FO a b R p q
structure Hk(a b:List Ty)(F F':List Int)(R:Nat->Nat->Prop):Prop where
 fits:Fits a F
 pos:0<b.length
 le:b.length<=128
 len:F'.length=b.length+1
 bd:Bd F'
 dep:∀p q,R p q->0<=gd F p/\p<=a.length/\q<=b.length/\gd F' q=gd F p
 st:∀p q,R p q->(p=a.length/\q=b.length)\/FO a b R p q\/∃(n:Ty)(t:Nat),a[p]? =some n/\(n.1:Int)=51/\(n.2:Int)=t/\R t q
 back:∀q,q<b.length->0<=gd F' q->∃p,R p q/\FO a b R p q
 zero:R 0 0
 fin:R a.length b.length
section
variable {a b:List Ty} {F F':List Int} {R:Nat->Nat->Prop}
theorem Fits.at(f:Fits a F){p:Nat}{n:Ty}(hn:a[p]? =some n)(h0:0<=gd F p):m8 a.length F p n/\¬cf n.1:=by
 obtain⟨h,rfl⟩:=Yc.1 hn;exact f.step p h h0
theorem Fits.op(f:Fits a F){p:Nat}{n:Ty}(hn:a[p]? =some n)(hj:¬fX n)(h0:0<=gd F p):0<=ar n.1/\ar n.1<=gd F p/\gd F (p+1)=gd F p-ar n.1+1/\gd F p-ar n.1+1<=12/\¬cf n.1:=by
 obtain⟨h1,h2⟩:=f.at hn h0
 rcases h1 with⟨h,_⟩|⟨h,_⟩|⟨_,_,g1,g2,g3,g4⟩
 .exact absurd (mN h) hj
 .exact absurd (tv.fX h) hj
 .exact⟨g1,g2,g3,g4,h2⟩
theorem m9(f:Fits a F){p:Nat}(h0:0<=gd F p):∀(k:Nat),(∀j,j<k->∃x:Ty,a[p+j]? =some x/\¬fX x/\ar x.1=0)->gd F (p+k)=gd F p+k
 |0,_=>by simp
 |k+1,h=>by
  have ih:=m9 f h0 k fun j hj=>h j (by omega)
  obtain⟨x,h1,h2,h3⟩:=h k (by omega);obtain⟨_,_,g,_⟩:=f.op h1 h2 (by omega);rw[<-Nat.add_assoc,g];omega
theorem Hk.to(s:Hk a b F F' R):Fits b F':=by
 refine⟨s.pos,s.le,s.len,s.bd,?_,?_,fun q hq h0=>?_⟩
 .rw[(s.dep _ _ s.zero).2.2.2];exact s.fits.first
 .rw[(s.dep _ _ s.fin).2.2.2];exact s.fits.last
 obtain⟨p,hR,g⟩:=s.back q hq h0;obtain⟨d1,d2,d3,d4⟩:=s.dep p q hR
 cases g with
 | @op n ha hb hn hr=>
   have e:b[q]=n:=(Yc.1 hb).2;obtain⟨g1,g2,g3,g4,g5⟩:=s.fits.op ha hn d1;obtain⟨_,_,_,d5⟩:=s.dep _ _ hr;rw[e];exact⟨.inr (.inr ⟨fun h=>hn (mN h),fun h=>hn (tv.fX h),g1,by omega,by omega,by omega⟩),g5⟩
 | @jump n n' t t' ha hb h1 h2 e1 e2 jr hr=>
   have e:b[q]=n':=(Yc.1 hb).2;obtain⟨g1,_⟩:=s.fits.at ha d1;obtain⟨_,_,c3,d5⟩:=s.dep _ _ hr;rw[e];refine⟨.inl ⟨h2,t',e2,jr,c3,?_⟩,xl (mN h2)⟩
   rcases g1 with⟨_,u,u1,u2,u3,u4⟩|⟨h,_⟩|⟨h,_⟩
   .have:u=t:=nat_eq u1 e1;subst this;omega
   .exact absurd h1 (jJ h)
   .exact absurd h1 h
 | @cond n n' t t' ha hb h1 h2 e1 e2 jr hr hs=>
   have e:b[q]=n':=(Yc.1 hb).2;obtain⟨g1,_⟩:=s.fits.at ha d1;obtain⟨_,_,c3,d5⟩:=s.dep _ _ hr;obtain⟨_,_,_,d6⟩:=s.dep _ _ hs
   have rN:tv n':=by unfold tv;rw[h2];exact h1
   rw[e];refine⟨.inr (.inl ⟨rN,?_⟩),xl rN.fX⟩
   rcases g1 with⟨h,_⟩|⟨_,g2,g3,u,u1,u2,u3,u4⟩|⟨_,h,_⟩
   .exact absurd h (jJ h1)
   .have:u=t:=nat_eq u1 e1;subst this;refine⟨by omega,by omega,t',e2,jr,c3,?_⟩;rw[d5,u4,d4,h2]
   .exact absurd h1 h
 | @block k n m vs v hl hk hn hj ha hv hm Iq QC Mi QD hr=>
   have e:b[q]=m:=(Yc.1 hm).2
   have hd:=m9 s.fits d1 k fun j hj=>by
    obtain⟨x,_,x1,_,x2,x3,_⟩:=hl j hj;exact⟨x,x1,x2,x3⟩
   obtain⟨g1,g2,g3,g4,_⟩:=s.fits.op hn hj (by omega);obtain⟨_,_,_,d5⟩:=s.dep _ _ hr;rw[e];exact⟨.inr (.inr ⟨fun h=>Iq (mN h),fun h=>Iq (tv.fX h),by omega,by omega,by omega,by omega⟩),Mi⟩
theorem eI.lits{env:aP.den}{p:Nat}{S:List Vl}{r:Vl×Int}{vs:List Vl}:∀(k:Nat),k<=vs.length->(∀j,j<k->∃(x:Ty)(y:Vl),a[p+j]? =some x/\vs[j]? =some y/\¬fX x/\ar x.1=0/\mz env x []=(y,0))->eI a env p S r->eI a env (p+k) (S++vs.take k) r
 |0,_,_,h=>by simpa using h
 |k+1,hk,hl,h=>by
  have ih:=eI.lits k (by omega) (fun j hj=>hl j (by omega)) h;obtain⟨x,y,h1,h2,h3,h4,h5⟩:=hl k (by omega);have:=ih.lit h1 h3 h4 h5
  have e:vs.take (k+1)=vs.take k++[y]:=by
   obtain⟨aW,rfl⟩:=Yc.1 h2;exact YQ aW
  rw[e,<-Yy];exact this
theorem Hk.runs(s:Hk a b F F' R){env:aP.den}(he:k0 env){r:Vl×Int}:∀(m p q:Nat)(S:List Vl),a.length-p=m->R p q->eI a env p S r->eI b env q S r:=by
 intro m
 induction m using Nat.strongRecOn with
 |_ m ih=>
  intro p q S hm hR hr
  have J7:∀p' q' S',p<p'->R p' q'->eI a env p' S' r->eI b env q' S' r:=fun p' q' S' h MW=>by
   have:=(s.dep p' q' MW).2.1;exact ih (a.length-p') (by omega) p' q' S' rfl MW
  rcases s.st p q hR with⟨e1,e2⟩|g|⟨n,t,ha,gW,ht,MW⟩
  .obtain⟨v,S',rfl,rfl⟩:=hr.JJ e1;rw[e2];exact .done
  .cases g with
   | @op n ha hb hn pC=>
     obtain⟨k,h1,h2,h3⟩:=hr.Fj ha hn
     rcases h3 with⟨h3,h4⟩|⟨h3,rfl⟩
     .exact .op hb hn h1 h2 h3 (J7 _ _ _ (by omega) pC h4)
     .exact .fail hb hn h1 h2 h3
   | @jump n n' t t' ha hb h1 h2 e1 e2 jr pC=>
     obtain⟨u,u1,u2,u3,u4⟩:=hr.Ao ha h1;have:u=t:=nat_eq u1 e1;subst this;exact .jump hb h2 e2 jr (s.dep _ _ pC).2.2.1 (J7 _ _ _ u2 pC u4)
   | @cond n n' t t' ha hb h1 h2 e1 e2 jr pC hs=>
     have rN:tv n':=by unfold tv;rw[h2];exact h1
     obtain⟨S',top,rfl,h3⟩:=hr.Hj ha h1
     rcases h3 with⟨h3,rfl⟩|⟨h3,u,u1,u2,u3,u4⟩
     .exact .cbad hb rN h3
     .have:u=t:=nat_eq u1 e1;subst this
      have ej:Fi n' top=Fi n top:=by unfold Fi;rw[h2]
      refine .cond hb rN e2 jr (s.dep _ _ pC).2.2.1 h3.1 h3.2 ?_;rw[ej,h2];by_cases hj:Fi n top=true
      .rw[if_pos hj]at u4⊢;exact J7 _ _ _ u2 pC u4
      .rw[if_neg hj]at u4⊢;exact J7 _ _ _ (by omega) hs u4
   | @block k n m vs v hl hk hn hj ha hv hm Iq QC Mi QD pC=>
     have h1:=eI.lits (vs:=vs) k (by omega) (fun j hj=>by
      obtain⟨x,y,x1,x2,x3,x4,x5⟩:=hl j hj
      exact⟨x,y,x1,x2,x3,x4,x5 env he⟩) hr
     rw[List.take_of_length_le (by omega)]at h1;have h2:=h1.WZ hn hj (by rw[ha,hk]) (hv env he);have h3:=J7 _ _ _ (by omega) pC h2;have e:=QD env he;refine .op (a:=0) hm Iq (by rw[QC];rfl) (Yk _) ?_ ?_
     .rw[Nat.sub_zero,List.drop_length,e]
     .rw[Nat.sub_zero,List.drop_length,YU,e];exact h3
  .obtain⟨u,u1,u2,u3,u4⟩:=hr.Ao ha gW;have:u=t:=nat_eq u1 ht;subst this;exact J7 _ _ _ u2 MW u4
end
structure kQ(a b:List Ty):Prop where
 fits:∃F,Fits b F
 le:b.length<=a.length
 wf:∀n∈b,WF aa n
 runs:∀env,k0 env->∀r,eI a env 0 [] r->eI b env 0 [] r
theorem kQ.trans{a b c:List Ty}(h:kQ a b)(k:kQ b c):kQ a c:=⟨k.fits,Nat.le_trans k.le h.le,k.wf,fun env he r hr=>k.runs env he r (h.runs env he r hr)⟩
theorem Hk.same{a b:List Ty}{F F':List Int}{R:Nat->Nat->Prop}(s:Hk a b F F' R)(hl:b.length<=a.length)(hw:∀n∈b,WF aa n):kQ a b:=
 ⟨⟨F',s.to⟩,hl,hw,fun _ he _ hr=>s.runs he _ 0 0 [] rfl s.zero hr⟩
end L
end Go.Proofs.YtlfjlhcigpejdaaGreatDoor
end
section
open _root_.Bool renaming false_eq_true->X8,not_false->YC
open _root_.Int renaming tdiv->Yn,tdiv_eq_ediv_of_nonneg->Yj,tmod->Yl,tmod_eq_emod_of_nonneg->Yi
open _root_.Go.IntKind renaming i64->X6
open _root_.Option renaming bind_some->X5
open _root_.Option.some renaming inj->X7
namespace Go.Proofs.YtlfjlhcigpejdaaGreatDoor
open Go Go.RowKit
set_option maxRecDepth 100000
namespace L
theorem dz(N:Nat)(op:Int):M.bZ N op=some (decide (50<=op/\op<=53)):=by
 unfold M.bZ
 by_cases h:50<=op<;>simp[h]
def e0:aP.den:=((0,[],[],[],[],[]):Int×List Vl×List Vl×List (List Vl)×List Ty×List cG.den)
theorem pt:k0 e0:=⟨by decide,fun t h=>by cases h⟩
theorem Ap{n:Ty}{args:List Vl}{env:aP.den}(he:k0 env)(hn:WF aa n)(hl:args.length<=100000):Wp (M.aZ az n args env) fun r=>r.2=0->(args.length:Int)=ar n.1/\∀v∈args,aF v.1 v.2.1 v.2.2:=by
 obtain⟨op,m⟩:=n;have hm:=hn.2;unfold M.aZ
 refine Wp.seq (fun j=>j=false->Fm op m/\(args.length:Int)=ar op) ?_ fun j hj=>?_
 .refine Wp.seq _ (mq ..) fun y hy=>?_
  refine Wp.ite (fun _=> .some fun h=>by cases h) fun hc=>?_
  rw[dN]
  exact .some fun h=>⟨hy (by simpa using hc),by simpa using h⟩
 refine Wp.ite (fun _=> .some fun h=>absurd h (by decide)) fun hc=>?_
 obtain⟨hf,ha⟩:=hj (by simpa using hc)
 refine Wp.seq _ (oR ..) fun y hy=>?_
 refine Wp.ite (fun _=> .some fun h=>absurd h (by decide)) fun pL=>?_
 have hx:=hy (by simpa using pL)
 have CY:op=34->0<=X6.wrap (Yn m 8):=fun e=>by
  have h0:=(hf.2.2.1 e).1;have h1:(m:Int)<=9223372036854775807:=hm.2;rw[Yj h0];dsimp only[ae,Row.den]at h0 h1⊢;rw[ag (by omega) (by omega)];omega
 refine Wp.seq (fun j=>j=false->LY op m env/\∀v∈args,aF v.1 v.2.1 v.2.2) ?_ fun j5 Qk=>?_
 .refine Wp.seq _ (w7 _ hl (by unfold az;omega)) fun y hy=>?_
  refine Wp.ite (fun _=> .some fun h=>by cases h) fun hc=>?_
  exact Wp.seq _ (rr hx ha CY) fun z hz=> .some fun h=>⟨hz (by simpa using h),hy (by simpa using hc)⟩
 refine Wp.ite (fun _=> .some fun h=>absurd h (by decide)) fun DV=>?_
 obtain⟨L1,ll⟩:=Qk (by simpa using DV)
 refine Wp.seq _ (ru he hf hx ha L1 CY) fun r hr=>?_
 refine Wp.nN (fun _=> .some fun _=>⟨ha,ll⟩) fun _=>?_
 rw[br];simp only[X5]
 exact Wp.nN (fun _=> .some fun _=>⟨ha,ll⟩) fun hp=> .some fun _=>⟨ha,ll⟩
theorem Hl{op m:Int}(h:op=33\/op=34)(hm:m<=9223372036854775807)(args:List Vl):Wp (M.aZ az ((op,m):Int×Int) args e0) fun r=>r.2≠0:=by
 unfold M.aZ
 refine Wp.seq (fun j=>j=false->Fm op m) ?_ fun j hj=>?_
 .refine Wp.seq _ (mq ..) fun y hy=>?_
  refine Wp.ite (fun _=> .some fun h=>by cases h) fun hc=>?_
  rw[dN]
  exact .some fun _=>hy (by simpa using hc)
 refine Wp.ite (fun _=> .some (by decide)) fun hc=>?_
 have hf:=hj (by simpa using hc)
 have he:M.cz az ((op,m):Int×Int) e0=some false:=by
  unfold M.cz
  rcases h with rfl|rfl
  .by_cases h0:0<=m
   .simp[e0,h0];exact decide_eq_false (Int.not_lt.2 h0)
   .simp[h0]
  .have h0:=(hf.2.2.1 rfl).1
   have hw:X6.wrap (Yn m 8)=m/8:=by
    rw[Yj h0,ag (by omega) (by omega)]
   simp[e0,hw];omega
 rw[he];simp only[X5,YC,if_true];exact .some (by decide)
theorem JK{n:Ty}(hn:WF aa n)(h1:1<=ar n.1){args:List Vl}(h0:(mz e0 n args).2=0)(env:aP.den):mz env n args=mz e0 n args:=by
 obtain⟨(op:Int),(m:Int)⟩:=n;by_cases h:op=33\/op=34
 .obtain⟨r,hr,bu⟩:=Hl h hn.2.2 args;unfold mz at h0;rw[hr]at h0;exact absurd h0 bu
 .have ha:10<=op/\op<=32:=by
   revert h1
   show 1<=ar op->_
   unfold ar;intro h1;split at h1
   .omega
   .omega
  have ne:∀k:Int,(k<=9\/33<=k)->decide (op=k)=false:=fun k hk=>decide_eq_false (by omega)
  have e:M.aZ az ((op,m):Int×Int) args env=M.aZ az ((op,m):Int×Int) args e0:=by
   unfold M.aZ M.cz M.aI M.aK;simp only[ne 1 (by omega),ne 2 (by omega),ne 3 (by omega),ne 4 (by omega),ne 5 (by omega),ne 6 (by omega),ne 7 (by omega),ne 8 (by omega),ne 9 (by omega),ne 33 (by omega),ne 34 (by omega),ne 35 (by omega),ne 36 (by omega),ne 37 (by omega),ne 38 (by omega),ne 39 (by omega),X8,if_false,X5]
  unfold mz;exact congrArg (fun x=>x.getD (z3,0)) e
def jl(n:Ty):Option Vl:=
 if 1<=(n.1:Int)/\(n.1:Int)<=5 then some ((n.1,0,n.2):Int×Int×Int)else if(n.1:Int)=6/\0<=(n.2:Int)/\(n.2:Int)<128 then some ((6,(n.2:Int)/16,(n.2:Int)%16):Int×Int×Int)else none
def jm(v:Vl):Ty:=if 1<=(v.1:Int)/\(v.1:Int)<=5 then((v.1,v.2.2):Int×Int)else((6,16*(v.2.1:Int)+v.2.2):Int×Int)
theorem iL(N:Nat)(n:Ty):M.bB N n=some (match jl n with
 |some v=>(v,true)
 |none=>(z3,false)):=by
 obtain⟨(op:Int),(m:Int)⟩:=n;unfold M.bB jl da;dsimp only[ae,Row.den];by_cases h1:op=1
 .subst h1;simp
 by_cases h2:op=2
 .subst h2;simp
 by_cases h3:op=3
 .subst h3;simp
 by_cases h4:op=4
 .subst h4;simp
 by_cases h5:op=5
 .subst h5;simp
 rw[if_neg (show¬(1<=op/\op<=5) by omega)];by_cases h6:op=6
 .subst h6;by_cases h7:0<=m
  .by_cases h8:m<128
   .have w:X6.wrap (Yn m 16)=m/16:=by rw[Yj h7,ag (by omega) (by omega)]
    have w2:Yl m 16=m%16:=Yi h7;simp[h7,h8,w,w2]
   .simp[h7,h8,z3]
  .simp[h7,z3]
 .simp[h1,h2,h3,h4,h5,h6,z3]
theorem pu{k e n:Int}(h:aF k e n):((1<=k/\k<=5)/\e=0/\-1000000000000000<=n/\n<=1000000000000000)\/(k=6/\0<=e/\e<=7/\0<=n/\n<=15):=by
 unfold aF at h;omega
theorem sf(N:Nat){v:Vl}(hp:aF v.1 v.2.1 v.2.2):M.bV N v=some (jm v):=by
 obtain⟨(k:Int),(e:Int),(n:Int)⟩:=v;unfold M.bV jm;dsimp only[ae,Row.den]at*;by_cases h1:k=1
 .subst h1;simp
 by_cases h2:k=2
 .subst h2;simp
 by_cases h3:k=3
 .subst h3;simp
 by_cases h4:k=4
 .subst h4;simp
 by_cases h5:k=5
 .subst h5;simp
 rcases pu hp with h|⟨h6,h7,h8,h9,W0⟩
 .omega
 .have w1:X6.wrap (16*e)=16*e:=ag (by omega) (by omega);have w2:X6.wrap (16*e+n)=16*e+n:=ag (by omega) (by omega);rw[if_neg (show¬(1<=k/\k<=5) by omega)];simp[h1,h2,h3,h4,h5,w1,w2]
theorem lN{n:Ty}{v:Vl}(h:jl n=some v):¬fX n/\ar n.1=0/\¬cf n.1:=by
 obtain⟨(op:Int),(m:Int)⟩:=n
 have:1<=op/\op<=6:=by
  unfold jl at h;dsimp only[ae,Row.den]at h;split at h
  .omega
  .split at h
   .omega
   .cases h
 refine⟨?_,?_,?_⟩
 .show¬(50<=op/\op<=53);omega
 .show ar op=0
  unfold ar;rw[if_pos (by omega)]
 .show¬(op=23\/op=24\/op=26);omega
theorem uP{v:Vl}(hp:aF v.1 v.2.1 v.2.2):jl (jm v)=some v/\WF aa (jm v):=by
 obtain⟨(k:Int),(e:Int),(n:Int)⟩:=v;dsimp only[ae,Row.den]at hp
 rcases pu hp with⟨h1,rfl,h3,h4⟩|⟨rfl,h7,h8,h9,W0⟩
 .have e1:jm ((k,0,n):Int×Int×Int)=((k,n):Int×Int):=by unfold jm;dsimp only[ae,Row.den];rw[if_pos h1]
  rw[e1];refine⟨by unfold jl;dsimp only[ae,Row.den];rw[if_pos h1],⟨?_,?_⟩,?_,?_⟩
  .show(-9223372036854775808:Int)<=k;omega
  .show k<=(9223372036854775807:Int);omega
  .show(-9223372036854775808:Int)<=n;omega
  .show n<=(9223372036854775807:Int);omega
 .have e1:jm ((6,e,n):Int×Int×Int)=((6,16*e+n):Int×Int):=by unfold jm;dsimp only[ae,Row.den];rw[if_neg (by decide)]
  rw[e1];refine⟨?_,⟨?_,?_⟩,?_,?_⟩
  .unfold jl;dsimp only[ae,Row.den];rw[if_neg (by decide),if_pos ⟨rfl,by omega,by omega⟩,show(16*e+n)/16=e by omega,show(16*e+n)%16=n by omega]
  .show(-9223372036854775808:Int)<=6;decide
  .show(6:Int)<=9223372036854775807;decide
  .show(-9223372036854775808:Int)<=16*e+n;omega
  .show 16*e+n<=(9223372036854775807:Int);omega
theorem Hm{op m:Int}(fQ:op=1\/op=2\/op=3\/op=4\/op=5\/op=6)(h6:op=6->0<=m/\m<128){v:Vl}(hv:jl ((op,m):Int×Int)=some v)(hp:aF v.1 v.2.1 v.2.2)(env:aP.den):M.aZ az ((op,m):Int×Int) [] env=some (v,0):=by
 have ha:ar op=0:=by unfold ar;rw[if_pos (by omega)]
 have ne:∀k:Int,7<=k->decide (op=k)=false:=fun k hk=>decide_eq_false (by omega)
 have hu:M.fj az op=some true:=by
  rcases fQ with rfl|rfl|rfl|rfl|rfl|rfl<;>(show(_:Option Bool)=_;kernel_rfl)
 have W1:M.bP az ((op,m):Int×Int)=some true:=by
  unfold M.bP;simp only[dN,ha,hu,ne 14 (by omega),ne 15 (by omega),ne 16 (by omega),ne 34 (by omega),X5,X8,if_false]
  by_cases hm:m=0<;>by_cases h:op=6<;>simp[hm,h]
  exact(h6 h).1
 have hex:M.cz az ((op,m):Int×Int) env=some true:=by
  unfold M.cz;simp only[ne 7 (by omega),ne 8 (by omega),ne 33 (by omega),ne 34 (by omega),ne 36 (by omega),ne 37 (by omega),ne 38 (by omega),ne 39 (by omega),X5,X8,if_false]
 have ll:M.bl az []=some true:=by
  apply Wp.eq;unfold M.bl;refine Wp.loop (fun s=>s=0) (fun _=>0) rfl (by unfold az;omega) ?_
  rintro _ rfl
  exact Wp.dec (fun h=>absurd h (by simp)) fun _=> .some rfl
 have IR:M.aI az ((op,m):Int×Int) [] env=some true:=by
  unfold M.aI;simp only[ne 7 (by omega),ne 8 (by omega),ne 33 (by omega),ne 34 (by omega),ne 36 (by omega),ne 37 (by omega),ne 38 (by omega),ne 39 (by omega),X5,X8,if_false];simp
 have W2:M.aK az ((op,m):Int×Int) [] env=some (v,0):=by
  unfold M.aK;unfold jl at hv;dsimp only[ae,Row.den]at hv⊢;by_cases h:op=6
  .subst h;obtain⟨m1,m2⟩:=h6 rfl;rw[if_neg (by decide),if_pos ⟨rfl,m1,m2⟩]at hv;obtain rfl:=X7 hv
   have w:X6.wrap (Yn m 16)=m/16:=by rw[Yj m1,ag (by omega) (by omega)]
   have w2:Yl m 16=m%16:=Yi m1;simp[w,w2]
  .rw[if_pos (by omega)]at hv;obtain rfl:=X7 hv
   rcases fQ with rfl|rfl|rfl|rfl|rfl|rfl
   .simp
   .simp
   .simp
   .simp
   .simp
   .exact absurd rfl h
 unfold M.aZ;simp only[W1,dN,ha,hex,ll,IR,W2,X5,br,decide_eq_true hp];simp
theorem Fk{n:Ty}{v:Vl}(hv:jl n=some v)(hp:aF v.1 v.2.1 v.2.2)(env:aP.den):mz env n []=(v,0):=by
 obtain⟨(op:Int),(m:Int)⟩:=n
 have h:(op=1\/op=2\/op=3\/op=4\/op=5\/op=6)/\(op=6->0<=m/\m<128):=by
  have cy:=hv;unfold jl at cy;dsimp only[ae,Row.den]at cy;split at cy
  .omega
  .split at cy
   .omega
   .cases cy
 unfold mz;rw[Hm h.1 h.2 hv hp env];rfl
end L
end Go.Proofs.YtlfjlhcigpejdaaGreatDoor
end
section
open _root_.Bool renaming false_eq_true->X8,not_false->YC,not_true->Yp
open _root_.Go.IntKind renaming i64->X6
open _root_.List renaming append_assoc->Yy,getElem?_append_left->YI,getElem?_append_right->YP,getElem?_eq_getElem->X9,getElem_mem->YL,length_take->Y2,take_length->YU,take_succ_eq_append_getElem->YQ
open _root_.Nat renaming le_refl->Yd,min_eq_left->YY,zero_le->Yk
open _root_.Option renaming bind_some->X5
open _root_.Option.some renaming inj->X7
namespace Go.Proofs.YtlfjlhcigpejdaaGreatDoor
open Go Go.RowKit
set_option maxRecDepth 100000
namespace L
theorem ry{α:Type}{f:α->α}{body:Int×List α->Option ((Int×List α)⊕List α)}{l0:List α}(hl:l0.length<=1000)
 (hb:∀(j:Nat)(hj:j<l0.length)(l:List α)(n6:l.length=l0.length),l[j]'(by omega)=l0[j]->Wp (body ((j:Int),l)) fun s=>s= .inl (((j+1:Nat):Int),l.set j (f l0[j])))
 (he:∀l:List α,l.length=l0.length->Wp (body ((l0.length:Int),l)) fun s=>s= .inr l):Wp (Loop body az ((0:Int),l0)) fun r=>r=l0.map f:=by
 refine Wp.loop (fun s=>∃k:Nat,s=((k:Int),(l0.take k).map f++l0.drop k)/\k<=l0.length) (fun s=>(l0.length-s.1).toNat) ⟨0,by simp,Yk _⟩ (by unfold az;simp only;omega) ?_
 rintro _ ⟨k,rfl,hk⟩
 have hlen:((l0.take k).map f++l0.drop k).length=l0.length:=by simp;omega
 by_cases h:k<l0.length
 .refine(hb k h _ hlen ?_).mono ?_
  .rw[List.getElem_append_right (by simp;omega)];simp[YY hk]
  .rintro _ rfl
   refine⟨⟨k+1,?_,h⟩,by simp only;omega⟩;refine Prod.ext rfl ?_
   show(List.map f (List.take k l0)++List.drop k l0).set k (f l0[k])=_
   rw[List.set_append_right _ _ (by simp;omega),YQ h,List.map_append,Yy]
   congr 1
   rw[List.length_map,Y2,YY hk,Nat.sub_self,List.drop_eq_getElem_cons h];rfl
 .obtain rfl:k=l0.length:=by omega
  refine(he _ hlen).mono ?_
  rintro _ rfl
  show _=_
  simp
structure JL(code:List Ty)(i k:Nat)(v:Vl):Prop where
 k1:1<=k
 ki:k<=i
 ex:∃(n:Ty)(vs:List Vl),code[i]? =some n/\¬fX n/\ar n.1=k/\vs.length=k/\(∀j,j<k->∃x y,code[i-k+j]? =some x/\vs[j]? =some y/\jl x=some y)/\mz e0 n vs=(v,0)
 nj:∀m∈code,fX m->¬((i:Int)-k<m.2/\(m.2:Int)<=i)
theorem Aq{code:List Ty}{i:Nat}(hi:i<code.length)(hl:code.length<=1000)(hw:∀n∈code,WF aa n):Wp (M.cM az code (i:Int)) fun r=>r.2.2=true->∃(k:Nat)(v:Vl),r.2.1=(k:Int)/\r.1=jm v/\JL code i k v:=by
 have no:∀(c:Int)(m:Ty),((m,c,false):Ty×Int×Bool).2.2=true->∃(k:Nat)(v:Vl),((m,c,false):Ty×Int×Bool).2.1=(k:Int)/\((m,c,false):Ty×Int×Bool).1=jm v/\JL code i k v:=fun c m h=>by cases h
 have hn:=hw _ (YL hi);have hge:=X9 hi;unfold M.cM;rw[ax hi];generalize code[i]=n at hn hge;simp only[X5,dz,dN]
 refine Wp.dec (fun _=> .some (no 0 ((0,0):Int×Int))) fun hj=>?_
 have CZ:=lK n.1
 refine Wp.seq (fun j=>j=false->1<=ar n.1/\ar n.1<=i) ?_ fun jj Mk=>?_
 .refine Wp.dec (fun _=> .some fun h=>by cases h) fun h1=> .some fun h2=>?_
  have h2:=of_decide_eq_false h2;omega
 refine Wp.ite (fun _=> .some (no 0 ((0,0):Int×Int))) fun hc=>?_
 obtain⟨q1,q2⟩:=Mk (by simpa using hc)
 obtain⟨k,hk⟩:∃k:Nat,ar n.1=k:=⟨(ar n.1).toNat,by omega⟩
 rw[hk]at q1 q2 CZ⊢
 have BJ:1<=k:=by omega
 have C0:k<=i:=by omega
 have w1:X6.wrap ((i:Int)-(k:Int))=((i-k:Nat):Int):=by rw[ag (by omega) (by omega)];omega
 rw[w1,nO (i-k) i rfl rfl (by omega) (by omega)];simp only[X5]
 have Ir:((code.take i).drop (i-k)).length=k:=by simp;omega
 have J8:∀j(h:j<((code.take i).drop (i-k)).length),code[i-k+j]? =some (((code.take i).drop (i-k))[j]):=by
  intro j h;rw[List.getElem_drop,List.getElem_take];exact X9 _
 obtain⟨l6,MX⟩:∃l6,l6=(code.take i).drop (i-k):=⟨_,rfl⟩
 rw[<-MX];rw[<-MX]at Ir
 replace J8:∀j(h:j<l6.length),code[i-k+j]? =some l6[j]:=by subst MX;exact J8
 clear MX;refine Wp.join (Wp.loop (fun s:Int×List Vl=>∃j:Nat,s.1=j/\j<=k/\s.2.length=j/\∀t,t<j->∃x y,code[i-k+t]? =some x/\s.2[t]? =some y/\jl x=some y) (fun s=>(k-s.1).toNat) ⟨0,rfl,Yk _,rfl,fun t h=>by omega⟩ (by unfold az;simp only;omega) ?_)
 rintro⟨_,vs⟩ ⟨j,rfl,QE,Bg,hv⟩
 dsimp only at Bg hv⊢
 refine Wp.dec (fun h=>?_) fun h=> .some ?_
 .have uU:j<l6.length:=by omega
  rw[ax uU];simp only[X5,iL];cases MY:jl l6[j]with
  |none=>
   simp only[YC,if_true];exact .some (no 0 ((0,0):Int×Int))
  |some v=>
   simp only[Yp,X8,if_false];rw[dG (by simp;omega),al (by omega)];simp only[X5];refine .some ⟨⟨j+1,rfl,by omega,by simp[Bg],fun t ht=>?_⟩,by simp only;omega⟩;by_cases Xa:t<j
   .obtain⟨x,y,h1,h2,h3⟩:=hv t Xa;exact⟨x,y,h1,by rw[YI (by omega)];exact h2,h3⟩
   .obtain rfl:t=j:=by omega
    exact⟨_,v,J8 t uU,by rw[YP (by omega)];simp[Bg],MY⟩
 obtain rfl:j=k:=by omega
 refine Wp.join (Wp.loop (fun s:Int=>∃t:Nat,s=t/\t<=code.length/\∀m∈code.take t,fX m->¬((i:Int)-j<m.2/\(m.2:Int)<=i)) (fun s=>(code.length-s).toNat) ⟨0,rfl,Yk _,by simp⟩ (by unfold az;omega) ?_)
 rintro _ ⟨t,rfl,ht,Ip⟩
 refine Wp.dec (fun h=>?_) fun h=> .some ?_
 .have CL:t<code.length:=by omega
  rw[ax CL];simp only[X5]
  refine Wp.seq (fun b=>b=false->fX code[t]->¬((i:Int)-j<(code[t].2:Int)/\(code[t].2:Int)<=i)) ?_ fun b hb=>?_
  .refine Wp.dec (fun g1=>Wp.dec (fun g2=> .some fun g3 _=>?_) fun g2=> .some fun _ _ g=>?_) fun g1=> .some fun _ g=>absurd g g1
   .have g3:=of_decide_eq_false g3
    exact fun g=>g3 g.2
   .apply g2;have g4:=g.1;revert g4;generalize(code[t].2:Int)=z;intro g4;dsimp only[ae,Row.den]at*;omega
  refine Wp.ite (fun _=> .some (no 0 ((0,0):Int×Int))) fun pL=> .some ?_
  rw[al (by omega)];refine⟨⟨t+1,rfl,CL,fun m hm Iq=>?_⟩,by simp only;omega⟩;rw[YQ CL]at hm
  rcases List.mem_append.1 hm with hm|hm
  .exact Ip m hm Iq
  .obtain rfl:=List.mem_singleton.1 hm;exact hb (by simpa using pL) Iq
 rw[List.take_of_length_le (by omega)]at Ip
 show Wp ((M.aZ az n vs e0).bind _) _
 obtain⟨r,hr,WK⟩:=Ap (args:=vs) pt hn (by omega);obtain⟨r',pC,QF⟩:=rv (args:=vs) pt hn (by omega);rw[hr]at pC;obtain rfl:=X7 pC;rw[hr];simp only[X5]
 refine Wp.nN (fun _=> .some (no 0 ((0,0):Int×Int))) fun h0=>?_
 rw[sf _ (QF.ok h0)];simp only[X5]
 have uT:mz e0 n vs=(r.1,0):=by
  unfold mz;rw[hr];exact Prod.ext rfl h0
 exact .some fun _=>⟨j,r.1,rfl,rfl,BJ,C0,⟨n,vs,hge,hj,hk,Bg,hv,uT⟩,Ip⟩
def Ar(i k:Nat)(n:Ty):Ty:=if fX n/\(i:Int)<n.2 then((n.1,(n.2:Int)-k):Int×Int)else n
def mA(code:List Ty)(i k:Nat)(m:Ty):List Ty:=((code.take (i-k)++[m])++code.drop (i+1)).map (Ar i k)
theorem As{code:List Ty}{i k:Nat}{m:Ty}(hi:i<code.length)(hk:k<=i)(hl:code.length<=1000)(hw:∀n∈code,WF aa n)(hm:¬fX m):Wp (M.a9 az code (i:Int) (k:Int) m) fun r=>r=mA code i k m:=by
 unfold M.a9
 have w1:X6.wrap ((i:Int)-(k:Int))=((i-k:Nat):Int):=by rw[ag (by omega) (by omega)];omega
 rw[w1,td (by omega),al (by omega),nO (i+1) code.length rfl rfl (by omega) (Yd _),YU];simp only[X5];rw[dG (by simp;omega)];simp only[X5,List.nil_append];rw[dG (by simp;omega)];simp only[X5];rw[dG (by simp;omega)];simp only[X5]
 have RM:∀n∈(code.take (i-k)++[m])++code.drop (i+1),n=m\/n∈code:=by
  intro n hn
  rcases List.mem_append.1 hn with hn|hn
  .rcases List.mem_append.1 hn with hn|hn
   .exact .inr (List.mem_of_mem_take hn)
   .exact .inl (List.mem_singleton.1 hn)
  .exact .inr (List.mem_of_mem_drop hn)
 have n6:((code.take (i-k)++[m])++code.drop (i+1)).length<=1000:=by simp;omega
 unfold mA;generalize(code.take (i-k)++[m])++code.drop (i+1)=l5 at RM n6⊢
 refine ry n6 (fun j hj l hlen QG=>?_) fun l hlen=>?_
 .have CJ:j<l.length:=by omega
  have FI:=RM _ (YL hj);dsimp only;rw[ax CJ,QG];simp only[X5,dz,ak];generalize hx:l5[j]=x at FI QG⊢;refine .some ?_;rw[if_pos (decide_eq_true (by omega)),al (by omega)]
  have NB:fX x->WF aa x:=fun h=>FI.elim (fun e=>absurd (e▸h) hm) (hw x)
  have e:(if(if decide (50<=(x.1:Int)/\(x.1:Int)<=53)=true then decide ((i:Int)<x.2)else false)=true then aQ l (j:Int) ((x.1,X6.wrap ((x.2:Int)-(k:Int))):Int×Int)else l)=l.set j (Ar i k x):=by
   unfold Ar;by_cases h:fX x/\(i:Int)<x.2
   .have QH:=(NB h.1).2.2;have g:(50<=(x.1:Int)/\(x.1:Int)<=53):=h.1
    have w2:X6.wrap ((x.2:Int)-(k:Int))=(x.2:Int)-k:=by
     have h2:=h.2;revert QH h2;generalize(x.2:Int)=z;intro QH h2;have:z<=9223372036854775807:=QH;dsimp only[ae,Row.den]at*;exact ag (by omega) (by omega)
    rw[if_pos h,if_pos (by simp[g,h.2]),w2];simp[aQ]
   .rw[if_neg h,if_neg (fun hc=>h ?_)]
    .rw[<-QG];simp
    .by_cases g:(50<=(x.1:Int)/\(x.1:Int)<=53)
     .rw[if_pos (decide_eq_true g)]at hc;exact⟨g,by simpa using hc⟩
     .rw[if_neg (by simpa using g)]at hc;cases hc
  rw[e]
 .dsimp only
  exact Wp.dec (fun h=>by omega) fun _=> .some rfl
end L
end Go.Proofs.YtlfjlhcigpejdaaGreatDoor
end
section
open _root_.List renaming append_assoc->Yy,getElem?_append_left->YI,getElem?_append_right->YP,getElem?_drop->Yo,getElem?_eq_getElem->X9,getElem?_eq_some_iff->Yc,getElem?_map->Zj,length_append->Yr,length_singleton->Y6,length_take->Y2,mem_of_getElem?->Y8
open _root_.Nat renaming eq_of_beq_eq_true->YR,le_refl->Yd,min_eq_left->YY,zero_le->Yk
open _root_.Option renaming bind_some->X5
open _root_.Option.some renaming inj->X7
namespace Go.Proofs.YtlfjlhcigpejdaaGreatDoor
open Go Go.RowKit
set_option maxRecDepth 100000
namespace L
theorem Au(i k:Nat)(n:Ty):((Ar i k n).1:Int)=n.1:=by
 unfold Ar
 split<;>rfl
theorem Av{i k:Nat}{n:Ty}(h:¬fX n):Ar i k n=n:=by
 unfold Ar;rw[if_neg (fun g=>h g.1)]
section
variable {code:List Ty} {i k:Nat} {m:Ty}
theorem rz(hi:i<code.length)(hk:k<=i):(mA code i k m).length+k=code.length:=by
 simp[mA];omega
theorem Hn{q:Nat}(hi:i<code.length)(h:q<i-k):(mA code i k m)[q]? =(code[q]?).map (Ar i k):=by
 unfold mA;rw[Zj,Yy,YI (by simp;omega),List.getElem?_take_of_lt h]
theorem Ho(hi:i<code.length)(hm:¬fX m):(mA code i k m)[i-k]? =some m:=by
 unfold mA;rw[Zj,Yy,YP (by simp;omega),Y2,YY (by omega),Nat.sub_self];simp[Av hm]
theorem Hp{q:Nat}(hi:i<code.length)(hk:k<=i)(h:i-k<q):(mA code i k m)[q]? =(code[q+k]?).map (Ar i k):=by
 unfold mA;rw[Zj,YP (by simp;omega),Yr,Y2,YY (by omega),Y6,Yo]
 congr 2
 omega
theorem oV(F:List Int)(q:Nat):gd F q=(F[q]?).getD (-1):=rfl
def FR(code:List Ty)(F:List Int)(i k:Nat)(p q:Nat):Prop:=0<=gd F p/\p<=code.length/\((p<=i-k/\q=p)\/(i<p/\q+k=p))
theorem tw{v:Vl}{F:List Int}(f:Fits code F)(hi:i<code.length)(h:JL code i k v)(hw:∀n∈code,WF aa n):kQ code (mA code i k (jm v)):=by
 obtain⟨BJ,C0,⟨n,vs,hn,hj,ha,Bg,JM,uT⟩,Ip⟩:=h;have Is:=hw n (Y8 hn)
 have ll:∀u∈vs,aF u.1 u.2.1 u.2.2:=by
  obtain⟨r,hr,hh⟩:=Ap (args:=vs) pt Is (by have:=lK n.1;omega)
  have e:r=(v,0):=by
   unfold mz at uT;rw[hr]at uT;exact uT
  rw[e]at hh;exact(hh rfl).2
 have J9:aF v.1 v.2.1 v.2.2:=by
  have:=(Fg (args:=vs) pt Is (by have:=lK n.1;omega)).ok (by rw[uT]);rw[uT]at this;exact this
 obtain⟨MY,Xb⟩:=uP J9;obtain⟨l1,l2,l3⟩:=lN MY;have X0:=rz (m:=jm v) hi C0;have hle:=f.le;have QB:=f.len
 have g1:∀q,q<=i-k->gd (F.take (i-k+1)++F.drop (i+1)) q=gd F q:=by
  intro q hq;rw[oV,YI (by simp;omega),List.getElem?_take_of_lt (by omega)];rfl
 have g2:∀q,i-k<q->gd (F.take (i-k+1)++F.drop (i+1)) q=gd F (q+k):=by
  intro q hq;rw[oV,YP (by simp;omega),Y2,YY (by omega),Yo,oV]
  congr 2
  omega
 have dep:∀p q,FR code F i k p q->gd (F.take (i-k+1)++F.drop (i+1)) q=gd F p:=by
  rintro p q ⟨_,_,⟨a1,rfl⟩|⟨a1,a2⟩⟩
  .exact g1 _ a1
  .rw[g2 _ (by omega),a2]
 have aO:∀p q x,FR code F i k p q->p≠i-k->code[p]? =some x->FO code (mA code i k (jm v)) (FR code F i k) p q:=by
  rintro p q x ⟨b1,b2,b3⟩ bu hx
  have aW:p<code.length:=(Yc.1 hx).1
  have hb:(mA code i k (jm v))[q]? =some (Ar i k x):=by
   rcases b3 with⟨a1,rfl⟩|⟨a1,rfl⟩
   .rw[Hn hi (by omega),hx];rfl
   .rw[Hp hi C0 (by omega),hx];rfl
  have next:0<=gd F (p+1)->FR code F i k (p+1) (q+1):=fun h=>⟨h,aW,by omega⟩
  have Ml:∀t:Nat,fX x->(x.2:Int)=t->p<t->t<=code.length->0<=gd F t->∃t':Nat,((Ar i k x).2:Int)=t'/\q<t'/\FR code F i k t t':=by
   intro t r8 ht JI zA MZ;have hn:=Ip x (Y8 hx) r8;rw[ht]at hn;have hn:¬((i:Int)-k<(t:Int)/\(t:Int)<=i):=hn;by_cases hc:i<t
   .refine⟨t-k,?_,by omega,MZ,zA, .inr ⟨hc,by omega⟩⟩;unfold Ar;rw[if_pos ⟨r8,by rw[ht];exact(by omega:(i:Int)<(t:Int))⟩]
    show(x.2:Int)-k=_
    rw[ht];exact(by omega:(t:Int)-k=((t-k:Nat):Int))
   .refine⟨t,?_,by omega,MZ,zA, .inl ⟨by omega,rfl⟩⟩;unfold Ar;rw[if_neg (fun g=>by have g2:=g.2;rw[ht]at g2;have g2:(i:Int)<(t:Int):=g2;omega)];exact ht
  by_cases r8:fX x
  .obtain⟨s1,_⟩:=f.at hx b1
   rcases s1 with⟨c1,t,c2,c3,c4,c5⟩|⟨c1,c2,c3,t,c4,c5,c6,c7⟩|⟨c1,c2,_⟩
   .obtain⟨t',d1,d2,d3⟩:=Ml t r8 c2 c3 c4 (by omega);exact .jump hx hb c1 ((Au i k x).trans c1) c2 d1 d2 d3
   .obtain⟨t',d1,d2,d3⟩:=Ml t r8 c4 c5 c6 (by rw[c7];split<;>omega);exact .cond hx hb c1 (Au i k x) c4 d1 d2 d3 (next (by omega))
   .exact(ij r8).elim (fun e=>absurd e c1) (fun e=>absurd e c2)
  .rw[Av r8]at hb;obtain⟨s1,s2,s3,_⟩:=f.op hx r8 b1;exact .op hx hb r8 (next (by omega))
 have zl:0<=gd F (i-k)->FO code (mA code i k (jm v)) (FR code F i k) (i-k) (i-k):=by
  intro h0
  have hd:=m9 f h0 k fun j hj=>by
   obtain⟨x,y,x1,_,x2⟩:=JM j hj;obtain⟨y1,y2,_⟩:=lN x2;exact⟨x,x1,y1,y2⟩
  have e1:i-k+k=i:=by omega
  rw[e1]at hd;obtain⟨s1,s2,s3,_⟩:=f.op hn hj (by omega);refine .block (k:=k) (n:=n) (m:=jm v) (vs:=vs) (v:=v) (fun j uU=>?_) Bg (by rw[e1];exact hn) hj ha (fun env _=>?_) (Ho hi l1) l1 l2 l3 (fun env _=>Fk MY J9 env) ?_
  .obtain⟨x,y,x1,x2,x3⟩:=JM j uU;obtain⟨y1,y2,_⟩:=lN x3;exact⟨x,y,x1,x2,y1,y2,fun env _=>Fk x3 (ll y (Y8 x2)) env⟩
  .rw[JK Is (by omega) (by rw[uT]) env,uT]
  .rw[e1];exact⟨by omega,by omega, .inr ⟨by omega,by omega⟩⟩
 have RN:Bd F:=f.bd
 have s:Hk code (mA code i k (jm v)) F (F.take (i-k+1)++F.drop (i+1)) (FR code F i k):=by
  refine⟨f,by omega,by omega,by simp;omega,fun q=>?_,fun p q h=>⟨h.1,h.2.1,?_,dep p q h⟩,fun p q h=>?_,fun q hq h0=>?_,⟨by rw[f.first];decide,Yk _, .inl ⟨Yk _,rfl⟩⟩,⟨by rw[f.last];decide,Yd _, .inr ⟨hi,by omega⟩⟩⟩
  .by_cases hq:q<=i-k
   .rw[g1 q hq];exact RN q
   .rw[g2 q (by omega)];exact RN _
  .obtain⟨_,a2,a3⟩:=h;omega
  .by_cases hp:p=code.length
   .left
    refine⟨hp,?_⟩;obtain⟨_,a2,a3⟩:=h;omega
   .right;left
    have aW:p<code.length:=by have:=h.2.1;omega
    by_cases J5:p=i-k
    .obtain⟨a1,a2,a3⟩:=h
     have hq:q=i-k:=by omega
     subst J5;rw[hq];exact zl a1
    .exact aO p q _ h J5 (X9 aW)
  .by_cases RO:q<=i-k
   .rw[g1 q RO]at h0
    have hR:FR code F i k q q:=⟨h0,by omega, .inl ⟨RO,rfl⟩⟩
    by_cases he:q=i-k
    .subst he;exact⟨_,hR,zl h0⟩
    .exact⟨q,hR,aO q q _ hR he (X9 (by omega))⟩
   .rw[g2 q (by omega)]at h0
    have hR:FR code F i k (q+k) q:=⟨h0,by omega, .inr ⟨by omega,rfl⟩⟩
    exact⟨q+k,hR,aO _ q _ hR (by omega) (X9 (by omega))⟩
 refine s.same (by omega) fun x hx=>?_
 obtain⟨y,hy,rfl⟩:=List.mem_map.1 hx
 have Bz:WF aa y:=by
  rcases List.mem_append.1 hy with hy|hy
  .rcases List.mem_append.1 hy with hy|hy
   .exact hw y (List.mem_of_mem_take hy)
   .obtain rfl:=List.mem_singleton.1 hy;exact Xb
  .exact hw y (List.mem_of_mem_drop hy)
 unfold Ar;split
 .rename_i hc;refine⟨Bz.1,?_,?_⟩
  .have h2:=hc.2;have h3:=Bz.2.1
   show(-9223372036854775808:Int)<=(y.2:Int)-k
   revert h2 h3;generalize(y.2:Int)=z;intro h2 h3;dsimp only[ae,Row.den]at*;omega
  .have h3:=Bz.2.2
   show(y.2:Int)-k<=(9223372036854775807:Int)
   revert h3;generalize(y.2:Int)=z;intro h3;have h4:z<=(9223372036854775807:Int):=h3;dsimp only[ae,Row.den]at*;omega
 .exact Bz
end
theorem kl{l:List Ty}(hl:l.length<=1000):M.aE az l=some l:=by
 unfold M.aE
 have e:eW ([]:List aa.den) l=some l:=by rw[dG (by simp;omega)];rfl
 rw[e];simp only[X5];split
 .rename_i h;have:l=[]:=List.length_eq_zero_iff.1 (YR h);subst this;unfold yr;rw[if_pos rfl]
 .rfl
theorem jE(code:List Ty):Wp (M.bE az code) fun b=>b=true↔∃F,Fits code F:=by
 unfold M.bE;obtain⟨y,hy,h⟩:=xk code;rw[hy];simp only[X5];refine .some ⟨fun hb=>h (by simpa using hb),fun⟨F,f⟩=>?_⟩;obtain⟨y',Bz,h'⟩:=f.verify;rw[hy]at Bz;obtain rfl:=X7 Bz;simpa using h'
def JN(code:List Ty):Prop:=∀i:Nat,i<code.length->Wp (M.cM az code (i:Int)) fun r=>r.2.2=false
theorem Hq{code:List Ty}(hl:code.length<=1000)(hw:∀n∈code,WF aa n):Wp (M.aL az code) fun y=>((¬∃F,Fits code F)/\y=code)\/((∃F,Fits code F)/\kQ code y/\JN y):=by
 unfold M.aL;rw[kl hl];simp only[X5];obtain⟨b,hb,sz⟩:=jE code;rw[hb];simp only[X5];refine Wp.join (Wp.ite (fun hc=> .some ?_) fun hc=> .some ?_)
 .exact .inl ⟨fun h=>(by rw[sz.2 h]at hc;cases hc),rfl⟩
 have hF:∃F,Fits code F:=sz.1 (by simpa using hc)
 have xm:kQ code code:=⟨hF,Yd _,hw,fun _ _ _ h=>h⟩
 refine Wp.loop (fun s:List Ty=>kQ code s) (fun s=>s.length) xm (by unfold az;omega) ?_;intro s hs;have eR:s.length<=1000:=Nat.le_trans hs.le hl;refine Wp.join (Wp.loop (fun t:Int×List Ty=>∃i:Nat,t.1=i/\i<=s.length/\t.2=s/\∀j,j<i->Wp (M.cM az s (j:Int)) fun r=>r.2.2=false) (fun t=>(s.length-t.1).toNat) ⟨0,rfl,Yk _,rfl,fun j h=>by omega⟩ (by unfold az;simp only;omega) ?_)
 rintro⟨_,s⟩ ⟨i,rfl,hi,rfl,uZ⟩
 dsimp only at hi uZ eR hs⊢
 refine Wp.dec (fun h=>?_) fun h=> .some (.some ?_)
 .have dA:i<s.length:=by omega
  obtain⟨r,hr,G5⟩:=Aq dA eR hs.wf;rw[hr];simp only[X5]
  refine Wp.ite (fun h1=>?_) fun h1=> .some ?_
  .obtain⟨k,v,e1,e2,hf⟩:=G5 h1
   have J9:¬fX (jm v):=by
    obtain⟨n,vs,hn,_,_,Bg,_,uT⟩:=hf.ex;have:=(Fg (args:=vs) pt (hs.wf n (Y8 hn)) (by have:=hf.ki;omega)).ok (by rw[uT]);rw[uT]at this;exact(lN (uP this).1).1
   rw[e1,e2]
   refine Wp.seq _ (As dA hf.ki eR hs.wf J9) fun y hy=> .some ?_
   obtain⟨F,f⟩:=hs.fits;rw[hy];refine⟨hs.trans (tw f dA hf hs.wf),?_⟩;have:=rz (m:=jm v) dA hf.ki;have:=hf.k1
   show(mA s i k (jm v)).length<s.length
   omega
  .rw[al (by omega)];refine⟨⟨i+1,rfl,dA,rfl,fun j hj=>?_⟩,by simp only;omega⟩;by_cases e:j=i
   .subst e;exact⟨r,hr,by simpa using h1⟩
   .exact uZ j (by omega)
 .obtain rfl:i=s.length:=by omega
  exact .inr ⟨hF,hs,uZ⟩
end L
end Go.Proofs.YtlfjlhcigpejdaaGreatDoor
end
section
open _root_.Int renaming toNat_natCast->Yg
open _root_.List renaming getElem?_eq_getElem->X9,getElem?_eq_some_iff->Yc,getElem_mem->YL
open _root_.Nat renaming le_refl->Yd,zero_le->Yk
open _root_.Option renaming bind_some->X5
open _root_.Option.some renaming inj->X7
open _root_.Sum renaming inl->YT,inr->Yv
namespace Go.Proofs.YtlfjlhcigpejdaaGreatDoor
open Go Go.RowKit
set_option maxRecDepth 100000
namespace L
inductive C1(code:List Ty):Int->Int->Prop
 |refl (t:Int):C1 code t t
 |next {t:Nat} {n:Ty} {T:Int} (h:code[t]? =some n) (gW:(n.1:Int)=51) (aW:(t:Int)<n.2) (hT:C1 code n.2 T):C1 code t T
theorem C1.snoc{code:List Ty}{s:Int}{t:Nat}{n:Ty}(h:C1 code s t)(hn:code[t]? =some n)(gW:(n.1:Int)=51)(aW:(t:Int)<n.2):C1 code s n.2:=by
 generalize hx:(t:Int)=x at h
 induction h with
 |refl u=>subst hx;exact .next hn gW aW (.refl _)
 |next g Xc Xd gT ih=>exact .next g Xc Xd (ih hx)
def M1(x:Int):Prop:= -9223372036854775808<=x/\x<=9223372036854775807
theorem Fl{n:Ty}(h:WF aa n):M1 n.2:=h.2
theorem Cy{code:List Ty}(hl:code.length<=1000)(hw:∀n∈code,WF aa n){t0:Int}(h0:M1 t0):Wp (Loop (S:=Int) (X:=Int) (fun s9=>
((if(decide ((0:Int)<=s9))=true then
(if(decide (s9<(code.length:Int)))=true then
(idx code s9).bind fun pi=>
(if(decide (pi.1=(51:Int)))=true then
(idx code s9).bind fun uV=>
some (decide (s9<uV.2))
else
some false)
else
some false)
else
some false):Option (Bool)).bind fun yJ=>
(if yJ=true then
(idx code s9).bind fun kY=>
some (YT kY.2)
else
some (Yv s9))) az t0) fun T=>C1 code t0 T/\M1 T:=by
 refine Wp.loop (fun s=>C1 code t0 s/\M1 s) (fun s=>(code.length-s).toNat) ⟨.refl _,h0⟩ (by obtain⟨a,b⟩:=h0;unfold az;omega) ?_
 rintro s ⟨hs,hr⟩
 refine Wp.seq (fun b=>b=true->∃(t:Nat)(n:Ty),s=t/\code[t]? =some n/\(n.1:Int)=51/\(t:Int)<n.2) ?_ fun b hb=>?_
 .refine Wp.dec (fun h1=>Wp.dec (fun h2=>?_) fun _=> .some fun h=>by cases h) fun _=> .some fun h=>by cases h
  obtain⟨t,rfl⟩:∃t:Nat,s=t:=⟨s.toNat,by omega⟩
  have ht:t<code.length:=by omega
  rw[ax ht];simp only[X5]
  refine Wp.dec (fun h3=> .some fun h4=>?_) fun _=> .some fun h=>by cases h
  exact⟨t,_,rfl,X9 ht,h3,of_decide_eq_true h4⟩
 .refine Wp.ite (fun h=>?_) fun _=> .some ⟨hs,hr⟩
  obtain⟨t,n,rfl,h1,h2,h3⟩:=hb h;obtain⟨ht,rfl⟩:=Yc.1 h1;rw[ax ht];simp only[X5];refine .some ⟨⟨hs.snoc h1 h2 h3,Fl (hw _ (YL ht))⟩,?_⟩;revert h3;generalize(code[t].2:Int)=z;intro h3;have h3:(t:Int)<z:=h3
  show((code.length:Int)-z).toNat<((code.length:Int)-t).toNat
  have:(t:Int)<code.length:=by omega
  omega
def Mm(code:List Ty)(n m:Ty):Prop:=(m.1:Int)=n.1/\WF aa m/\(¬fX n->m=n)/\(fX n->C1 code n.2 m.2)
theorem Cz{code:List Ty}(hl:code.length<=1000)(hw:∀n∈code,WF aa n):Wp (M.bo az code) fun y=>((¬∃F,Fits code F)/\y=code)\/((∃F,Fits code F)/\y.length=code.length/\∀(i:Nat)n,code[i]? =some n->∃m,y[i]? =some m/\Mm code n m):=by
 unfold M.bo;rw[kl hl];simp only[X5];obtain⟨b,hb,sz⟩:=jE code;rw[hb];simp only[X5]
 refine Wp.ite (fun hc=> .some (.inl ⟨fun h=>(by rw[sz.2 h]at hc;cases hc),rfl⟩)) fun hc=>?_
 have hF:∃F,Fits code F:=sz.1 (by simpa using hc);refine Wp.loop (fun s:Int×List Ty=>∃i:Nat,s.1=i/\i<=code.length/\s.2.length=code.length/\(∀(j:Nat)n,code[j]? =some n->j<i->∃m,s.2[j]? =some m/\Mm code n m)/\∀j:Nat,i<=j->s.2[j]? =code[j]?) (fun s=>(code.length-s.1).toNat) ⟨0,rfl,Yk _,rfl,fun j n _ h=>by omega,fun j _=>rfl⟩ (by unfold az;simp only;omega) ?_
 rintro⟨_,out⟩ ⟨i,rfl,hi,M2,Fo,vH⟩
 dsimp only at M2 Fo vH⊢
 refine Wp.dec (fun h=>?_) fun h=> .some (.inr ⟨hF,M2,fun j n hn=>Fo j n hn ?_⟩)
 case refine_2=>
  have:=(Yc.1 hn).1;omega
 have dA:i<code.length:=by omega
 have M3:i<out.length:=by omega
 have hge:=X9 dA
 have KA:out[i]=code[i]:=by
  have:=vH i (Yd _);rw[X9 M3,hge]at this;exact X7 this
 have Is:=hw _ (YL dA);rw[ax dA];simp only[X5,dz]
 refine Wp.seq (fun o=>o.length=code.length/\(∃m,o[i]? =some m/\Mm code code[i] m)/\∀j:Nat,j≠i->o[j]? =out[j]?) ?_ fun o ho=> .some ?_
 .refine Wp.seq (fun o=>o.length=code.length/\(∃m,o[i]? =some m/\Mm code code[i] m)/\∀j:Nat,j≠i->o[j]? =out[j]?) ?_ fun o ho=> .some ho
  generalize code[i]=n at Is KA hge⊢
  refine Wp.nN (fun hj=> .some ⟨M2,⟨n,by rw[X9 M3,KA],rfl,Is,fun _=>rfl,fun h=>absurd h hj⟩,fun j _=>rfl⟩) fun hj=>?_
  refine Wp.seq _ (Cy hl hw (Fl Is)) fun T hT=>?_
  rw[ax M3,KA];simp only[X5];refine .some ⟨by simp[aQ,M2],⟨((n.1,T):Int×Int),by simp[aQ,M3],rfl,⟨Is.1,hT.2⟩,fun h=>absurd hj h,fun _=>hT.1⟩,fun j hj=>?_⟩;simp only[aQ,Yg];rw[List.getElem?_set_ne (Ne.symm hj)]
 .obtain⟨o1,o2,o3⟩:=ho;rw[al (by omega)];refine⟨⟨i+1,rfl,dA,o1,fun j n hn hj=>?_,fun j hj=>?_⟩,by simp only;omega⟩
  .by_cases e:j=i
   .subst e;rw[hge]at hn;obtain rfl:=X7 hn;exact o2
   .obtain⟨m,m1,m2⟩:=Fo j n hn (by omega);exact⟨m,by rw[o3 j e];exact m1,m2⟩
  .rw[o3 j (by omega)];exact vH j (by omega)
theorem oW{code:List Ty}{F:List Int}(f:Fits code F){x T:Int}(h:C1 code x T):∀p:Nat,x=p->0<=gd F p->p<=code.length->∃q:Nat,T=q/\p<=q/\q<=code.length/\gd F q=gd F p:=by
 induction h with
 |refl t=>exact fun p e h0 hp=>⟨p,e,Yd _,hp,rfl⟩
 | @next t n T hn gW aW hT ih=>
   intro p e h0 hp
   obtain rfl:t=p:=by omega
   obtain⟨s,_⟩:=f.at hn h0
   rcases s with⟨_,u,u1,u2,u3,u4⟩|⟨c,_⟩|⟨c,_⟩
   .obtain⟨q,q1,q2,q3,q4⟩:=ih u u1 (by omega) u3;exact⟨q,q1,by omega,q3,by omega⟩
   .exact absurd gW (jJ c)
   .exact absurd gW c
theorem xn{code y:List Ty}{F:List Int}(f:Fits code F)(Hr:y.length=code.length)(hy:∀(i:Nat)n,code[i]? =some n->∃m,y[i]? =some m/\Mm code n m):kQ code y:=by
 have one:∀p:Nat,p<code.length->0<=gd F p->FO code y (fun p q=>0<=gd F p/\p<=code.length/\C1 code p q) p p:=by
  intro p hp h0;have hge:=X9 hp;generalize code[p]=n at hge;obtain⟨m,hm,e1,X1,uZ,Xe⟩:=hy p n hge;by_cases hj:fX n
  .obtain⟨s,_⟩:=f.at hge h0;have ht:=Xe hj
   rcases s with⟨c1,t,c2,c3,c4,c5⟩|⟨c1,c2,c3,t,c4,c5,c6,c7⟩|⟨c1,c2,_⟩
   .rw[show(n.2:Int)=t from c2]at ht;obtain⟨q,q1,q2,q3,q4⟩:=oW f ht t rfl (by omega) c4;rw[show(m.2:Int)=q from q1]at ht;exact .jump hge hm c1 (e1.trans c1) c2 q1 (by omega) ⟨by omega,c4,ht⟩
   .have h7:0<=gd F t:=by rw[c7];split<;>omega
    rw[show(n.2:Int)=t from c4]at ht;obtain⟨q,q1,q2,q3,q4⟩:=oW f ht t rfl h7 c6;rw[show(m.2:Int)=q from q1]at ht;exact .cond hge hm c1 e1 c4 q1 (by omega) ⟨h7,c6,ht⟩ ⟨by omega,hp, .refl _⟩
   .exact(ij hj).elim (fun e=>absurd e c1) (fun e=>absurd e c2)
  .rw[uZ hj]at hm;obtain⟨s1,s2,s3,_⟩:=f.op hge hj h0;exact .op hge hm hj ⟨by omega,hp, .refl _⟩
 have s:Hk code y F F (fun p q=>0<=gd F p/\p<=code.length/\C1 code p q):=by
  refine⟨f,by rw[Hr];exact f.pos,by rw[Hr];exact f.le,by rw[Hr];exact f.len,f.bd,fun p q h=>?_,fun p q h=>?_,fun q hq h0=>⟨q,⟨h0,by omega, .refl _⟩,one q (by omega) h0⟩,⟨by rw[f.first];decide,Yk _, .refl _⟩,?_⟩
  .obtain⟨a1,a2,a3⟩:=h;obtain⟨q',b1,b2,b3,b4⟩:=oW f a3 p rfl a1 a2
   obtain rfl:q=q':=by omega
   exact⟨a1,a2,by omega,b4⟩
  .obtain⟨a1,a2,a3⟩:=h;generalize hx:(p:Int)=x at a3;generalize hz:(q:Int)=z at a3
   cases a3 with
   |refl t=>
    obtain rfl:p=q:=by omega
    by_cases hp:p=code.length
    .exact .inl ⟨hp,by omega⟩
    .exact .inr (.inl (one p (by omega) a1))
   | @next t n T hn gW aW hT=>
     obtain rfl:p=t:=by omega
     obtain⟨s,_⟩:=f.at hn a1
     rcases s with⟨_,u,u1,u2,u3,u4⟩|⟨c,_⟩|⟨c,_⟩
     .refine .inr (.inr ⟨n,u,hn,gW,u1,by omega,u3,?_⟩);rw[show(n.2:Int)=u from u1]at hT;exact hT
     .exact absurd gW (jJ c)
     .exact absurd gW c
  .rw[Hr];exact⟨by rw[f.last];decide,Yd _, .refl _⟩
 refine s.same (by omega) fun m hm=>?_
 obtain⟨i,hi,rfl⟩:=List.getElem_of_mem hm
 have dA:i<code.length:=by omega
 obtain⟨m',h1,h2⟩:=hy i _ (X9 dA);rw[X9 hi]at h1;rw[X7 h1];exact h2.2.1
end L
end Go.Proofs.YtlfjlhcigpejdaaGreatDoor
end
section
open _root_.Int renaming toNat_natCast->Yg
open _root_.List renaming getD->Y3,getElem?_append_left->YI,getElem?_append_right->YP,getElem?_eq_getElem->X9,getElem?_eq_some_iff->Yc,getElem?_map->Zj,getElem_mem->YL,length_append->Yr,mem_of_getElem?->Y8,replicate->Yf,replicate_succ->YX
open _root_.Nat renaming le_refl->Yd,zero_le->Yk
open _root_.Option renaming bind_some->X5,getD_some->Zt
open _root_.Option.some renaming inj->X7
namespace Go.Proofs.YtlfjlhcigpejdaaGreatDoor
open Go Go.RowKit
set_option maxRecDepth 100000
namespace L
def gb(l:List Bool)(k:Nat):Bool:=l.getD k false
theorem kR{l:List Bool}{t:Nat}(ht:t<l.length)(d:Bool)(k:Nat):gb (l.set t d) k=if k=t then d else gb l k:=by
 unfold gb Y3;by_cases h:k=t
 .subst h;rw[if_pos rfl,List.getElem?_set_self ht];rfl
 .rw[if_neg h,List.getElem?_set_ne (by omega)]
theorem iM{l:List Bool}{t:Nat}(ht:t<l.length):idx l (t:Int)=some (gb l t):=by
 rw[ax ht];simp[gb,Y3,ht]
theorem JO(n k:Nat):gb (Yf n false) k=false:=by
 unfold gb Y3;by_cases h:k<n
 .simp[h]
 .rw[List.getElem?_eq_none (by simp;omega)];rfl
structure RL(code:List Ty)(F:List Int)(l:List Bool):Prop where
 len:l.length=code.length+1
 zero:gb l 0=true
 sound:∀i,gb l i=true->0<=gd F i
 step:∀(i:Nat)n,code[i]? =some n->gb l i=true->((n.1:Int)≠51->gb l (i+1)=true)/\(fX n->∀t:Nat,(n.2:Int)=t->gb l t=true)
theorem nZ{code:List Ty}{F:List Int}(f:Fits code F):Wp (M.cc az code) fun r=>∃l,RL code F l/\r=l.take code.length:=by
 have hle:=f.le;have nl:=f.pos;unfold M.cc;rw[al (by omega)]
 have yA:rK ((code.length+1:Nat):Int) false=some (Yf (code.length+1) false):=by
  unfold rK;rw[if_pos (by omega),Yg]
 rw[yA];simp only[X5]
 have e1:idx (Yf (code.length+1) false) 0=some false:=by rw[YX];rfl
 rw[e1];simp only[X5];have es:aQ (Yf (code.length+1) false) (0:Int) true=(Yf (code.length+1) false).set 0 true:=rfl;rw[es]
 have g0:∀k,gb ((Yf (code.length+1) false).set 0 true) k=if k=0 then true else false:=fun k=>by
  rw[kR (by simp),JO]
 refine Wp.seq (RL code F) ?_ fun l hl=>?_
 .refine Wp.loop (fun s:Int×List Bool=>∃i:Nat,s.1=i/\i<=code.length/\s.2.length=code.length+1/\gb s.2 0=true/\(∀j,gb s.2 j=true->0<=gd F j)/\∀(j:Nat)n,j<i->code[j]? =some n->gb s.2 j=true->((n.1:Int)≠51->gb s.2 (j+1)=true)/\(fX n->∀t:Nat,(n.2:Int)=t->gb s.2 t=true)) (fun s=>(code.length-s.1).toNat) ⟨0,rfl,Yk _,by simp,by rw[g0];rfl,fun j hj=>?_,fun j n h=>by omega⟩ (by unfold az;simp only;omega) ?_
  .simp only[g0]at hj;split at hj
   .rename_i e;subst e;rw[f.first];decide
   .cases hj
  rintro⟨_,l⟩ ⟨i,rfl,hi,n6,hz,hs,dH⟩
  dsimp only at n6 hz hs dH⊢
  refine Wp.dec (fun h=>?_) fun h=> .some ⟨n6,hz,hs,fun j n hn=>dH j n ?_ hn⟩
  case refine_2=>
   have:=(Yc.1 hn).1;omega
  have dA:i<code.length:=by omega
  have hge:=X9 dA;rw[ax dA,iM (by omega)];generalize code[i]=n at hge⊢;simp only[X5,dz]
  have mono:∀{a b:List Bool}{t:Nat},t<a.length->0<=gd F t->b=a.set t true->(∀j,gb a j=true->0<=gd F j)->(∀j,gb b j=true->0<=gd F j)/\(∀j,gb a j=true->gb b j=true)/\(∀j,j≠t->gb b j=gb a j)/\gb b t=true:=by
   intro a b t ht h0 e hs;subst e;refine⟨fun j hj=>?_,fun j hj=>?_,fun j hj=>?_,?_⟩
   .rw[kR ht]at hj;split at hj
    .rename_i e;rw[e];exact h0
    .exact hs j hj
   .rw[kR ht];split
    .rfl
    .exact hj
   .rw[kR ht,if_neg hj]
   .rw[kR ht,if_pos rfl]
  refine Wp.seq (fun o=>o.length=code.length+1/\(∀j,gb o j=true->0<=gd F j)/\(∀j,gb l j=true->gb o j=true)/\(∀j,j<=i->gb o j=gb l j)/\(gb l i=true->((n.1:Int)≠51->gb o (i+1)=true)/\(fX n->∀t:Nat,(n.2:Int)=t->gb o t=true))) ?_ fun o ho=> .some ?_
  .by_cases hg:gb l i=true
   .rw[if_neg (by simp[hg])];have h0:=hs i hg;obtain⟨sp,_⟩:=f.at hge h0
    have Xf:(n.1:Int)≠51->0<=gd F (i+1):=by
     intro h
     rcases sp with⟨c,_⟩|⟨_,c2,c3,_⟩|⟨_,_,c3,c4,c5,_⟩
     .exact absurd c h
     .omega
     .omega
    have Xg:fX n->∃t:Nat,(n.2:Int)=t/\i<t/\t<=code.length/\0<=gd F t:=by
     intro h
     rcases sp with⟨_,t,c2,c3,c4,c5⟩|⟨_,c2,c3,t,c4,c5,c6,c7⟩|⟨c1,c2,_⟩
     .exact⟨t,c2,c3,c4,by omega⟩
     .exact⟨t,c4,c5,c6,by rw[c7];split<;>omega⟩
     .exact(ij h).elim (fun e=>absurd e c1) (fun e=>absurd e c2)
    refine Wp.seq (fun o=>o.length=code.length+1/\(∀j,gb o j=true->0<=gd F j)/\(∀j,gb l j=true->gb o j=true)/\(∀j,j<=i->gb o j=gb l j)/\((n.1:Int)≠51->gb o (i+1)=true)) ?_ fun o ho=>?_
    .refine Wp.nN (fun gW=>?_) fun gW=> .some ⟨n6,hs,fun _ h=>h,fun _ _=>rfl,fun h=>absurd gW h⟩
     rw[al (by omega),iM (by omega)];simp only[X5];obtain⟨m1,m2,m3,m4⟩:=mono (a:=l) (t:=i+1) (by omega) (Xf gW) rfl hs;refine .some ⟨by simp[aQ,n6],m1,m2,fun j hj=>m3 j (by omega),fun _=>m4⟩
    obtain⟨o1,o2,o3,o4,o5⟩:=ho
    refine Wp.dec (fun hj=>?_) fun hj=> .some ⟨o1,o2,o3,o4,fun _=>⟨o5,fun h=>absurd h hj⟩⟩
    obtain⟨t,t1,t2,t3,t4⟩:=Xg hj;rw[show(n.2:Int)=t from t1,iM (by omega)];simp only[X5];obtain⟨m1,m2,m3,m4⟩:=mono (a:=o) (t:=t) (by omega) t4 rfl o2;refine .some ⟨by simp[aQ,o1],m1,fun j h=>m2 j (o3 j h),fun j hj=>by rw[<-o4 j hj];exact m3 j (by omega),fun _=>⟨fun h=>m2 _ (o5 h),fun _ u hu=>?_⟩⟩
    have:u=t:=by have h:(t:Int)=u:=hu;omega
    subst this;exact m4
   .rw[if_pos (by simpa using hg)];exact .some ⟨n6,hs,fun _ h=>h,fun _ _=>rfl,fun h=>absurd h hg⟩
  .obtain⟨o1,o2,o3,o4,o5⟩:=ho;rw[al (by omega)];refine⟨⟨i+1,rfl,dA,o1,o3 0 hz,o2,fun j m hj hm M4=>?_⟩,by simp only;omega⟩;by_cases e:j=i
   .subst e;rw[hge]at hm;obtain rfl:=X7 hm;rw[o4 j (Yd _)]at M4;exact o5 M4
   .rw[o4 j (by omega)]at M4;obtain⟨a1,a2⟩:=dH j m (by omega) hm M4;exact⟨fun h=>o3 _ (a1 h),fun h t ht=>o3 _ (a2 h t ht)⟩
 .rw[td (by rw[hl.len];omega)];simp only[X5];exact .some ⟨l,hl,rfl⟩
def gX(n:Ty)(i:Nat):Prop:=(n.1:Int)=51/\(n.2:Int)=((i+1:Nat):Int)
instance(n:Ty)(i:Nat):Decidable (gX n i):=by unfold gX;infer_instance
structure KL(code:List Ty)(l K:List Bool):Prop where
 len:K.length=code.length
 ok:∀(i:Nat)n,code[i]? =some n->(gb K i=true↔gb l i=true/\¬gX n i)
def ct(K:List Bool):Nat->Nat
 |0=>0
 |i+1=>ct K i+if gb K i=true then 1 else 0
def kp{α:Type}(g:Nat->α)(K:List Bool):Nat->List α
 |0=>[]
 |i+1=>kp g K i++if gb K i=true then[g i]else[]
theorem fN{α:Type}(g:Nat->α)(K:List Bool):∀i,(kp g K i).length=ct K i
 |0=>rfl
 |i+1=>by
  rw[kp,ct,Yr,fN g K i]
  split<;>rfl
theorem uQ(K:List Bool){i j:Nat}(h:i<=j):ct K i<=ct K j:=by
 induction j with
 |zero=>obtain rfl:i=0:=by omega
        exact Yd _
 |succ j ih=>
  by_cases e:i=j+1
  .rw[e];exact Yd _
  .have:=ih (by omega);rw[ct];omega
theorem pw(K:List Bool):∀i,ct K i<=i
 |0=>Yd _
 |i+1=>by
  have:=pw K i;rw[ct]
  split<;>omega
theorem oX{α:Type}(g:Nat->α)(K:List Bool){i:Nat}(hi:gb K i=true):∀j,i<j->(kp g K j)[ct K i]? =some (g i):=by
 intro j
 induction j with
 |zero=>intro h;omega
 |succ j ih=>
  intro h;rw[kp];by_cases e:i=j
  .subst e;rw[if_pos hi,YP (by rw[fN];exact Yd _),fN,Nat.sub_self];rfl
  .have aW:ct K i<(kp g K j).length:=by
    rw[fN];have h1:ct K (i+1)<=ct K j:=uQ K (by omega);rw[ct,if_pos hi]at h1;omega
   rw[YI aW];exact ih (by omega)
theorem rA(K:List Bool){q:Nat}:∀j,q<ct K j->∃i,i<j/\gb K i=true/\ct K i=q:=by
 intro j
 induction j with
 |zero=>intro h;simp[ct]at h
 |succ j ih=>
  intro h;by_cases hq:q<ct K j
  .obtain⟨i,h1,h2,h3⟩:=ih hq;exact⟨i,by omega,h2,h3⟩
  .rw[ct]at h;by_cases hk:gb K j=true
   .rw[if_pos hk]at h;exact⟨j,by omega,hk,by omega⟩
   .rw[if_neg hk]at h;omega
def rj(K:List Bool)(n:Ty):Ty:=if fX n then((n.1,((ct K (n.2:Int).toNat:Nat):Int)):Int×Int)else n
def rem(code:List Ty)(K:List Bool):List Ty:=(kp (fun i=>code.getD i ((0,0):Int×Int)) K code.length).map (rj K)
theorem Fp(K:List Bool)(n:Ty):((rj K n).1:Int)=n.1:=by
 unfold rj
 split<;>rfl
theorem zd{K:List Bool}{n:Ty}(h:¬fX n):rj K n=n:=by
 unfold rj;rw[if_neg h]
theorem k6{code:List Ty}{K:List Bool}(hl:code.length<=1000)(hK:K.length=code.length)(hj:∀(i:Nat)n,code[i]? =some n->gb K i=true->fX n->∃t:Nat,(n.2:Int)=t/\t<=code.length):Wp (M.cE az code K) fun r=>r=rem code K:=by
 unfold M.cE;rw[al (by omega)]
 have yA:rK ((code.length+1:Nat):Int) (0:Int)=some (Yf (code.length+1) 0):=by
  unfold rK;rw[if_pos (by omega),Yg]
 rw[yA];simp only[X5]
 refine Wp.seq (fun j=>j.1.length=code.length+1/\(∀t:Nat,t<code.length->j.1[t]? =some (((ct K t:Nat):Int)))/\j.2=kp (fun i=>code.getD i ((0,0):Int×Int)) K code.length) ?_ fun j Mk=>?_
 .refine Wp.loop (fun s:Int×List Int×List Ty=>∃i:Nat,s.1=i/\i<=code.length/\s.2.1.length=code.length+1/\(∀t:Nat,t<i->s.2.1[t]? =some (((ct K t:Nat):Int)))/\s.2.2=kp (fun i=>code.getD i ((0,0):Int×Int)) K i) (fun s=>(code.length-s.1).toNat) ⟨0,rfl,Yk _,by simp,fun t h=>by omega,rfl⟩ (by unfold az;simp only;omega) ?_
  rintro⟨_,ps,_⟩ ⟨i,rfl,hi,ll,hp,rfl⟩
  dsimp only at ll hp⊢
  refine Wp.dec (fun h=>?_) fun h=> .some ?_
  .have dA:i<code.length:=by omega
   rw[ax dA,ax (show i<ps.length by omega),iM (by omega)];simp only[X5]
   have s8:code.getD i ((0,0):Int×Int)=code[i]:=by simp only[Y3,dA,X9,Zt]
   have FP:=fN (fun i=>code.getD i ((0,0):Int×Int)) K i;have Ir:=pw K i
   refine Wp.seq (fun o=>o=(ps.set i (((ct K i:Nat):Int)),kp (fun i=>code.getD i ((0,0):Int×Int)) K (i+1))) ?_ fun o ho=> .some ?_
   .by_cases hg:gb K i=true
    .rw[if_pos hg,dG (by rw[FP];simp;omega)];simp only[X5];refine .some ?_;rw[kp,if_pos hg,s8,FP];rfl
    .rw[if_neg hg];refine .some ?_;rw[kp,if_neg hg,List.append_nil,FP];rfl
   .subst ho;rw[al (by omega)];refine⟨⟨i+1,rfl,dA,by simp[ll],fun t ht=>?_,rfl⟩,by simp only;omega⟩
    show(ps.set i _)[t]? =_
    by_cases e:t=i
    .subst e;rw[List.getElem?_set_self (by omega)]
    .rw[List.getElem?_set_ne (by omega)];exact hp t (by omega)
  .obtain rfl:i=code.length:=by omega
   exact⟨ll,hp,rfl⟩
 .obtain⟨ps,Xh⟩:=j;obtain⟨p1,p2,rfl⟩:=Mk;dsimp only at p1 p2⊢;rw[ax (show code.length<ps.length by omega)];simp only[X5];have Ir:=pw K code.length;have FP:=fN (fun i=>code.getD i ((0,0):Int×Int)) K code.length
  have Dx:∀t:Nat,t<=code.length->idx (aQ ps (code.length:Int) (((kp (fun i=>code.getD i ((0,0):Int×Int)) K code.length).length:Nat):Int)) (t:Int)=some (((ct K t:Nat):Int)):=by
   intro t ht
   have hlen:t<(aQ ps (code.length:Int) (((kp (fun i=>code.getD i ((0,0):Int×Int)) K code.length).length:Nat):Int)).length:=by simp[aQ];omega
   rw[ax hlen]
   have e:(aQ ps (code.length:Int) (((kp (fun i=>code.getD i ((0,0):Int×Int)) K code.length).length:Nat):Int))[t]? =some (((ct K t:Nat):Int)):=by
    unfold aQ;rw[Yg,FP];by_cases e:t=code.length
    .subst e;rw[List.getElem?_set_self (by omega)]
    .rw[List.getElem?_set_ne (by omega)];exact p2 t (by omega)
   rw[X9 hlen]at e;exact e
  unfold rem
  refine ry (by omega) (fun q hq l n6 Hs=>?_) fun l n6=>?_
  .have QI:q<l.length:=by omega
   have QJ:q<ct K code.length:=by omega
   obtain⟨i,i1,i2,i3⟩:=rA K _ QJ
   have s8:code.getD i ((0,0):Int×Int)=code[i]:=by simp only[Y3,i1,X9,Zt]
   have hx:(kp (fun i=>code.getD i ((0,0):Int×Int)) K code.length)[q]=code[i]:=by
    have:=oX (fun i=>code.getD i ((0,0):Int×Int)) K i2 code.length i1;rw[i3,X9 hq,s8]at this;exact X7 this
   have hge:=X9 i1;rw[hx]at Hs⊢;generalize code[i]=x at Hs hge⊢;dsimp only;rw[ax QI,Hs];simp only[X5,dz]
   refine Wp.dec (fun _=>?_) fun h=>by omega
   refine Wp.seq (fun o=>o=l.set q (rj K x)) ?_ fun o ho=> .some ?_
   .refine Wp.dec (fun r8=>?_) fun r8=> .some ?_
    .obtain⟨t,t1,t2⟩:=hj i x hge i2 r8;rw[show(x.2:Int)=t from t1,Dx t t2];simp only[X5];refine .some ?_;unfold rj;rw[if_pos (show fX x from r8),t1];simp[aQ]
    .rw[zd r8,<-Hs];simp
   .rw[ho,al (by omega)]
  .dsimp only
   exact Wp.dec (fun h=>by omega) fun _=> .some rfl
theorem xo{K:List Bool}(hl:K.length<=1000):Wp (M.aT az K false) fun b=>(b=true->∃i,i<K.length/\gb K i=false):=by
 unfold M.aT M.dc
 refine Wp.seq (fun r:Int=>0<=r->∃i,i<K.length/\gb K i=false) ?_ fun r hr=> .some fun h=>hr (by simpa using h)
 refine Wp.loop (fun s:Int=>∃i:Nat,s=i/\i<=K.length) (fun s=>(K.length-s).toNat) ⟨0,rfl,Yk _⟩ (by unfold az;omega) ?_
 rintro _ ⟨i,rfl,hi⟩
 refine Wp.dec (fun h=>?_) fun h=> .some fun h=>absurd h (by decide)
 have dA:i<K.length:=by omega
 rw[iM dA];simp only[X5]
 refine Wp.dec (fun h1=> .some fun _=>⟨i,dA,h1.symm⟩) fun h1=> .some ?_
 rw[al (by omega)];exact⟨⟨i+1,rfl,dA⟩,by simp only;omega⟩
theorem Fq{code:List Ty}{F:List Int}{l K:List Bool}(f:Fits code F)(hw:∀n∈code,WF aa n)(r:RL code F l)(k:KL code l K):kQ code (rem code K)/\(rem code K).length=ct K code.length:=by
 have hlen:(rem code K).length=ct K code.length:=by unfold rem;rw[List.length_map,fN]
 have Ir:=pw K code.length;have hle:=f.le;refine⟨?_,hlen⟩
 have gF:∀i,gb K i=true->i<code.length->gd (kp (fun i=>gd F i) K code.length++[1]) (ct K i)=gd F i:=by
  intro i hi aW;have:=oX (fun i=>gd F i) K hi code.length aW;have FL:ct K i<(kp (fun i=>gd F i) K code.length).length:=(Yc.1 this).1;rw[oV,YI FL,this];rfl
 have gL:gd (kp (fun i=>gd F i) K code.length++[1]) (ct K code.length)=1:=by
  rw[oV,YP (by rw[fN];exact Yd _),fN,Nat.sub_self];rfl
 have skip:∀(p:Nat)n,code[p]? =some n->gb l p=true->¬gb K p=true->gX n p/\gb l (p+1)=true/\gd F (p+1)=gd F p/\ct K (p+1)=ct K p:=by
  intro p n hn hg hk
  have hx:gX n p:=by
   by_cases h:gX n p
   .exact h
   .exact absurd ((k.ok p n hn).2 ⟨hg,h⟩) hk
  refine⟨hx,(r.step p n hn hg).2 (mN hx.1) (p+1) hx.2,?_,by rw[ct,if_neg hk];rfl⟩;obtain⟨s,_⟩:=f.at hn (r.sound p hg)
  rcases s with⟨_,u,u1,u2,u3,u4⟩|⟨c,_⟩|⟨c,_⟩
  .have:u=p+1:=nat_eq u1 hx.2;rw[<-this];exact u4
  .exact absurd hx.1 (jJ c)
  .exact absurd hx.1 c
 have dep:∀(m p:Nat),code.length-p<=m->p<=code.length->gb l p=true->gd (kp (fun i=>gd F i) K code.length++[1]) (ct K p)=gd F p:=by
  intro m
  induction m with
  |zero=>
   intro p hm hp hg
   obtain rfl:p=code.length:=by omega
   rw[gL,f.last]
  |succ m ih=>
   intro p hm hp hg;by_cases aW:p<code.length
   .by_cases hk:gb K p=true
    .exact gF p hk aW
    .obtain⟨_,h1,h2,h3⟩:=skip p _ (X9 aW) hg hk;rw[<-h3,<-h2];exact ih (p+1) (by omega) aW h1
   .obtain rfl:p=code.length:=by omega
    rw[gL,f.last]
 have QK:∀(m p:Nat),code.length-p<=m->p<=code.length->gb l p=true->gb l code.length=true:=by
  intro m
  induction m with
  |zero=>
   intro p hm hp hg
   obtain rfl:p=code.length:=by omega
   exact hg
  |succ m ih=>
   intro p hm hp hg;by_cases aW:p<code.length
   .have hge:=X9 aW;obtain⟨s1,s2⟩:=r.step p _ hge hg;by_cases gW:(code[p].1:Int)=51
    .obtain⟨s,_⟩:=f.at hge (r.sound p hg)
     rcases s with⟨_,u,u1,u2,u3,u4⟩|⟨c,_⟩|⟨c,_⟩
     .exact ih u (by omega) u3 (s2 (mN gW) u u1)
     .exact absurd gW (jJ c)
     .exact absurd gW c
    .exact ih (p+1) (by omega) aW (s1 gW)
   .obtain rfl:p=code.length:=by omega
    exact hg
 have QL:=QK code.length 0 (by omega) (Yk _) r.zero
 have one:∀p:Nat,p<code.length->gb K p=true->FO code (rem code K) (fun p q=>gb l p=true/\p<=code.length/\q=ct K p) p (ct K p):=by
  intro p hp hk;have hge:=X9 hp
  have hb:(rem code K)[ct K p]? =some (rj K code[p]):=by
   unfold rem;rw[Zj,oX _ K hk code.length hp];simp only[Y3,hge,Zt,Option.map_some]
  have Ob:ct K (p+1)=ct K p+1:=by rw[ct,if_pos hk]
  generalize code[p]=n at hge hb;have hg:=((k.ok p n hge).1 hk).1;obtain⟨s1,s2⟩:=r.step p n hge hg
  have Ml:∀t:Nat,fX n->(n.2:Int)=t->p<t->t<=code.length->((rj K n).2:Int)=((ct K t:Nat):Int)/\ct K p<ct K t/\gb l t=true:=by
   intro t hj ht JI zA;refine⟨?_,?_,s2 hj t ht⟩
   .unfold rj;rw[if_pos hj]
    show((ct K (n.2:Int).toNat:Nat):Int)=_
    rw[ht];rfl
   .have:=uQ K (show p+1<=t by omega);omega
  by_cases hj:fX n
  .obtain⟨s,_⟩:=f.at hge (r.sound p hg)
   rcases s with⟨c1,t,c2,c3,c4,c5⟩|⟨c1,c2,c3,t,c4,c5,c6,c7⟩|⟨c1,c2,_⟩
   .obtain⟨t1,t2,t3⟩:=Ml t hj c2 c3 c4;exact .jump hge hb c1 ((Fp K n).trans c1) c2 t1 t2 ⟨t3,c4,rfl⟩
   .obtain⟨t1,t2,t3⟩:=Ml t hj c4 c5 c6;exact .cond hge hb c1 (Fp K n) c4 t1 t2 ⟨t3,c6,rfl⟩ ⟨s1 (jJ c1),hp,Ob.symm⟩
   .exact(ij hj).elim (fun e=>absurd e c1) (fun e=>absurd e c2)
  .rw[zd hj]at hb;exact .op hge hb hj ⟨s1 (fun h=>hj (mN h)),hp,Ob.symm⟩
 have d0:=dep code.length 0 (by omega) (Yk _) r.zero;rw[f.first]at d0
 have nl:0<ct K code.length:=by
  rcases Nat.eq_zero_or_pos (ct K code.length)with h|h
  .rw[h]at gL;have e:ct K 0=0:=rfl;rw[e,gL]at d0;cases d0
  .exact h
 have s:Hk code (rem code K) F (kp (fun i=>gd F i) K code.length++[1]) (fun p q=>gb l p=true/\p<=code.length/\q=ct K p):=by
  refine⟨f,by omega,by omega,by rw[Yr,fN,hlen];rfl,fun q=>?_,fun p q h=>?_,fun p q h=>?_,fun q hq h0=>?_,⟨r.zero,Yk _,rfl⟩,⟨QL,Yd _,hlen⟩⟩
  .rw[oV]
   cases hx:(kp (fun i=>gd F i) K code.length++[1])[q]? with
   |none=>decide
   |some z=>
    show-1<=z/\z<=12
    have hm:=Y8 hx
    rcases List.mem_append.1 hm with hm|hm
    .obtain⟨q',jr,rfl⟩:=List.getElem_of_mem hm;rw[fN]at jr;obtain⟨i,i1,i2,i3⟩:=rA K _ jr;have:=oX (fun i=>gd F i) K i2 code.length i1;rw[i3,X9 (by rw[fN];exact jr)]at this;rw[X7 this];exact f.bd i
    .rw[List.mem_singleton.1 hm];decide
  .obtain⟨a1,a2,rfl⟩:=h;exact⟨r.sound p a1,a2,by rw[hlen];exact uQ K a2,dep code.length p (by omega) a2 a1⟩
  .obtain⟨a1,a2,rfl⟩:=h;by_cases hp:p=code.length
   .exact .inl ⟨hp,by rw[hlen,hp]⟩
   .have aW:p<code.length:=by omega
    by_cases hk:gb K p=true
    .exact .inr (.inl (one p aW hk))
    .have hge:=X9 aW;obtain⟨h1,h2,_,h3⟩:=skip p _ hge a1 hk;exact .inr (.inr ⟨_,p+1,hge,h1.1,h1.2,h2,aW,h3.symm⟩)
  .rw[hlen]at hq;obtain⟨i,i1,i2,i3⟩:=rA K _ hq;subst i3;exact⟨i,⟨((k.ok i _ (X9 i1)).1 i2).1,by omega,rfl⟩,one i i1 i2⟩
 refine s.same (by omega) fun m hm=>?_
 unfold rem at hm;obtain⟨y,hy,rfl⟩:=List.mem_map.1 hm;obtain⟨q,hq,rfl⟩:=List.getElem_of_mem hy;have jr:=hq;rw[fN]at jr;obtain⟨i,i1,i2,i3⟩:=rA K _ jr;have:=oX (fun i=>code.getD i ((0,0):Int×Int)) K i2 code.length i1;rw[i3,X9 hq]at this;have e:=X7 this
 have s8:code.getD i ((0,0):Int×Int)=code[i]:=by simp only[Y3,i1,X9,Zt]
 rw[e,s8];have RP:=hw _ (YL i1);unfold rj;split
 .rename_i hj;refine⟨RP.1,?_,?_⟩
  .show(-9223372036854775808:Int)<=((ct K _:Nat):Int);omega
  .show((ct K (code[i].2:Int).toNat:Nat):Int)<=(9223372036854775807:Int)
   by_cases RQ:∃t:Nat,(code[i].2:Int)=t/\t<=code.length
   .obtain⟨t,t1,t2⟩:=RQ;rw[t1,Yg];have:=pw K t;omega
   .exfalso;apply RQ;have hge:=X9 i1;obtain⟨s,_⟩:=f.at hge (r.sound i ((k.ok i _ hge).1 i2).1)
    rcases s with⟨c1,t,c2,c3,c4,c5⟩|⟨c1,c2,c3,t,c4,c5,c6,c7⟩|⟨c1,c2,_⟩
    .exact⟨t,c2,c4⟩
    .exact⟨t,c4,c6⟩
    .exact(ij hj).elim (fun e=>absurd e c1) (fun e=>absurd e c2)
 .exact RP
end L
end Go.Proofs.YtlfjlhcigpejdaaGreatDoor
end
section
open _root_.Go.IntKind renaming i64->X6
open _root_.List renaming getD->Y3,getElem?_eq_getElem->X9,getElem?_eq_some_iff->Yc
open _root_.Nat renaming le_refl->Yd,zero_le->Yk
open _root_.Option renaming bind_some->X5
open _root_.Option.some renaming inj->X7
open _root_.Sum renaming inl->YT,inr->Yv
namespace Go.Proofs.YtlfjlhcigpejdaaGreatDoor
open Go Go.RowKit
set_option maxRecDepth 100000
namespace L
noncomputable def rB(s4:List aa.den):Option (List aa.den⊕List aa.den):=
(M.cc az s4).bind fun y5=>
(Loop (S:=Int×List Bool) (X:=List Bool) (fun s7=>
(if(decide (s7.1<(s4.length:Int)))=true then
((idx s4 s7.1).bind fun x9=>
((if(decide (x9.1=(51:Int)))=true then
some (decide (x9.2=(X6.wrap (s7.1+(1:Int)))))
else
some false):Option (Bool)).bind fun yJ=>
(if yJ=true then
(idx s7.2 s7.1).bind fun pi=>
some (aQ s7.2 s7.1 false)
else
some s7.2):Option (List Bool)).bind fun j8=>
some (YT (X6.wrap (s7.1+(1:Int)),j8))
else
some (Yv s7.2))) az ((0:Int),y5):Option (List Bool)).bind fun j6=>
(M.aT az j6 false).bind fun mL=>
(if mL=true then
(M.cE az s4 j6).bind fun pX=>
some (YT pX)
else
some (Yv s4))
theorem Aw{K:List Bool}:∀{j:Nat},(∃i,i<j/\gb K i=false)->ct K j<j
 |0,⟨i,h,_⟩=>by omega
 |j+1,⟨i,h,hk⟩=>by
  rw[ct];by_cases e:i=j
  .subst e;rw[if_neg (by simp[hk])];have:=pw K i;omega
  .have:=Aw (K:=K) (j:=j) ⟨i,by omega,hk⟩
   split<;>omega
theorem xp{code:List Ty}{F:List Int}(f:Fits code F)(hw:∀n∈code,WF aa n):Wp (rB code) fun r=>(∃y,r= .inl y/\kQ code y/\y.length<code.length)\/r= .inr code:=by
 have hle:=f.le;unfold rB
 refine Wp.seq _ (nZ f) fun y hy=>?_
 obtain⟨l,r,rfl⟩:=hy;have QM:=r.len
 refine Wp.seq (KL code l) ?_ fun K k=>?_
 .refine Wp.loop (fun s:Int×List Bool=>∃i:Nat,s.1=i/\i<=code.length/\s.2.length=code.length/\(∀(j:Nat)n,j<i->code[j]? =some n->(gb s.2 j=true↔gb l j=true/\¬gX n j))/\∀j,i<=j->j<code.length->gb s.2 j=gb l j) (fun s=>(code.length-s.1).toNat) ⟨0,rfl,Yk _,by simp;omega,fun j n h=>by omega,fun j _ hj=>?_⟩ (by unfold az;simp only;omega) ?_
  .show gb (l.take code.length) j=gb l j
   unfold gb;rw[Y3,Y3,List.getElem?_take_of_lt hj]
  rintro⟨_,K⟩ ⟨i,rfl,hi,FQ,hd,hr⟩
  dsimp only at FQ hd hr⊢
  refine Wp.dec (fun h=>?_) fun h=> .some ⟨FQ,fun j n hn=>hd j n ?_ hn⟩
  case refine_2=>
   have:=(Yc.1 hn).1;omega
  have dA:i<code.length:=by omega
  have hge:=X9 dA;rw[ax dA];generalize code[i]=n at hge⊢;simp only[X5]
  refine Wp.seq (fun o=>o.length=code.length/\(gb o i=true↔gb l i=true/\¬gX n i)/\∀j,j≠i->gb o j=gb K j) ?_ fun o ho=> .some ?_
  .refine Wp.seq (fun b=>b=decide (gX n i)) ?_ fun b hb=>?_
   .rw[al (by omega)]
    refine Wp.dec (fun h1=> .some ?_) fun h1=> .some ?_
    .unfold gX
     by_cases h2:(n.2:Int)=((i+1:Nat):Int)
     .simp[h1,h2]
     .simp[h1,h2]
    .unfold gX;simp[h1]
   .subst hb
    refine Wp.dec (fun h1=>?_) fun h1=> .some ⟨FQ,?_,fun _ _=>rfl⟩
    .rw[iM (by omega)];simp only[X5];refine .some ⟨by simp[aQ,FQ],?_,fun j hj=>?_⟩
     .show gb (K.set i false) i=true↔_
      rw[kR (by omega),if_pos rfl];simp[h1]
     .show gb (K.set i false) j=gb K j
      rw[kR (by omega),if_neg hj]
    .rw[hr i (Yd _) dA];simp[h1]
  .obtain⟨o1,o2,o3⟩:=ho;rw[al (by omega)];refine⟨⟨i+1,rfl,dA,o1,fun j m hj hm=>?_,fun j hj CJ=>?_⟩,by simp only;omega⟩
   .by_cases e:j=i
    .subst e;rw[hge]at hm;obtain rfl:=X7 hm;exact o2
    .show gb o j=true↔_
     rw[o3 j e];exact hd j m (by omega) hm
   .show gb o j=gb l j
    rw[o3 j (by omega)];exact hr j (by omega) CJ
 .refine Wp.seq _ (xo (by rw[k.len];omega)) fun b hb=>?_
  refine Wp.ite (fun h=>?_) fun _=> .some (.inr rfl)
  have hx:=hb h;rw[k.len]at hx
  refine Wp.seq _ (k6 (by omega) k.len fun i n hn hk hj=>?_) fun z hz=> .some (.inl ⟨z,rfl,?_⟩)
  .obtain⟨s,_⟩:=f.at hn (r.sound i ((k.ok i n hn).1 hk).1)
   rcases s with⟨c1,t,c2,c3,c4,c5⟩|⟨c1,c2,c3,t,c4,c5,c6,c7⟩|⟨c1,c2,_⟩
   .exact⟨t,c2,c4⟩
   .exact⟨t,c4,c6⟩
   .exact(ij hj).elim (fun e=>absurd e c1) (fun e=>absurd e c2)
  .obtain⟨a1,a2⟩:=Fq f hw r k;rw[hz];refine⟨a1,?_⟩;rw[a2];exact Aw hx
theorem CA{code:List Ty}(hl:code.length<=1000)(hw:∀n∈code,WF aa n):Wp (M.aJ az code) fun y=>((¬∃F,Fits code F)/\y=code)\/((∃F,Fits code F)/\kQ code y/\rB y=some (.inr y)):=by
 unfold M.aJ;rw[kl hl];simp only[X5];obtain⟨b,hb,sz⟩:=jE code;rw[hb];simp only[X5];refine Wp.join (Wp.ite (fun hc=> .some ?_) fun hc=> .some ?_)
 .exact .inl ⟨fun h=>(by rw[sz.2 h]at hc;cases hc),rfl⟩
 have hF:∃F,Fits code F:=sz.1 (by simpa using hc)
 have xm:kQ code code:=⟨hF,Yd _,hw,fun _ _ _ h=>h⟩
 show Wp (Loop rB az code) _
 refine Wp.loop (fun s:List Ty=>kQ code s) (fun s=>s.length) xm (by unfold az;omega) ?_;intro s hs;obtain⟨F,f⟩:=hs.fits;obtain⟨r,hr,h⟩:=xp f hs.wf;refine⟨r,hr,?_⟩
 rcases h with⟨y,rfl,h1,h2⟩|rfl
 .exact⟨hs.trans h1,h2⟩
 .exact .inr ⟨hF,hs,hr⟩
theorem Fs(r:Row)(x:r.den):tE r x x=true:=by unfold tE;simp
theorem ze(l:List Ty)(hl:l.length<=1000):M.eD az l l=some true:=by
 apply Wp.eq;unfold M.eD
 refine Wp.nN (fun h=>absurd rfl h) fun _=>?_
 refine Wp.loop (fun s:Int=>∃i:Nat,s=i/\i<=l.length) (fun s=>(l.length-s).toNat) ⟨0,rfl,Yk _⟩ (by unfold az;omega) ?_
 rintro _ ⟨i,rfl,hi⟩
 refine Wp.seq (fun b=>b=true->i<l.length) ?_ fun b hb=>?_
 .exact Wp.dec (fun h=> .some fun _=>by omega) fun _=> .some fun h=>by cases h
 .refine Wp.ite (fun h=>?_) fun _=> .some rfl
  have dA:=hb h;rw[ax dA];simp only[X5,Fs];refine .some ?_;rw[al (by omega)];exact⟨⟨i+1,rfl,dA⟩,by simp only;omega⟩
theorem Ax:M.jy az=some true:=by show(_:Option Bool)=_;kernel_rfl
end L
end Go.Proofs.YtlfjlhcigpejdaaGreatDoor
end
section
open _root_.Bool renaming eq_iff_iff->Yh,false_eq_true->X8,not_false->YC,not_true->Yp
open _root_.Int renaming lt_or_le->Zb,toNat_natCast->Yg
open _root_.Go.IntKind renaming i64->X6
open _root_.List renaming replicate->Yf,replicate_succ->YX
open _root_.Nat renaming zero_le->Yk
open _root_.Option renaming bind_some->X5
open _root_.Option.some renaming inj->X7
open _root_.Sum renaming inl->YT,inr->Yv
open _root_.Sum.inl renaming inj->Zs
namespace Go.Proofs.YtlfjlhcigpejdaaGreatDoor
open Go Go.RowKit
set_option maxRecDepth 100000
set_option linter.unusedVariables false
namespace L
theorem tx{S S' X X':Type}{body:S->Option (S⊕X)}{body':S'->Option (S'⊕X')}(φ:S->S')(ψ:X->X')(I:S->Prop)(h:∀s,I s->body' (φ s)=(body s).map (Sum.map φ ψ))(hI:∀s s',I s->body s=some (.inl s')->I s'):∀(N:Nat)(s:S),I s->Loop body' N (φ s)=(Loop body N s).map ψ
 |0,_,_=>rfl
 |N+1,s,hs=>by
  unfold Loop;rw[h s hs]
  cases hb:body s with
  |none=>rfl
  |some x=>cases x with
   |inl s'=>exact tx φ ψ I h hI N s' (hI s s' hs hb)
   |inr x=>rfl
def kr(op:Int):Int:=if op=51 then 0 else if 50<=op/\op<=53 then 1 else if cf op then-1 else ar op
theorem Ft(N:Nat)(op:Int):M.hZ N op=some (decide (50<=op/\op<=53)):=by
 unfold M.hZ;simp only[ak,X5,dM,Bool.decide_and]
theorem Ay(N:Nat)(op:Int):M.gq N op=some (kr op):=by
 unfold M.gq kr;rw[Ft,oT];by_cases h1:op=51
 .subst h1;rfl
 rw[if_neg (by simpa using h1),if_neg h1,X5];by_cases h2:50<=op/\op<=53
 .rw[if_pos (by simpa using h2),if_pos h2]
 rw[if_neg (by simpa using h2),if_neg h2];unfold cf;by_cases h3:op=23
 .subst h3;rfl
 by_cases h4:op=24
 .subst h4;rfl
 by_cases h5:op=26
 .subst h5;rfl
 simp[h3,h4,h5]
def xq(D:List Int)(t:Nat)(d:Int):Int×List Int:=if 0<=gd D t/\gd D t≠d then(9,D)else(0,D.set t d)
theorem n4(N:Nat){D:List Int}{t:Nat}(ht:t<D.length)(d:Int):M.aH N (t:Int) d D=some (xq D t d):=by
 unfold M.aH xq;rw[dD ht];simp only[X5,ak,dM];by_cases h:0<=gd D t/\gd D t≠d
 .rw[if_pos h,if_pos (by simp[h.1,h.2])]
 .rw[if_neg h,if_neg (by simpa using h)];simp[aQ]
def SR(len k:Nat)(op m:Int)(D:List Int):Int×List Int:=
 if¬(¬cf op/\(50<=op/\op<=53\/0<=ar op))\/((50<=op/\op<=53)/\(m<=k\/(len:Int)<m))then(2,D)
 else if op=51 then xq D m.toNat (gd D k)
 else if 50<=op/\op<=53 then(if gd D k<1 then(5,D)else if(xq D (k+1) (gd D k-1)).1=0 then xq (xq D (k+1) (gd D k-1)).2 m.toNat (if op=50 then gd D k-1 else gd D k)else xq D (k+1) (gd D k-1))
 else if gd D k<ar op then(5,D)else if 12<gd D k-ar op+1 then(16,D)else xq D (k+1) (gd D k-ar op+1)
theorem Ht(D:List Int)(t:Nat)(d:Int):(xq D t d).2.length=D.length:=by unfold xq;split<;>simp
theorem step_eq(N:Nat){code:List Ty}{D:List Int}{k:Nat}{op m:Int}(hl:code.length<=128)(hk:k<code.length)(hD:D.length=code.length+1)(h0:0<=gd D k)(h1:gd D k<=12):M.aX N code (k:Int) ((op,m):Int×Int) D=some (SR code.length k op m D):=by
 unfold M.aX SR;have IR:=lK op;simp only[m7,mr,X5]
 have e0:((if(!decide (¬cf op/\(50<=op/\op<=53\/0<=ar op)))=true then some true else(if decide (50<=op/\op<=53)=true then(if(decide (m<=(k:Int)))=true then some true else some (decide ((code.length:Int)<m)))else some false)):Option Bool)=some (decide (¬(¬cf op/\(50<=op/\op<=53\/0<=ar op))\/((50<=op/\op<=53)/\(m<=k\/(code.length:Int)<m)))):=by
  by_cases a:¬cf op/\(50<=op/\op<=53\/0<=ar op)
  .rw[if_neg (by rw[decide_eq_true a];decide)];by_cases b:50<=op/\op<=53
   .rw[if_pos (decide_eq_true b)]
    by_cases c:m<=(k:Int)
    .rw[if_pos (decide_eq_true c)];exact congrArg some (decide_eq_true (.inr ⟨b, .inl c⟩)).symm
    .rw[if_neg (by rw[decide_eq_true_eq];exact c)];refine congrArg some ?_;rw[Yh,decide_eq_true_eq,decide_eq_true_eq];exact⟨fun g=> .inr ⟨b, .inr g⟩,fun g=>g.elim (fun e=>absurd a e) fun e=>e.2.elim (fun f=>absurd f c) id⟩
   .rw[if_neg (by rw[decide_eq_true_eq];exact b)];refine congrArg some (decide_eq_false ?_).symm
    exact fun g=>g.elim (fun e=>e a) fun e=>b e.1
  .rw[if_pos (by rw[decide_eq_false a];decide)];exact congrArg some (decide_eq_true (.inl a)).symm
 rw[e0,X5];by_cases c:¬(¬cf op/\(50<=op/\op<=53\/0<=ar op))\/((50<=op/\op<=53)/\(m<=k\/(code.length:Int)<m))
 .rw[if_pos (decide_eq_true c),if_pos c]
 rw[if_neg (by rw[decide_eq_true_eq];exact c),if_neg c,dD (by omega),X5]
 have hm:(50<=op/\op<=53)->∃t:Nat,m=t/\t<D.length:=fun hj=>⟨m.toNat,by omega,by omega⟩
 by_cases gW:op=51
 .obtain⟨t,rfl,ht⟩:=hm (by omega);rw[if_pos (decide_eq_true gW),if_pos gW,n4 N ht,Yg];rfl
 rw[if_neg (by rw[decide_eq_true_eq];exact gW),if_neg gW]
 have e1:((if(decide (op=(50:Int)))=true then some (decide (op=(50:Int)))else(if(decide (op=(52:Int)))=true then some (decide (op=(52:Int)))else some (decide (op=(53:Int))))):Option Bool)=some (decide (50<=op/\op<=53)):=by
  rw[Cm];refine congrArg some ?_;rw[Yh,decide_eq_true_eq,decide_eq_true_eq];omega
 rw[e1,X5];by_cases hj:50<=op/\op<=53
 .obtain⟨t,rfl,ht⟩:=hm hj;rw[if_pos (decide_eq_true hj),if_pos hj,Yg];by_cases h5:gd D k<1
  .rw[if_pos (decide_eq_true h5),if_pos h5]
  rw[if_neg (by rw[decide_eq_true_eq];exact h5),if_neg h5,al (by omega),ag (by omega) (by omega),n4 N (by omega),X5];have QM:=Ht D (k+1) (gd D k-1);generalize xq D (k+1) (gd D k-1)=r at QM⊢;by_cases hr:(r.1:Int)=0
  .rw[if_neg (by rw[decide_eq_true hr];decide),if_pos hr]
   have e2:((if(decide (op=(50:Int)))=true then some (gd D k-1)else some (gd D k)):Option Int)=some (if op=50 then gd D k-1 else gd D k):=by
    by_cases h:op=50<;>simp[h]
   rw[e2,X5,n4 N (by omega)];rfl
  .rw[if_pos (by rw[decide_eq_false hr];decide),if_neg hr]
 .rw[if_neg (by rw[decide_eq_true_eq];exact hj),if_neg hj,dN,X5]
  have CZ:0<=ar op:=by
   rcases Decidable.em (0<=ar op)with h|h
   .exact h
   .exact absurd (.inl fun g=>g.2.elim hj h) c
  by_cases h5:gd D k<ar op
  .rw[if_pos (decide_eq_true h5),if_pos h5]
  rw[if_neg (by rw[decide_eq_true_eq];exact h5),if_neg h5,ag (n:=gd D k-ar op) (by omega) (by omega),ag (n:=gd D k-ar op+1) (by omega) (by omega)];by_cases Hu:12<gd D k-ar op+1
  .rw[if_pos (decide_eq_true Hu),if_pos Hu]
  rw[if_neg (by rw[decide_eq_true_eq];exact Hu),if_neg Hu,al (by omega),n4 N (by omega)];rfl
noncomputable def JP(code:List Ty)(s6:Int×List Int):Option ((List Int)⊕((Int×List Int)⊕((List Int)⊕(Int×Int)))):=
(idx s6.2 s6.1).bind fun x8=>
(if(decide (x8<(0:Int)))=true then
some (YT s6.2)
else
(idx code s6.1).bind fun x9=>
(M.gq az x9.1).bind fun kF=>
((if(decide (kF<(0:Int)))=true then
some true
else
(M.hZ az x9.1).bind fun mL=>
(if mL=true then
(if(decide (x9.2<=s6.1))=true then
some true
else
some (decide ((code.length:Int)<x9.2)))
else
some false)):Option (Bool)).bind fun uD=>
(if uD=true then
some (Yv (Yv (Yv ((0:Int),(2:Int)))))
else
(idx s6.2 s6.1).bind fun kY=>
(if(decide (kY<kF))=true then
some (Yv (Yv (Yv ((0:Int),(5:Int)))))
else
(idx s6.2 s6.1).bind fun xB=>
(M.jh az x9 xB).bind fun mM=>
(if(decide ((12:Int)<mM.1))=true then
some (Yv (Yv (Yv ((0:Int),(16:Int)))))
else
da (J:=List Int) (R:=(List Int)⊕((Int×List Int)⊕((List Int)⊕(Int×Int)))) ((if(decide ((0:Int)<=mM.1))=true then
((idx s6.2 (X6.wrap (s6.1+(1:Int)))).bind fun yM=>
(if(decide ((0:Int)<=yM))=true then
(idx s6.2 (X6.wrap (s6.1+(1:Int)))).bind fun GV=>
some (!decide (GV=mM.1))
else
some false):Option (Bool)).bind fun Ji=>
(if Ji=true then
some (Yv (Yv (Yv (Yv ((0:Int),(9:Int))))))
else
(idx s6.2 (X6.wrap (s6.1+(1:Int)))).bind fun O1=>
some (YT (aQ s6.2 (X6.wrap (s6.1+(1:Int))) mM.1)))
else
some (YT s6.2))) fun B9=>
(if(decide ((0:Int)<=mM.2))=true then
((idx B9 x9.2).bind fun Lj=>
(if(decide ((0:Int)<=Lj))=true then
(idx B9 x9.2).bind fun Lk=>
some (!decide (Lk=mM.2))
else
some false):Option (Bool)).bind fun O4=>
(if O4=true then
some (Yv (Yv (Yv ((0:Int),(9:Int)))))
else
(idx B9 x9.2).bind fun Vh=>
some (YT (aQ B9 x9.2 mM.2)))
else
some (YT B9))))))
theorem Hv{D:List Int}{t:Nat}(ht:t<D.length)(d:Int):((idx D (t:Int)).bind fun yM=>(if(decide ((0:Int)<=yM))=true then(idx D (t:Int)).bind fun GV=>some (!decide (GV=d))else some false):Option Bool)=some (decide (0<=gd D t/\gd D t≠d)):=by
 rw[dD ht];simp only[X5,ak,dM];refine congrArg some ?_;rw[Yh];simp
theorem zf{N:Nat}{op m d:Int}(hd:0<=d/\d<=12)(hk:0<=kr op)(RR:kr op<=d):M.jh N ((op,m):Int×Int) d=some (if op=51 then(-1,d)else if 50<=op/\op<=53 then(d-1,if op=50 then d-1 else d)else(d-ar op+1,-1)):=by
 unfold M.jh;by_cases h1:op=51
 .subst h1;rfl
 rw[if_neg (by rw[decide_eq_true_eq];exact h1),if_neg h1];by_cases h2:op=50
 .subst h2;have:(1:Int)<=d:=RR;rw[if_pos rfl,ag (by omega) (by omega)];rfl
 rw[if_neg (by rw[decide_eq_true_eq];exact h2),G8,X5];by_cases h3:op=52\/op=53
 .rw[if_pos (decide_eq_true h3),if_pos (by omega),if_neg h2,ag (by omega) (by omega)]
 rw[if_neg (by rw[decide_eq_true_eq];exact h3),if_neg (by omega),Ay,X5];have IR:=lK op
 have Mo:kr op=ar op:=by
  unfold kr at hk⊢;rw[if_neg h1,if_neg (by omega)]at hk⊢;split at hk
  .omega
  .rw[if_neg (by assumption)]
 rw[Mo]at hk RR⊢;rw[ag (n:=d-ar op) (by omega) (by omega),ag (by omega) (by omega)]
theorem zg(op:Int):kr op<0↔¬(¬cf op/\(50<=op/\op<=53\/0<=ar op)):=by
 have hz:(50<=op/\op<=53)->¬cf op:=fun h=>by unfold cf;omega
 unfold kr;by_cases h1:op=51
 .rw[if_pos h1];exact⟨fun h=>absurd h (by decide),fun g=>absurd ⟨hz (by omega), .inl (by omega)⟩ g⟩
 rw[if_neg h1];by_cases h2:50<=op/\op<=53
 .rw[if_pos h2];exact⟨fun h=>absurd h (by decide),fun g=>absurd ⟨hz h2, .inl h2⟩ g⟩
 rw[if_neg h2];by_cases h3:cf op
 .rw[if_pos h3];exact⟨fun _ g=>g.1 h3,fun _=>by decide⟩
 .rw[if_neg h3];constructor
  .intro h g
   rcases g.2 with e|e
   .exact h2 e
   .omega
  .intro g
   rcases Zb (ar op) 0 with e|e
   .exact e
   .exact absurd ⟨h3, .inr e⟩ g
theorem Hw{code:List Ty}{D:List Int}{k:Nat}{op m:Int}(hl:code.length<=128)(hk:k<code.length)(hn:idx code (k:Int)=some ((op,m):Int×Int))(hD:D.length=code.length+1)(h1:gd D k<=12):
 JP code ((k:Int),D)=some (if gd D k<0 then .inl D else if(SR code.length k op m D).1=0 then .inl (SR code.length k op m D).2 else .inr (.inr (.inr (0,(SR code.length k op m D).1)))):=by
 unfold JP;have IR:=lK op;dsimp only;rw[dD (by omega),X5];by_cases h0:gd D k<0
 .rw[if_pos (decide_eq_true h0),if_pos h0]
 rw[if_neg (by rw[decide_eq_true_eq];exact h0),if_neg h0,hn,X5];dsimp only;rw[Ay,X5,Ft,X5]
 have e0:((if(decide (kr op<(0:Int)))=true then some true else(if decide (50<=op/\op<=53)=true then(if(decide (m<=(k:Int)))=true then some true else some (decide ((code.length:Int)<m)))else some false)):Option Bool)=some (decide (¬(¬cf op/\(50<=op/\op<=53\/0<=ar op))\/((50<=op/\op<=53)/\(m<=k\/(code.length:Int)<m)))):=by
  by_cases a:kr op<0
  .rw[if_pos (decide_eq_true a)];exact congrArg some (decide_eq_true (.inl ((zg op).1 a))).symm
  .have a':¬¬(¬cf op/\(50<=op/\op<=53\/0<=ar op)):=fun g=>a ((zg op).2 g)
   rw[if_neg (by rw[decide_eq_true_eq];exact a)];by_cases b:50<=op/\op<=53
   .rw[if_pos (decide_eq_true b)]
    by_cases c:m<=(k:Int)
    .rw[if_pos (decide_eq_true c)];exact congrArg some (decide_eq_true (.inr ⟨b, .inl c⟩)).symm
    .rw[if_neg (by rw[decide_eq_true_eq];exact c)];refine congrArg some ?_;rw[Yh,decide_eq_true_eq,decide_eq_true_eq];exact⟨fun g=> .inr ⟨b, .inr g⟩,fun g=>g.elim (fun e=>absurd e a') fun e=>e.2.elim (fun f=>absurd f c) id⟩
   .rw[if_neg (by rw[decide_eq_true_eq];exact b)];refine congrArg some (decide_eq_false ?_).symm
    exact fun g=>g.elim (fun e=>a' e) fun e=>b e.1
 rw[e0,X5];unfold SR;by_cases c:¬(¬cf op/\(50<=op/\op<=53\/0<=ar op))\/((50<=op/\op<=53)/\(m<=k\/(code.length:Int)<m))
 .simp only[if_pos (decide_eq_true c),if_pos c];rfl
 have J6:0<=kr op:=by
  rcases Zb (kr op) 0 with e|e
  .exact absurd (.inl ((zg op).1 e)) c
  .exact e
 simp only[if_neg (show¬decide (¬(¬cf op/\(50<=op/\op<=53\/0<=ar op))\/((50<=op/\op<=53)/\(m<=k\/(code.length:Int)<m)))=true by rw[decide_eq_true_eq];exact c),if_neg c,dD (show k<D.length by omega),X5]
 have hm:(50<=op/\op<=53)->∃t:Nat,m=t/\t<D.length:=fun hj=>⟨m.toNat,by omega,by omega⟩
 by_cases gW:op=51
 .subst gW;obtain⟨t,rfl,ht⟩:=hm (by omega);have IV:kr 51=0:=rfl;rw[IV,if_neg (by rw[decide_eq_true_eq];omega),zf (by omega) (by rw[IV];omega) (by rw[IV];omega),if_pos rfl,X5];dsimp only;rw[if_neg (show¬decide ((12:Int)< -1)=true by decide),if_neg (show¬decide ((0:Int)<=-1)=true by decide)]
  show((if decide (0<=gd D k)=true then _ else _):Option _)=_
  rw[if_pos (decide_eq_true (by omega)),Hv ht,X5,dD ht];unfold xq;simp only[if_true,Yg];by_cases g:0<=gd D t/\gd D t≠gd D k
  .simp only[if_pos (decide_eq_true g),if_pos g];rfl
  .simp only[if_neg (show¬decide (0<=gd D t/\gd D t≠gd D k)=true by rw[decide_eq_true_eq];exact g),if_neg g];rfl
 by_cases hj:50<=op/\op<=53
 .obtain⟨t,rfl,ht⟩:=hm hj
  have IV:kr op=1:=by unfold kr;rw[if_neg gW,if_pos hj]
  simp only[if_neg gW,if_pos hj,Yg];rw[IV];by_cases h5:gd D k<1
  .rw[if_pos (decide_eq_true h5),if_pos h5];rfl
  rw[if_neg (by rw[decide_eq_true_eq];exact h5),if_neg h5,zf (by omega) (by omega) (by omega),if_neg gW,if_pos hj,X5];dsimp only;rw[if_neg (by rw[decide_eq_true_eq];omega),if_pos (decide_eq_true (by omega)),al (by omega),Hv (by omega),X5];by_cases g:0<=gd D (k+1)/\gd D (k+1)≠gd D k-1
  .have er:xq D (k+1) (gd D k-1)=(9,D):=if_pos g;rw[if_pos (decide_eq_true g),er];rfl
  .have er:xq D (k+1) (gd D k-1)=(0,D.set (k+1) (gd D k-1)):=if_neg g;rw[if_neg (by rw[decide_eq_true_eq];exact g),er,dD (by omega),X5];dsimp only;rw[if_pos rfl]
   have hd:0<=(if op=50 then gd D k-1 else gd D k):=by split<;>omega
   generalize(if op=50 then gd D k-1 else gd D k)=d at hd⊢
   show((if decide (0<=d)=true then _ else _):Option _)=_
   have es:aQ D ((k+1:Nat):Int) (gd D k-1)=D.set (k+1) (gd D k-1):=rfl;rw[if_pos (decide_eq_true hd),es]
   have xT:t<(D.set (k+1) (gd D k-1)).length:=by simpa using ht
   generalize D.set (k+1) (gd D k-1)=D' at xT⊢;rw[Hv xT,X5,dD xT];unfold xq;by_cases g2:0<=gd D' t/\gd D' t≠d
   .simp only[if_pos (decide_eq_true g2),if_pos g2];rfl
   .simp only[if_neg (show¬decide (0<=gd D' t/\gd D' t≠d)=true by rw[decide_eq_true_eq];exact g2),if_neg g2];rfl
 .have Mo:kr op=ar op:=by
   unfold kr at J6⊢;rw[if_neg gW,if_neg hj]at J6⊢;split at J6
   .omega
   .rw[if_neg (by assumption)]
  simp only[if_neg gW,if_neg hj];rw[Mo]at J6⊢;by_cases h5:gd D k<ar op
  .rw[if_pos (decide_eq_true h5),if_pos h5];rfl
  rw[if_neg (by rw[decide_eq_true_eq];exact h5),if_neg h5,zf (by omega) (by rw[Mo];omega) (by rw[Mo];omega),if_neg gW,if_neg hj,X5];dsimp only;by_cases Hu:12<gd D k-ar op+1
  .rw[if_pos (decide_eq_true Hu),if_pos Hu];rfl
  rw[if_neg (by rw[decide_eq_true_eq];exact Hu),if_neg Hu,if_pos (decide_eq_true (by omega)),al (by omega),Hv (by omega),X5];generalize gd D k-ar op+1=d;by_cases g:0<=gd D (k+1)/\gd D (k+1)≠d
  .have er:xq D (k+1) d=(9,D):=if_pos g;rw[if_pos (decide_eq_true g),er];rfl
  .have er:xq D (k+1) d=(0,D.set (k+1) d):=if_neg g;rw[if_neg (by rw[decide_eq_true_eq];exact g),er,dD (by omega),X5];rfl
theorem Az{S S' J J' R:Type}{b:S->Option (S⊕(J⊕R))}{b':S'->Option (S'⊕(J'⊕R))}{k:J->Option R}{k':J'->Option R}{A:Type}(acc:R->Option A)(φ:S->S')(ψ:J->J')(I:S->Prop)(P:J->Prop)
 (h:∀s,I s->b' (φ s)=(b s).map (Sum.map φ (Sum.map ψ id)))(hI:∀s s',I s->b s=some (.inl s')->I s')(hP:∀s j,I s->b s=some (.inr (.inl j))->P j)(hk:∀j,P j->(k' (ψ j)).bind acc=(k j).bind acc):
 ∀(N:Nat)(s:S),I s->(da (Loop b' N (φ s)) k').bind acc=(da (Loop b N s) k).bind acc
 |0,_,_=>rfl
 |N+1,s,hs=>by
  unfold Loop;rw[h s hs]
  cases hb:b s with
  |none=>rfl
  |some x=>cases x with
   |inl s'=>exact Az acc φ ψ I P h hI hP hk N s' (hI s s' hs hb)
   |inr x=>cases x with
    |inl j=>exact hk j (hP s j hs hb)
    |inr r=>rfl
theorem rC{code:List Ty}:M.ed az code=M.bE az code:=by
 unfold M.ed M.bE M.kG M.cX;by_cases h1:128<(code.length:Int)
 .simp only[decide_eq_true h1,if_true]
 simp only[decide_eq_false h1,X8,if_false];by_cases h2:(code.length:Int)=0
 .simp only[decide_eq_true h2,if_true]
 simp only[decide_eq_false h2,X8,if_false]
 have hl:code.length<=128:=by omega
 have hp:0<code.length:=by omega
 rw[al (by omega)]
 have yA:rK ((code.length+1:Nat):Int) (0:Int)=some (Yf (code.length+1) 0):=by
  unfold rK;rw[if_pos (by omega),Yg]
 rw[yA,X5,X5]
 have p1:Loop (S:=Int×List Int) (X:=List Int) (fun s3=>(if(decide (s3.1<((Yf (code.length+1) (0:Int)).length:Int)))=true then(idx s3.2 s3.1).bind fun x4=>some (YT (X6.wrap (s3.1+(1:Int)),aQ s3.2 s3.1 (-1:Int)))else some (Yv s3.2))) az ((0:Int),Yf (code.length+1) (0:Int))=some (Yf (code.length+1) (-1:Int)):=by
  apply Wp.eq;refine Wp.loop (fun s:Int×List Int=>∃k m:Nat,s=((k:Int),Yf k (-1)++Yf m 0)/\k+m=code.length+1) (fun s=>(code.length+1-s.1).toNat) ⟨0,code.length+1,by simp,by omega⟩ (by unfold az;simp only;omega) ?_
  rintro _ ⟨k,m,rfl,hk⟩
  simp only[List.length_replicate]
  refine Wp.dec (fun h=>?_) fun h=> .some ?_
  .obtain⟨m,rfl⟩:∃m',m=m'+1:=⟨m-1,by omega⟩
   rw[ax (by simp)];simp only[X5];rw[al (by omega)];refine .some ⟨⟨k+1,m,?_,by omega⟩,by simp only;omega⟩;refine Prod.ext rfl ?_;simp only[aQ,Yg];rw[List.set_append_right _ _ (by simp),YX];simp[List.replicate_succ']
  .obtain rfl:m=0:=by omega
   obtain rfl:k=code.length+1:=by omega
   show _=_
   simp
 have p2:Loop (S:=Int×List Int) (X:=List Int) (fun s3=>(if(decide (s3.1<=(code.length:Int)))=true then(idx s3.2 s3.1).bind fun x4=>some (YT (X6.wrap (s3.1+(1:Int)),aQ s3.2 s3.1 (-1:Int)))else some (Yv s3.2))) az ((1:Int),Yf (code.length+1) (0:Int))=some (0::Yf code.length (-1:Int)):=by
  apply Wp.eq;refine Wp.loop (fun s:Int×List Int=>∃k m:Nat,s=(((k+1:Nat):Int),0::(Yf k (-1)++Yf m 0))/\k+m=code.length) (fun s=>(code.length+1-s.1).toNat) ⟨0,code.length,by simp[YX],by omega⟩ (by unfold az;simp only;omega) ?_
  rintro _ ⟨k,m,rfl,hk⟩
  simp only
  refine Wp.dec (fun h=>?_) fun h=> .some ?_
  .obtain⟨m,rfl⟩:∃m',m=m'+1:=⟨m-1,by omega⟩
   rw[ax (by simp)];simp only[X5];rw[al (by omega)];refine .some ⟨⟨k+1,m,?_,by omega⟩,by simp only;omega⟩;refine Prod.ext rfl ?_;simp only[aQ,Yg,List.set_cons_succ];rw[List.set_append_right _ _ (by simp),YX];simp[List.replicate_succ']
  .obtain rfl:m=0:=by omega
   obtain rfl:k=code.length:=by omega
   show _=_
   simp
 rw[p1,p2,X5,X5]
 have e1:idx (Yf (code.length+1) (-1:Int)) 0=some (-1):=by rw[YX];rfl
 rw[e1,X5]
 have e0:aQ (Yf (code.length+1) (-1:Int)) (0:Int) (0:Int)=0::Yf code.length (-1:Int):=by rw[YX];rfl
 rw[e0]
 have g0:∀k,gd (0::Yf code.length (-1:Int)) k=if k=0 then 0 else-1:=fun k=>by
  cases k with
  |zero=>rfl
  |succ k=>
   have:=zc code.length k;rw[if_neg (by omega)];exact this
 refine Az (fun y:Int×Int=>some (decide (y.2=0))) (fun s:Int×Int×List Int=>(s.2.1,s.2.2)) (fun j:Int×List Int=>j.2) (fun s=>∃k:Nat,s.2.1=k/\k<=code.length/\s.2.2.length=code.length+1/\Bd s.2.2) (fun j=>j.2.length=code.length+1) ?_ ?_ ?_ ?_ az (0,0,0::Yf code.length (-1:Int)) ?_
 .rintro⟨g,_,D⟩ ⟨k,rfl,hk,hD,hB⟩
  dsimp only at hD hB⊢;by_cases h:(k:Int)<(code.length:Int)
  .rw[if_pos (decide_eq_true h),if_pos (decide_eq_true h)]
   have cx:k<code.length:=by omega
   have hn:=ax cx;generalize code[k]=n at hn;obtain⟨(op:Int),(m:Int)⟩:=n
   show da (JP code ((k:Int),D)) _=_
   rw[Hw hl cx hn hD (hB k).2,hn,X5,dD (by omega),X5];by_cases h0:gd D k<0
   .rw[if_pos h0,if_pos (decide_eq_true h0)];rfl
   .have hd:=decide_eq_false h0;simp only[if_neg h0,hd,X8,if_false,X5];rw[step_eq az hl cx hD (by omega) (hB k).2,X5];by_cases hr:(SR code.length k op m D).1=0
    .have gU:=decide_eq_true hr;simp only[if_pos hr,gU,Yp,X8,if_false];rfl
    .have gU:=decide_eq_false hr;simp only[if_neg hr,gU,YC,if_true];rfl
  .rw[if_neg (by rw[decide_eq_true_eq];exact h),if_neg (by rw[decide_eq_true_eq];exact h)];rfl
 .rintro⟨g,_,D⟩ s' ⟨k,rfl,hk,hD,hB⟩ hb
  dsimp only at hD hB hb;by_cases h:(k:Int)<(code.length:Int)
  .rw[if_pos (decide_eq_true h)]at hb
   have cx:k<code.length:=by omega
   have gw:=An (N:=az) hl cx hD hB;have hn:=ax cx;generalize code[k]=n at hn gw;obtain⟨(op:Int),(m:Int)⟩:=n;rw[hn,X5,dD (by omega),X5]at hb;by_cases h0:gd D k<0
   .rw[if_pos (decide_eq_true h0)]at hb;obtain rfl:=Zs (X7 hb);exact⟨k+1,al (by omega),cx,hD,hB⟩
   .rw[if_neg (by rw[decide_eq_true_eq];exact h0),X5,step_eq az hl cx hD (by omega) (hB k).2,X5]at hb;obtain⟨r,hr,G5⟩:=gw (by omega);rw[step_eq az hl cx hD (by omega) (hB k).2]at hr;obtain rfl:=X7 hr;by_cases hr:(SR code.length k op m D).1=0
    .rw[if_neg (by rw[decide_eq_true hr];decide)]at hb;obtain rfl:=Zs (X7 hb);obtain⟨a1,a2,_⟩:=G5 hr;exact⟨k+1,al (by omega),cx,a1.len.trans hD,a2⟩
    .rw[if_pos (by rw[decide_eq_false hr];decide)]at hb;cases hb
  .rw[if_neg (by rw[decide_eq_true_eq];exact h)]at hb;cases hb
 .rintro⟨g,_,D⟩ j ⟨k,rfl,hk,hD,hB⟩ hb
  dsimp only at hD hB hb;by_cases h:(k:Int)<(code.length:Int)
  .rw[if_pos (decide_eq_true h)]at hb
   have cx:k<code.length:=by omega
   have hn:=ax cx;generalize code[k]=n at hn;obtain⟨(op:Int),(m:Int)⟩:=n;rw[hn,X5,dD (by omega),X5]at hb;by_cases h0:gd D k<0
   .rw[if_pos (decide_eq_true h0)]at hb;cases hb
   .rw[if_neg (by rw[decide_eq_true_eq];exact h0),X5,step_eq az hl cx hD (by omega) (hB k).2,X5]at hb;by_cases hr:(SR code.length k op m D).1=0
    .rw[if_neg (by rw[decide_eq_true hr];decide)]at hb;cases hb
    .rw[if_pos (by rw[decide_eq_false hr];decide)]at hb;cases hb
  .rw[if_neg (by rw[decide_eq_true_eq];exact h)]at hb;obtain rfl:=Zs (Sum.inr.inj (X7 hb));exact hD
 .rintro⟨g,D⟩ hD
  dsimp only at hD⊢
  obtain⟨M0,hM⟩:∃M0,Loop (S:=Int×Int) (X:=Int) (fun ta=>(if(decide (ta.2<=(code.length:Int)))=true then(idx D ta.2).bind fun Ih=>some (YT (if ta.1<Ih then Ih else ta.1,X6.wrap (ta.2+(1:Int))))else some (Yv ta.1))) az ((0:Int),(0:Int))=some M0:=by
   have key:Wp (Loop (S:=Int×Int) (X:=Int) (fun ta=>(if(decide (ta.2<=(code.length:Int)))=true then(idx D ta.2).bind fun Ih=>some (YT (if ta.1<Ih then Ih else ta.1,X6.wrap (ta.2+(1:Int))))else some (Yv ta.1))) az ((0:Int),(0:Int))) fun _=>True:=by
    refine Wp.loop (fun s:Int×Int=>∃k:Nat,s.2=k/\k<=code.length+1) (fun s=>(code.length+1-s.2).toNat) ⟨0,rfl,Yk _⟩ (by unfold az;simp only;omega) ?_
    rintro⟨g,_⟩ ⟨k,rfl,hk⟩
    refine Wp.dec (fun h=>?_) fun h=> .some trivial
    dsimp only at h⊢;rw[dD (show k<D.length by omega),X5,al (by omega)];exact .some ⟨⟨k+1,rfl,by omega⟩,by simp only;omega⟩
   obtain⟨x,e,_⟩:=key;exact⟨x,e⟩
  simp only[hM,dD (show code.length<D.length by omega),X5];by_cases h3:gd D code.length<1
  .have d1:=decide_eq_true h3;have d2:=decide_eq_true (show gd D code.length<=0 by omega);simp only[d1,d2,if_true,X5]
  .have d1:=decide_eq_false h3;have d2:=decide_eq_false (show¬gd D code.length<=0 by omega);simp only[d1,d2,X8,if_false];by_cases h4:1<gd D code.length
   .have d3:=decide_eq_true h4;simp only[d3,if_true,X5]
   .have d3:=decide_eq_false h4;simp only[d3,X8,if_false,X5]
 .exact⟨0,rfl,Yk _,by simp,fun k=>by show-1<=gd (0::Yf code.length (-1:Int)) k/\gd (0::Yf code.length (-1:Int)) k<=12;rw[g0];split<;>omega⟩
end L
end Go.Proofs.YtlfjlhcigpejdaaGreatDoor
end
section
open _root_.Bool renaming eq_iff_iff->Yh,false_eq_true->X8,not_false->YC,not_true->Yp
open _root_.Int renaming toNat_natCast->Yg
open _root_.List renaming getElem?_eq_getElem->X9
open _root_.Nat renaming le_refl->Yd,zero_le->Yk
open _root_.Option renaming bind_eq_some_iff->Yx,bind_some->X5
open _root_.Option.some renaming inj->X7
open _root_.Sum.inl renaming inj->Zs
namespace Go.Proofs.YtlfjlhcigpejdaaGreatDoor
open Go Go.RowKit
set_option maxRecDepth 100000
set_option linter.unusedVariables false
set_option linter.unusedSimpArgs false
namespace L
theorem rD(N:Nat)(op:Int):M.dQ N op=some (decide (50<=op/\op<=53)):=by
 unfold M.dQ;simp only[ak,X5,eQ];refine congrArg some ?_;rw[Yh];simp;omega
theorem uR{code:List Ty}(hl:code.length<=1000):eW ([]:List Ty) code=some code:=by
 rw[dG (by simp;omega),List.nil_append]
theorem rE(code:List Ty):∃b,M.bE az code=some b/\(b=true↔∃F,Fits code F):=by
 obtain⟨b,h,g⟩:=jE code;exact⟨b,h,g⟩
theorem jk{S X:Type}{body body':S->Option (S⊕X)}(I:S->Prop)(h:∀s,I s->body' s=body s)(hI:∀s s',I s->body s=some (.inl s')->I s'):∀(N:Nat)(s:S),I s->Loop body' N s=Loop body N s
 |0,_,_=>rfl
 |N+1,s,hs=>by
  unfold Loop;rw[h s hs]
  cases hb:body s with
  |none=>rfl
  |some x=>cases x with
   |inl s'=>exact jk I h hI N s' (hI s s' hs hb)
   |inr x=>rfl
theorem xr{code:List Ty}(hl:code.length<=1000):M.eT az code=M.bo az code:=by
 unfold M.eT M.bo;obtain⟨b,hb,_⟩:=rE code;rw[kl hl,uR hl,X5,X5,rC,hb,X5,X5]
 cases b with
 |false=>simp only[YC,if_true]
 |true=>
  simp only[Yp,X8,if_false];refine jk (fun s:Int×List Ty=>∃k:Nat,s.1=k/\k<=code.length/\s.2.length=code.length/\∀j,k<=j->s.2[j]? =code[j]?) ?_ ?_ az ((0:Int),code) ⟨0,rfl,Yk _,rfl,fun _ _=>rfl⟩
  .rintro⟨_,out⟩ ⟨k,rfl,hk,ho,hj⟩
   dsimp only at ho hj⊢;by_cases h:(k:Int)<(code.length:Int)
   .have cx:k<code.length:=by omega
    have h':(k:Int)<(out.length:Int):=by omega
    have e1:=hj k (Yd _);rw[X9 (by omega),X9 cx]at e1;have e1:=X7 e1;have i1:=ax cx;have i2:=ax (l:=out) (k:=k) (by omega);rw[e1]at i2;generalize code[k]=n at i1 i2;simp only[decide_eq_true h,decide_eq_true h',if_true,i1,i2,X5,dz,rD]
   .have h':¬(k:Int)<(out.length:Int):=by omega
    simp only[decide_eq_false h,decide_eq_false h',X8,if_false]
  .rintro⟨_,out⟩ s' ⟨k,rfl,hk,ho,hj⟩ hb
   dsimp only at ho hj hb;by_cases h:(k:Int)<(code.length:Int)
   .have cx:k<code.length:=by omega
    have e1:=hj k (Yd _);rw[X9 (by omega),X9 cx]at e1;have e1:=X7 e1;have i1:=ax cx;have i2:=ax (l:=out) (k:=k) (by omega);rw[e1]at i2;generalize code[k]=n at i1 i2;simp only[decide_eq_true h,if_true,i1,i2,X5,dz]at hb;by_cases RT:50<=(n.1:Int)/\(n.1:Int)<=53
    .have dj:=decide_eq_true RT;simp only[dj,Yp,X8,if_false]at hb;obtain⟨j4,h4,hb⟩:=Yx.1 hb;obtain⟨j5,h5,h4⟩:=Yx.1 h4;obtain⟨T,_,h5⟩:=Yx.1 h5;obtain rfl:=Zs (X7 hb);obtain rfl:=X7 h4;obtain rfl:=X7 h5;refine⟨k+1,al (by omega),cx,by simp[aQ,ho],fun j QE=>?_⟩
     show(out.set ((k:Int)).toNat _)[j]? =_
     rw[Yg,List.getElem?_set_ne (by omega)];exact hj j (by omega)
    .have dj:=decide_eq_false RT;simp only[dj,YC,if_true]at hb;obtain rfl:=Zs (X7 hb);exact⟨k+1,al (by omega),cx,ho,fun j QE=>hj j (by omega)⟩
   .simp only[decide_eq_false h,X8,if_false]at hb;cases hb
end L
end Go.Proofs.YtlfjlhcigpejdaaGreatDoor
end
section
open _root_.Bool renaming false_eq_true->X8,not_false->YC,not_true->Yp
open _root_.Int renaming toNat_natCast->Yg
open _root_.Go.IntKind renaming i64->X6
open _root_.List renaming getD->Y3,getElem?_append_left->YI,getElem?_append_right->YP,getElem?_eq_getElem->X9,getElem?_eq_some_iff->Yc,replicate->Yf,replicate_succ->YX
open _root_.Nat renaming le_refl->Yd,lt_or_ge->YN,zero_le->Yk
open _root_.Option renaming bind_eq_some_iff->Yx,bind_some->X5,getD_some->Zt
open _root_.Option.some renaming inj->X7
open _root_.Sum renaming inl->YT,inr->Yv
open _root_.Sum.inl renaming inj->Zs
namespace Go.Proofs.YtlfjlhcigpejdaaGreatDoor
open Go Go.RowKit
set_option maxRecDepth 100000
set_option linter.unusedVariables false
set_option linter.unusedSimpArgs false
namespace L
theorem rF{J R:Type}(j:J)(k:J->Option R):da (some (YT j)) k=k j:=rfl
theorem n5{J R:Type}(r:R)(k:J->Option R):da (some (Yv r)) k=some r:=rfl
theorem AA{α:Type}{l:List α}{i:Int}(h:¬(0<=i/\i<l.length)):idx l i=none:=by
 cases hx:idx l i with
 |none=>rfl
 |some x=>
  obtain⟨g,_⟩:=(EP (Q:=fun y=>y=x)).1 ⟨x,hx,rfl⟩;exact absurd g h
theorem CB{l:List Bool}{a:Nat}{z:Int}(ha:a<l.length){X:Type}(f:List Bool->Option X):
 ((idx l (a:Int)).bind fun _=>(idx (aQ l (a:Int) true) z).bind fun _=>f (aQ (aQ l (a:Int) true) z true))=((idx l z).bind fun _=>(idx (aQ l z true) (a:Int)).bind fun _=>f (aQ (aQ l z true) (a:Int) true)):=by
 by_cases hz:0<=z/\z<l.length
 .obtain⟨t,rfl⟩:∃t:Nat,z=t:=⟨z.toNat,by omega⟩
  have ht:t<l.length:=by omega
  rw[ax ha,ax ht,ax (show t<(aQ l (a:Int) true).length by simp[aQ];exact ht),ax (show a<(aQ l (t:Int) true).length by simp[aQ];exact ha)];simp only[X5];refine congrArg f ?_;unfold aQ;rw[Yg,Yg];by_cases e:a=t
  .subst e;rfl
  .exact List.set_comm _ _ e
 .rw[ax ha,AA hz,AA (show¬(0<=z/\z<(aQ l (a:Int) true).length) by simp only[aQ,List.length_set];exact hz)];rfl
theorem zh(code:List Ty)(hl:code.length<=1000):M.cc az code=(M.dF az code).bind fun j3=>(fO j3 (0:Int) (code.length:Int)).bind fun Jh=>some Jh:=by
 unfold M.cc M.dF;rw[al (by omega)]
 have yA:rK ((code.length+1:Nat):Int) false=some (Yf (code.length+1) false):=by
  unfold rK;rw[if_pos (by omega),Yg]
 have e1:idx (Yf (code.length+1) false) 0=some false:=by rw[YX];rfl
 rw[yA,X5,X5,e1,X5,X5];refine congrArg (fun o=>Option.bind o fun j3=>(fO j3 (0:Int) (code.length:Int)).bind fun Jh=>some Jh) ?_
 symm
 refine jk (fun s:Int×List Bool=>∃k:Nat,s.1=k/\k<=code.length/\s.2.length=code.length+1) ?_ ?_ az _ ⟨0,rfl,Yk _,by simp[aQ]⟩
 .rintro⟨_,l⟩ ⟨k,rfl,hk,n6⟩
  dsimp only at n6⊢;by_cases h:(k:Int)<(code.length:Int)
  .have cx:k<code.length:=by omega
   have i1:=ax cx;have i2:=iM (l:=l) (t:=k) (by omega);generalize code[k]=n at i1;simp only[decide_eq_true h,if_true,i1,i2,X5,dz,rD]
   cases gb l k with
   |false=>simp only[YC,if_true]
   |true=>
    simp only[Yp,X8,if_false];rw[al (by omega)];have i3:=iM (l:=l) (t:=k+1) (by omega);by_cases hj:50<=(n.1:Int)/\(n.1:Int)<=53
    .have dj:=decide_eq_true hj;simp only[dj,if_true];by_cases gW:(n.1:Int)=51
     .have d51:=decide_eq_true gW;simp only[d51,Yp,X8,if_false,X5]
      cases idx l n.2<;>rfl
     .have d51:=decide_eq_false gW;simp only[d51,YC,if_true];have:=CB (l:=l) (a:=k+1) (z:=n.2) (by omega) (fun o=>some (YT (((k+1:Nat):Int),o):(Int×List Bool)⊕List Bool));have h2:=this.symm;simp only[i3,X5]at h2⊢
      cases hz:idx l n.2 with
      |none=>
       rw[hz]at h2
       cases tK:idx (aQ l ((k+1:Nat):Int) true) n.2 with
       |none=>rfl
       |some x=>rw[tK]at h2;cases h2
      |some y=>
       rw[hz]at h2;simp only[X5]at h2⊢
       cases tK:idx (aQ l n.2 true) ((k+1:Nat):Int)with
       |none=>
        rw[tK]at h2
        cases M5:idx (aQ l ((k+1:Nat):Int) true) n.2 with
        |none=>rfl
        |some x=>rw[M5]at h2;cases h2
       |some x=>
        rw[tK]at h2
        cases M5:idx (aQ l ((k+1:Nat):Int) true) n.2 with
        |none=>rw[M5]at h2;cases h2
        |some w=>rw[M5]at h2;exact h2
    .have dj:=decide_eq_false hj
     have gW:¬(n.1:Int)=51:=fun e=>hj ⟨by rw[e];decide,by rw[e];decide⟩
     have d51:=decide_eq_false gW;simp only[dj,d51,YC,if_true,X8,if_false,X5,i3]
  .simp only[decide_eq_false h,X8,if_false]
 .rintro⟨_,l⟩ s' ⟨k,rfl,hk,n6⟩ hb
  dsimp only at n6 hb;by_cases h:(k:Int)<(code.length:Int)
  .have cx:k<code.length:=by omega
   have i1:=ax cx;have i2:=iM (l:=l) (t:=k) (by omega);generalize code[k]=n at i1;simp only[decide_eq_true h,if_true,i1,i2,X5,dz]at hb;obtain⟨l',h1,hb⟩:=Yx.1 hb;obtain rfl:=Zs (X7 hb);refine⟨k+1,al (by omega),cx,?_⟩
   show l'.length=_
   revert h1
   cases gb l k with
   |false=>
    simp only[YC,if_true];intro h1;obtain rfl:=X7 h1;exact n6
   |true=>
    simp only[Yp,X8,if_false];intro h1;obtain⟨l2,h2,h1⟩:=Yx.1 h1
    have FL:l2.length=code.length+1:=by
     by_cases gW:(n.1:Int)=51
     .simp only[decide_eq_true gW,Yp,X8,if_false]at h2;obtain rfl:=X7 h2;exact n6
     .simp only[decide_eq_false gW,YC,if_true]at h2;obtain⟨_,_,h2⟩:=Yx.1 h2;obtain rfl:=X7 h2;simp[aQ,n6]
    by_cases hj:50<=(n.1:Int)/\(n.1:Int)<=53
    .simp only[decide_eq_true hj,if_true]at h1;obtain⟨_,_,h1⟩:=Yx.1 h1;obtain rfl:=X7 h1;simp[aQ,FL]
    .simp only[decide_eq_false hj,X8,if_false]at h1;obtain rfl:=X7 h1;exact FL
  .simp only[decide_eq_false h,X8,if_false]at hb;cases hb
theorem contains_iff{K:List Bool}(hl:K.length<=1000):Wp (M.aT az K false) fun b=>(b=true↔∃i,i<K.length/\gb K i=false):=by
 unfold M.aT M.dc
 refine Wp.seq (fun r:Int=>0<=r↔∃i,i<K.length/\gb K i=false) ?_ fun r hr=> .some (by rw[<-hr,decide_eq_true_eq])
 refine Wp.loop (fun s:Int=>∃i:Nat,s=i/\i<=K.length/\∀j,j<i->gb K j=true) (fun s=>(K.length-s).toNat) ⟨0,rfl,Yk _,fun j h=>by omega⟩ (by unfold az;omega) ?_
 rintro _ ⟨i,rfl,hi,hn⟩
 refine Wp.dec (fun h=>?_) fun h=> .some ⟨fun h=>absurd h (by decide),fun⟨j,hj,hg⟩=>?_⟩
 .have dA:i<K.length:=by omega
  rw[iM dA];simp only[X5]
  refine Wp.dec (fun h1=> .some ⟨fun _=>⟨i,dA,h1.symm⟩,fun _=>Int.natCast_nonneg i⟩) fun h1=> .some ?_
  rw[al (by omega)];refine⟨⟨i+1,rfl,dA,fun j hj=>?_⟩,by simp only;omega⟩
  rcases YN j i with g|g
  .exact hn j g
  .have:j=i:=by omega
   subst this
   cases hg:gb K j with
   |true=>rfl
   |false=>exact absurd hg.symm h1
 .have:=hn j (by omega);rw[hg]at this;cases this
theorem zi{K:List Bool}:∀{j:Nat},(∀i,i<j->gb K i=true)->ct K j=j
 |0,_=>rfl
 |j+1,h=>by
  rw[ct,if_pos (h j (Nat.lt_succ_self j)),zi fun i hi=>h i (by omega)]
theorem Fu{α:Type}{g:Nat->α}{K:List Bool}:∀{j:Nat},(∀i,i<j->gb K i=true)->kp g K j=(List.range j).map g
 |0,_=>rfl
 |j+1,h=>by
  rw[kp,if_pos (h j (Nat.lt_succ_self j)),Fu fun i hi=>h i (by omega),List.range_succ,List.map_append];rfl
def M6(code:List Ty)(K:List Bool):Prop:=∀(i:Nat)n,code[i]? =some n->gb K i=true->fX n->∃t:Nat,(n.2:Int)=t/\t<=code.length
theorem Hx{code:List Ty}{K:List Bool}(h:∀i,i<code.length->gb K i=true)(hj:M6 code K):rem code K=code:=by
 unfold rem;rw[Fu h];apply List.ext_getElem (by simp);intro i h1 h2;have hi:i<code.length:=h2;have hge:=X9 hi;rw[List.getElem_map,List.getElem_map,List.getElem_range]
 have s8:code.getD i ((0,0):Int×Int)=code[i]:=by simp only[Y3,hi,X9,Zt]
 rw[s8];generalize code[i]=n at hge;unfold rj;by_cases MH:fX n
 .rw[if_pos MH];obtain⟨t,ht,zA⟩:=hj i n hge (h i hi) MH;rw[ht,Yg,zi fun j hj=>h j (by omega),<-ht]
 .rw[if_neg MH]
noncomputable def It(s4:List aa.den)(y5:List Bool):Option (List Bool):=
 (Loop (S:=Int×List Bool) (X:=List Bool) (fun s7=>
(if(decide (s7.1<(s4.length:Int)))=true then
((idx s4 s7.1).bind fun x9=>
((if(decide (x9.1=(51:Int)))=true then
some (decide (x9.2=(X6.wrap (s7.1+(1:Int)))))
else
some false):Option (Bool)).bind fun yJ=>
(if yJ=true then
(idx s7.2 s7.1).bind fun pi=>
some (aQ s7.2 s7.1 false)
else
some s7.2):Option (List Bool)).bind fun j8=>
some (YT (X6.wrap (s7.1+(1:Int)),j8))
else
some (Yv s7.2))) az ((0:Int),y5):Option (List Bool))
theorem Hy{code:List Ty}{l:List Bool}(hle:code.length<=1000)(QM:l.length=code.length+1):Wp (It code (l.take code.length)) (KL code l):=by
 unfold It;refine Wp.loop (fun s:Int×List Bool=>∃i:Nat,s.1=i/\i<=code.length/\s.2.length=code.length/\(∀(j:Nat)n,j<i->code[j]? =some n->(gb s.2 j=true↔gb l j=true/\¬gX n j))/\∀j,i<=j->j<code.length->gb s.2 j=gb l j) (fun s=>(code.length-s.1).toNat) ⟨0,rfl,Yk _,by simp;omega,fun j n h=>by omega,fun j _ hj=>?_⟩ (by unfold az;simp only;omega) ?_
 .show gb (l.take code.length) j=gb l j
  unfold gb;rw[Y3,Y3,List.getElem?_take_of_lt hj]
 rintro⟨_,K⟩ ⟨i,rfl,hi,FQ,hd,hr⟩
 dsimp only at FQ hd hr⊢
 refine Wp.dec (fun h=>?_) fun h=> .some ⟨FQ,fun j n hn=>hd j n ?_ hn⟩
 case refine_2=>
  have:=(Yc.1 hn).1;omega
 have dA:i<code.length:=by omega
 have hge:=X9 dA;rw[ax dA];generalize code[i]=n at hge⊢;simp only[X5]
 refine Wp.seq (fun o=>o.length=code.length/\(gb o i=true↔gb l i=true/\¬gX n i)/\∀j,j≠i->gb o j=gb K j) ?_ fun o ho=> .some ?_
 .refine Wp.seq (fun b=>b=decide (gX n i)) ?_ fun b hb=>?_
  .rw[al (by omega)]
   refine Wp.dec (fun h1=> .some ?_) fun h1=> .some ?_
   .unfold gX
    by_cases h2:(n.2:Int)=((i+1:Nat):Int)
    .simp[h1,h2]
    .simp[h1,h2]
   .unfold gX;simp[h1]
  .subst hb
   refine Wp.dec (fun h1=>?_) fun h1=> .some ⟨FQ,?_,fun _ _=>rfl⟩
   .rw[iM (by omega)];simp only[X5];refine .some ⟨by simp[aQ,FQ],?_,fun j hj=>?_⟩
    .show gb (K.set i false) i=true↔_
     rw[kR (by omega),if_pos rfl];simp[h1]
    .show gb (K.set i false) j=gb K j
     rw[kR (by omega),if_neg hj]
   .rw[hr i (Yd _) dA];simp[h1]
 .obtain⟨o1,o2,o3⟩:=ho;rw[al (by omega)];refine⟨⟨i+1,rfl,dA,o1,fun j m hj hm=>?_,fun j hj CJ=>?_⟩,by simp only;omega⟩
  .by_cases e:j=i
   .subst e;rw[hge]at hm;obtain rfl:=X7 hm;exact o2
   .show gb o j=true↔_
    rw[o3 j e];exact hd j m (by omega) hm
  .show gb o j=gb l j
   rw[o3 j (by omega)];exact hr j (by omega) CJ
theorem Fv{code:List Ty}{F:List Int}(f:Fits code F)(hw:∀n∈code,WF aa n):∃l K,M.dF az code=some l/\code.length<=l.length/\K.length=code.length/\(∀(i:Nat)n,code[i]? =some n->(gb K i=true↔gb l i=true/\¬gX n i))/\M6 code K/\
 rB code=some (if ct K code.length=code.length then .inr code else .inl (rem code K)):=by
 have hle:=f.le;obtain⟨y,hy,l0,r,rfl⟩:=nZ f;have hb:=zh code (by omega);rw[hy]at hb;obtain⟨l,hl,hb⟩:=Yx.1 hb.symm;obtain⟨c,hc,hb⟩:=Yx.1 hb;obtain rfl:=X7 hb;obtain⟨⟨_,_,h1⟩,h2⟩:=(Jq (Q:=fun y=>y=l0.take code.length)).1 ⟨_,hc,rfl⟩
 have n6:code.length<=l.length:=by omega
 rw[Yg]at h2;have h2:l.take code.length=l0.take code.length:=h2
 have Jc:∀i,i<code.length->gb l i=gb l0 i:=by
  intro i hi;have e:=congrArg (fun x=>Y3 x i false) h2;simp only[Y3,List.getElem?_take_of_lt hi]at e;exact e
 obtain⟨K,hK,k⟩:=Hy (by omega) r.len
 have M7:M6 code K:=by
  intro i n hn hk hj;obtain⟨s,_⟩:=f.at hn (r.sound i ((k.ok i n hn).1 hk).1)
  rcases s with⟨c1,t,c2,c3,c4,c5⟩|⟨c1,c2,c3,t,c4,c5,c6,c7⟩|⟨c1,c2,_⟩
  .exact⟨t,c2,c4⟩
  .exact⟨t,c4,c6⟩
  .exact(ij hj).elim (fun e=>absurd e c1) (fun e=>absurd e c2)
 refine⟨l,K,hl,n6,k.len,fun i n hn=>?_,M7,?_⟩
 .rw[Jc i (Yc.1 hn).1];exact k.ok i n hn
 .apply Wp.eq;unfold rB;rw[hy,X5];refine Wp.yN (show _=some K from hK) ?_
  refine Wp.seq _ (contains_iff (by rw[k.len];omega)) fun b hb=>?_
  rw[k.len]at hb
  refine Wp.ite (fun h=>?_) fun h=> .some ?_
  .have hx:=hb.1 h;rw[if_neg (by have:=Aw hx;omega)]
   refine Wp.seq _ (k6 (by omega) k.len M7) fun z hz=> .some ?_
   rw[hz]
  .rw[if_pos (zi fun i hi=>?_)]
   cases hg:gb K i with
   |true=>rfl
   |false=>exact absurd (hb.2 ⟨i,hi,hg⟩) h
theorem CC{code:List Ty}{l K:List Bool}(hle:code.length<=1000)(hl:M.dF az code=some l)(n6:code.length<=l.length)(FQ:K.length=code.length)(hk:∀(i:Nat)n,code[i]? =some n->(gb K i=true↔gb l i=true/\¬gX n i))(M7:M6 code K):M.iR az code=some (rem code K):=by
 apply Wp.eq;unfold M.iR;rw[hl,X5]
 refine Wp.seq (fun j=>j.1.length=code.length/\(∀t:Nat,t<code.length->j.1[t]? =some (((ct K t:Nat):Int)))/\j.2=kp (fun i=>code.getD i ((0,0):Int×Int)) K code.length) ?_ fun j Mk=>?_
 .refine Wp.loop (fun s:Int×List Int×List Ty=>∃i:Nat,s.1=i/\i<=code.length/\s.2.1.length=i/\(∀t:Nat,t<i->s.2.1[t]? =some (((ct K t:Nat):Int)))/\s.2.2=kp (fun i=>code.getD i ((0,0):Int×Int)) K i) (fun s=>(code.length-s.1).toNat) ⟨0,rfl,Yk _,rfl,fun t h=>by omega,rfl⟩ (by unfold az;simp only;omega) ?_
  rintro⟨_,ps,_⟩ ⟨i,rfl,hi,ll,hp,rfl⟩
  dsimp only at ll hp⊢
  refine Wp.dec (fun h=>?_) fun h=> .some ?_
  .have dA:i<code.length:=by omega
   have s8:code.getD i ((0,0):Int×Int)=code[i]:=by simp only[Y3,dA,X9,Zt]
   have FP:=fN (fun i=>code.getD i ((0,0):Int×Int)) K i;have Ir:=pw K i;have C0:=hk i _ (X9 dA);rw[dG (by simp;omega),X5,iM (by omega),X5,al (by omega)];have Mp:=ax dA;generalize code[i]=n at Mp s8 C0;simp only[Mp,X5]
   have e6:((if gb l i=true then(if(!decide ((n.1:Int)=(51:Int)))=true then some true else some (!decide ((n.2:Int)=((i+1:Nat):Int))))else some false):Option Bool)=some (gb K i):=by
    cases Jc:gb l i with
    |false=>
     rw[if_neg (by simp)]
     cases QN:gb K i with
     |false=>rfl
     |true=>have:=(C0.1 QN).1;rw[Jc]at this;cases this
    |true=>
     rw[if_pos rfl];by_cases gW:(n.1:Int)=51
     .rw[if_neg (by rw[decide_eq_true gW];decide)];refine congrArg some ?_
      by_cases hn:(n.2:Int)=((i+1:Nat):Int)
      .rw[decide_eq_true hn]
       cases QN:gb K i with
       |false=>rfl
       |true=>exact absurd ⟨gW,hn⟩ (C0.1 QN).2
      .rw[decide_eq_false hn];exact(C0.2 ⟨Jc,fun e=>hn e.2⟩).symm
     .rw[if_pos (by rw[decide_eq_false gW];decide)];exact congrArg some (C0.2 ⟨Jc,fun e=>gW e.1⟩).symm
   rw[e6,X5]
   have Dx:∀t:Nat,t<i+1->(ps++[((kp (fun i=>code.getD i ((0,0):Int×Int)) K i).length:Int)])[t]? =some (((ct K t:Nat):Int)):=by
    intro t ht
    rcases YN t i with g|g
    .rw[YI (by omega)];exact hp t g
    .have:t=i:=by omega
     subst this;rw[YP (by omega),ll,Nat.sub_self,FP];rfl
   by_cases hg:gb K i=true
   .rw[if_pos hg,dG (by rw[FP];simp;omega),X5,X5];refine .some ⟨⟨i+1,rfl,dA,by simp[ll],Dx,?_⟩,by simp only;omega⟩
    show _=kp (fun i=>code.getD i ((0,0):Int×Int)) K i++_
    rw[if_pos hg];exact congrArg (fun x=>kp (fun i=>code.getD i ((0,0):Int×Int)) K i++[x]) s8.symm
   .rw[if_neg hg,X5];refine .some ⟨⟨i+1,rfl,dA,by simp[ll],Dx,?_⟩,by simp only;omega⟩
    show _=kp (fun i=>code.getD i ((0,0):Int×Int)) K i++_
    rw[if_neg hg,List.append_nil]
  .obtain rfl:i=code.length:=by omega
   exact⟨ll,hp,rfl⟩
 .obtain⟨ps,Xh⟩:=j;obtain⟨p1,p2,rfl⟩:=Mk;dsimp only at p1 p2⊢;have Ir:=pw K code.length;have FP:=fN (fun i=>code.getD i ((0,0):Int×Int)) K code.length;rw[dG (by simp;omega),X5]
  have Dx:∀t:Nat,t<=code.length->idx (ps++[((kp (fun i=>code.getD i ((0,0):Int×Int)) K code.length).length:Int)]) (t:Int)=some (((ct K t:Nat):Int)):=by
   intro t ht
   have hlen:t<(ps++[((kp (fun i=>code.getD i ((0,0):Int×Int)) K code.length).length:Int)]).length:=by simp;omega
   rw[ax hlen]
   have e:(ps++[((kp (fun i=>code.getD i ((0,0):Int×Int)) K code.length).length:Int)])[t]? =some (((ct K t:Nat):Int)):=by
    rcases YN t code.length with g|g
    .rw[YI (by omega)];exact p2 t g
    .have:t=code.length:=by omega
     subst this;rw[YP (by omega),p1,Nat.sub_self,FP];rfl
   rw[X9 hlen]at e;exact e
  unfold rem
  refine ry (by omega) (fun q hq l n6 Hs=>?_) fun l n6=>?_
  .have QI:q<l.length:=by omega
   have QJ:q<ct K code.length:=by omega
   obtain⟨i,i1,i2,i3⟩:=rA K _ QJ
   have s8:code.getD i ((0,0):Int×Int)=code[i]:=by simp only[Y3,i1,X9,Zt]
   have hx:(kp (fun i=>code.getD i ((0,0):Int×Int)) K code.length)[q]=code[i]:=by
    have:=oX (fun i=>code.getD i ((0,0):Int×Int)) K i2 code.length i1;rw[i3,X9 hq,s8]at this;exact X7 this
   have hge:=X9 i1;rw[hx]at Hs⊢;generalize code[i]=x at Hs hge⊢;dsimp only;rw[ax QI,Hs];simp only[X5,rD]
   refine Wp.dec (fun _=>?_) fun h=>by omega
   refine Wp.seq (fun o=>o=l.set q (rj K x)) ?_ fun o ho=> .some ?_
   .refine Wp.dec (fun r8=>?_) fun r8=> .some ?_
    .obtain⟨t,t1,t2⟩:=M7 i x hge i2 r8;rw[show(x.2:Int)=t from t1,Dx t t2];simp only[X5];refine .some ?_;unfold rj;rw[if_pos (show fX x from r8),t1];simp[aQ]
    .rw[zd r8,<-Hs];simp
   .rw[ho,al (by omega)]
  .dsimp only
   exact Wp.dec (fun h=>by omega) fun _=> .some rfl
theorem xu{code:List Ty}(hl:code.length<=1000)(hw:∀n∈code,WF aa n):M.cW az code=M.aJ az code:=by
 unfold M.cW M.aJ;obtain⟨b,hb,sz⟩:=rE code;rw[kl hl,uR hl,X5,X5,rC,hb,X5,X5]
 cases b with
 |false=>
  simp only[YC,if_true,n5]
 |true=>
  simp only[Yp,X8,if_false,rF];have hF:=sz.1 rfl
  have xm:kQ code code:=⟨hF,Yd _,hw,fun _ _ _ h=>h⟩
  show _=Loop rB az code
  refine jk (fun s:List Ty=>kQ code s) ?_ ?_ az code xm
  .intro s hs;obtain⟨F,f⟩:=hs.fits;obtain⟨l,K,h1,h2,h3,h4,h5,h6⟩:=Fv f hs.wf;have eR:s.length<=1000:=Nat.le_trans hs.le hl;rw[h6,CC eR h1 h2 h3 h4 h5,X5]
   have hlen:(rem s K).length=ct K s.length:=by unfold rem;rw[List.length_map,fN]
   by_cases c:ct K s.length=s.length
   .rw[if_pos c,if_pos (decide_eq_true (by omega))]
    have k7:∀i,i<s.length->gb K i=true:=by
     intro i hi
     cases hg:gb K i with
     |true=>rfl
     |false=>
      have:=Aw (K:=K) (j:=s.length) ⟨i,hi,hg⟩;omega
    rw[Hx k7 h5]
   .rw[if_neg c,if_neg (by rw[decide_eq_true_eq];omega)]
  .intro s s' hs hb;obtain⟨F,f⟩:=hs.fits;obtain⟨r,hr,h⟩:=xp f hs.wf;rw[hb]at hr;obtain rfl:=X7 hr
   rcases h with⟨y,e,h1,h2⟩|e
   .obtain rfl:=Zs e;exact hs.trans h1
   .cases e
end L
end Go.Proofs.YtlfjlhcigpejdaaGreatDoor
end
