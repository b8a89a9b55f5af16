/- Joined texts: PQ3 PQ4 PQ5 PQ6 PQ7 PQ8 P28 CV PD RA RB RC RD RE RF RI. -/
import Derived.Test.YtmihpkfkbfgigaaGreatDoorU10
import Derived.Test.YtmihpkfkbfgigaaGreatDoorU1
import Derived.Test.YtmihpkfkbfgigaaGreatDoorU8
section
open _root_.List renaming append_assoc->amk,getElem?_eq_some_iff->alW,length_append->alY,take_length->amc
open _root_.Nat renaming add_assoc->am3,zero_le->amj
open _root_.Option.some renaming inj->alU
namespace Go.Proofs.YtmihpkfkbfgigaaGreatDoor
open Go Go.RowKit
set_option maxRecDepth 100000
namespace L.P.Q
theorem nat_eq{u t:Nat}{x:Int}(h1:x=u)(h2:x=t):u=t:=by omega
def lK(n:Ty):Prop:=50<=(n.1:Int)/\(n.1:Int)<=53
instance(n:Ty):Decidable (lK n):=by unfold lK;infer_instance
def zy(n:Ty):Prop:=(n.1:Int)=50\/(n.1:Int)=52\/(n.1:Int)=53
theorem zy.lK{n:Ty}(h:zy n):lK n:=by
 obtain⟨(o:Int),(m:Int)⟩:=n;unfold zy at h;unfold L.P.Q.lK;dsimp only[ae,Row.den]at*;omega
theorem qV{n:Ty}(h:(n.1:Int)=51):lK n:=by
 obtain⟨(o:Int),(m:Int)⟩:=n;unfold lK;dsimp only[ae,Row.den]at*;omega
theorem mY{n:Ty}(h:lK n):(n.1:Int)=51\/zy n:=by
 obtain⟨(o:Int),(m:Int)⟩:=n;unfold lK at h;unfold zy;dsimp only[ae,Row.den]at*;omega
theorem nT{n:Ty}(h:zy n):¬(n.1:Int)=51:=by
 obtain⟨(o:Int),(m:Int)⟩:=n;unfold zy at h;dsimp only[ae,Row.den]at*;omega
theorem Dl{n:Ty}(h:lK n):¬bM n.1:=by
 obtain⟨(o:Int),(m:Int)⟩:=n;unfold lK at h;unfold bM;dsimp only[ae,Row.den]at*;omega
section
variable {a b:List Ty} {env:cz.den} {p:Nat} {S:List Vl} {r:Vl×Int} {n:Ty}
theorem cF.SL(hr:cF a env p S r)(hp:p=a.length):∃v S',S=v::S'/\r=(v,0):=by
 have no:∀{n:Ty},a[p]? =some n->False:=fun{n}h=>by subst hp;simp at h
 cases hr with
 |done=>exact⟨_,_,rfl,rfl⟩
 |jump h=>exact(no h).elim
 |op h=>exact(no h).elim
 |fail h=>exact(no h).elim
 |cond h=>exact(no h).elim
 |cbad h=>exact(no h).elim
theorem cF.MB(hr:cF a env p S r)(hn:a[p]? =some n)(hj:¬lK n):∃k:Nat,ar n.1=k/\k<=S.length/\
 (((jL env n (S.drop (S.length-k))).2=0/\cF a env (p+1) (S.take (S.length-k)++[(jL env n (S.drop (S.length-k))).1]) r)\/((jL env n (S.drop (S.length-k))).2≠0/\r=(z3,(jL env n (S.drop (S.length-k))).2))):=by
 cases hr with
 |done=>simp at hn
 |jump h pb=>obtain rfl:=alU (h.symm.trans hn);exact absurd (qV pb) hj
 |op h bR ha hs h0 next=>obtain rfl:=alU (h.symm.trans hn);exact⟨_,ha,hs, .inl ⟨h0,next⟩⟩
 |fail h bR ha hs h0=>obtain rfl:=alU (h.symm.trans hn);exact⟨_,ha,hs, .inr ⟨h0,rfl⟩⟩
 |cond h gq=>obtain rfl:=alU (h.symm.trans hn);exact absurd (zy.lK gq) hj
 |cbad h gq=>obtain rfl:=alU (h.symm.trans hn);exact absurd (zy.lK gq) hj
theorem cF.GZ(hr:cF a env p S r)(hn:a[p]? =some n)(pb:(n.1:Int)=51):∃t:Nat,(n.2:Int)=t/\p<t/\t<=a.length/\cF a env t S r:=by
 cases hr with
 |done=>simp at hn
 |jump h _ ht C7 uY next=>obtain rfl:=alU (h.symm.trans hn);exact⟨_,ht,C7,uY,next⟩
 |op h bR=>obtain rfl:=alU (h.symm.trans hn);exact absurd (qV pb) bR
 |fail h bR=>obtain rfl:=alU (h.symm.trans hn);exact absurd (qV pb) bR
 |cond h gq=>obtain rfl:=alU (h.symm.trans hn);exact absurd pb (nT gq)
 |cbad h gq=>obtain rfl:=alU (h.symm.trans hn);exact absurd pb (nT gq)
def xp(top:Vl):Prop:=(top.1:Int)=1/\((top.2.2:Int)=0\/(top.2.2:Int)=1)
theorem cF.Pb(hr:cF a env p S r)(hn:a[p]? =some n)(hc:zy n):∃S' top,S=S'++[top]/\((¬xp top/\r=(z3,8))\/
 (xp top/\∃t:Nat,(n.2:Int)=t/\p<t/\t<=a.length/\cF a env (if vC n top=true then t else p+1) (if vC n top=false\/(n.1:Int)=50 then S' else S'++[top]) r)):=by
 cases hr with
 |done=>simp at hn
 |jump h pb=>obtain rfl:=alU (h.symm.trans hn);exact absurd pb (nT hc)
 |op h bR=>obtain rfl:=alU (h.symm.trans hn);exact absurd (zy.lK hc) bR
 |fail h bR=>obtain rfl:=alU (h.symm.trans hn);exact absurd (zy.lK hc) bR
 |cond h gq ht C7 uY hk hv next=>obtain rfl:=alU (h.symm.trans hn);exact⟨_,_,rfl, .inr ⟨⟨hk,hv⟩,_,ht,C7,uY,next⟩⟩
 |cbad h gq hk=>obtain rfl:=alU (h.symm.trans hn);exact⟨_,_,rfl, .inl ⟨hk,rfl⟩⟩
theorem cF.lit{v:Vl}(hr:cF a env p S r)(hn:a[p]? =some n)(hj:¬lK n)(h0:ar n.1=0)(hv:jL env n []=(v,0)):cF a env (p+1) (S++[v]) r:=by
 obtain⟨k,h1,h2,h3⟩:=hr.MB hn hj
 obtain rfl:k=0:=by omega
 rw[Nat.sub_zero,List.drop_length,amc,hv]at h3
 rcases h3 with h3|h3
 .exact h3.2
 .exact absurd rfl h3.1
theorem cF.opI{vs:List Vl}{v:Vl}(hr:cF a env p (S++vs) r)(hn:a[p]? =some n)(hj:¬lK n)(h0:ar n.1=(vs.length:Int))(hv:jL env n vs=(v,0)):cF a env (p+1) (S++[v]) r:=by
 obtain⟨k,h1,h2,h3⟩:=hr.MB hn hj
 obtain rfl:k=vs.length:=by omega
 rw[alY,Nat.add_sub_cancel,List.drop_left,List.take_left,hv]at h3
 rcases h3 with h3|h3
 .exact h3.2
 .exact absurd rfl h3.1
end
inductive NJ(a b:List Ty)(R:Nat->Nat->Prop)(p q:Nat):Prop
 |op {n:Ty} (ha:a[p]? =some n) (hb:b[q]? =some n) (hn:¬lK n) (hr:R (p+1) (q+1)):NJ a b R p q
 |jump {n n':Ty} {t t':Nat} (ha:a[p]? =some n) (hb:b[q]? =some n') (h1:(n.1:Int)=51) (h2:(n'.1:Int)=51) (e1:(n.2:Int)=t) (e2:(n'.2:Int)=t') (hq:q<t') (hr:R t t'):NJ a b R p q
 |cond {n n':Ty} {t t':Nat} (ha:a[p]? =some n) (hb:b[q]? =some n') (h1:zy n) (h2:(n'.1:Int)=n.1) (e1:(n.2:Int)=t) (e2:(n'.2:Int)=t') (hq:q<t') (hr:R t t') (hs:R (p+1) (q+1)):NJ a b R p q
 |block {k:Nat} {n m:Ty} {vs:List Vl} {v:Vl} (hl:∀j,j<k->∃x y,a[p+j]? =some x/\vs[j]? =some y/\¬lK x/\ar x.1=0/\∀env,im env->jL env x []=(y,0)) (hk:vs.length=k) (hn:a[p+k]? =some n) (hj:¬lK n) (ha:ar n.1=k)
   (hv:∀env,im env->jL env n vs=(v,0)) (hm:b[q]? =some m) (QI:¬lK m) (ham:ar m.1=0) (Ji:¬bM m.1) (hvm:∀env,im env->jL env m []=(v,0)) (hr:R (p+k+1) (q+1)):NJ a b R p q
structure Pd(a b:List Ty)(F F':List Int)(R:Nat->Nat->Prop):Prop where
 fits:Fits a F
 pos:0<b.length
 le:b.length<=128
 len:F'.length=b.length+1
 bd:Bd F'
 dep:∀p q,R p q->0<=gd F p/\p<=a.length/\q<=b.length/\gd F' q=gd F p
 st:∀p q,R p q->(p=a.length/\q=b.length)\/NJ a b R p q\/∃(n:Ty)(t:Nat),a[p]? =some n/\(n.1:Int)=51/\(n.2:Int)=t/\R t q
 back:∀q,q<b.length->0<=gd F' q->∃p,R p q/\NJ a b R p q
 zero:R 0 0
 fin:R a.length b.length
section
variable {a b:List Ty} {F F':List Int} {R:Nat->Nat->Prop}
theorem Fits.at(f:Fits a F){p:Nat}{n:Ty}(hn:a[p]? =some n)(h0:0<=gd F p):jJ a.length F p n/\¬bM n.1:=by
 obtain⟨h,rfl⟩:=alW.1 hn;exact f.step p h h0
theorem Fits.op(f:Fits a F){p:Nat}{n:Ty}(hn:a[p]? =some n)(hj:¬lK n)(h0:0<=gd F p):0<=ar n.1/\ar n.1<=gd F p/\gd F (p+1)=gd F p-ar n.1+1/\gd F p-ar n.1+1<=12/\¬bM n.1:=by
 obtain⟨h1,h2⟩:=f.at hn h0
 rcases h1 with⟨h,_⟩|⟨h,_⟩|⟨_,_,g1,g2,g3,g4⟩
 .exact absurd (qV h) hj
 .exact absurd (zy.lK h) hj
 .exact⟨g1,g2,g3,g4,h2⟩
theorem rA(f:Fits a F){p:Nat}(h0:0<=gd F p):∀(k:Nat),(∀j,j<k->∃x:Ty,a[p+j]? =some x/\¬lK x/\ar x.1=0)->gd F (p+k)=gd F p+k
 |0,_=>by simp
 |k+1,h=>by
  have ih:=rA f h0 k fun j hj=>h j (by omega)
  obtain⟨x,h1,h2,h3⟩:=h k (by omega);obtain⟨_,_,g,_⟩:=f.op h1 h2 (by omega);rw[<-am3,g];omega
theorem Pd.to(s:Pd a b F F' R):Fits b F':=by
 refine⟨s.pos,s.le,s.len,s.bd,?_,?_,fun q hq h0=>?_⟩
 .rw[(s.dep _ _ s.zero).2.2.2];exact s.fits.first
 .rw[(s.dep _ _ s.fin).2.2.2];exact s.fits.last
 obtain⟨p,hR,g⟩:=s.back q hq h0;obtain⟨d1,d2,d3,d4⟩:=s.dep p q hR
 cases g with
 | @op n ha hb hn hr=>
   have e:b[q]=n:=(alW.1 hb).2;obtain⟨g1,g2,g3,g4,g5⟩:=s.fits.op ha hn d1;obtain⟨_,_,_,d5⟩:=s.dep _ _ hr;rw[e];exact⟨.inr (.inr ⟨fun h=>hn (qV h),fun h=>hn (zy.lK h),g1,by omega,by omega,by omega⟩),g5⟩
 | @jump n n' t t' ha hb h1 h2 e1 e2 nq hr=>
   have e:b[q]=n':=(alW.1 hb).2;obtain⟨g1,_⟩:=s.fits.at ha d1;obtain⟨_,_,c3,d5⟩:=s.dep _ _ hr;rw[e];refine⟨.inl ⟨h2,t',e2,nq,c3,?_⟩,Dl (qV h2)⟩
   rcases g1 with⟨_,u,u1,u2,u3,u4⟩|⟨h,_⟩|⟨h,_⟩
   .have:u=t:=nat_eq u1 e1;subst this;omega
   .exact absurd h1 (nT h)
   .exact absurd h1 h
 | @cond n n' t t' ha hb h1 h2 e1 e2 nq hr hs=>
   have e:b[q]=n':=(alW.1 hb).2;obtain⟨g1,_⟩:=s.fits.at ha d1;obtain⟨_,_,c3,d5⟩:=s.dep _ _ hr;obtain⟨_,_,_,d6⟩:=s.dep _ _ hs
   have th:zy n':=by unfold zy;rw[h2];exact h1
   rw[e];refine⟨.inr (.inl ⟨th,?_⟩),Dl th.lK⟩
   rcases g1 with⟨h,_⟩|⟨_,g2,g3,u,u1,u2,u3,u4⟩|⟨_,h,_⟩
   .exact absurd h (nT h1)
   .have:u=t:=nat_eq u1 e1;subst this;refine⟨by omega,by omega,t',e2,nq,c3,?_⟩;rw[d5,u4,d4,h2]
   .exact absurd h1 h
 | @block k n m vs v hl hk hn hj ha hv hm QI ham Ji hvm hr=>
   have e:b[q]=m:=(alW.1 hm).2
   have hd:=rA s.fits d1 k fun j hj=>by
    obtain⟨x,_,x1,_,x2,x3,_⟩:=hl j hj;exact⟨x,x1,x2,x3⟩
   obtain⟨g1,g2,g3,g4,_⟩:=s.fits.op hn hj (by omega);obtain⟨_,_,_,d5⟩:=s.dep _ _ hr;rw[e];exact⟨.inr (.inr ⟨fun h=>QI (qV h),fun h=>QI (zy.lK h),by omega,by omega,by omega,by omega⟩),Ji⟩
theorem cF.lits{env:cz.den}{p:Nat}{S:List Vl}{r:Vl×Int}{vs:List Vl}:∀(k:Nat),k<=vs.length->(∀j,j<k->∃(x:Ty)(y:Vl),a[p+j]? =some x/\vs[j]? =some y/\¬lK x/\ar x.1=0/\jL env x []=(y,0))->cF a env p S r->cF a env (p+k) (S++vs.take k) r
 |0,_,_,h=>by simpa using h
 |k+1,hk,hl,h=>by
  have ih:=cF.lits k (by omega) (fun j hj=>hl j (by omega)) h;obtain⟨x,y,h1,h2,h3,h4,h5⟩:=hl k (by omega);have:=ih.lit h1 h3 h4 h5
  have e:vs.take (k+1)=vs.take k++[y]:=by
   obtain⟨aj,rfl⟩:=alW.1 h2;exact List.take_succ_eq_append_getElem aj
  rw[e,<-amk];exact this
theorem Pd.runs(s:Pd a b F F' R){env:cz.den}(he:im env){r:Vl×Int}:∀(m p q:Nat)(S:List Vl),a.length-p=m->R p q->cF a env p S r->cF b env q S r:=by
 intro m
 induction m using Nat.strongRecOn with
 |_ m ih=>
  intro p q S hm hR hr
  have TR:∀p' q' S',p<p'->R p' q'->cF a env p' S' r->cF b env q' S' r:=fun p' q' S' h XP=>by
   have:=(s.dep p' q' XP).2.1;exact ih (a.length-p') (by omega) p' q' S' rfl XP
  rcases s.st p q hR with⟨e1,e2⟩|g|⟨n,t,ha,pb,ht,XP⟩
  .obtain⟨v,S',rfl,rfl⟩:=hr.SL e1;rw[e2];exact .done
  .cases g with
   | @op n ha hb hn p6=>
     obtain⟨k,h1,h2,h3⟩:=hr.MB ha hn
     rcases h3 with⟨h3,h4⟩|⟨h3,rfl⟩
     .exact .op hb hn h1 h2 h3 (TR _ _ _ (by omega) p6 h4)
     .exact .fail hb hn h1 h2 h3
   | @jump n n' t t' ha hb h1 h2 e1 e2 nq p6=>
     obtain⟨u,u1,u2,u3,u4⟩:=hr.GZ ha h1;have:u=t:=nat_eq u1 e1;subst this;exact .jump hb h2 e2 nq (s.dep _ _ p6).2.2.1 (TR _ _ _ u2 p6 u4)
   | @cond n n' t t' ha hb h1 h2 e1 e2 nq p6 hs=>
     have th:zy n':=by unfold zy;rw[h2];exact h1
     obtain⟨S',top,rfl,h3⟩:=hr.Pb ha h1
     rcases h3 with⟨h3,rfl⟩|⟨h3,u,u1,u2,u3,u4⟩
     .exact .cbad hb th h3
     .have:u=t:=nat_eq u1 e1;subst this
      have ej:vC n' top=vC n top:=by unfold vC;rw[h2]
      refine .cond hb th e2 nq (s.dep _ _ p6).2.2.1 h3.1 h3.2 ?_;rw[ej,h2];by_cases hj:vC n top=true
      .rw[if_pos hj]at u4⊢;exact TR _ _ _ u2 p6 u4
      .rw[if_neg hj]at u4⊢;exact TR _ _ _ (by omega) hs u4
   | @block k n m vs v hl hk hn hj ha hv hm QI ham Ji hvm p6=>
     have h1:=cF.lits (vs:=vs) k (by omega) (fun j hj=>by
      obtain⟨x,y,x1,x2,x3,x4,x5⟩:=hl j hj
      exact⟨x,y,x1,x2,x3,x4,x5 env he⟩) hr
     rw[List.take_of_length_le (by omega)]at h1;have h2:=h1.opI hn hj (by rw[ha,hk]) (hv env he);have h3:=TR _ _ _ (by omega) p6 h2;have e:=hvm env he;refine .op (a:=0) hm QI (by rw[ham];rfl) (amj _) ?_ ?_
     .rw[Nat.sub_zero,List.drop_length,e]
     .rw[Nat.sub_zero,List.drop_length,amc,e];exact h3
  .obtain⟨u,u1,u2,u3,u4⟩:=hr.GZ ha pb;have:u=t:=nat_eq u1 ht;subst this;exact TR _ _ _ u2 XP u4
end
structure oO(a b:List Ty):Prop where
 fits:∃F,Fits b F
 le:b.length<=a.length
 wf:∀n∈b,WF aa n
 runs:∀env,im env->∀r,cF a env 0 [] r->cF b env 0 [] r
theorem oO.trans{a b c:List Ty}(h:oO a b)(k:oO b c):oO a c:=⟨k.fits,Nat.le_trans k.le h.le,k.wf,fun env he r hr=>k.runs env he r (h.runs env he r hr)⟩
theorem Pd.same{a b:List Ty}{F F':List Int}{R:Nat->Nat->Prop}(s:Pd a b F F' R)(hl:b.length<=a.length)(hw:∀n∈b,WF aa n):oO a b:=
 ⟨⟨F',s.to⟩,hl,hw,fun _ he _ hr=>s.runs he _ 0 0 [] rfl s.zero hr⟩
end L.P.Q
end Go.Proofs.YtmihpkfkbfgigaaGreatDoor
end
section
open _root_.Bool renaming false_eq_true->al2
open _root_.Int renaming tdiv->amh,tdiv_eq_ediv_of_nonneg->amV,tmod->amy
open _root_.Go.IntKind renaming i64->alT
open _root_.Option renaming bind_some->alS
open _root_.Option.some renaming inj->alU
namespace Go.Proofs.YtmihpkfkbfgigaaGreatDoor
open Go Go.RowKit
set_option maxRecDepth 100000
namespace L.P.Q
theorem nn(N:Nat)(op:Int):M.dA N op=some (decide (50<=op/\op<=53)):=by
 unfold M.dA
 by_cases h:50<=op<;>simp[h]
def e0:cz.den:=((0,[],[],[],[],[]):Int×List Vl×List Vl×List (List Vl)×List Ty×List av.den)
theorem Dm:im e0:=⟨by decide,fun t h=>by cases h⟩
theorem G0{n:Ty}{args:List Vl}{env:cz.den}(he:im env)(hn:WF aa n)(hl:args.length<=100000):Wp (M.bL aB n args env) fun r=>r.2=0->(args.length:Int)=ar n.1/\∀v∈args,dp v.1 v.2.1 v.2.2:=by
 obtain⟨op,m⟩:=n;have hm:=hn.2;unfold M.bL
 refine Wp.seq (fun j=>j=false->Fm op m/\(args.length:Int)=ar op) ?_ fun j hj=>?_
 .refine Wp.seq _ (tV ..) fun y hy=>?_
  refine Wp.ite (fun _=> .some fun h=>by cases h) fun hc=>?_
  rw[cJ]
  exact .some fun h=>⟨hy (by simpa using hc),by simpa using h⟩
 refine Wp.ite (fun _=> .some fun h=>absurd h (by decide)) fun hc=>?_
 obtain⟨hf,ha⟩:=hj (by simpa using hc)
 refine Wp.seq _ (tW ..) fun y hy=>?_
 refine Wp.ite (fun _=> .some fun h=>absurd h (by decide)) fun vj=>?_
 have hx:=hy (by simpa using vj)
 have sY:op=34->0<=alT.wrap (amh m 8):=fun e=>by
  have h0:=(hf.2.2.1 e).1;have h1:(m:Int)<=9223372036854775807:=hm.2;rw[amV h0];dsimp only[ae,Row.den]at h0 h1⊢;rw[aJ (by omega) (by omega)];omega
 refine Wp.seq (fun j=>j=false->WD op m env/\∀v∈args,dp v.1 v.2.1 v.2.2) ?_ fun j5 hj5=>?_
 .refine Wp.seq _ (CY _ hl (by unfold aB;omega)) fun y hy=>?_
  refine Wp.ite (fun _=> .some fun h=>by cases h) fun hc=>?_
  exact Wp.seq _ (xe hx ha sY) fun z hz=> .some fun h=>⟨hz (by simpa using h),hy (by simpa using hc)⟩
 refine Wp.ite (fun _=> .some fun h=>absurd h (by decide)) fun KX=>?_
 obtain⟨WH,q9⟩:=hj5 (by simpa using KX)
 refine Wp.seq _ (xg he hf hx ha WH sY) fun r hr=>?_
 refine Wp.jz (fun _=> .some fun _=>⟨ha,q9⟩) fun _=>?_
 rw[dc];simp only[alS]
 exact Wp.jz (fun _=> .some fun _=>⟨ha,q9⟩) fun hp=> .some fun _=>⟨ha,q9⟩
theorem Pe{op m:Int}(h:op=33\/op=34)(hm:m<=9223372036854775807)(args:List Vl):Wp (M.bL aB ((op,m):Int×Int) args e0) fun r=>r.2≠0:=by
 unfold M.bL
 refine Wp.seq (fun j=>j=false->Fm op m) ?_ fun j hj=>?_
 .refine Wp.seq _ (tV ..) fun y hy=>?_
  refine Wp.ite (fun _=> .some fun h=>by cases h) fun hc=>?_
  rw[cJ]
  exact .some fun _=>hy (by simpa using hc)
 refine Wp.ite (fun _=> .some (by decide)) fun hc=>?_
 have hf:=hj (by simpa using hc)
 have he:M.dQ aB ((op,m):Int×Int) e0=some false:=by
  unfold M.dQ
  rcases h with rfl|rfl
  .by_cases h0:0<=m
   .simp[e0,h0];exact decide_eq_false (Int.not_lt.2 h0)
   .simp[h0]
  .have h0:=(hf.2.2.1 rfl).1
   have hw:alT.wrap (amh m 8)=m/8:=by
    rw[amV h0,aJ (by omega) (by omega)]
   simp[e0,hw];omega
 rw[he];simp only[alS,Bool.not_false,if_true];exact .some (by decide)
theorem SM{n:Ty}(hn:WF aa n)(h1:1<=ar n.1){args:List Vl}(h0:(jL e0 n args).2=0)(env:cz.den):jL env n args=jL e0 n args:=by
 obtain⟨(op:Int),(m:Int)⟩:=n;by_cases h:op=33\/op=34
 .obtain⟨r,hr,bR⟩:=Pe h hn.2.2 args;unfold jL at h0;rw[hr]at h0;exact absurd h0 bR
 .have ha:10<=op/\op<=32:=by
   revert h1
   show 1<=ar op->_
   unfold ar;intro h1;split at h1
   .omega
   .omega
  have ne:∀k:Int,(k<=9\/33<=k)->decide (op=k)=false:=fun k hk=>decide_eq_false (by omega)
  have e:M.bL aB ((op,m):Int×Int) args env=M.bL aB ((op,m):Int×Int) args e0:=by
   unfold M.bL M.dQ M.bx M.bD;simp only[ne 1 (by omega),ne 2 (by omega),ne 3 (by omega),ne 4 (by omega),ne 5 (by omega),ne 6 (by omega),ne 7 (by omega),ne 8 (by omega),ne 9 (by omega),ne 33 (by omega),ne 34 (by omega),ne 35 (by omega),ne 36 (by omega),ne 37 (by omega),ne 38 (by omega),ne 39 (by omega),al2,if_false,alS]
  unfold jL;exact congrArg (fun x=>x.getD (z3,0)) e
def sL(n:Ty):Option Vl:=
 if 1<=(n.1:Int)/\(n.1:Int)<=5 then some ((n.1,0,n.2):Int×Int×Int)else if(n.1:Int)=6/\0<=(n.2:Int)/\(n.2:Int)<128 then some ((6,(n.2:Int)/16,(n.2:Int)%16):Int×Int×Int)else none
def ot(v:Vl):Ty:=if 1<=(v.1:Int)/\(v.1:Int)<=5 then((v.1,v.2.2):Int×Int)else((6,16*(v.2.1:Int)+v.2.2):Int×Int)
theorem vd(N:Nat)(n:Ty):M.fF N n=some (match sL n with
 |some v=>(v,true)
 |none=>(z3,false)):=by
 obtain⟨(op:Int),(m:Int)⟩:=n;unfold M.fF sL bE;dsimp only[ae,Row.den];by_cases h1:op=1
 .subst h1;simp
 by_cases h2:op=2
 .subst h2;simp
 by_cases h3:op=3
 .subst h3;simp
 by_cases h4:op=4
 .subst h4;simp
 by_cases h5:op=5
 .subst h5;simp
 rw[if_neg (show¬(1<=op/\op<=5) by omega)];by_cases h6:op=6
 .subst h6;by_cases h7:0<=m
  .by_cases h8:m<128
   .have w:alT.wrap (amh m 16)=m/16:=by rw[amV h7,aJ (by omega) (by omega)]
    have w2:amy m 16=m%16:=Int.tmod_eq_emod_of_nonneg h7;simp[h7,h8,w,w2]
   .simp[h7,h8,z3]
  .simp[h7,z3]
 .simp[h1,h2,h3,h4,h5,h6,z3]
theorem uL{k e n:Int}(h:dp k e n):((1<=k/\k<=5)/\e=0/\-1000000000000000<=n/\n<=1000000000000000)\/(k=6/\0<=e/\e<=7/\0<=n/\n<=15):=by
 unfold dp at h;omega
theorem yk(N:Nat){v:Vl}(hp:dp v.1 v.2.1 v.2.2):M.gv N v=some (ot v):=by
 obtain⟨(k:Int),(e:Int),(n:Int)⟩:=v;unfold M.gv ot;dsimp only[ae,Row.den]at*;by_cases h1:k=1
 .subst h1;simp
 by_cases h2:k=2
 .subst h2;simp
 by_cases h3:k=3
 .subst h3;simp
 by_cases h4:k=4
 .subst h4;simp
 by_cases h5:k=5
 .subst h5;simp
 rcases uL hp with h|⟨h6,h7,h8,h9,WJ⟩
 .omega
 .have w1:alT.wrap (16*e)=16*e:=aJ (by omega) (by omega);have w2:alT.wrap (16*e+n)=16*e+n:=aJ (by omega) (by omega);rw[if_neg (show¬(1<=k/\k<=5) by omega)];simp[h1,h2,h3,h4,h5,w1,w2]
theorem sM{n:Ty}{v:Vl}(h:sL n=some v):¬lK n/\ar n.1=0/\¬bM n.1:=by
 obtain⟨(op:Int),(m:Int)⟩:=n
 have:1<=op/\op<=6:=by
  unfold sL at h;dsimp only[ae,Row.den]at h;split at h
  .omega
  .split at h
   .omega
   .cases h
 refine⟨?_,?_,?_⟩
 .show¬(50<=op/\op<=53);omega
 .show ar op=0
  unfold ar;rw[if_pos (by omega)]
 .show¬(op=23\/op=24\/op=26);omega
theorem G1{v:Vl}(hp:dp v.1 v.2.1 v.2.2):sL (ot v)=some v/\WF aa (ot v):=by
 obtain⟨(k:Int),(e:Int),(n:Int)⟩:=v;dsimp only[ae,Row.den]at hp
 rcases uL hp with⟨h1,rfl,h3,h4⟩|⟨rfl,h7,h8,h9,WJ⟩
 .have e1:ot ((k,0,n):Int×Int×Int)=((k,n):Int×Int):=by unfold ot;dsimp only[ae,Row.den];rw[if_pos h1]
  rw[e1];refine⟨by unfold sL;dsimp only[ae,Row.den];rw[if_pos h1],⟨?_,?_⟩,?_,?_⟩
  .show(-9223372036854775808:Int)<=k;omega
  .show k<=(9223372036854775807:Int);omega
  .show(-9223372036854775808:Int)<=n;omega
  .show n<=(9223372036854775807:Int);omega
 .have e1:ot ((6,e,n):Int×Int×Int)=((6,16*e+n):Int×Int):=by unfold ot;dsimp only[ae,Row.den];rw[if_neg (by decide)]
  rw[e1];refine⟨?_,⟨?_,?_⟩,?_,?_⟩
  .unfold sL;dsimp only[ae,Row.den];rw[if_neg (by decide),if_pos ⟨rfl,by omega,by omega⟩,show(16*e+n)/16=e by omega,show(16*e+n)%16=n by omega]
  .show(-9223372036854775808:Int)<=6;decide
  .show(6:Int)<=9223372036854775807;decide
  .show(-9223372036854775808:Int)<=16*e+n;omega
  .show 16*e+n<=(9223372036854775807:Int);omega
theorem Pf{op m:Int}(gq:op=1\/op=2\/op=3\/op=4\/op=5\/op=6)(h6:op=6->0<=m/\m<128){v:Vl}(hv:sL ((op,m):Int×Int)=some v)(hp:dp v.1 v.2.1 v.2.2)(env:cz.den):M.bL aB ((op,m):Int×Int) [] env=some (v,0):=by
 have ha:ar op=0:=by unfold ar;rw[if_pos (by omega)]
 have ne:∀k:Int,7<=k->decide (op=k)=false:=fun k hk=>decide_eq_false (by omega)
 have hu:M.ga aB op=some true:=by
  rcases gq with rfl|rfl|rfl|rfl|rfl|rfl<;>(show(_:Option Bool)=_;kernel_rfl)
 have Jf:M.cY aB ((op,m):Int×Int)=some true:=by
  unfold M.cY;simp only[cJ,ha,hu,ne 14 (by omega),ne 15 (by omega),ne 16 (by omega),ne 34 (by omega),alS,al2,if_false]
  by_cases hm:m=0<;>by_cases h:op=6<;>simp[hm,h]
  exact(h6 h).1
 have hex:M.dQ aB ((op,m):Int×Int) env=some true:=by
  unfold M.dQ;simp only[ne 7 (by omega),ne 8 (by omega),ne 33 (by omega),ne 34 (by omega),ne 36 (by omega),ne 37 (by omega),ne 38 (by omega),ne 39 (by omega),alS,al2,if_false]
 have q9:M.dm aB []=some true:=by
  apply Wp.eq;unfold M.dm;refine Wp.loop (fun s=>s=0) (fun _=>0) rfl (by unfold aB;omega) ?_
  rintro _ rfl
  exact Wp.dec (fun h=>absurd h (by simp)) fun _=> .some rfl
 have Bj:M.bx aB ((op,m):Int×Int) [] env=some true:=by
  unfold M.bx;simp only[ne 7 (by omega),ne 8 (by omega),ne 33 (by omega),ne 34 (by omega),ne 36 (by omega),ne 37 (by omega),ne 38 (by omega),ne 39 (by omega),alS,al2,if_false];simp
 have hco:M.bD aB ((op,m):Int×Int) [] env=some (v,0):=by
  unfold M.bD;unfold sL at hv;dsimp only[ae,Row.den]at hv⊢;by_cases h:op=6
  .subst h;obtain⟨m1,m2⟩:=h6 rfl;rw[if_neg (by decide),if_pos ⟨rfl,m1,m2⟩]at hv;obtain rfl:=alU hv
   have w:alT.wrap (amh m 16)=m/16:=by rw[amV m1,aJ (by omega) (by omega)]
   have w2:amy m 16=m%16:=Int.tmod_eq_emod_of_nonneg m1;simp[w,w2]
  .rw[if_pos (by omega)]at hv;obtain rfl:=alU hv
   rcases gq with rfl|rfl|rfl|rfl|rfl|rfl
   .simp
   .simp
   .simp
   .simp
   .simp
   .exact absurd rfl h
 unfold M.bL;simp only[Jf,cJ,ha,hex,q9,Bj,hco,alS,dc,decide_eq_true hp];simp
theorem MC{n:Ty}{v:Vl}(hv:sL n=some v)(hp:dp v.1 v.2.1 v.2.2)(env:cz.den):jL env n []=(v,0):=by
 obtain⟨(op:Int),(m:Int)⟩:=n
 have h:(op=1\/op=2\/op=3\/op=4\/op=5\/op=6)/\(op=6->0<=m/\m<128):=by
  have dM:=hv;unfold sL at dM;dsimp only[ae,Row.den]at dM;split at dM
  .omega
  .split at dM
   .omega
   .cases dM
 unfold jL;rw[Pf h.1 h.2 hv hp env];rfl
end L.P.Q
end Go.Proofs.YtmihpkfkbfgigaaGreatDoor
end
section
open _root_.Bool renaming false_eq_true->al2,not_true->am4
open _root_.Go.IntKind renaming i64->alT
open _root_.List renaming append_assoc->amk,drop_eq_getElem_cons->amx,getElem?_append_left->amq,getElem?_append_right->amH,getElem?_eq_getElem->alV,getElem_append_right->ame,getElem_mem->al0,length_map->amm,length_take->amd,mem_append->amf,mem_singleton->ama,set_append_right->amz,take_length->amc
open _root_.Nat renaming le_refl->alZ,min_eq_left->amF,zero_le->amj
open _root_.Option renaming bind_some->alS
open _root_.Option.some renaming inj->alU
namespace Go.Proofs.YtmihpkfkbfgigaaGreatDoor
open Go Go.RowKit
set_option maxRecDepth 100000
namespace L.P.Q
theorem Dn{α:Type}{f:α->α}{body:Int×List α->Option ((Int×List α)⊕List α)}{l0:List α}(hl:l0.length<=1000)
 (hb:∀(j:Nat)(hj:j<l0.length)(l:List α)(Bh:l.length=l0.length),l[j]'(by omega)=l0[j]->Wp (body ((j:Int),l)) fun s=>s= .inl (((j+1:Nat):Int),l.set j (f l0[j])))
 (he:∀l:List α,l.length=l0.length->Wp (body ((l0.length:Int),l)) fun s=>s= .inr l):Wp (Loop body aB ((0:Int),l0)) fun r=>r=l0.map f:=by
 refine Wp.loop (fun s=>∃k:Nat,s=((k:Int),(l0.take k).map f++l0.drop k)/\k<=l0.length) (fun s=>(l0.length-s.1).toNat) ⟨0,by simp,amj _⟩ (by unfold aB;simp only;omega) ?_
 rintro _ ⟨k,rfl,hk⟩
 have hlen:((l0.take k).map f++l0.drop k).length=l0.length:=by simp;omega
 by_cases h:k<l0.length
 .refine(hb k h _ hlen ?_).mono ?_
  .rw[ame (by simp;omega)];simp[amF hk]
  .rintro _ rfl
   refine⟨⟨k+1,?_,h⟩,by simp only;omega⟩;refine Prod.ext rfl ?_
   show(List.map f (List.take k l0)++List.drop k l0).set k (f l0[k])=_
   rw[amz _ _ (by simp;omega),List.take_succ_eq_append_getElem h,List.map_append,amk]
   congr 1
   rw[amm,amd,amF hk,Nat.sub_self,amx h];rfl
 .obtain rfl:k=l0.length:=by omega
  refine(he _ hlen).mono ?_
  rintro _ rfl
  show _=_
  simp
structure SN(code:List Ty)(i k:Nat)(v:Vl):Prop where
 k1:1<=k
 ki:k<=i
 ex:∃(n:Ty)(vs:List Vl),code[i]? =some n/\¬lK n/\ar n.1=k/\vs.length=k/\(∀j,j<k->∃x y,code[i-k+j]? =some x/\vs[j]? =some y/\sL x=some y)/\jL e0 n vs=(v,0)
 nj:∀m∈code,lK m->¬((i:Int)-k<m.2/\(m.2:Int)<=i)
theorem Pg{code:List Ty}{i:Nat}(hi:i<code.length)(hl:code.length<=1000)(hw:∀n∈code,WF aa n):Wp (M.ix aB code (i:Int)) fun r=>r.2.2=true->∃(k:Nat)(v:Vl),r.2.1=(k:Int)/\r.1=ot v/\SN code i k v:=by
 have no:∀(c:Int)(m:Ty),((m,c,false):Ty×Int×Bool).2.2=true->∃(k:Nat)(v:Vl),((m,c,false):Ty×Int×Bool).2.1=(k:Int)/\((m,c,false):Ty×Int×Bool).1=ot v/\SN code i k v:=fun c m h=>by cases h
 have hn:=hw _ (al0 hi);have hge:=alV hi;unfold M.ix;rw[ah hi];generalize code[i]=n at hn hge;simp only[alS,nn,cJ]
 refine Wp.dec (fun _=> .some (no 0 ((0,0):Int×Int))) fun hj=>?_
 have Jd:=kK n.1
 refine Wp.seq (fun j=>j=false->1<=ar n.1/\ar n.1<=i) ?_ fun jj SO=>?_
 .refine Wp.dec (fun _=> .some fun h=>by cases h) fun h1=> .some fun h2=>?_
  have h2:=of_decide_eq_false h2;omega
 refine Wp.ite (fun _=> .some (no 0 ((0,0):Int×Int))) fun hc=>?_
 obtain⟨q1,q2⟩:=SO (by simpa using hc)
 obtain⟨k,hk⟩:∃k:Nat,ar n.1=k:=⟨(ar n.1).toNat,by omega⟩
 rw[hk]at q1 q2 Jd⊢
 have Gt:1<=k:=by omega
 have SF:k<=i:=by omega
 have w1:alT.wrap ((i:Int)-(k:Int))=((i-k:Nat):Int):=by rw[aJ (by omega) (by omega)];omega
 rw[w1,lk (i-k) i rfl rfl (by omega) (by omega)];simp only[alS]
 have zh:((code.take i).drop (i-k)).length=k:=by simp;omega
 have XK:∀j(h:j<((code.take i).drop (i-k)).length),code[i-k+j]? =some (((code.take i).drop (i-k))[j]):=by
  intro j h;rw[List.getElem_drop,List.getElem_take];exact alV _
 obtain⟨l6,XQ⟩:∃l6,l6=(code.take i).drop (i-k):=⟨_,rfl⟩
 rw[<-XQ];rw[<-XQ]at zh
 replace XK:∀j(h:j<l6.length),code[i-k+j]? =some l6[j]:=by subst XQ;exact XK
 clear XQ;refine Wp.join (Wp.loop (fun s:Int×List Vl=>∃j:Nat,s.1=j/\j<=k/\s.2.length=j/\∀t,t<j->∃x y,code[i-k+t]? =some x/\s.2[t]? =some y/\sL x=some y) (fun s=>(k-s.1).toNat) ⟨0,rfl,amj _,rfl,fun t h=>by omega⟩ (by unfold aB;simp only;omega) ?_)
 rintro⟨_,vs⟩ ⟨j,rfl,WQ,JW,hv⟩
 dsimp only at JW hv⊢
 refine Wp.dec (fun h=>?_) fun h=> .some ?_
 .have Ep:j<l6.length:=by omega
  rw[ah Ep];simp only[alS,vd];cases XR:sL l6[j]with
  |none=>
   simp only[Bool.not_false,if_true];exact .some (no 0 ((0,0):Int×Int))
  |some v=>
   simp only[am4,al2,if_false];rw[bh (by simp;omega),aD (by omega)];simp only[alS];refine .some ⟨⟨j+1,rfl,by omega,by simp[JW],fun t ht=>?_⟩,by simp only;omega⟩;by_cases htj:t<j
   .obtain⟨x,y,h1,h2,h3⟩:=hv t htj;exact⟨x,y,h1,by rw[amq (by omega)];exact h2,h3⟩
   .obtain rfl:t=j:=by omega
    exact⟨_,v,XK t Ep,by rw[amH (by omega)];simp[JW],XR⟩
 obtain rfl:j=k:=by omega
 refine Wp.join (Wp.loop (fun s:Int=>∃t:Nat,s=t/\t<=code.length/\∀m∈code.take t,lK m->¬((i:Int)-j<m.2/\(m.2:Int)<=i)) (fun s=>(code.length-s).toNat) ⟨0,rfl,amj _,by simp⟩ (by unfold aB;omega) ?_)
 rintro _ ⟨t,rfl,ht,QH⟩
 refine Wp.dec (fun h=>?_) fun h=> .some ?_
 .have FQ:t<code.length:=by omega
  rw[ah FQ];simp only[alS]
  refine Wp.seq (fun b=>b=false->lK code[t]->¬((i:Int)-j<(code[t].2:Int)/\(code[t].2:Int)<=i)) ?_ fun b hb=>?_
  .refine Wp.dec (fun g1=>Wp.dec (fun g2=> .some fun g3 _=>?_) fun g2=> .some fun _ _ g=>?_) fun g1=> .some fun _ g=>absurd g g1
   .have g3:=of_decide_eq_false g3
    exact fun g=>g3 g.2
   .apply g2;have g4:=g.1;revert g4;generalize(code[t].2:Int)=z;intro g4;dsimp only[ae,Row.den]at*;omega
  refine Wp.ite (fun _=> .some (no 0 ((0,0):Int×Int))) fun vj=> .some ?_
  rw[aD (by omega)];refine⟨⟨t+1,rfl,FQ,fun m hm QI=>?_⟩,by simp only;omega⟩;rw[List.take_succ_eq_append_getElem FQ]at hm
  rcases amf.1 hm with hm|hm
  .exact QH m hm QI
  .obtain rfl:=ama.1 hm;exact hb (by simpa using vj) QI
 rw[List.take_of_length_le (by omega)]at QH
 show Wp ((M.bL aB n vs e0).bind _) _
 obtain⟨r,hr,hra⟩:=G0 (args:=vs) Dm hn (by omega);obtain⟨r',p6,adE⟩:=pI (args:=vs) Dm hn (by omega);rw[hr]at p6;obtain rfl:=alU p6;rw[hr];simp only[alS]
 refine Wp.jz (fun _=> .some (no 0 ((0,0):Int×Int))) fun h0=>?_
 rw[yk _ (adE.ok h0)];simp only[alS]
 have Eb:jL e0 n vs=(r.1,0):=by
  unfold jL;rw[hr];exact Prod.ext rfl h0
 exact .some fun _=>⟨j,r.1,rfl,rfl,Gt,SF,⟨n,vs,hge,hj,hk,JW,hv,Eb⟩,QH⟩
def G2(i k:Nat)(n:Ty):Ty:=if lK n/\(i:Int)<n.2 then((n.1,(n.2:Int)-k):Int×Int)else n
def qD(code:List Ty)(i k:Nat)(m:Ty):List Ty:=((code.take (i-k)++[m])++code.drop (i+1)).map (G2 i k)
theorem Ph{code:List Ty}{i k:Nat}{m:Ty}(hi:i<code.length)(hk:k<=i)(hl:code.length<=1000)(hw:∀n∈code,WF aa n)(hm:¬lK m):Wp (M.ee aB code (i:Int) (k:Int) m) fun r=>r=qD code i k m:=by
 unfold M.ee
 have w1:alT.wrap ((i:Int)-(k:Int))=((i-k:Nat):Int):=by rw[aJ (by omega) (by omega)];omega
 rw[w1,gG (by omega),aD (by omega),lk (i+1) code.length rfl rfl (by omega) (alZ _),amc];simp only[alS];rw[bh (by simp;omega)];simp only[alS,List.nil_append];rw[bh (by simp;omega)];simp only[alS];rw[bh (by simp;omega)];simp only[alS]
 have hwl:∀n∈(code.take (i-k)++[m])++code.drop (i+1),n=m\/n∈code:=by
  intro n hn
  rcases amf.1 hn with hn|hn
  .rcases amf.1 hn with hn|hn
   .exact .inr (List.mem_of_mem_take hn)
   .exact .inl (ama.1 hn)
  .exact .inr (List.mem_of_mem_drop hn)
 have Bh:((code.take (i-k)++[m])++code.drop (i+1)).length<=1000:=by simp;omega
 unfold qD;generalize(code.take (i-k)++[m])++code.drop (i+1)=l5 at hwl Bh⊢
 refine Dn Bh (fun j hj l hlen hlj=>?_) fun l hlen=>?_
 .have P0:j<l.length:=by omega
  have Bk:=hwl _ (al0 hj);dsimp only;rw[ah P0,hlj];simp only[alS,nn,aF];generalize hx:l5[j]=x at Bk hlj⊢;refine .some ?_;rw[if_pos (decide_eq_true (by omega)),aD (by omega)]
  have Yv:lK x->WF aa x:=fun h=>Bk.elim (fun e=>absurd (e▸h) hm) (hw x)
  have e:(if(if decide (50<=(x.1:Int)/\(x.1:Int)<=53)=true then decide ((i:Int)<x.2)else false)=true then aH l (j:Int) ((x.1,alT.wrap ((x.2:Int)-(k:Int))):Int×Int)else l)=l.set j (G2 i k x):=by
   unfold G2;by_cases h:lK x/\(i:Int)<x.2
   .have vf:=(Yv h.1).2.2;have g:(50<=(x.1:Int)/\(x.1:Int)<=53):=h.1
    have w2:alT.wrap ((x.2:Int)-(k:Int))=(x.2:Int)-k:=by
     have h2:=h.2;revert vf h2;generalize(x.2:Int)=z;intro vf h2;have:z<=9223372036854775807:=vf;dsimp only[ae,Row.den]at*;exact aJ (by omega) (by omega)
    rw[if_pos h,if_pos (by simp[g,h.2]),w2];simp[aH]
   .rw[if_neg h,if_neg (fun hc=>h ?_)]
    .rw[<-hlj];simp
    .by_cases g:(50<=(x.1:Int)/\(x.1:Int)<=53)
     .rw[if_pos (decide_eq_true g)]at hc;exact⟨g,by simpa using hc⟩
     .rw[if_neg (by simpa using g)]at hc;cases hc
  rw[e]
 .dsimp only
  exact Wp.dec (fun h=>by omega) fun _=> .some rfl
end L.P.Q
end Go.Proofs.YtmihpkfkbfgigaaGreatDoor
end
section
open _root_.List renaming append_assoc->amk,getElem?_append_left->amq,getElem?_append_right->amH,getElem?_drop->ami,getElem?_eq_getElem->alV,getElem?_eq_some_iff->alW,getElem?_map->amD,length_append->alY,length_eq_zero_iff->am1,length_singleton->al6,length_take->amd,mem_append->amf,mem_map->anq,mem_of_getElem?->amM,mem_singleton->ama
open _root_.Nat renaming eq_of_beq_eq_true->amN,le_refl->alZ,min_eq_left->amF,zero_le->amj
open _root_.Option renaming bind_some->alS
open _root_.Option.some renaming inj->alU
namespace Go.Proofs.YtmihpkfkbfgigaaGreatDoor
open Go Go.RowKit
set_option maxRecDepth 100000
namespace L.P.Q
theorem G3(i k:Nat)(n:Ty):((G2 i k n).1:Int)=n.1:=by
 unfold G2
 split<;>rfl
theorem G4{i k:Nat}{n:Ty}(h:¬lK n):G2 i k n=n:=by
 unfold G2;rw[if_neg (fun g=>h g.1)]
section
variable {code:List Ty} {i k:Nat} {m:Ty}
theorem Dq(hi:i<code.length)(hk:k<=i):(qD code i k m).length+k=code.length:=by
 simp[qD];omega
theorem Pj{q:Nat}(hi:i<code.length)(h:q<i-k):(qD code i k m)[q]? =(code[q]?).map (G2 i k):=by
 unfold qD;rw[amD,amk,amq (by simp;omega),List.getElem?_take_of_lt h]
theorem Pk(hi:i<code.length)(hm:¬lK m):(qD code i k m)[i-k]? =some m:=by
 unfold qD;rw[amD,amk,amH (by simp;omega),amd,amF (by omega),Nat.sub_self];simp[G4 hm]
theorem Pm{q:Nat}(hi:i<code.length)(hk:k<=i)(h:i-k<q):(qD code i k m)[q]? =(code[q+k]?).map (G2 i k):=by
 unfold qD;rw[amD,amH (by simp;omega),alY,amd,amF (by omega),al6,ami]
 congr 2
 omega
theorem ub(F:List Int)(q:Nat):gd F q=(F[q]?).getD (-1):=rfl
def FR(code:List Ty)(F:List Int)(i k:Nat)(p q:Nat):Prop:=0<=gd F p/\p<=code.length/\((p<=i-k/\q=p)\/(i<p/\q+k=p))
theorem Jp{v:Vl}{F:List Int}(f:Fits code F)(hi:i<code.length)(h:SN code i k v)(hw:∀n∈code,WF aa n):oO code (qD code i k (ot v)):=by
 obtain⟨Gt,SF,⟨n,vs,hn,hj,ha,JW,TS,Eb⟩,QH⟩:=h;have Bo:=hw n (amM hn)
 have q9:∀u∈vs,dp u.1 u.2.1 u.2.2:=by
  obtain⟨r,hr,hh⟩:=G0 (args:=vs) Dm Bo (by have:=kK n.1;omega)
  have e:r=(v,0):=by
   unfold jL at Eb;rw[hr]at Eb;exact Eb
  rw[e]at hh;exact(hh rfl).2
 have XS:dp v.1 v.2.1 v.2.2:=by
  have:=(GL (args:=vs) Dm Bo (by have:=kK n.1;omega)).ok (by rw[Eb]);rw[Eb]at this;exact this
 obtain⟨XR,hlw⟩:=G1 XS;obtain⟨l1,l2,l3⟩:=sM XR;have hbl:=Dq (m:=ot v) hi SF;have hle:=f.le;have TO:=f.len
 have g1:∀q,q<=i-k->gd (F.take (i-k+1)++F.drop (i+1)) q=gd F q:=by
  intro q hq;rw[ub,amq (by simp;omega),List.getElem?_take_of_lt (by omega)];rfl
 have g2:∀q,i-k<q->gd (F.take (i-k+1)++F.drop (i+1)) q=gd F (q+k):=by
  intro q hq;rw[ub,amH (by simp;omega),amd,amF (by omega),ami,ub]
  congr 2
  omega
 have dep:∀p q,FR code F i k p q->gd (F.take (i-k+1)++F.drop (i+1)) q=gd F p:=by
  rintro p q ⟨_,_,⟨a1,rfl⟩|⟨a1,a2⟩⟩
  .exact g1 _ a1
  .rw[g2 _ (by omega),a2]
 have keep:∀p q x,FR code F i k p q->p≠i-k->code[p]? =some x->NJ code (qD code i k (ot v)) (FR code F i k) p q:=by
  rintro p q x ⟨b1,b2,b3⟩ bR hx
  have aj:p<code.length:=(alW.1 hx).1
  have hb:(qD code i k (ot v))[q]? =some (G2 i k x):=by
   rcases b3 with⟨a1,rfl⟩|⟨a1,rfl⟩
   .rw[Pj hi (by omega),hx];rfl
   .rw[Pm hi SF (by omega),hx];rfl
  have next:0<=gd F (p+1)->FR code F i k (p+1) (q+1):=fun h=>⟨h,aj,by omega⟩
  have WR:∀t:Nat,lK x->(x.2:Int)=t->p<t->t<=code.length->0<=gd F t->∃t':Nat,((G2 i k x).2:Int)=t'/\q<t'/\FR code F i k t t':=by
   intro t DU ht C7 uY XT;have hn:=QH x (amM hx) DU;rw[ht]at hn;have hn:¬((i:Int)-k<(t:Int)/\(t:Int)<=i):=hn;by_cases hc:i<t
   .refine⟨t-k,?_,by omega,XT,uY, .inr ⟨hc,by omega⟩⟩;unfold G2;rw[if_pos ⟨DU,by rw[ht];exact(by omega:(i:Int)<(t:Int))⟩]
    show(x.2:Int)-k=_
    rw[ht];exact(by omega:(t:Int)-k=((t-k:Nat):Int))
   .refine⟨t,?_,by omega,XT,uY, .inl ⟨by omega,rfl⟩⟩;unfold G2;rw[if_neg (fun g=>by have g2:=g.2;rw[ht]at g2;have g2:(i:Int)<(t:Int):=g2;omega)];exact ht
  by_cases DU:lK x
  .obtain⟨s1,_⟩:=f.at hx b1
   rcases s1 with⟨c1,t,c2,c3,c4,c5⟩|⟨c1,c2,c3,t,c4,c5,c6,c7⟩|⟨c1,c2,_⟩
   .obtain⟨t',d1,d2,d3⟩:=WR t DU c2 c3 c4 (by omega);exact .jump hx hb c1 ((G3 i k x).trans c1) c2 d1 d2 d3
   .obtain⟨t',d1,d2,d3⟩:=WR t DU c4 c5 c6 (by rw[c7];split<;>omega);exact .cond hx hb c1 (G3 i k x) c4 d1 d2 d3 (next (by omega))
   .exact(mY DU).elim (fun e=>absurd e c1) (fun e=>absurd e c2)
  .rw[G4 DU]at hb;obtain⟨s1,s2,s3,_⟩:=f.op hx DU b1;exact .op hx hb DU (next (by omega))
 have pd:0<=gd F (i-k)->NJ code (qD code i k (ot v)) (FR code F i k) (i-k) (i-k):=by
  intro h0
  have hd:=rA f h0 k fun j hj=>by
   obtain⟨x,y,x1,_,x2⟩:=TS j hj;obtain⟨y1,y2,_⟩:=sM x2;exact⟨x,x1,y1,y2⟩
  have e1:i-k+k=i:=by omega
  rw[e1]at hd;obtain⟨s1,s2,s3,_⟩:=f.op hn hj (by omega);refine .block (k:=k) (n:=n) (m:=ot v) (vs:=vs) (v:=v) (fun j Ep=>?_) JW (by rw[e1];exact hn) hj ha (fun env _=>?_) (Pk hi l1) l1 l2 l3 (fun env _=>MC XR XS env) ?_
  .obtain⟨x,y,x1,x2,x3⟩:=TS j Ep;obtain⟨y1,y2,_⟩:=sM x3;exact⟨x,y,x1,x2,y1,y2,fun env _=>MC x3 (q9 y (amM x2)) env⟩
  .rw[SM Bo (by omega) (by rw[Eb]) env,Eb]
  .rw[e1];exact⟨by omega,by omega, .inr ⟨by omega,by omega⟩⟩
 have bwd:Bd F:=f.bd
 have s:Pd code (qD code i k (ot v)) F (F.take (i-k+1)++F.drop (i+1)) (FR code F i k):=by
  refine⟨f,by omega,by omega,by simp;omega,fun q=>?_,fun p q h=>⟨h.1,h.2.1,?_,dep p q h⟩,fun p q h=>?_,fun q hq h0=>?_,⟨by rw[f.first];decide,amj _, .inl ⟨amj _,rfl⟩⟩,⟨by rw[f.last];decide,alZ _, .inr ⟨hi,by omega⟩⟩⟩
  .by_cases hq:q<=i-k
   .rw[g1 q hq];exact bwd q
   .rw[g2 q (by omega)];exact bwd _
  .obtain⟨_,a2,a3⟩:=h;omega
  .by_cases hp:p=code.length
   .left
    refine⟨hp,?_⟩;obtain⟨_,a2,a3⟩:=h;omega
   .right;left
    have aj:p<code.length:=by have:=h.2.1;omega
    by_cases tK:p=i-k
    .obtain⟨a1,a2,a3⟩:=h
     have hq:q=i-k:=by omega
     subst tK;rw[hq];exact pd a1
    .exact keep p q _ h tK (alV aj)
  .by_cases hqk:q<=i-k
   .rw[g1 q hqk]at h0
    have hR:FR code F i k q q:=⟨h0,by omega, .inl ⟨hqk,rfl⟩⟩
    by_cases he:q=i-k
    .subst he;exact⟨_,hR,pd h0⟩
    .exact⟨q,hR,keep q q _ hR he (alV (by omega))⟩
   .rw[g2 q (by omega)]at h0
    have hR:FR code F i k (q+k) q:=⟨h0,by omega, .inr ⟨by omega,rfl⟩⟩
    exact⟨q+k,hR,keep _ q _ hR (by omega) (alV (by omega))⟩
 refine s.same (by omega) fun x hx=>?_
 obtain⟨y,hy,rfl⟩:=anq.1 hx
 have BV:WF aa y:=by
  rcases amf.1 hy with hy|hy
  .rcases amf.1 hy with hy|hy
   .exact hw y (List.mem_of_mem_take hy)
   .obtain rfl:=ama.1 hy;exact hlw
  .exact hw y (List.mem_of_mem_drop hy)
 unfold G2;split
 .rename_i hc;refine⟨BV.1,?_,?_⟩
  .have h2:=hc.2;have h3:=BV.2.1
   show(-9223372036854775808:Int)<=(y.2:Int)-k
   revert h2 h3;generalize(y.2:Int)=z;intro h2 h3;dsimp only[ae,Row.den]at*;omega
  .have h3:=BV.2.2
   show(y.2:Int)-k<=(9223372036854775807:Int)
   revert h3;generalize(y.2:Int)=z;intro h3;have h4:z<=(9223372036854775807:Int):=h3;dsimp only[ae,Row.den]at*;omega
 .exact BV
end
theorem xq{l:List Ty}(hl:l.length<=1000):M.ao aB l=some l:=by
 unfold M.ao
 have e:bZ ([]:List aa.den) l=some l:=by rw[bh (by simp;omega)];rfl
 rw[e];simp only[alS];split
 .rename_i h;have:l=[]:=am1.1 (amN h);subst this;unfold wN;rw[if_pos rfl]
 .rfl
theorem pL(code:List Ty):Wp (M.eH aB code) fun b=>b=true↔∃F,Fits code F:=by
 unfold M.eH;obtain⟨y,hy,h⟩:=uK code;rw[hy];simp only[alS];refine .some ⟨fun hb=>h (by simpa using hb),fun⟨F,f⟩=>?_⟩;obtain⟨y',BV,h'⟩:=f.verify;rw[hy]at BV;obtain rfl:=alU BV;simpa using h'
def SP(code:List Ty):Prop:=∀i:Nat,i<code.length->Wp (M.ix aB code (i:Int)) fun r=>r.2.2=false
theorem Pn{code:List Ty}(hl:code.length<=1000)(hw:∀n∈code,WF aa n):Wp (M.dL aB code) fun y=>((¬∃F,Fits code F)/\y=code)\/((∃F,Fits code F)/\oO code y/\SP y):=by
 unfold M.dL;rw[xq hl];simp only[alS];obtain⟨b,hb,Ej⟩:=pL code;rw[hb];simp only[alS];refine Wp.join (Wp.ite (fun hc=> .some ?_) fun hc=> .some ?_)
 .exact .inl ⟨fun h=>(by rw[Ej.2 h]at hc;cases hc),rfl⟩
 have hF:∃F,Fits code F:=Ej.1 (by simpa using hc)
 have MD:oO code code:=⟨hF,alZ _,hw,fun _ _ _ h=>h⟩
 refine Wp.loop (fun s:List Ty=>oO code s) (fun s=>s.length) MD (by unfold aB;omega) ?_;intro s hs;have gJ:s.length<=1000:=Nat.le_trans hs.le hl;refine Wp.join (Wp.loop (fun t:Int×List Ty=>∃i:Nat,t.1=i/\i<=s.length/\t.2=s/\∀j,j<i->Wp (M.ix aB s (j:Int)) fun r=>r.2.2=false) (fun t=>(s.length-t.1).toNat) ⟨0,rfl,amj _,rfl,fun j h=>by omega⟩ (by unfold aB;simp only;omega) ?_)
 rintro⟨_,s⟩ ⟨i,rfl,hi,rfl,DN⟩
 dsimp only at hi DN gJ hs⊢
 refine Wp.dec (fun h=>?_) fun h=> .some (.some ?_)
 .have gr:i<s.length:=by omega
  obtain⟨r,hr,hr2⟩:=Pg gr gJ hs.wf;rw[hr];simp only[alS]
  refine Wp.ite (fun h1=>?_) fun h1=> .some ?_
  .obtain⟨k,v,e1,e2,hf⟩:=hr2 h1
   have XS:¬lK (ot v):=by
    obtain⟨n,vs,hn,_,_,JW,_,Eb⟩:=hf.ex;have:=(GL (args:=vs) Dm (hs.wf n (amM hn)) (by have:=hf.ki;omega)).ok (by rw[Eb]);rw[Eb]at this;exact(sM (G1 this).1).1
   rw[e1,e2]
   refine Wp.seq _ (Ph gr hf.ki gJ hs.wf XS) fun y hy=> .some ?_
   obtain⟨F,f⟩:=hs.fits;rw[hy];refine⟨hs.trans (Jp f gr hf hs.wf),?_⟩;have:=Dq (m:=ot v) gr hf.ki;have:=hf.k1
   show(qD s i k (ot v)).length<s.length
   omega
  .rw[aD (by omega)];refine⟨⟨i+1,rfl,gr,rfl,fun j hj=>?_⟩,by simp only;omega⟩;by_cases e:j=i
   .subst e;exact⟨r,hr,by simpa using h1⟩
   .exact DN j (by omega)
 .obtain rfl:i=s.length:=by omega
  exact .inr ⟨hF,hs,DN⟩
end L.P.Q
end Go.Proofs.YtmihpkfkbfgigaaGreatDoor
end
section
open _root_.Int renaming toNat_natCast->al1
open _root_.List renaming getElem?_eq_getElem->alV,getElem?_eq_some_iff->alW,getElem_mem->al0,getElem_of_mem->amb
open _root_.Nat renaming le_refl->alZ,zero_le->amj
open _root_.Option renaming bind_some->alS
open _root_.Option.some renaming inj->alU
open _root_.Sum renaming inr->amP
namespace Go.Proofs.YtmihpkfkbfgigaaGreatDoor
open Go Go.RowKit
set_option maxRecDepth 100000
namespace L.P.Q
inductive JZ(code:List Ty):Int->Int->Prop
 |refl (t:Int):JZ code t t
 |next {t:Nat} {n:Ty} {T:Int} (h:code[t]? =some n) (pb:(n.1:Int)=51) (aj:(t:Int)<n.2) (hT:JZ code n.2 T):JZ code t T
theorem JZ.snoc{code:List Ty}{s:Int}{t:Nat}{n:Ty}(h:JZ code s t)(hn:code[t]? =some n)(pb:(n.1:Int)=51)(aj:(t:Int)<n.2):JZ code s n.2:=by
 generalize hx:(t:Int)=x at h
 induction h with
 |refl u=>subst hx;exact .next hn pb aj (.refl _)
 |next g g51 glt gT ih=>exact .next g g51 glt (ih hx)
def XU(x:Int):Prop:= -9223372036854775808<=x/\x<=9223372036854775807
theorem ME{n:Ty}(h:WF aa n):XU n.2:=h.2
theorem Jq{code:List Ty}(hl:code.length<=1000)(hw:∀n∈code,WF aa n){t0:Int}(h0:XU t0):Wp (Loop (S:=Int) (X:=Int) (fun s9=>
((if(decide ((0:Int)<=s9))=true then
(if(decide (s9<(code.length:Int)))=true then
(idx code s9).bind fun o8=>
(if(decide (o8.1=(51:Int)))=true then
(idx code s9).bind fun qA=>
some (decide (s9<qA.2))
else
some false)
else
some false)
else
some false):Option (Bool)).bind fun qS=>
(if qS=true then
(idx code s9).bind fun pe=>
some (Sum.inl pe.2)
else
some (amP s9))) aB t0) fun T=>JZ code t0 T/\XU T:=by
 refine Wp.loop (fun s=>JZ code t0 s/\XU s) (fun s=>(code.length-s).toNat) ⟨.refl _,h0⟩ (by obtain⟨a,b⟩:=h0;unfold aB;omega) ?_
 rintro s ⟨hs,hr⟩
 refine Wp.seq (fun b=>b=true->∃(t:Nat)(n:Ty),s=t/\code[t]? =some n/\(n.1:Int)=51/\(t:Int)<n.2) ?_ fun b hb=>?_
 .refine Wp.dec (fun h1=>Wp.dec (fun h2=>?_) fun _=> .some fun h=>by cases h) fun _=> .some fun h=>by cases h
  obtain⟨t,rfl⟩:∃t:Nat,s=t:=⟨s.toNat,by omega⟩
  have ht:t<code.length:=by omega
  rw[ah ht];simp only[alS]
  refine Wp.dec (fun h3=> .some fun h4=>?_) fun _=> .some fun h=>by cases h
  exact⟨t,_,rfl,alV ht,h3,of_decide_eq_true h4⟩
 .refine Wp.ite (fun h=>?_) fun _=> .some ⟨hs,hr⟩
  obtain⟨t,n,rfl,h1,h2,h3⟩:=hb h;obtain⟨ht,rfl⟩:=alW.1 h1;rw[ah ht];simp only[alS];refine .some ⟨⟨hs.snoc h1 h2 h3,ME (hw _ (al0 ht))⟩,?_⟩;revert h3;generalize(code[t].2:Int)=z;intro h3;have h3:(t:Int)<z:=h3
  show((code.length:Int)-z).toNat<((code.length:Int)-t).toNat
  have:(t:Int)<code.length:=by omega
  omega
def WS(code:List Ty)(n m:Ty):Prop:=(m.1:Int)=n.1/\WF aa m/\(¬lK n->m=n)/\(lK n->JZ code n.2 m.2)
theorem Jr{code:List Ty}(hl:code.length<=1000)(hw:∀n∈code,WF aa n):Wp (M.ey aB code) fun y=>((¬∃F,Fits code F)/\y=code)\/((∃F,Fits code F)/\y.length=code.length/\∀(i:Nat)n,code[i]? =some n->∃m,y[i]? =some m/\WS code n m):=by
 unfold M.ey;rw[xq hl];simp only[alS];obtain⟨b,hb,Ej⟩:=pL code;rw[hb];simp only[alS]
 refine Wp.ite (fun hc=> .some (.inl ⟨fun h=>(by rw[Ej.2 h]at hc;cases hc),rfl⟩)) fun hc=>?_
 have hF:∃F,Fits code F:=Ej.1 (by simpa using hc);refine Wp.loop (fun s:Int×List Ty=>∃i:Nat,s.1=i/\i<=code.length/\s.2.length=code.length/\(∀(j:Nat)n,code[j]? =some n->j<i->∃m,s.2[j]? =some m/\WS code n m)/\∀j:Nat,i<=j->s.2[j]? =code[j]?) (fun s=>(code.length-s.1).toNat) ⟨0,rfl,amj _,rfl,fun j n _ h=>by omega,fun j _=>rfl⟩ (by unfold aB;simp only;omega) ?_
 rintro⟨_,out⟩ ⟨i,rfl,hi,XV,MF,BS⟩
 dsimp only at XV MF BS⊢
 refine Wp.dec (fun h=>?_) fun h=> .some (.inr ⟨hF,XV,fun j n hn=>MF j n hn ?_⟩)
 case refine_2=>
  have:=(alW.1 hn).1;omega
 have gr:i<code.length:=by omega
 have XW:i<out.length:=by omega
 have hge:=alV gr
 have Un:out[i]=code[i]:=by
  have:=BS i (alZ _);rw[alV XW,hge]at this;exact alU this
 have Bo:=hw _ (al0 gr);rw[ah gr];simp only[alS,nn]
 refine Wp.seq (fun o=>o.length=code.length/\(∃m,o[i]? =some m/\WS code code[i] m)/\∀j:Nat,j≠i->o[j]? =out[j]?) ?_ fun o ho=> .some ?_
 .refine Wp.seq (fun o=>o.length=code.length/\(∃m,o[i]? =some m/\WS code code[i] m)/\∀j:Nat,j≠i->o[j]? =out[j]?) ?_ fun o ho=> .some ho
  generalize code[i]=n at Bo Un hge⊢
  refine Wp.jz (fun hj=> .some ⟨XV,⟨n,by rw[alV XW,Un],rfl,Bo,fun _=>rfl,fun h=>absurd h hj⟩,fun j _=>rfl⟩) fun hj=>?_
  refine Wp.seq _ (Jq hl hw (ME Bo)) fun T hT=>?_
  rw[ah XW,Un];simp only[alS];refine .some ⟨by simp[aH,XV],⟨((n.1,T):Int×Int),by simp[aH,XW],rfl,⟨Bo.1,hT.2⟩,fun h=>absurd hj h,fun _=>hT.1⟩,fun j hj=>?_⟩;simp only[aH,al1];rw[List.getElem?_set_ne (Ne.symm hj)]
 .obtain⟨o1,o2,o3⟩:=ho;rw[aD (by omega)];refine⟨⟨i+1,rfl,gr,o1,fun j n hn hj=>?_,fun j hj=>?_⟩,by simp only;omega⟩
  .by_cases e:j=i
   .subst e;rw[hge]at hn;obtain rfl:=alU hn;exact o2
   .obtain⟨m,m1,m2⟩:=MF j n hn (by omega);exact⟨m,by rw[o3 j e];exact m1,m2⟩
  .rw[o3 j (by omega)];exact BS j (by omega)
theorem uc{code:List Ty}{F:List Int}(f:Fits code F){x T:Int}(h:JZ code x T):∀p:Nat,x=p->0<=gd F p->p<=code.length->∃q:Nat,T=q/\p<=q/\q<=code.length/\gd F q=gd F p:=by
 induction h with
 |refl t=>exact fun p e h0 hp=>⟨p,e,alZ _,hp,rfl⟩
 | @next t n T hn pb aj hT ih=>
   intro p e h0 hp
   obtain rfl:t=p:=by omega
   obtain⟨s,_⟩:=f.at hn h0
   rcases s with⟨_,u,u1,u2,u3,u4⟩|⟨c,_⟩|⟨c,_⟩
   .obtain⟨q,q1,q2,q3,q4⟩:=ih u u1 (by omega) u3;exact⟨q,q1,by omega,q3,by omega⟩
   .exact absurd pb (nT c)
   .exact absurd pb c
theorem Dr{code y:List Ty}{F:List Int}(f:Fits code F)(Po:y.length=code.length)(hy:∀(i:Nat)n,code[i]? =some n->∃m,y[i]? =some m/\WS code n m):oO code y:=by
 have one:∀p:Nat,p<code.length->0<=gd F p->NJ code y (fun p q=>0<=gd F p/\p<=code.length/\JZ code p q) p p:=by
  intro p hp h0;have hge:=alV hp;generalize code[p]=n at hge;obtain⟨m,hm,e1,hwm,DN,hth⟩:=hy p n hge;by_cases hj:lK n
  .obtain⟨s,_⟩:=f.at hge h0;have ht:=hth hj
   rcases s with⟨c1,t,c2,c3,c4,c5⟩|⟨c1,c2,c3,t,c4,c5,c6,c7⟩|⟨c1,c2,_⟩
   .rw[show(n.2:Int)=t from c2]at ht;obtain⟨q,q1,q2,q3,q4⟩:=uc f ht t rfl (by omega) c4;rw[show(m.2:Int)=q from q1]at ht;exact .jump hge hm c1 (e1.trans c1) c2 q1 (by omega) ⟨by omega,c4,ht⟩
   .have h7:0<=gd F t:=by rw[c7];split<;>omega
    rw[show(n.2:Int)=t from c4]at ht;obtain⟨q,q1,q2,q3,q4⟩:=uc f ht t rfl h7 c6;rw[show(m.2:Int)=q from q1]at ht;exact .cond hge hm c1 e1 c4 q1 (by omega) ⟨h7,c6,ht⟩ ⟨by omega,hp, .refl _⟩
   .exact(mY hj).elim (fun e=>absurd e c1) (fun e=>absurd e c2)
  .rw[DN hj]at hm;obtain⟨s1,s2,s3,_⟩:=f.op hge hj h0;exact .op hge hm hj ⟨by omega,hp, .refl _⟩
 have s:Pd code y F F (fun p q=>0<=gd F p/\p<=code.length/\JZ code p q):=by
  refine⟨f,by rw[Po];exact f.pos,by rw[Po];exact f.le,by rw[Po];exact f.len,f.bd,fun p q h=>?_,fun p q h=>?_,fun q hq h0=>⟨q,⟨h0,by omega, .refl _⟩,one q (by omega) h0⟩,⟨by rw[f.first];decide,amj _, .refl _⟩,?_⟩
  .obtain⟨a1,a2,a3⟩:=h;obtain⟨q',b1,b2,b3,b4⟩:=uc f a3 p rfl a1 a2
   obtain rfl:q=q':=by omega
   exact⟨a1,a2,by omega,b4⟩
  .obtain⟨a1,a2,a3⟩:=h;generalize hx:(p:Int)=x at a3;generalize hz:(q:Int)=z at a3
   cases a3 with
   |refl t=>
    obtain rfl:p=q:=by omega
    by_cases hp:p=code.length
    .exact .inl ⟨hp,by omega⟩
    .exact .inr (.inl (one p (by omega) a1))
   | @next t n T hn pb aj hT=>
     obtain rfl:p=t:=by omega
     obtain⟨s,_⟩:=f.at hn a1
     rcases s with⟨_,u,u1,u2,u3,u4⟩|⟨c,_⟩|⟨c,_⟩
     .refine .inr (.inr ⟨n,u,hn,pb,u1,by omega,u3,?_⟩);rw[show(n.2:Int)=u from u1]at hT;exact hT
     .exact absurd pb (nT c)
     .exact absurd pb c
  .rw[Po];exact⟨by rw[f.last];decide,alZ _, .refl _⟩
 refine s.same (by omega) fun m hm=>?_
 obtain⟨i,hi,rfl⟩:=amb hm
 have gr:i<code.length:=by omega
 obtain⟨m',h1,h2⟩:=hy i _ (alV gr);rw[alV hi]at h1;rw[alU h1];exact h2.2.1
end L.P.Q
end Go.Proofs.YtmihpkfkbfgigaaGreatDoor
end
section
open _root_.Int renaming toNat_natCast->al1
open _root_.List renaming append_nil->amK,getD->amn,getElem?_append_left->amq,getElem?_append_right->amH,getElem?_eq_getElem->alV,getElem?_eq_some_iff->alW,getElem?_map->amD,getElem_mem->al0,getElem_of_mem->amb,length_append->alY,length_map->amm,mem_append->amf,mem_map->anq,mem_of_getElem?->amM,mem_singleton->ama,replicate->alX,replicate_succ->amX
open _root_.Nat renaming le_refl->alZ,zero_le->amj
open _root_.Option renaming bind_some->alS,getD_some->amu
open _root_.Option.some renaming inj->alU
namespace Go.Proofs.YtmihpkfkbfgigaaGreatDoor
open Go Go.RowKit
set_option maxRecDepth 100000
namespace L.P.Q
def gb(l:List Bool)(k:Nat):Bool:=l.getD k false
theorem rB{l:List Bool}{t:Nat}(ht:t<l.length)(d:Bool)(k:Nat):gb (l.set t d) k=if k=t then d else gb l k:=by
 unfold gb amn;by_cases h:k=t
 .subst h;rw[if_pos rfl,List.getElem?_set_self ht];rfl
 .rw[if_neg h,List.getElem?_set_ne (by omega)]
theorem ud{l:List Bool}{t:Nat}(ht:t<l.length):idx l (t:Int)=some (gb l t):=by
 rw[ah ht];simp[gb,amn,ht]
theorem SQ(n k:Nat):gb (alX n false) k=false:=by
 unfold gb amn;by_cases h:k<n
 .simp[h]
 .rw[List.getElem?_eq_none (by simp;omega)];rfl
structure RL(code:List Ty)(F:List Int)(l:List Bool):Prop where
 len:l.length=code.length+1
 zero:gb l 0=true
 sound:∀i,gb l i=true->0<=gd F i
 step:∀(i:Nat)n,code[i]? =some n->gb l i=true->((n.1:Int)≠51->gb l (i+1)=true)/\(lK n->∀t:Nat,(n.2:Int)=t->gb l t=true)
theorem AV{code:List Ty}{F:List Int}(f:Fits code F):Wp (M.fA aB code) fun r=>∃l,RL code F l/\r=l.take code.length:=by
 have hle:=f.le;have nO:=f.pos;unfold M.fA;rw[aD (by omega)]
 have uB:lB ((code.length+1:Nat):Int) false=some (alX (code.length+1) false):=by
  unfold lB;rw[if_pos (by omega),al1]
 rw[uB];simp only[alS]
 have e1:idx (alX (code.length+1) false) 0=some false:=by rw[amX];rfl
 rw[e1];simp only[alS];have es:aH (alX (code.length+1) false) (0:Int) true=(alX (code.length+1) false).set 0 true:=rfl;rw[es]
 have g0:∀k,gb ((alX (code.length+1) false).set 0 true) k=if k=0 then true else false:=fun k=>by
  rw[rB (by simp),SQ]
 refine Wp.seq (RL code F) ?_ fun l hl=>?_
 .refine Wp.loop (fun s:Int×List Bool=>∃i:Nat,s.1=i/\i<=code.length/\s.2.length=code.length+1/\gb s.2 0=true/\(∀j,gb s.2 j=true->0<=gd F j)/\∀(j:Nat)n,j<i->code[j]? =some n->gb s.2 j=true->((n.1:Int)≠51->gb s.2 (j+1)=true)/\(lK n->∀t:Nat,(n.2:Int)=t->gb s.2 t=true)) (fun s=>(code.length-s.1).toNat) ⟨0,rfl,amj _,by simp,by rw[g0];rfl,fun j hj=>?_,fun j n h=>by omega⟩ (by unfold aB;simp only;omega) ?_
  .simp only[g0]at hj;split at hj
   .rename_i e;subst e;rw[f.first];decide
   .cases hj
  rintro⟨_,l⟩ ⟨i,rfl,hi,Bh,hz,hs,fi⟩
  dsimp only at Bh hz hs fi⊢
  refine Wp.dec (fun h=>?_) fun h=> .some ⟨Bh,hz,hs,fun j n hn=>fi j n ?_ hn⟩
  case refine_2=>
   have:=(alW.1 hn).1;omega
  have gr:i<code.length:=by omega
  have hge:=alV gr;rw[ah gr,ud (by omega)];generalize code[i]=n at hge⊢;simp only[alS,nn]
  have mono:∀{a b:List Bool}{t:Nat},t<a.length->0<=gd F t->b=a.set t true->(∀j,gb a j=true->0<=gd F j)->(∀j,gb b j=true->0<=gd F j)/\(∀j,gb a j=true->gb b j=true)/\(∀j,j≠t->gb b j=gb a j)/\gb b t=true:=by
   intro a b t ht h0 e hs;subst e;refine⟨fun j hj=>?_,fun j hj=>?_,fun j hj=>?_,?_⟩
   .rw[rB ht]at hj;split at hj
    .rename_i e;rw[e];exact h0
    .exact hs j hj
   .rw[rB ht];split
    .rfl
    .exact hj
   .rw[rB ht,if_neg hj]
   .rw[rB ht,if_pos rfl]
  refine Wp.seq (fun o=>o.length=code.length+1/\(∀j,gb o j=true->0<=gd F j)/\(∀j,gb l j=true->gb o j=true)/\(∀j,j<=i->gb o j=gb l j)/\(gb l i=true->((n.1:Int)≠51->gb o (i+1)=true)/\(lK n->∀t:Nat,(n.2:Int)=t->gb o t=true))) ?_ fun o ho=> .some ?_
  .by_cases hg:gb l i=true
   .rw[if_neg (by simp[hg])];have h0:=hs i hg;obtain⟨sp,_⟩:=f.at hge h0
    have hnx:(n.1:Int)≠51->0<=gd F (i+1):=by
     intro h
     rcases sp with⟨c,_⟩|⟨_,c2,c3,_⟩|⟨_,_,c3,c4,c5,_⟩
     .exact absurd c h
     .omega
     .omega
    have htg:lK n->∃t:Nat,(n.2:Int)=t/\i<t/\t<=code.length/\0<=gd F t:=by
     intro h
     rcases sp with⟨_,t,c2,c3,c4,c5⟩|⟨_,c2,c3,t,c4,c5,c6,c7⟩|⟨c1,c2,_⟩
     .exact⟨t,c2,c3,c4,by omega⟩
     .exact⟨t,c4,c5,c6,by rw[c7];split<;>omega⟩
     .exact(mY h).elim (fun e=>absurd e c1) (fun e=>absurd e c2)
    refine Wp.seq (fun o=>o.length=code.length+1/\(∀j,gb o j=true->0<=gd F j)/\(∀j,gb l j=true->gb o j=true)/\(∀j,j<=i->gb o j=gb l j)/\((n.1:Int)≠51->gb o (i+1)=true)) ?_ fun o ho=>?_
    .refine Wp.jz (fun pb=>?_) fun pb=> .some ⟨Bh,hs,fun _ h=>h,fun _ _=>rfl,fun h=>absurd pb h⟩
     rw[aD (by omega),ud (by omega)];simp only[alS];obtain⟨m1,m2,m3,m4⟩:=mono (a:=l) (t:=i+1) (by omega) (hnx pb) rfl hs;refine .some ⟨by simp[aH,Bh],m1,m2,fun j hj=>m3 j (by omega),fun _=>m4⟩
    obtain⟨o1,o2,o3,o4,o5⟩:=ho
    refine Wp.dec (fun hj=>?_) fun hj=> .some ⟨o1,o2,o3,o4,fun _=>⟨o5,fun h=>absurd h hj⟩⟩
    obtain⟨t,t1,t2,t3,t4⟩:=htg hj;rw[show(n.2:Int)=t from t1,ud (by omega)];simp only[alS];obtain⟨m1,m2,m3,m4⟩:=mono (a:=o) (t:=t) (by omega) t4 rfl o2;refine .some ⟨by simp[aH,o1],m1,fun j h=>m2 j (o3 j h),fun j hj=>by rw[<-o4 j hj];exact m3 j (by omega),fun _=>⟨fun h=>m2 _ (o5 h),fun _ u hu=>?_⟩⟩
    have:u=t:=by have h:(t:Int)=u:=hu;omega
    subst this;exact m4
   .rw[if_pos (by simpa using hg)];exact .some ⟨Bh,hs,fun _ h=>h,fun _ _=>rfl,fun h=>absurd h hg⟩
  .obtain⟨o1,o2,o3,o4,o5⟩:=ho;rw[aD (by omega)];refine⟨⟨i+1,rfl,gr,o1,o3 0 hz,o2,fun j m hj hm XX=>?_⟩,by simp only;omega⟩;by_cases e:j=i
   .subst e;rw[hge]at hm;obtain rfl:=alU hm;rw[o4 j (alZ _)]at XX;exact o5 XX
   .rw[o4 j (by omega)]at XX;obtain⟨a1,a2⟩:=fi j m (by omega) hm XX;exact⟨fun h=>o3 _ (a1 h),fun h t ht=>o3 _ (a2 h t ht)⟩
 .rw[gG (by rw[hl.len];omega)];simp only[alS];exact .some ⟨l,hl,rfl⟩
def pM(n:Ty)(i:Nat):Prop:=(n.1:Int)=51/\(n.2:Int)=((i+1:Nat):Int)
instance(n:Ty)(i:Nat):Decidable (pM n i):=by unfold pM;infer_instance
structure KL(code:List Ty)(l K:List Bool):Prop where
 len:K.length=code.length
 ok:∀(i:Nat)n,code[i]? =some n->(gb K i=true↔gb l i=true/\¬pM n i)
def ct(K:List Bool):Nat->Nat
 |0=>0
 |i+1=>ct K i+if gb K i=true then 1 else 0
def kp{α:Type}(g:Nat->α)(K:List Bool):Nat->List α
 |0=>[]
 |i+1=>kp g K i++if gb K i=true then[g i]else[]
theorem lT{α:Type}(g:Nat->α)(K:List Bool):∀i,(kp g K i).length=ct K i
 |0=>rfl
 |i+1=>by
  rw[kp,ct,alY,lT g K i]
  split<;>rfl
theorem AW(K:List Bool){i j:Nat}(h:i<=j):ct K i<=ct K j:=by
 induction j with
 |zero=>obtain rfl:i=0:=by omega
        exact alZ _
 |succ j ih=>
  by_cases e:i=j+1
  .rw[e];exact alZ _
  .have:=ih (by omega);rw[ct];omega
theorem zA(K:List Bool):∀i,ct K i<=i
 |0=>alZ _
 |i+1=>by
  have:=zA K i;rw[ct]
  split<;>omega
theorem xr{α:Type}(g:Nat->α)(K:List Bool){i:Nat}(hi:gb K i=true):∀j,i<j->(kp g K j)[ct K i]? =some (g i):=by
 intro j
 induction j with
 |zero=>intro h;omega
 |succ j ih=>
  intro h;rw[kp];by_cases e:i=j
  .subst e;rw[if_pos hi,amH (by rw[lT];exact alZ _),lT,Nat.sub_self];rfl
  .have aj:ct K i<(kp g K j).length:=by
    rw[lT];have h1:ct K (i+1)<=ct K j:=AW K (by omega);rw[ct,if_pos hi]at h1;omega
   rw[amq aj];exact ih (by omega)
theorem AX(K:List Bool){q:Nat}:∀j,q<ct K j->∃i,i<j/\gb K i=true/\ct K i=q:=by
 intro j
 induction j with
 |zero=>intro h;simp[ct]at h
 |succ j ih=>
  intro h;by_cases hq:q<ct K j
  .obtain⟨i,h1,h2,h3⟩:=ih hq;exact⟨i,by omega,h2,h3⟩
  .rw[ct]at h;by_cases hk:gb K j=true
   .rw[if_pos hk]at h;exact⟨j,by omega,hk,by omega⟩
   .rw[if_neg hk]at h;omega
def rj(K:List Bool)(n:Ty):Ty:=if lK n then((n.1,((ct K (n.2:Int).toNat:Nat):Int)):Int×Int)else n
def rem(code:List Ty)(K:List Bool):List Ty:=(kp (fun i=>code.getD i ((0,0):Int×Int)) K code.length).map (rj K)
theorem MG(K:List Bool)(n:Ty):((rj K n).1:Int)=n.1:=by
 unfold rj
 split<;>rfl
theorem MH{K:List Bool}{n:Ty}(h:¬lK n):rj K n=n:=by
 unfold rj;rw[if_neg h]
theorem vg{code:List Ty}{K:List Bool}(hl:code.length<=1000)(hK:K.length=code.length)(hj:∀(i:Nat)n,code[i]? =some n->gb K i=true->lK n->∃t:Nat,(n.2:Int)=t/\t<=code.length):Wp (M.dU aB code K) fun r=>r=rem code K:=by
 unfold M.dU;rw[aD (by omega)]
 have uB:lB ((code.length+1:Nat):Int) (0:Int)=some (alX (code.length+1) 0):=by
  unfold lB;rw[if_pos (by omega),al1]
 rw[uB];simp only[alS]
 refine Wp.seq (fun j=>j.1.length=code.length+1/\(∀t:Nat,t<code.length->j.1[t]? =some (((ct K t:Nat):Int)))/\j.2=kp (fun i=>code.getD i ((0,0):Int×Int)) K code.length) ?_ fun j SO=>?_
 .refine Wp.loop (fun s:Int×List Int×List Ty=>∃i:Nat,s.1=i/\i<=code.length/\s.2.1.length=code.length+1/\(∀t:Nat,t<i->s.2.1[t]? =some (((ct K t:Nat):Int)))/\s.2.2=kp (fun i=>code.getD i ((0,0):Int×Int)) K i) (fun s=>(code.length-s.1).toNat) ⟨0,rfl,amj _,by simp,fun t h=>by omega,rfl⟩ (by unfold aB;simp only;omega) ?_
  rintro⟨_,ps,_⟩ ⟨i,rfl,hi,q9,hp,rfl⟩
  dsimp only at q9 hp⊢
  refine Wp.dec (fun h=>?_) fun h=> .some ?_
  .have gr:i<code.length:=by omega
   rw[ah gr,ah (show i<ps.length by omega),ud (by omega)];simp only[alS]
   have IS:code.getD i ((0,0):Int×Int)=code[i]:=by simp only[amn,gr,alV,amu]
   have G5:=lT (fun i=>code.getD i ((0,0):Int×Int)) K i;have zh:=zA K i
   refine Wp.seq (fun o=>o=(ps.set i (((ct K i:Nat):Int)),kp (fun i=>code.getD i ((0,0):Int×Int)) K (i+1))) ?_ fun o ho=> .some ?_
   .by_cases hg:gb K i=true
    .rw[if_pos hg,bh (by rw[G5];simp;omega)];simp only[alS];refine .some ?_;rw[kp,if_pos hg,IS,G5];rfl
    .rw[if_neg hg];refine .some ?_;rw[kp,if_neg hg,amK,G5];rfl
   .subst ho;rw[aD (by omega)];refine⟨⟨i+1,rfl,gr,by simp[q9],fun t ht=>?_,rfl⟩,by simp only;omega⟩
    show(ps.set i _)[t]? =_
    by_cases e:t=i
    .subst e;rw[List.getElem?_set_self (by omega)]
    .rw[List.getElem?_set_ne (by omega)];exact hp t (by omega)
  .obtain rfl:i=code.length:=by omega
   exact⟨q9,hp,rfl⟩
 .obtain⟨ps,res⟩:=j;obtain⟨p1,p2,rfl⟩:=SO;dsimp only at p1 p2⊢;rw[ah (show code.length<ps.length by omega)];simp only[alS];have zh:=zA K code.length;have G5:=lT (fun i=>code.getD i ((0,0):Int×Int)) K code.length
  have Tt:∀t:Nat,t<=code.length->idx (aH ps (code.length:Int) (((kp (fun i=>code.getD i ((0,0):Int×Int)) K code.length).length:Nat):Int)) (t:Int)=some (((ct K t:Nat):Int)):=by
   intro t ht
   have hlen:t<(aH ps (code.length:Int) (((kp (fun i=>code.getD i ((0,0):Int×Int)) K code.length).length:Nat):Int)).length:=by simp[aH];omega
   rw[ah hlen]
   have e:(aH ps (code.length:Int) (((kp (fun i=>code.getD i ((0,0):Int×Int)) K code.length).length:Nat):Int))[t]? =some (((ct K t:Nat):Int)):=by
    unfold aH;rw[al1,G5];by_cases e:t=code.length
    .subst e;rw[List.getElem?_set_self (by omega)]
    .rw[List.getElem?_set_ne (by omega)];exact p2 t (by omega)
   rw[alV hlen]at e;exact e
  unfold rem
  refine Dn (by omega) (fun q hq l Bh XY=>?_) fun l Bh=>?_
  .have hq2:q<l.length:=by omega
   have hqc:q<ct K code.length:=by omega
   obtain⟨i,i1,i2,i3⟩:=AX K _ hqc
   have IS:code.getD i ((0,0):Int×Int)=code[i]:=by simp only[amn,i1,alV,amu]
   have hx:(kp (fun i=>code.getD i ((0,0):Int×Int)) K code.length)[q]=code[i]:=by
    have:=xr (fun i=>code.getD i ((0,0):Int×Int)) K i2 code.length i1;rw[i3,alV hq,IS]at this;exact alU this
   have hge:=alV i1;rw[hx]at XY⊢;generalize code[i]=x at XY hge⊢;dsimp only;rw[ah hq2,XY];simp only[alS,nn]
   refine Wp.dec (fun _=>?_) fun h=>by omega
   refine Wp.seq (fun o=>o=l.set q (rj K x)) ?_ fun o ho=> .some ?_
   .refine Wp.dec (fun DU=>?_) fun DU=> .some ?_
    .obtain⟨t,t1,t2⟩:=hj i x hge i2 DU;rw[show(x.2:Int)=t from t1,Tt t t2];simp only[alS];refine .some ?_;unfold rj;rw[if_pos (show lK x from DU),t1];simp[aH]
    .rw[MH DU,<-XY];simp
   .rw[ho,aD (by omega)]
  .dsimp only
   exact Wp.dec (fun h=>by omega) fun _=> .some rfl
theorem Ds{K:List Bool}(hl:K.length<=1000):Wp (M.de aB K false) fun b=>(b=true->∃i,i<K.length/\gb K i=false):=by
 unfold M.de M.gQ
 refine Wp.seq (fun r:Int=>0<=r->∃i,i<K.length/\gb K i=false) ?_ fun r hr=> .some fun h=>hr (by simpa using h)
 refine Wp.loop (fun s:Int=>∃i:Nat,s=i/\i<=K.length) (fun s=>(K.length-s).toNat) ⟨0,rfl,amj _⟩ (by unfold aB;omega) ?_
 rintro _ ⟨i,rfl,hi⟩
 refine Wp.dec (fun h=>?_) fun h=> .some fun h=>absurd h (by decide)
 have gr:i<K.length:=by omega
 rw[ud gr];simp only[alS]
 refine Wp.dec (fun h1=> .some fun _=>⟨i,gr,h1.symm⟩) fun h1=> .some ?_
 rw[aD (by omega)];exact⟨⟨i+1,rfl,gr⟩,by simp only;omega⟩
theorem MI{code:List Ty}{F:List Int}{l K:List Bool}(f:Fits code F)(hw:∀n∈code,WF aa n)(r:RL code F l)(k:KL code l K):oO code (rem code K)/\(rem code K).length=ct K code.length:=by
 have hlen:(rem code K).length=ct K code.length:=by unfold rem;rw[amm,lT]
 have zh:=zA K code.length;have hle:=f.le;refine⟨?_,hlen⟩
 have gF:∀i,gb K i=true->i<code.length->gd (kp (fun i=>gd F i) K code.length++[1]) (ct K i)=gd F i:=by
  intro i hi aj;have:=xr (fun i=>gd F i) K hi code.length aj;have hl2:ct K i<(kp (fun i=>gd F i) K code.length).length:=(alW.1 this).1;rw[ub,amq hl2,this];rfl
 have gL:gd (kp (fun i=>gd F i) K code.length++[1]) (ct K code.length)=1:=by
  rw[ub,amH (by rw[lT];exact alZ _),lT,Nat.sub_self];rfl
 have skip:∀(p:Nat)n,code[p]? =some n->gb l p=true->¬gb K p=true->pM n p/\gb l (p+1)=true/\gd F (p+1)=gd F p/\ct K (p+1)=ct K p:=by
  intro p n hn hg hk
  have hx:pM n p:=by
   by_cases h:pM n p
   .exact h
   .exact absurd ((k.ok p n hn).2 ⟨hg,h⟩) hk
  refine⟨hx,(r.step p n hn hg).2 (qV hx.1) (p+1) hx.2,?_,by rw[ct,if_neg hk];rfl⟩;obtain⟨s,_⟩:=f.at hn (r.sound p hg)
  rcases s with⟨_,u,u1,u2,u3,u4⟩|⟨c,_⟩|⟨c,_⟩
  .have:u=p+1:=nat_eq u1 hx.2;rw[<-this];exact u4
  .exact absurd hx.1 (nT c)
  .exact absurd hx.1 c
 have dep:∀(m p:Nat),code.length-p<=m->p<=code.length->gb l p=true->gd (kp (fun i=>gd F i) K code.length++[1]) (ct K p)=gd F p:=by
  intro m
  induction m with
  |zero=>
   intro p hm hp hg
   obtain rfl:p=code.length:=by omega
   rw[gL,f.last]
  |succ m ih=>
   intro p hm hp hg;by_cases aj:p<code.length
   .by_cases hk:gb K p=true
    .exact gF p hk aj
    .obtain⟨_,h1,h2,h3⟩:=skip p _ (alV aj) hg hk;rw[<-h3,<-h2];exact ih (p+1) (by omega) aj h1
   .obtain rfl:p=code.length:=by omega
    rw[gL,f.last]
 have adJ:∀(m p:Nat),code.length-p<=m->p<=code.length->gb l p=true->gb l code.length=true:=by
  intro m
  induction m with
  |zero=>
   intro p hm hp hg
   obtain rfl:p=code.length:=by omega
   exact hg
  |succ m ih=>
   intro p hm hp hg;by_cases aj:p<code.length
   .have hge:=alV aj;obtain⟨s1,s2⟩:=r.step p _ hge hg;by_cases pb:(code[p].1:Int)=51
    .obtain⟨s,_⟩:=f.at hge (r.sound p hg)
     rcases s with⟨_,u,u1,u2,u3,u4⟩|⟨c,_⟩|⟨c,_⟩
     .exact ih u (by omega) u3 (s2 (qV pb) u u1)
     .exact absurd pb (nT c)
     .exact absurd pb c
    .exact ih (p+1) (by omega) aj (s1 pb)
   .obtain rfl:p=code.length:=by omega
    exact hg
 have adK:=adJ code.length 0 (by omega) (amj _) r.zero
 have one:∀p:Nat,p<code.length->gb K p=true->NJ code (rem code K) (fun p q=>gb l p=true/\p<=code.length/\q=ct K p) p (ct K p):=by
  intro p hp hk;have hge:=alV hp
  have hb:(rem code K)[ct K p]? =some (rj K code[p]):=by
   unfold rem;rw[amD,xr _ K hk code.length hp];simp only[amn,hge,amu,Option.map_some]
  have TF:ct K (p+1)=ct K p+1:=by rw[ct,if_pos hk]
  generalize code[p]=n at hge hb;have hg:=((k.ok p n hge).1 hk).1;obtain⟨s1,s2⟩:=r.step p n hge hg
  have WR:∀t:Nat,lK n->(n.2:Int)=t->p<t->t<=code.length->((rj K n).2:Int)=((ct K t:Nat):Int)/\ct K p<ct K t/\gb l t=true:=by
   intro t hj ht C7 uY;refine⟨?_,?_,s2 hj t ht⟩
   .unfold rj;rw[if_pos hj]
    show((ct K (n.2:Int).toNat:Nat):Int)=_
    rw[ht];rfl
   .have:=AW K (show p+1<=t by omega);omega
  by_cases hj:lK n
  .obtain⟨s,_⟩:=f.at hge (r.sound p hg)
   rcases s with⟨c1,t,c2,c3,c4,c5⟩|⟨c1,c2,c3,t,c4,c5,c6,c7⟩|⟨c1,c2,_⟩
   .obtain⟨t1,t2,t3⟩:=WR t hj c2 c3 c4;exact .jump hge hb c1 ((MG K n).trans c1) c2 t1 t2 ⟨t3,c4,rfl⟩
   .obtain⟨t1,t2,t3⟩:=WR t hj c4 c5 c6;exact .cond hge hb c1 (MG K n) c4 t1 t2 ⟨t3,c6,rfl⟩ ⟨s1 (nT c1),hp,TF.symm⟩
   .exact(mY hj).elim (fun e=>absurd e c1) (fun e=>absurd e c2)
  .rw[MH hj]at hb;exact .op hge hb hj ⟨s1 (fun h=>hj (qV h)),hp,TF.symm⟩
 have d0:=dep code.length 0 (by omega) (amj _) r.zero;rw[f.first]at d0
 have nO:0<ct K code.length:=by
  rcases Nat.eq_zero_or_pos (ct K code.length)with h|h
  .rw[h]at gL;have e:ct K 0=0:=rfl;rw[e,gL]at d0;cases d0
  .exact h
 have s:Pd code (rem code K) F (kp (fun i=>gd F i) K code.length++[1]) (fun p q=>gb l p=true/\p<=code.length/\q=ct K p):=by
  refine⟨f,by omega,by omega,by rw[alY,lT,hlen];rfl,fun q=>?_,fun p q h=>?_,fun p q h=>?_,fun q hq h0=>?_,⟨r.zero,amj _,rfl⟩,⟨adK,alZ _,hlen⟩⟩
  .rw[ub]
   cases hx:(kp (fun i=>gd F i) K code.length++[1])[q]? with
   |none=>decide
   |some z=>
    show-1<=z/\z<=12
    have hm:=amM hx
    rcases amf.1 hm with hm|hm
    .obtain⟨q',nq,rfl⟩:=amb hm;rw[lT]at nq;obtain⟨i,i1,i2,i3⟩:=AX K _ nq;have:=xr (fun i=>gd F i) K i2 code.length i1;rw[i3,alV (by rw[lT];exact nq)]at this;rw[alU this];exact f.bd i
    .rw[ama.1 hm];decide
  .obtain⟨a1,a2,rfl⟩:=h;exact⟨r.sound p a1,a2,by rw[hlen];exact AW K a2,dep code.length p (by omega) a2 a1⟩
  .obtain⟨a1,a2,rfl⟩:=h;by_cases hp:p=code.length
   .exact .inl ⟨hp,by rw[hlen,hp]⟩
   .have aj:p<code.length:=by omega
    by_cases hk:gb K p=true
    .exact .inr (.inl (one p aj hk))
    .have hge:=alV aj;obtain⟨h1,h2,_,h3⟩:=skip p _ hge a1 hk;exact .inr (.inr ⟨_,p+1,hge,h1.1,h1.2,h2,aj,h3.symm⟩)
  .rw[hlen]at hq;obtain⟨i,i1,i2,i3⟩:=AX K _ hq;subst i3;exact⟨i,⟨((k.ok i _ (alV i1)).1 i2).1,by omega,rfl⟩,one i i1 i2⟩
 refine s.same (by omega) fun m hm=>?_
 unfold rem at hm;obtain⟨y,hy,rfl⟩:=anq.1 hm;obtain⟨q,hq,rfl⟩:=amb hy;have nq:=hq;rw[lT]at nq;obtain⟨i,i1,i2,i3⟩:=AX K _ nq;have:=xr (fun i=>code.getD i ((0,0):Int×Int)) K i2 code.length i1;rw[i3,alV hq]at this;have e:=alU this
 have IS:code.getD i ((0,0):Int×Int)=code[i]:=by simp only[amn,i1,alV,amu]
 rw[e,IS];have hwi:=hw _ (al0 i1);unfold rj;split
 .rename_i hj;refine⟨hwi.1,?_,?_⟩
  .show(-9223372036854775808:Int)<=((ct K _:Nat):Int);omega
  .show((ct K (code[i].2:Int).toNat:Nat):Int)<=(9223372036854775807:Int)
   by_cases QD:∃t:Nat,(code[i].2:Int)=t/\t<=code.length
   .obtain⟨t,t1,t2⟩:=QD;rw[t1,al1];have:=zA K t;omega
   .exfalso;apply QD;have hge:=alV i1;obtain⟨s,_⟩:=f.at hge (r.sound i ((k.ok i _ hge).1 i2).1)
    rcases s with⟨c1,t,c2,c3,c4,c5⟩|⟨c1,c2,c3,t,c4,c5,c6,c7⟩|⟨c1,c2,_⟩
    .exact⟨t,c2,c4⟩
    .exact⟨t,c4,c6⟩
    .exact(mY hj).elim (fun e=>absurd e c1) (fun e=>absurd e c2)
 .exact hwi
end L.P.Q
end Go.Proofs.YtmihpkfkbfgigaaGreatDoor
end
section
open _root_.Go.IntKind renaming i64->alT
open _root_.List renaming getD->amn,getElem?_eq_getElem->alV,getElem?_eq_some_iff->alW
open _root_.Nat renaming le_refl->alZ,zero_le->amj
open _root_.Option renaming bind_some->alS
open _root_.Option.some renaming inj->alU
open _root_.Sum renaming inr->amP
namespace Go.Proofs.YtmihpkfkbfgigaaGreatDoor
open Go Go.RowKit
set_option maxRecDepth 100000
namespace L.P.Q
noncomputable def G6(s4:List aa.den):Option (List aa.den⊕List aa.den):=
(M.fA aB s4).bind fun y5=>
(Loop (S:=Int×List Bool) (X:=List Bool) (fun s7=>
(if(decide (s7.1<(s4.length:Int)))=true then
((idx s4 s7.1).bind fun x9=>
((if(decide (x9.1=(51:Int)))=true then
some (decide (x9.2=(alT.wrap (s7.1+(1:Int)))))
else
some false):Option (Bool)).bind fun qS=>
(if qS=true then
(idx s7.2 s7.1).bind fun o8=>
some (aH s7.2 s7.1 false)
else
some s7.2):Option (List Bool)).bind fun j8=>
some (Sum.inl (alT.wrap (s7.1+(1:Int)),j8))
else
some (amP s7.2))) aB ((0:Int),y5):Option (List Bool)).bind fun j6=>
(M.de aB j6 false).bind fun qs=>
(if qs=true then
(M.dU aB s4 j6).bind fun CP=>
some (Sum.inl CP)
else
some (amP s4))
theorem QJ{K:List Bool}:∀{j:Nat},(∃i,i<j/\gb K i=false)->ct K j<j
 |0,⟨i,h,_⟩=>by omega
 |j+1,⟨i,h,hk⟩=>by
  rw[ct];by_cases e:i=j
  .subst e;rw[if_neg (by simp[hk])];have:=zA K i;omega
  .have:=QJ (K:=K) (j:=j) ⟨i,by omega,hk⟩
   split<;>omega
theorem MJ{code:List Ty}{F:List Int}(f:Fits code F)(hw:∀n∈code,WF aa n):Wp (G6 code) fun r=>(∃y,r= .inl y/\oO code y/\y.length<code.length)\/r= .inr code:=by
 have hle:=f.le;unfold G6
 refine Wp.seq _ (AV f) fun y hy=>?_
 obtain⟨l,r,rfl⟩:=hy;have hrl:=r.len
 refine Wp.seq (KL code l) ?_ fun K k=>?_
 .refine Wp.loop (fun s:Int×List Bool=>∃i:Nat,s.1=i/\i<=code.length/\s.2.length=code.length/\(∀(j:Nat)n,j<i->code[j]? =some n->(gb s.2 j=true↔gb l j=true/\¬pM n j))/\∀j,i<=j->j<code.length->gb s.2 j=gb l j) (fun s=>(code.length-s.1).toNat) ⟨0,rfl,amj _,by simp;omega,fun j n h=>by omega,fun j _ hj=>?_⟩ (by unfold aB;simp only;omega) ?_
  .show gb (l.take code.length) j=gb l j
   unfold gb;rw[amn,amn,List.getElem?_take_of_lt hj]
  rintro⟨_,K⟩ ⟨i,rfl,hi,XZ,hd,hr⟩
  dsimp only at XZ hd hr⊢
  refine Wp.dec (fun h=>?_) fun h=> .some ⟨XZ,fun j n hn=>hd j n ?_ hn⟩
  case refine_2=>
   have:=(alW.1 hn).1;omega
  have gr:i<code.length:=by omega
  have hge:=alV gr;rw[ah gr];generalize code[i]=n at hge⊢;simp only[alS]
  refine Wp.seq (fun o=>o.length=code.length/\(gb o i=true↔gb l i=true/\¬pM n i)/\∀j,j≠i->gb o j=gb K j) ?_ fun o ho=> .some ?_
  .refine Wp.seq (fun b=>b=decide (pM n i)) ?_ fun b hb=>?_
   .rw[aD (by omega)]
    refine Wp.dec (fun h1=> .some ?_) fun h1=> .some ?_
    .unfold pM
     by_cases h2:(n.2:Int)=((i+1:Nat):Int)
     .simp[h1,h2]
     .simp[h1,h2]
    .unfold pM;simp[h1]
   .subst hb
    refine Wp.dec (fun h1=>?_) fun h1=> .some ⟨XZ,?_,fun _ _=>rfl⟩
    .rw[ud (by omega)];simp only[alS];refine .some ⟨by simp[aH,XZ],?_,fun j hj=>?_⟩
     .show gb (K.set i false) i=true↔_
      rw[rB (by omega),if_pos rfl];simp[h1]
     .show gb (K.set i false) j=gb K j
      rw[rB (by omega),if_neg hj]
    .rw[hr i (alZ _) gr];simp[h1]
  .obtain⟨o1,o2,o3⟩:=ho;rw[aD (by omega)];refine⟨⟨i+1,rfl,gr,o1,fun j m hj hm=>?_,fun j hj P0=>?_⟩,by simp only;omega⟩
   .by_cases e:j=i
    .subst e;rw[hge]at hm;obtain rfl:=alU hm;exact o2
    .show gb o j=true↔_
     rw[o3 j e];exact hd j m (by omega) hm
   .show gb o j=gb l j
    rw[o3 j (by omega)];exact hr j (by omega) P0
 .refine Wp.seq _ (Ds (by rw[k.len];omega)) fun b hb=>?_
  refine Wp.ite (fun h=>?_) fun _=> .some (.inr rfl)
  have hx:=hb h;rw[k.len]at hx
  refine Wp.seq _ (vg (by omega) k.len fun i n hn hk hj=>?_) fun z hz=> .some (.inl ⟨z,rfl,?_⟩)
  .obtain⟨s,_⟩:=f.at hn (r.sound i ((k.ok i n hn).1 hk).1)
   rcases s with⟨c1,t,c2,c3,c4,c5⟩|⟨c1,c2,c3,t,c4,c5,c6,c7⟩|⟨c1,c2,_⟩
   .exact⟨t,c2,c4⟩
   .exact⟨t,c4,c6⟩
   .exact(mY hj).elim (fun e=>absurd e c1) (fun e=>absurd e c2)
  .obtain⟨a1,a2⟩:=MI f hw r k;rw[hz];refine⟨a1,?_⟩;rw[a2];exact QJ hx
theorem Js{code:List Ty}(hl:code.length<=1000)(hw:∀n∈code,WF aa n):Wp (M.cV aB code) fun y=>((¬∃F,Fits code F)/\y=code)\/((∃F,Fits code F)/\oO code y/\G6 y=some (.inr y)):=by
 unfold M.cV;rw[xq hl];simp only[alS];obtain⟨b,hb,Ej⟩:=pL code;rw[hb];simp only[alS];refine Wp.join (Wp.ite (fun hc=> .some ?_) fun hc=> .some ?_)
 .exact .inl ⟨fun h=>(by rw[Ej.2 h]at hc;cases hc),rfl⟩
 have hF:∃F,Fits code F:=Ej.1 (by simpa using hc)
 have MD:oO code code:=⟨hF,alZ _,hw,fun _ _ _ h=>h⟩
 show Wp (Loop G6 aB code) _
 refine Wp.loop (fun s:List Ty=>oO code s) (fun s=>s.length) MD (by unfold aB;omega) ?_;intro s hs;obtain⟨F,f⟩:=hs.fits;obtain⟨r,hr,h⟩:=MJ f hs.wf;refine⟨r,hr,?_⟩
 rcases h with⟨y,rfl,h1,h2⟩|rfl
 .exact⟨hs.trans h1,h2⟩
 .exact .inr ⟨hF,hs,hr⟩
theorem xu(r:Row)(x:r.den):nW r x x=true:=by unfold nW;simp
end L.P.Q
end Go.Proofs.YtmihpkfkbfgigaaGreatDoor
end
section
open _root_.Go.IntKind renaming i64->alT
open _root_.List renaming getD->amn,getElem?_append_left->amq,getElem_mem->al0,length_map->amm,mem_map->anq
open _root_.Nat renaming zero_add->amo
open _root_.Option renaming bind_some->alS
open _root_.Option.some renaming inj->alU
namespace Go.Proofs.YtmihpkfkbfgigaaGreatDoor
open Go Go.RowKit
set_option maxRecDepth 100000
set_option linter.unusedSimpArgs false
namespace L.P.V
theorem adL{code:List Ty}{env:cz.den}{p:Nat}{S:List Vl}{r:Vl×Int}(h:P.cF code env p S r):P.Q.cF code env p S r:=by
 induction h with
 |done=>exact .done
 |jump h pb ht C7 uY _ ih=>exact .jump h pb ht C7 uY ih
 |op h bR ha hs h0 _ ih=>exact .op h bR ha hs h0 ih
 |fail h bR ha hs h0=>exact .fail h bR ha hs h0
 |cond h gq ht C7 uY hk hv _ ih=>exact .cond h gq ht C7 uY hk hv ih
structure Code(e:List Ty)(s:Sg)(y:List Ty):Prop where
 pos:0<y.length
 le:y.length<=128
 wf:∀n∈y,WF aa n
 verify:Wp (M.bY aB y) fun v=>v.2=0
 run:∀env,im env->SI s env->∃n v,M.nh aB y env=some (v.1,n,v.2)/\M.iy aB e env=some v
theorem Dt{code:List Ty}(hl:code.length<=1000)(hw:∀n∈code,WF aa n)(hF:∃F,P.Q.Fits code F):Wp (M.iI aB code) (P.Q.oO code):=by
 have thr:∀{a:List Ty},a.length<=1000->(∀n∈a,WF aa n)->(∃F,P.Q.Fits a F)->Wp (M.ey aB a) fun y=>P.Q.oO a y:=fun{a}hl hw hF=>(P.Q.Jr hl hw).mono fun y hy=>by
  rcases hy with⟨h,_⟩|⟨⟨F,f⟩,e1,e2⟩
  .exact absurd hF h
  .exact P.Q.Dr f e1 e2
 have fol:∀{a:List Ty},a.length<=1000->(∀n∈a,WF aa n)->(∃F,P.Q.Fits a F)->Wp (M.dL aB a) fun y=>P.Q.oO a y:=fun{a}hl hw hF=>(P.Q.Pn hl hw).mono fun y hy=>by
  rcases hy with⟨h,_⟩|⟨_,h,_⟩
  .exact absurd hF h
  .exact h
 have rmv:∀{a:List Ty},a.length<=1000->(∀n∈a,WF aa n)->(∃F,P.Q.Fits a F)->Wp (M.cV aB a) fun y=>P.Q.oO a y:=fun{a}hl hw hF=>(P.Q.Js hl hw).mono fun y hy=>by
  rcases hy with⟨h,_⟩|⟨_,h,_⟩
  .exact absurd hF h
  .exact h
 unfold M.iI
 refine Wp.seq _ (fol hl hw hF) fun z1 t1=>?_
 refine Wp.seq _ (thr (Nat.le_trans t1.le hl) t1.wf t1.fits) fun z2 t2=>?_
 have t12:=t1.trans t2
 exact Wp.seq _ (rmv (Nat.le_trans t12.le hl) t12.wf t12.fits) fun z3 t3=> .some (t12.trans t3)
theorem G7{e:List Ty}{s:Sg}(Jf:∀n∈e,WF aa n){r:Ty×Int×Int}(hT:M.fS aB e s=some r)(h0:r.2.2=0):Wp (M.bG aB e) (Code e s):=by
 obtain⟨r',er,hr⟩:=zx (s:=s) Jf;rw[hT]at er;obtain rfl:=alU er;obtain⟨st,w,ty,FX,Jo⟩:=hr h0;have nO:0<e.length:=List.length_pos_iff.2 w.ne;have hle:=w.le;have f:=Ml w
 have WT:M.jv aB e=some (0,ins (jm e st)):=by
  have fi:M.gM aB e=some ((qC e).2.1,(qC e).2.2):=by
   unfold M.gM;rw[mQ];rfl
  unfold M.jv;rw[fi,w.res];simp only[alS];rw[if_neg (by simp),show alT.wrap ((e.length:Int)-1)=((e.length-1:Nat):Int) by rw[aJ (by omega) (by omega)];omega];unfold M.jf;rw[xn w e.length (e.length-1) aB (by omega) (by omega) (by unfold aB;omega) [] 0 (by simp;omega)];rfl
 have hA:At (ins (jm e st)) (xo e st) 0 (jm e st):=fun k hk=>by
  rw[amo];refine⟨by simp[ins,hk],?_⟩;unfold gd amn xo;rw[amq (by simpa using hk)];simp[hk]
 have WU:∀env,im env->SI s env->P.cF (ins (jm e st)) env 0 [] ((fg (jL env) e st e.length (e.length-1)).1,(fg (jL env) e st e.length (e.length-1)).2):=fun env he ag=>by
  have adM:=GW (code:=ins (jm e st)) (F:=xo e st) w he ag Jo e.length (e.length-1) 0 0 (by omega) (by omega) hA (by rw[amo];exact Nat.le_of_eq (amm ..).symm);obtain⟨c1,c2⟩:=adM [];rw[amo]at c1;by_cases hz:(fg (jL env) e st e.length (e.length-1)).2=0
  .refine c1 hz _ ?_;rw[hz,show(cg e st e.length (e.length-1) 0 0).length=(ins (jm e st)).length from(amm ..).symm];exact P.cF.done
  .rw[GX w he Jf e.length (e.length-1) (by omega) (by omega) hz];exact c2 hz
 have hwc:∀n∈ins (jm e st),WF aa n:=fun n hn=>by
  obtain⟨j,hj,rfl⟩:=List.mem_iff_getElem.1 hn;obtain⟨lG,_⟩:=f.step j hj;have aj3:=f.le;obtain⟨x,hx,hxn⟩:=anq.1 (al0 hj)
  rcases MA w e.length (e.length-1) 0 0 (by omega) x hx with h|h
  .rw[hxn]at h;generalize(ins (jm e st))[j]=n at*;obtain⟨(op:Int),(m:Int)⟩:=n;dsimp only[ae,Row.den]at*
   have hm:0<=m/\m<=128:=by
    rcases lG with⟨h1,t,h2,h3,h4,h5⟩|⟨h1,h2,h3,t,h4,h5,h6,h7⟩|⟨h1,h2,h3,h4,h5,h6⟩
    .dsimp only[ae,Row.den]at*;omega
    .dsimp only[ae,Row.den]at*;omega
    .dsimp only[ae,Row.den]at*;omega
   refine⟨⟨?_,?_⟩,⟨?_,?_⟩⟩
   .show(-9223372036854775808:Int)<=op;omega
   .show op<=(9223372036854775807:Int);omega
   .show(-9223372036854775808:Int)<=m;omega
   .show m<=(9223372036854775807:Int);omega
  .rw[hxn]at h;exact Jf _ h
 have adN:∃F,P.Q.Fits (ins (jm e st)) F:=by
  obtain⟨v,ev,hv⟩:=P.Q.uK (ins (jm e st));obtain⟨v',ev',dM⟩:=Jj f;rw[ev]at ev';obtain rfl:=alU ev';exact hv dM
 unfold M.bG;rw[if_neg (by rw[decide_eq_true_eq];omega),WT,alS];dsimp only
 refine Wp.seq _ (Dt (by have:=f.le;omega) hwc adN) fun y hy=> .some ?_
 obtain⟨F',f'⟩:=hy.fits;refine⟨f'.pos,f'.le,hy.wf,f'.verify,fun env he ag=>?_⟩;obtain⟨x,hx,x1,x2⟩:=P.Q.C8 he hy.wf f'.le f'.verify (hy.runs env he _ (adL (WU env he ag)));obtain⟨v,n,c⟩:=x;dsimp only at x1 x2;refine⟨n,_,?_,xj w he Jf⟩;rw[hx,x1,x2]
end L.P.V
end Go.Proofs.YtmihpkfkbfgigaaGreatDoor
end
section
namespace Go.Proofs.YtmihpkfkbfgigaaGreatDoor
open Go Go.RowKit
set_option maxRecDepth 100000
set_option linter.unusedSimpArgs false
namespace L
abbrev Ty:Type:=aa.den
abbrev dG(l:List Nat):List Int:=l.map (fun n:Nat=>(n:Int))
def ar(op:Int):Int:=
 if(1<=op/\op<=9)\/(35<=op/\op<=39)then 0 else if op=10\/op=25\/(31<=op/\op<=34)then 1 else if(11<=op/\op<=24)\/(27<=op/\op<=30)then 2 else if op=26 then 3 else-1
theorem kK(op:Int):ar op<=3:=by unfold ar;omega
def mW(a:Int)(i:Nat)(sk:List Nat):Nat:=if a=0 then i else sk.getD (sk.length-a.toNat) 0
def kB:List Ty->Nat->List Nat->List Nat->(Nat×Int)⊕(List Nat×List Nat)
 |[],_,st,sk=> .inr (st,sk)
 |n::e,i,st,sk=>
  if ar n.1<0 then .inl (i,2)else if(sk.length:Int)<ar n.1 then .inl (i,5)else
  if 12<sk.length-(ar n.1).toNat+1 then .inl (i,16)else kB e (i+1) (st++[mW (ar n.1) i sk]) (sk.take (sk.length-(ar n.1).toNat)++[mW (ar n.1) i sk])
def qC(e:List Ty):Int×Int×List Int:=
 if 48<e.length then(0,4,[])else if e.length=0 then(0,5,[])else match kB e 0 [] []with
  | .inl (i,c)=>(i,c,[])
  | .inr (st,sk)=>if 1<sk.length then(e.length,4,[])else(0,0,dG st)
def jM(t:Ty)(n:Nat):Prop:=(1<=(t.1:Int)/\(t.1:Int)<=5/\(t.2:Int)=0)\/((t.1:Int)=6/\0<=(t.2:Int)/\(t.2:Int)<n)
instance(t:Ty)(n:Nat):Decidable (jM t n):=by unfold jM;infer_instance
def VR(r:Ty):Prop:=0<=(r.1:Int)/\(r.1:Int)<=r.2/\(r.2:Int)<=109573
instance(r:Ty):Decidable (VR r):=by unfold VR;infer_instance
theorem AP(a b:Ty):nW aa a b=decide (a=b):=by
 unfold nW;exact decide_eq_decide.2 Iff.rfl
end L
end Go.Proofs.YtmihpkfkbfgigaaGreatDoor
end
section
open _root_.Classical renaming propDecidable->ane
open _root_.Go.IntKind renaming i64->alT
open _root_.List renaming getElem?_eq_getElem->alV,getElem_mem->al0,getElem_of_mem->amb,length_take->amd
open _root_.Nat renaming lt_succ_iff_lt_or_eq->amT
namespace Go.Proofs.YtmihpkfkbfgigaaGreatDoor
open Go Go.RowKit
set_option maxRecDepth 100000
set_option linter.unusedSimpArgs false
namespace L
abbrev En:Type:=bu.den
abbrev yl:Type:=av.den
abbrev Rw:Type:=dW.den
abbrev Fd:Type:=aL.den
abbrev Lw:Type:=bU.den
abbrev gw:Type:=aw.den
abbrev jK:Type:=aY.den
theorem Du(c:Int):M.nF aB c=some (decide (97<=c/\c<=122)):=by
 apply Wp.eq;unfold M.nF;simp only[W_,implies_true,forall_const,reduceCtorEq];omega
theorem MK(c:Int):M.pE aB c=some (decide (48<=c/\c<=57)):=by
 apply Wp.eq;unfold M.pE;simp only[W_,implies_true,forall_const,reduceCtorEq];omega
theorem Pp(c:Int):M.rq aB c=some (decide ((97<=c/\c<=122)\/(48<=c/\c<=57)\/c=95)):=by
 apply Wp.eq;unfold M.rq;simp only[Du,MK,W_,implies_true,forall_const,reduceCtorEq];omega
noncomputable def mq(s:ByteArray):Bool:=(M.kA aB s).getD false
def fJ{β:Type}(l:List (ByteArray×β))(nm:ByteArray):Prop:=∃x∈l,x.1=nm
noncomputable instance{β:Type}(l:List (ByteArray×β))(nm:ByteArray):Decidable (fJ l nm):=ane _
noncomputable instance(m:ByteArray)(l:List ByteArray):Decidable (m∈l):=ane _
theorem Pq{β:Type}{l:List (ByteArray×β)}{nm:ByteArray}:fJ l nm↔∃k,∃h:k<l.length,l[k].1=nm:=by
 unfold fJ;constructor
 .rintro⟨x,hx,h⟩
  obtain⟨k,hk,rfl⟩:=amb hx;exact⟨k,hk,h⟩
 .rintro⟨k,hk,h⟩
  exact⟨_,al0 hk,h⟩
theorem zB{β:Type}{l:List (ByteArray×β)}{nm:ByteArray}{m:Nat}:fJ (l.take m) nm↔∃k,∃h:k<l.length,k<m/\l[k].1=nm:=by
 rw[Pq];constructor
 .rintro⟨k,hk,h⟩
  rw[amd]at hk;rw[List.getElem_take]at h;exact⟨k,by omega,by omega,h⟩
 .rintro⟨k,hk,hm,h⟩
  exact⟨k,by rw[amd];omega,by rw[List.getElem_take];exact h⟩
theorem cK{p:Nat->Prop}{k:Nat}(h:∀j,j<k->p j)(hk:p k):∀j,j<k+1->p j:=fun j hj=>by
 rcases amT.1 hj with h1|rfl
 .exact h j h1
 .exact hk
open Classical in
theorem bP(t:Ty)(E:List En):M.fO aB t E=some (decide (jM t E.length)):=by
 obtain⟨(k:Int),(e:Int)⟩:=t;apply Wp.eq;unfold M.fO;simp only[W_,implies_true,forall_const,reduceCtorEq];simp only[jM];dsimp only[ae,Row.den]at*;omega
def Bl(t:Ty)(E:List En):Int×Int:=
 if¬jM t E.length then(0,-1)else if(t.1:Int)=1 then(0,1)else if(t.1:Int)=2 then(-1000000000000,1000000000000)else if(t.1:Int)=3 then(-1000000000000000,1000000000000000)else if(t.1:Int)=4 then(-1000000000,1000000000)else if(t.1:Int)=5 then(0,109572)
 else(0,alT.wrap ((((E[(t.2:Int).toNat]?).map fun e=>(e.2.length:Int)).getD 0)-1))
theorem SR(t:Ty)(E:List En):M.oL aB t E=some (Bl t E):=by
 obtain⟨(k:Int),(e:Int)⟩:=t;apply Wp.eq;unfold M.oL Bl;simp only[bP,W_,implies_true,forall_const,reduceCtorEq];by_cases hv:jM (k,e) E.length
 .simp only[hv,not_true_eq_false,if_false,false_implies,true_implies,true_and];refine⟨fun h=>by rw[if_pos h],fun h1=>⟨fun h=>by rw[if_neg h1,if_pos h],fun h2=>⟨fun h=>by rw[if_neg h1,if_neg h2,if_pos h],fun h3=>⟨fun h=>by rw[if_neg h1,if_neg h2,if_neg h3,if_pos h],fun h4=>⟨fun h=>by rw[if_neg h1,if_neg h2,if_neg h3,if_neg h4,if_pos h],fun h5=>?_⟩⟩⟩⟩⟩;simp only[jM]at hv;dsimp only[ae,Row.den]at*
  have hi:e.toNat<E.length:=by omega
  refine eC.2 ⟨by omega,?_⟩;rw[if_neg h1,if_neg h2,if_neg h3,if_neg h4,if_neg h5,alV hi];rfl
 .simp only[hv,not_false_eq_true,if_true,true_implies,false_implies,and_true]
def D1(n:Int)(t:Ty)(E:List En):Prop:=(Bl t E).1<=n/\n<=(Bl t E).2
instance(n:Int)(t:Ty)(E:List En):Decidable (D1 n t E):=by unfold D1;infer_instance
def ou(x:Rw)(t:yl)(E:List En):Prop:=¬VR x.1\/(x.1.1:Int)=x.1.2\/(x.2.2.1:Int)<=x.2.1\/¬D1 x.2.1 t.2.1 E\/¬D1 (alT.wrap ((x.2.2.1:Int)-1)) t.2.1 E\/¬D1 x.2.2.2 t.2.2.1 E
instance(x:Rw)(t:yl)(E:List En):Decidable (ou x t E):=by unfold ou;infer_instance
def nG(a b:Rw):Prop:=VR a.1/\VR b.1/\((a.1.1:Int)<a.1.2/\(a.1.1:Int)<b.1.2/\(b.1.1:Int)<a.1.2/\(b.1.1:Int)<b.1.2)/\(a.2.1:Int)<a.2.2.1/\(a.2.1:Int)<b.2.2.1/\(b.2.1:Int)<a.2.2.1/\(b.2.1:Int)<b.2.2.1
instance(a b:Rw):Decidable (nG a b):=by simp only[nG];dsimp only[ae,Row.den]at*;infer_instance
open Classical in
noncomputable def rC(t:yl)(E:List En)(k:Nat):Option (Int×Int):=match t.2.2.2[k]? with
 |none=>none
 |some x=>if ou x t E then some ((k:Int),3)else if∃y∈t.2.2.2.take k,nG y x then some ((k:Int),11)else none
noncomputable def nU(t:yl)(E:List En):Int×Int:=
 if 64<t.2.2.2.length then(64,4)else if¬(jM t.2.1 E.length/\jM t.2.2.1 E.length)then(-1,8)else(cy (rC t E) t.2.2.2.length).getD (0,0)
end L
end Go.Proofs.YtmihpkfkbfgigaaGreatDoor
end
section
open _root_.Int renaming tdiv->amh,tdiv_eq_ediv_of_nonneg->amV,tmod->amy
open _root_.Go.IntKind renaming i64->alT
open _root_.List renaming getElem?_eq_getElem->alV
namespace Go.Proofs.YtmihpkfkbfgigaaGreatDoor
open Go Go.RowKit
set_option maxRecDepth 100000
set_option linter.unusedSimpArgs false
namespace L
abbrev ov:Type:=aT.den
theorem aC(op:Int):M.nQ aB op=some (decide ((1<=op/\op<=8)\/(14<=op/\op<=16)\/op=33\/op=34\/(36<=op/\op<=39))):=by
 apply Wp.eq;unfold M.nQ;simp only[W_,implies_true,forall_const,reduceCtorEq];omega
theorem aE(k:Int):M.lg aB k=some (decide (k=2\/k=3\/k=4)):=by
 apply Wp.eq;unfold M.lg;simp only[W_,implies_true,forall_const,reduceCtorEq];omega
theorem aA(k:Int):M.iz aB k=some (decide (k=2\/k=3\/k=4\/k=5)):=by
 apply Wp.eq;unfold M.iz;simp only[aE,W_,implies_true,forall_const,reduceCtorEq];omega
theorem aW(k:Int):M.dE aB k=some ((k,(0:Int)):Ty):=rfl
def Dv(op m:Int)(s:ov):Prop:=(1<=op/\op<=5->D1 m (op,(0:Int)) s.1)/\(14<=op/\op<=16->0<=m/\m<=5)/\(op=34->0<=m/\amy m 8<=5)/\(op=6->0<=m)
instance(op m:Int)(s:ov):Decidable (Dv op m s):=by unfold Dv;infer_instance
theorem xv(n:Ty)(s:ov):M.jy aB n s=some (decide (Dv n.1 n.2 s)):=by
 obtain⟨(op:Int),(m:Int)⟩:=n;apply Wp.eq;unfold M.jy;simp only[aW,SR,W_,implies_true,forall_const,reduceCtorEq];unfold Dv D1;dsimp only[ae,Row.den]at*;generalize Bl (op,(0:Int)) s.1=b;omega
def Ps(op m:Int)(s:ov):Prop:=
 (op=6->alT.wrap (amh m 16)<(s.1.length:Int)/\amy m 16<(((s.1[(alT.wrap (amh m 16)).toNat]?).map fun e=>(e.2.length:Int)).getD 0))/\
 (op=7->0<=m/\m<(s.2.2.1.length:Int))/\(op=8->0<=m/\m<(s.2.2.2.1.length:Int))/\(op=33->0<=m/\m<(s.2.1.length:Int))/\(op=34->alT.wrap (amh m 8)<(s.2.1.length:Int))/\
 (35<=op/\op<=39->s.2.2.2.2.2=true)/\(36<=op/\op<=39->0<=m/\m<(s.2.2.2.2.1.length:Int))
instance(op m:Int)(s:ov):Decidable (Ps op m s):=by unfold Ps;infer_instance
theorem G8{m k:Int}(h0:0<=m)(h1:m<=9223372036854775807)(hk:0<k):0<=alT.wrap (amh m k):=by
 have h2:0<=amh m k:=Int.tdiv_nonneg h0 (by omega)
 have h3:amh m k<=m:=by rw[amV h0];exact Int.ediv_le_self _ h0
 rw[aJ (by omega) (by omega)];exact h2
theorem SU(n:Ty)(s:ov)(hm:(n.2:Int)<=9223372036854775807)(hr:Dv n.1 n.2 s):M.bf aB n s=some (decide (Ps n.1 n.2 s)):=by
 obtain⟨(op:Int),(m:Int)⟩:=n;apply Wp.eq;unfold M.bf;simp only[W_,implies_true,forall_const,reduceCtorEq];unfold Ps;unfold Dv at hr;dsimp only[ae,Row.den]at*;refine⟨fun h6=>⟨fun h=>?_,fun h=>?_⟩,fun h6=>?_⟩
 .have h0:=G8 (k:=16) (hr.2.2.2 h6) hm (by omega);refine eC.2 ⟨⟨h0,h⟩,?_⟩;rw[alV (show(alT.wrap (amh m 16)).toNat<s.1.length by omega)];exact⟨fun g=>⟨fun _=>⟨h,g⟩,by omega,by omega,by omega,by omega,fun _=>by omega,by omega⟩,fun g=>(g.1 h6).2⟩
 .exact fun g=>h (g.1 h6).1
 simp only[h6,W_,implies_true,forall_const,reduceCtorEq]
 cases h5:s.2.2.2.2.2<;>simp only[imp_false,W_,implies_true,forall_const,reduceCtorEq]<;>omega
theorem ML{op m:Int}{s:ov}(hf:Ps op m s):Wp (M.bW aB (op,m) s) fun _=>True:=by
 unfold M.bW;simp only[aW,aA,bP,W_,implies_true,forall_const,reduceCtorEq];unfold Ps at hf;dsimp only[ae,Row.den]at*
 refine fun h6=>⟨fun h7=>?_,fun h7=>⟨fun h8=>?_,fun h8=>fun h9 h35=>?_⟩⟩
 .exact eC.2 ⟨hf.2.1 h7,trivial⟩
 .exact eC.2 ⟨hf.2.2.1 h8,trivial⟩
 .by_cases h:36<=op/\op<=39
  .have:Wp (idx s.2.2.2.2.1 m) fun _=>True:=eC.2 ⟨hf.2.2.2.2.2.2 h,trivial⟩
   simp only[this,W_,implies_true,forall_const,reduceCtorEq]
  .simp only[show¬op=36 by omega,show¬op=37 by omega,show¬op=38 by omega,show¬op=39 by omega,W_,implies_true,forall_const,reduceCtorEq]
theorem Fp{op m:Int}{a:Ty}{s:ov}(hm:m<=9223372036854775807)(h1:ar op=1)(hr:Dv op m s)(hf:Ps op m s):Wp (M.cD aB (op,m) a s) fun _=>True:=by
 have gq:op=10\/op=25\/(31<=op/\op<=34):=by
  clear hr hf;unfold ar at h1;omega
 unfold M.cD;simp only[aW,aE,bP,W_,implies_true,forall_const,reduceCtorEq];unfold Ps at hf;unfold Dv at hr;dsimp only[ae,Row.den]at*
 have key:¬op=31->¬op=32->¬op=10->¬op=25->(op=33->Wp (idx s.2.1 m) fun _=>True)/\(¬op=33->Wp (idx s.2.1 (alT.wrap (m.tdiv 8))) fun _=>True):=by
  refine fun X0 h32 WJ h25=>⟨fun NF=>eC.2 ⟨hf.2.2.2.1 NF,trivial⟩,fun NF=>?_⟩
  have sY:op=34:=by clear hr hf;omega
  exact eC.2 ⟨⟨G8 (hr.2.2.1 sY).1 hm (by omega),hf.2.2.2.2.1 sY⟩,trivial⟩
 exact fun WJ h25=>⟨fun X0 g=>absurd X0 g,fun X0 h32=>key X0 h32 WJ h25⟩
theorem Fq(op a b:Int):Wp (M.lj aB op a b) fun _=>True:=by
 unfold M.lj;simp only[aW,W_,implies_true,forall_const,reduceCtorEq]
theorem Fs(op:Int)(a b:Ty):Wp (M.gY aB op a b) fun _=>True:=by
 obtain⟨r,e,_⟩:=Fq op a.1 b.1;unfold M.gY
 repeat' first|exact Wp.some trivial|exact⟨_,aE _,trivial⟩|exact⟨_,aA _,trivial⟩|exact⟨_,aW _,trivial⟩|exact⟨_,e,trivial⟩|refine Wp.seq (fun _=>True) ?_ fun _ _=>?_|refine Wp.dec (fun _=>?_) fun _=>?_|refine Wp.ite (fun _=>?_) fun _=>?_
noncomputable def G9(n:Ty)(l:List Ty)(s:ov):Ty×Int:=(M.aI aB n l s).getD (((0:Int),(0:Int)),(0:Int))
theorem MM{n:Ty}{l:List Ty}{s:ov}(hw:WF aa n)(hl:(l.length:Int)=ar n.1):M.aI aB n l s=some (G9 n l s):=by
 refine(Wp.getD (Q:=fun _=>True) ?_ _).1;have hm:(n.2:Int)<=9223372036854775807:=hw.2.2;have h3:=kK n.1
 have key:Wp (M.jy aB n s) fun x=>x=true->Wp (M.bf aB n s) fun x=>x=true->((l.length:Int)=0->Wp (M.bW aB n s) fun _=>True)/\(¬(l.length:Int)=0->((l.length:Int)=1->Wp (idx l 0) fun x=>Wp (M.cD aB n x s) fun _=>True)/\
  (¬(l.length:Int)=1->((l.length:Int)=2->Wp (idx l 0) fun x=>Wp (idx l 1) fun x_1=>Wp (M.gY aB n.1 x x_1) fun _=>True)/\(¬(l.length:Int)=2->Wp (idx l 1) fun _=>Wp (idx l 0) fun x=>(x.1:Int)=1->Wp (idx l 1) fun _=>Wp (idx l 2) fun _=>True))):=by
  rw[xv]
  refine .some fun hr=>?_
  have hr:Dv n.1 n.2 s:=of_decide_eq_true hr;rw[SU n s hm hr]
  refine .some fun hf=>?_
  have hf:Ps n.1 n.2 s:=of_decide_eq_true hf;exact⟨fun _=>ML hf,fun h0=>⟨fun h1=>eC.2 ⟨by omega,Fp hm (by omega) hr hf⟩,fun h1=>⟨fun h2=>eC.2 ⟨by omega,eC.2 ⟨by omega,Fs ..⟩⟩,fun h2=>eC.2 ⟨by omega,eC.2 ⟨by omega,fun _=>eC.2 ⟨by omega,eC.2 ⟨by omega,trivial⟩⟩⟩⟩⟩⟩⟩
 unfold M.aI;simp only[aC,W_,implies_true,forall_const,reduceCtorEq];exact⟨fun _ _=>key,fun _=>key⟩
noncomputable def nI(s:ov):List Ty->Nat->List Ty->(Nat×Int)⊕List Ty
 |[],_,iq=> .inr iq
 |n::e,i,iq=>
  if(G9 n (iq.drop (iq.length-(ar n.1).toNat)) s).2≠0 then .inl (i,(G9 n (iq.drop (iq.length-(ar n.1).toNat)) s).2)
  else nI s e (i+1) (iq.take (iq.length-(ar n.1).toNat)++[(G9 n (iq.drop (iq.length-(ar n.1).toNat)) s).1])
noncomputable def D2(e:List Ty)(s:ov):Ty×Int×Int:=
 if(qC e).2.1≠0 then(((0:Int),(0:Int)),(qC e).1,(qC e).2.1)else match nI s e 0 []with
  | .inl (i,c)=>(((0:Int),(0:Int)),(i:Int),c)
  | .inr iq=>(iq.headD ((0:Int),(0:Int)),0,0)
theorem Pt{e:List Ty}(h:(qC e).2.1=0):e.length<=48/\e≠[]/\∃st sk,kB e 0 [] []= .inr (st,sk):=by
 unfold qC at h;split at h
 .cases h
 split at h
 .cases h
 rename_i h1 h2;refine⟨by omega,fun e=>h2 (by rw[e];rfl),?_⟩;split at h
 .rename_i c hc;exfalso
  have:∀(e:List Ty)(i:Nat)(st sk:List Nat)(j:Nat),kB e i st sk≠ .inl (j,0):=by
   intro e
   induction e with
   |nil=>intro i st sk j h;cases h
   |cons n e ih=>
    intro i st sk j h;rw[kB]at h;split at h
    .cases h
    split at h
    .cases h
    split at h
    .cases h
    exact ih _ _ _ _ h
  have hc0:c=0:=h;subst hc0;exact this _ _ _ _ _ hc
 .rename_i st sk hs;exact⟨st,sk,hs⟩
end L
end Go.Proofs.YtmihpkfkbfgigaaGreatDoor
end
section
open _root_.List renaming length_cons->al9,mem_cons->amg,mem_cons_self->amQ,pairwise_cons->anf
namespace Go.Proofs.YtmihpkfkbfgigaaGreatDoor
open Go Go.RowKit
set_option maxRecDepth 100000
set_option linter.unusedSimpArgs false
namespace L
def ins(n:Int):List Int->List Int
 |[]=>[n]
 |x::l=>if x<n then x::ins n l else if x=n then x::l else n::x::l
theorem MN(n x:Int)(l:List Int):ins n (x::l)=if x<n then x::ins n l else if x=n then x::l else n::x::l:=rfl
theorem nJ{n y:Int}:∀{l:List Int},y∈ins n l↔y=n\/y∈l
 |[]=>by simp[ins]
 |x::l=>by
  unfold ins;split
  .rw[amg,nJ,amg];exact⟨fun h=>by rcases h with h|h|h<;>simp[h],fun h=>by rcases h with h|h|h<;>simp[h]⟩
  split
  .rename_i h;subst h;simp
  .simp
def oP(p:Int->Bool)(e:List Ty):List Int:=e.foldl (fun l n=>if p n.1=true then ins n.2 l else l) []
def uM(op:Int):Bool:=decide (op=8)
def uN(n:Nat)(l:List Int):Prop:=l.Pairwise (· < ·)/\∀x∈l,0<=x/\x<(n:Int)
theorem uN.nil{n:Nat}:uN n []:=⟨.nil,fun _ h=>by cases h⟩
theorem SV{l:List Int}:∀{a b:Int},l.Pairwise (· < ·)->(∀x∈l,a<=x/\x<b)->(l.length:Int)<=max 0 (b-a):=by
 induction l with
 |nil=>intro a b _ _;simp;omega
 |cons x l ih=>
  intro a b hp hb;obtain⟨h1,h2⟩:=anf.1 hp;have hx:=hb x (amQ ..)
  have:=ih (a:=x+1) (b:=b) h2 fun y hy=>⟨h1 y hy,(hb y (List.mem_cons_of_mem _ hy)).2⟩
  simp only[al9];omega
theorem uN.len{n:Nat}{l:List Int}(h:uN n l):l.length<=n:=by
 have:=SV h.1 h.2;omega
theorem Ft{n:Int}:∀{l:List Int},l.Pairwise (· < ·)->(ins n l).Pairwise (· < ·)
 |[],_=>List.pairwise_singleton ..
 |x::l,h=>by
  obtain⟨h1,h2⟩:=anf.1 h;rw[MN];split
  .exact anf.2 ⟨fun y hy=>by rcases nJ.1 hy with rfl|hy;assumption;exact h1 y hy,Ft h2⟩
  split
  .exact h
  .refine anf.2 ⟨fun y hy=>?_,h⟩
   rcases amg.1 hy with rfl|hy
   .omega
   .have:=h1 y hy;omega
theorem uN.ins{n:Nat}{x:Int}{l:List Int}(h:uN n l)(hx:0<=x/\x<(n:Int)):uN n (ins x l):=
 ⟨Ft h.1,fun y hy=>by rcases nJ.1 hy with rfl|hy;exact hx;exact h.2 y hy⟩
def nK(n:Nat)(out l:List Int):List Int:=l.foldl (fun o x=>if 0<=x/\x<(n:Int)then ins x o else o) out
theorem uN.nK{n:Nat}:∀{l out:List Int},uN n out->uN n (nK n out l)
 |[],_,h=>h
 |x::l,out,h=>by
  show uN n (L.nK n (if 0<=x/\x<(n:Int)then L.ins x out else out) l)
  refine uN.nK ?_;split
  .exact h.ins ‹_›
  .exact h
def mr(s:gw)(d:Int):List Int:=
 if 0<=d/\d<(s.2.2.2.1.length:Int)then s.2.2.2.2.foldl (fun out r=>if(r.2.1:Int)=d then nK s.2.2.2.1.length (nK s.2.2.2.1.length out (oP uM r.2.2.2.2.2.1)) (oP uM r.2.2.2.2.2.2.1)else out) []else[]
theorem np(s:gw)(d:Int):uN s.2.2.2.1.length (mr s d):=by
 unfold mr;split
 .suffices∀(rs:List jK)(out:List Int),uN s.2.2.2.1.length out->uN s.2.2.2.1.length (rs.foldl (fun out r=>if(r.2.1:Int)=d then nK s.2.2.2.1.length (nK s.2.2.2.1.length out (oP uM r.2.2.2.2.2.1)) (oP uM r.2.2.2.2.2.2.1)else out) out)from this _ _ .nil
  intro rs
  induction rs with
  |nil=>intro out h;exact h
  |cons r rs ih=>
   intro out h;rw[List.foldl_cons];refine ih _ ?_;split
   .exact h.nK.nK
   .exact h
 .exact .nil
def stepT(s:gw)(out:List Int):List Int:=out.foldl (fun o x=>(mr s x).foldl (fun o y=>ins y o) o) out
def kN(s:gw):Nat->List Int->List Int
 |0,out=>out
 |n+1,out=>stepT s (kN s n out)
def J0(s:gw)(d:Int):List Int:=kN s s.2.2.2.1.length (mr s d)
theorem uN.MO{n:Nat}:∀{l out:List Int},(∀x∈l,0<=x/\x<(n:Int))->uN n out->uN n (l.foldl (fun o y=>L.ins y o) out)
 |[],_,_,h=>h
 |x::l,out,hx,h=>uN.MO (l:=l) (out:=L.ins x out) (fun y hy=>hx y (List.mem_cons_of_mem _ hy)) (h.ins (hx x (amQ ..)))
theorem qw(s:gw){out:List Int}(h:uN s.2.2.2.1.length out):uN s.2.2.2.1.length (stepT s out):=by
 unfold stepT
 suffices∀(l o:List Int),uN s.2.2.2.1.length o->uN s.2.2.2.1.length (l.foldl (fun o x=>(mr s x).foldl (fun o y=>ins y o) o) o)from this _ _ h
 intro l
 induction l with
 |nil=>intro o h;exact h
 |cons x l ih=>intro o h;exact ih _ (h.MO (np s x).2)
end L
end Go.Proofs.YtmihpkfkbfgigaaGreatDoor
end
section
open _root_.Go.IntKind renaming i64->alT
open _root_.List renaming getElem_mem->al0,getElem_of_mem->amb
namespace Go.Proofs.YtmihpkfkbfgigaaGreatDoor
open Go Go.RowKit
set_option maxRecDepth 100000
set_option linter.unusedSimpArgs false
namespace L
def iE(s:gw):Prop:=s.1.size<=80/\s.2.2.1.length<=14/\s.2.2.2.1.length<=14/\s.2.2.2.2.length<=60/\(∀f∈s.2.2.1,f.1.size<=80)/\(∀f∈s.2.2.2.1,f.1.size<=80)/\∀r∈s.2.2.2.2,r.1.size<=80/\r.2.2.2.2.2.2.2.size<=80/\r.2.2.2.2.2.1.length<=50/\r.2.2.2.2.2.2.1.length<=50
def gZ(l:Lw):Prop:=l.1.length<=9/\l.2.1.length<=9/\l.2.2.length<=5/\(∀e∈l.1,e.1.size<=80/\e.2.length<=20/\∀m∈e.2,m.size<=80)/\(∀t∈l.2.1,t.1.size<=80)/\∀s∈l.2.2,iE s
theorem rD{α:Type}{l:List α}{p:α->Prop}(h:∀j,j<l.length->∀h:j<l.length,p l[j]):∀x∈l,p x:=fun x hx=>by
 obtain⟨j,hj,rfl⟩:=amb hx;exact h j hj hj
theorem Jt(s:gw)(hw:WF aw s):Wp (M.jW aB s) fun r=>r=true->iE s:=by
 have w1:=hw.2.2.1.1;have w2:=hw.2.2.2.1.1;have w3:=hw.2.2.2.2.1;unfold maxLen at w1 w2 w3;unfold M.jW;simp only[W_,implies_true,forall_const,reduceCtorEq]
 refine fun h1 h2 h3 h4=>?_
 refine Wp.count (fun s=>s) s.2.2.1.length (fun k _=>∀j,j<k->∀h:j<s.2.2.1.length,(s.2.2.1[j].1:ByteArray).size<=80) w1 rfl (fun j hj=>by omega) fun k c hk hs hA=>?_
 obtain rfl:c=_:=hs;simp only[W_,implies_true,forall_const,reduceCtorEq,ba,aS];refine⟨fun aj=>?_,fun hge=>?_⟩
 .have aj:k<s.2.2.1.length:=by omega
  simp only[ah aj,bV w1 aj,W_,implies_true,forall_const,reduceCtorEq]
  exact fun h=>⟨aj,cK hA fun _=>by omega⟩
 have hA:=fun j(hj:j<s.2.2.1.length)=>hA j (by omega)
 refine Wp.count (fun s=>s) s.2.2.2.1.length (fun k _=>∀j,j<k->∀h:j<s.2.2.2.1.length,(s.2.2.2.1[j].1:ByteArray).size<=80) w2 rfl (fun j hj=>by omega) fun k c hk hs hB=>?_
 obtain rfl:c=_:=hs;simp only[W_,implies_true,forall_const,reduceCtorEq,ba,aS];refine⟨fun aj=>?_,fun hge=>?_⟩
 .have aj:k<s.2.2.2.1.length:=by omega
  simp only[ah aj,bV w2 aj,W_,implies_true,forall_const,reduceCtorEq]
  exact fun h=>⟨aj,cK hB fun _=>by omega⟩
 have hB:=fun j(hj:j<s.2.2.2.1.length)=>hB j (by omega)
 refine Wp.count (fun s=>s) s.2.2.2.2.length (fun k _=>∀j,j<k->∀h:j<s.2.2.2.2.length,(s.2.2.2.2[j].1:ByteArray).size<=80/\(s.2.2.2.2[j].2.2.2.2.2.2.2:ByteArray).size<=80/\s.2.2.2.2[j].2.2.2.2.2.1.length<=50/\s.2.2.2.2[j].2.2.2.2.2.2.1.length<=50) w3 rfl (fun j hj=>by omega) fun k c hk hs hC=>?_
 obtain rfl:c=_:=hs;simp only[W_,implies_true,forall_const,reduceCtorEq,ba,aS];refine⟨fun aj=>?_,fun hge=>?_⟩
 .have aj:k<s.2.2.2.2.length:=by omega
  simp only[ah aj,bV w3 aj,W_,implies_true,forall_const,reduceCtorEq]
  exact fun h1 h2 h3 h4=>⟨aj,cK hC fun _=>⟨by omega,by omega,by omega,by omega⟩⟩
 exact⟨by omega,by omega,by omega,by omega,rD hA,rD hB,rD fun j hj=>hC j (by omega)⟩
theorem Ju(l:Lw)(hw:WF bU l):Wp (M.lW aB l) fun r=>r=true->gZ l:=by
 have w1:=hw.1.1;have w2:=hw.2.1.1;have w3:=hw.2.2.1;unfold maxLen at w1 w2 w3;unfold M.lW;simp only[W_,implies_true,forall_const,reduceCtorEq]
 refine fun h1 h2 h3=>?_
 refine Wp.count (fun s=>s) l.1.length (fun k _=>∀j,j<k->∀h:j<l.1.length,(l.1[j].1:ByteArray).size<=80/\l.1[j].2.length<=20/\∀m∈l.1[j].2,ByteArray.size m<=80) w1 rfl (fun j hj=>by omega) fun k c hk hs hA=>?_
 obtain rfl:c=_:=hs;simp only[W_,implies_true,forall_const,reduceCtorEq,ba,aS];refine⟨fun aj=>?_,fun hge=>?_⟩
 .have aj:k<l.1.length:=by omega
  simp only[ah aj,bV w1 aj,W_,implies_true,forall_const,reduceCtorEq]
  refine fun g1 g2=>?_
  refine Wp.count (fun s=>s) l.1[k].2.length (fun i _=>∀j,j<i->∀h:j<l.1[k].2.length,ByteArray.size l.1[k].2[j]<=80) (by omega) rfl (fun j hj=>by omega) fun i c hi hs hB=>?_
  obtain rfl:c=_:=hs;simp only[W_,implies_true,forall_const,reduceCtorEq,ba,aS];refine⟨fun Bm=>?_,fun Bm=>⟨aj,cK hA fun _=>⟨by omega,by omega,rD fun j hj=>hB j (by omega)⟩⟩⟩
  have Bm:i<l.1[k].2.length:=by omega
  simp only[ah Bm,bV (m:=l.1[k].2.length) (by omega) Bm,W_,implies_true,forall_const,reduceCtorEq]
  exact fun h=>⟨Bm,cK hB fun _=>by omega⟩
 have hA:=fun j(hj:j<l.1.length)=>hA j (by omega)
 refine Wp.count (fun s=>s.2) l.2.1.length (fun k _=>∀j,j<k->∀h:j<l.2.1.length,(l.2.1[j].1:ByteArray).size<=80) w2 rfl (fun j hj=>by omega) fun k c hk hs hB=>?_
 obtain⟨c1,c2⟩:=c;dsimp only at hs;subst hs;simp only[W_,implies_true,forall_const,reduceCtorEq,ba,aS];refine⟨fun aj=>?_,fun hge=>?_⟩
 .have aj:k<l.2.1.length:=by omega
  simp only[ah aj,bV w2 aj,W_,implies_true,forall_const,reduceCtorEq]
  exact fun h _=>⟨aj,cK hB fun _=>by omega⟩
 have hB:=fun j(hj:j<l.2.1.length)=>hB j (by omega)
 refine Wp.count (fun s=>s.2) l.2.2.length (fun k _=>∀j,j<k->∀h:j<l.2.2.length,iE l.2.2[j]) w3 rfl (fun j hj=>by omega) fun k c hk hs hC=>?_
 obtain⟨c1,c2⟩:=c;dsimp only at hs;subst hs;simp only[W_,implies_true,forall_const,reduceCtorEq,ba,aS];refine⟨fun aj=>?_,fun hge=>?_⟩
 .have aj:k<l.2.2.length:=by omega
  simp only[ah aj,bV w3 aj,W_,implies_true,forall_const,reduceCtorEq]
  refine fun h=>(Jt _ (hw.2.2.2 _ (al0 aj))).mono fun r hr p6=>⟨aj,cK hC fun _=>hr p6⟩
 exact⟨by omega,by omega,by omega,rD hA,rD hB,rD fun j hj=>hC j (by omega)⟩
abbrev LE:Type:=au.den
def Pu:LE:=((0:Int),((0:Int),((0:Int),(0:Int))))
def sN(sec:Int)(k:Int):Option (Int×Int)->LE
 |none=>Pu
 |some (c,e)=>(c,(sec,(k,e)))
noncomputable def MP(ms:List ByteArray)(i:Nat):Option (Int×Int):=match ms[i]? with
 |none=>none
 |some m=>if mq m=false then some (2,100+(i:Int))else if m∈ms.take i then some (7,100+(i:Int))else none
noncomputable def nL(l:Lw)(k:Nat):Option (Int×Int):=match l.1[k]? with
 |none=>none
 |some x=>if mq x.1=false then some (2,0)else if fJ (l.1.take k) x.1 then some (7,0)else if x.2.length=0 then some (5,0)else if 16<x.2.length then some (4,116)else cy (MP x.2) x.2.length
theorem sO{k:Nat}{a:Int}(h:k<=100000)(ha:0<=a/\a<=1000):alT.wrap (a+(k:Int))=a+(k:Int):=aJ (by omega) (by omega)
end L
end Go.Proofs.YtmihpkfkbfgigaaGreatDoor
end
section
open _root_.Classical renaming propDecidable->ane
open _root_.List renaming getElem?_eq_getElem->alV,getElem_mem->al0
open _root_.Nat renaming le_refl->alZ
namespace Go.Proofs.YtmihpkfkbfgigaaGreatDoor
open Go Go.RowKit
set_option maxRecDepth 100000
set_option linter.unusedSimpArgs false
namespace L
noncomputable def pc(l:Lw)(k:Nat):Option (Int×Int):=match l.2.1[k]? with
 |none=>none
 |some x=>if mq x.1=false then some (2,0)else if fJ l.1 x.1\/fJ (l.2.1.take k) x.1 then some (7,0)else if(nU x l.1).2=0 then none else some ((nU x l.1).2,if 0<=(nU x l.1).1 then 100+(nU x l.1).1 else 0)
noncomputable def MQ(l:Lw)(x:gw)(i:Nat):Option (Int×Int):=match x.2.2.1[i]? with
 |none=>none
 |some f=>if mq f.1=false then some (2,100+(i:Int))else if fJ (x.2.2.1.take i) f.1 then some (7,100+(i:Int))else if¬jM f.2 l.1.length then some (8,100+(i:Int))else none
noncomputable def MS(l:Lw)(x:gw)(i:Nat):Option (Int×Int):=match x.2.2.2.1[i]? with
 |none=>none
 |some f=>if mq f.1=false then some (2,200+(i:Int))else if fJ x.2.2.1 f.1\/fJ (x.2.2.2.1.take i) f.1 then some (7,200+(i:Int))else if¬jM f.2 l.1.length then some (8,200+(i:Int))else none
noncomputable def Jv(l:Lw)(x:gw):Option (Int×Int):=(cy (MQ l x) x.2.2.1.length).or (cy (MS l x) x.2.2.2.1.length)
def plain(s:ByteArray):Prop:=(∀i,∀h:i<s.size,32<=(s[i].toNat:Int)/\(s[i].toNat:Int)<=126/\(s[i].toNat:Int)≠34)/\s.size<=64
noncomputable instance(s:ByteArray):Decidable (plain s):=ane _
theorem xw(f:List Fd)(hf:f.length<=100000):M.gE aB f=some (f.map (·.2)):=by
 apply Wp.eq;unfold M.gE
 refine Wp.fold (fun s=>s.1) (fun s=>s.2) f (fun(o:List Ty)x=>o++[x.2]) [] (fun k c=>c.length<=k) (by omega) rfl rfl (alZ _) (fun k s aj hs hI=>?_) fun s hs hc hI=>?_
 .obtain⟨i,o⟩:=s;dsimp only at hs hI;subst hs;simp only[Fb aj,ah aj,bV (m:=f.length) (by omega) aj,W_,implies_true,forall_const,reduceCtorEq,I6];exact nR.2 ⟨by simp;omega,rfl,by simp;omega⟩
 .obtain⟨i,o⟩:=s;dsimp only at hs hc;subst hs;simp only[fD,W_,implies_true,forall_const,reduceCtorEq,I7];rw[hc]
  have:∀(f:List Fd)(o:List Ty),f.foldl (fun(o:List Ty)x=>o++[x.2]) o=o++f.map (·.2):=by
   intro f
   induction f with
   |nil=>intro o;simp
   |cons x f ih=>intro o;rw[List.foldl_cons,ih];simp
  rw[this];rfl
def dt(l:Lw)(x:gw):ov:=(l.1,(l.2.1,(x.2.2.1.map (·.2),(x.2.2.2.1.map (·.2),(match l.2.2[(x.2.1:Int).toNat]? with
 |some y=>if 0<=(x.2.1:Int)then y.2.2.2.1.map (·.2)else[]
 |none=>[],decide (0<=(x.2.1:Int)/\(x.2.1:Int)<(l.2.2.length:Int)))))))
theorem Pv(l:Lw)(k:Nat)(hk:k<l.2.2.length)(hs:∀s∈l.2.2,s.2.2.1.length<=100000/\s.2.2.2.1.length<=100000):M.mC aB l (k:Int)=some ((dt l l.2.2[k]).1,(dt l l.2.2[k]).2.1,(dt l l.2.2[k]).2.2.2.2.2,(dt l l.2.2[k]).2.2.1,(dt l l.2.2[k]).2.2.2.1,(dt l l.2.2[k]).2.2.2.2.1):=by
 apply Wp.eq;unfold M.mC;have h1:=hs _ (al0 hk);simp only[show¬(k:Int)<0 by omega,show¬(l.2.2.length:Int)<=(k:Int) by omega,ah hk,xw _ h1.1,xw _ h1.2,W_,implies_true,forall_const,reduceCtorEq];unfold dt;generalize l.2.2[k]=x at*;obtain⟨x1,(x2:Int),x3,x4,x5⟩:=x;dsimp only[ae,Row.den]at*;refine⟨fun h=>⟨fun h'=>?_,fun h'=>?_⟩,fun h=>?_⟩
 .refine eC.2 ⟨by omega,?_⟩
  have hi:x2.toNat<l.2.2.length:=by omega
  simp only[xw _ (hs _ (al0 hi)).2,W_,implies_true,forall_const,reduceCtorEq,alV hi,h,h',if_true]
 .rw[List.getElem?_eq_none (by omega)];simp only[h',W_,implies_true,forall_const,reduceCtorEq]
 .simp only[h,W_,implies_true,forall_const,reduceCtorEq]
  split<;>rfl
end L
end Go.Proofs.YtmihpkfkbfgigaaGreatDoor
end
section
open _root_.Classical renaming not_not->am2,propDecidable->ane
open _root_.List renaming getElem?_eq_getElem->alV
open _root_.Option renaming map_eq_some_iff->amY
namespace Go.Proofs.YtmihpkfkbfgigaaGreatDoor
open Go Go.RowKit
set_option maxRecDepth 100000
set_option linter.unusedSimpArgs false
namespace L
noncomputable def rE(e:List Ty)(s:ov)(want:Ty):Int:=if(D2 e s).2.2≠0 then(D2 e s).2.2 else if(D2 e s).1≠want then 8 else 0
def AY(x:gw)(k:Nat)(d:Int):Nat:=(x.2.2.2.2.take k).countP fun r=>decide ((r.2.1:Int)=d)
def pO(x:gw)(k:Nat)(r:jK):Prop:=(r.2.2.1:Int)≠-1/\((r.2.2.1:Int)<0\/(k:Int)<=r.2.2.1\/∃y,x.2.2.2.2[(r.2.2.1:Int).toNat]? =some y/\(y.2.1:Int)≠r.2.1)
noncomputable instance(x:gw)(k:Nat)(r:jK):Decidable (pO x k r):=ane _
noncomputable def pP(l:Lw)(x:gw)(k:Nat)(r:jK):Int:=
 if mq r.1=false then 2 else if fJ (x.2.2.2.2.take k) r.1 then 7 else if¬(0<=(r.2.1:Int)/\(r.2.1:Int)<(x.2.2.2.1.length:Int))then 6 else if pO x k r then 9 else
 if(r.2.2.2.1:Int)<0\/9<(r.2.2.2.1:Int)\/¬VR r.2.2.2.2.1\/(r.2.2.2.2.1.1:Int)=r.2.2.2.2.1.2 then 3 else if 8<=AY x k r.2.1 then 4 else if¬plain r.2.2.2.2.2.2.2 then 2 else
 if 0<r.2.2.2.2.2.1.length/\rE r.2.2.2.2.2.1 (dt l x) ((1:Int),(0:Int))≠0 then rE r.2.2.2.2.2.1 (dt l x) ((1:Int),(0:Int))else
 match x.2.2.2.1[(r.2.1:Int).toNat]? with
 |some d=>rE r.2.2.2.2.2.2.1 (dt l x) d.2
 |none=>0
noncomputable def Dw(l:Lw)(x:gw)(k:Nat):Option (Int×Int):=match x.2.2.2.2[k]? with
 |none=>none
 |some r=>if pP l x k r≠0 then some (pP l x k r,300+(k:Int))else none
noncomputable def Fu(x:gw)(d:Nat):Option (Int×Int):=if(d:Int)∈J0 x d then some (9,200+(d:Int))else none
def pQ(l:Lw)(k:Nat)(x:gw):Prop:=(x.2.1:Int)≠-1/\((x.2.1:Int)<0\/(k:Int)<=x.2.1\/∃y,l.2.2[(x.2.1:Int).toNat]? =some y/\(y.2.1:Int)≠-1)
noncomputable instance(l:Lw)(k:Nat)(x:gw):Decidable (pQ l k x):=ane _
noncomputable def rF(l:Lw)(k:Nat):Option (Int×Int):=match l.2.2[k]? with
 |none=>none
 |some x=>
  if mq x.1=false then some (2,0)else if fJ l.1 x.1\/fJ l.2.1 x.1\/fJ (l.2.2.take k) x.1 then some (7,0)else if pQ l k x then some (6,0)else
  if 12<x.2.2.1.length then some (4,112)else if 12<x.2.2.2.1.length then some (4,212)else((Jv l x).or (cy (Dw l x) x.2.2.2.2.length)).or (cy (Fu x) x.2.2.2.1.length)
theorem MT{l:Lw}{x:gw}{e:Int×Int}(h:Jv l x=some e):e.1≠0:=by
 have key:∀(f:Nat->Option (Int×Int)),(∀i e,f i=some e->e.1≠0)->∀{m e},cy f m=some e->e.1≠0:=fun f hf m e h=>by
  obtain⟨k,_,h,_⟩:=fY h;exact hf k e h
 unfold Jv at h
 rcases Option.or_eq_some_iff.1 h with h|⟨_,h⟩
 .refine key _ (fun i e h=>?_) h;unfold MQ at h
  repeat' split at h
  all_goals first|cases h|skip
  all_goals simp
 .refine key _ (fun i e h=>?_) h;unfold MS at h
  repeat' split at h
  all_goals first|cases h|skip
  all_goals simp
theorem Pw(x:gw)(d:Int):uN x.2.2.2.1.length (J0 x d):=by
 have:∀m,uN x.2.2.2.1.length (kN x m (mr x d)):=fun m=>by
  induction m with
  |zero=>exact np x d
  |succ m ih=>exact qw x ih
 exact this _
noncomputable def ue(l:Lw):LE:=
 if 8<l.1.length then((4:Int),((1:Int),((8:Int),(0:Int))))else match cy (fun k=>(nL l k).map fun e=>(k,e)) l.1.length with
 |some (k,e)=>sN 1 (k:Int) (some e)
 |none=>if 8<l.2.1.length then((4:Int),((2:Int),((8:Int),(0:Int))))else match cy (fun k=>(pc l k).map fun e=>(k,e)) l.2.1.length with
  |some (k,e)=>sN 2 (k:Int) (some e)
  |none=>if 4<l.2.2.length then((4:Int),((3:Int),((4:Int),(0:Int))))else match cy (fun k=>(rF l k).map fun e=>(k,e)) l.2.2.length with
   |some (k,e)=>sN 3 (k:Int) (some e)
   |none=>Pu
theorem rG{f:Nat->Option (Int×Int)}(hf:∀i e,f i=some e->e.1≠0){m:Nat}{e:Int×Int}(h:cy f m=some e):e.1≠0:=by
 obtain⟨k,_,h,_⟩:=fY h;exact hf k e h
theorem uf{l:Lw}{k:Nat}{e:Int×Int}(h:nL l k=some e):e.1≠0:=by
 unfold nL at h
 repeat' split at h
 all_goals first|cases h|skip
 all_goals first|simp;done|skip
 refine rG (fun i e h=>?_) h;unfold MP at h
 repeat' split at h
 all_goals first|cases h|skip
 all_goals simp
theorem Dx{l:Lw}{k:Nat}{e:Int×Int}(h:pc l k=some e):e.1≠0:=by
 unfold pc at h
 repeat' split at h
 all_goals first|cases h|skip
 all_goals first|simp;done|assumption
theorem Dy{l:Lw}{k:Nat}{e:Int×Int}(h:rF l k=some e):e.1≠0:=by
 unfold rF at h
 repeat' split at h
 all_goals first|cases h|skip
 all_goals first|simp;done|skip
 rcases Option.or_eq_some_iff.1 h with h|⟨_,h⟩
 .rcases Option.or_eq_some_iff.1 h with h|⟨_,h⟩
  .exact MT h
  .refine rG (fun i e h=>?_) h;unfold Dw at h
   repeat' split at h
   all_goals first|cases h|skip
   assumption
 .refine rG (fun i e h=>?_) h;unfold Fu at h
  repeat' split at h
  all_goals first|cases h|skip
  simp
theorem SW{f:Nat->Option (Int×Int)}{k:Nat}{e:Int×Int}(h:f k=some e):(fun k=>(f k).map fun e=>(k,e)) k=some (k,e):=by simp[h]
theorem Px{f:Nat->Option (Int×Int)}{k:Nat}(h:f k=none):(fun k=>(f k).map fun e=>(k,e)) k=none:=by simp[h]
def Valid(l:Lw):Prop:=(ue l).1=0
noncomputable instance(l:Lw):Decidable (Valid l):=ane _
theorem Valid.scopes{l:Lw}(h:Valid l):l.1.length<=8/\l.2.1.length<=8/\l.2.2.length<=4/\(∀k,k<l.1.length->nL l k=none)/\(∀k,k<l.2.1.length->pc l k=none)/\∀k,k<l.2.2.length->rF l k=none:=by
 unfold Valid ue at h;split at h
 .cases h
 split at h
 .rename_i k e hf;obtain⟨j,_,hj,_⟩:=fY hf;obtain⟨e',he',h2⟩:=amY.1 hj;cases h2;exact absurd h (uf he')
 rename_i hA;split at h
 .cases h
 split at h
 .rename_i k e hf;obtain⟨j,_,hj,_⟩:=fY hf;obtain⟨e',he',h2⟩:=amY.1 hj;cases h2;exact absurd h (Dx he')
 rename_i hB;split at h
 .cases h
 split at h
 .rename_i k e hf;obtain⟨j,_,hj,_⟩:=fY hf;obtain⟨e',he',h2⟩:=amY.1 hj;cases h2;exact absurd h (Dy he')
 rename_i hC;exact⟨by omega,by omega,by omega,fun k hk=>by simpa using bH.1 hA k hk,fun k hk=>by simpa using bH.1 hB k hk,fun k hk=>by simpa using bH.1 hC k hk⟩
theorem Valid.scope{l:Lw}(h:Valid l)(k:Nat)(hk:k<l.2.2.length):mq l.2.2[k].1=true/\¬fJ (l.2.2.take k) l.2.2[k].1/\¬pQ l k l.2.2[k]/\l.2.2[k].2.2.1.length<=12/\l.2.2[k].2.2.2.1.length<=12/\Jv l l.2.2[k]=none/\
 (∀i,∀hi:i<l.2.2[k].2.2.2.2.length,pP l l.2.2[k] i l.2.2[k].2.2.2.2[i]=0)/\∀d:Nat,d<l.2.2[k].2.2.2.1.length->¬(d:Int)∈J0 l.2.2[k] d:=by
 have h:=h.scopes.2.2.2.2.2 k hk;unfold rF at h;rw[alV hk]at h;dsimp only at h;split at h
 .cases h
 split at h
 .cases h
 split at h
 .cases h
 split at h
 .cases h
 split at h
 .cases h
 rename_i h1 h2 h3 h4 h5;rw[Option.or_eq_none_iff,Option.or_eq_none_iff]at h;refine⟨by simpa using h1,fun g=>h2 (.inr (.inr g)),h3,by omega,by omega,h.1.1,fun i hi=>?_,fun d hd g=>?_⟩
 .have:=bH.1 h.1.2 i hi;unfold Dw at this;rw[alV hi]at this;dsimp only at this;split at this
  .cases this
  .exact am2.1 ‹_›
 .have:=bH.1 h.2 d hd;unfold Fu at this;rw[if_pos g]at this;cases this
end L
end Go.Proofs.YtmihpkfkbfgigaaGreatDoor
end
section
open _root_.Go.IntKind renaming i64->alT
open _root_.List renaming getElem?_eq_getElem->alV,length_cons->al9,map_cons->am9,mem_cons->amg,take_length->amc
namespace Go.Proofs.YtmihpkfkbfgigaaGreatDoor
open Go Go.RowKit
set_option maxRecDepth 100000
set_option linter.unusedSimpArgs false
namespace L
def fI{α:Type}(p:α->Bool)(l:List α):Int:=if l.findIdx p<l.length then((l.findIdx p:Nat):Int)else-1
theorem Ha{α:Type}{p:α->Bool}{l:List α}{k:Nat}(hk:k<l.length)(hp:p l[k]=true)(hn:∀j,j<k->∀h:j<l.length,p l[j]=false):fI p l=(k:Int):=by
 have h1:l.findIdx p=k:=by
  rcases Nat.lt_trichotomy (l.findIdx p) k with h|h|h
  .have:=hn _ h (by omega);have h2:=List.findIdx_getElem (xs:=l) (p:=p) (w:=by omega);rw[this]at h2;cases h2
  .exact h
  .have:=List.not_of_lt_findIdx h;rw[hp]at this;cases this
 unfold fI;rw[if_pos (by omega),h1]
theorem zC{α:Type}{p:α->Bool}{l:List α}(hn:∀j,∀h:j<l.length,p l[j]=false):fI p l= -1:=by
 unfold fI;rw[if_neg fun h=>?_];have h2:=List.findIdx_getElem (xs:=l) (p:=p) (w:=h);rw[hn _ h]at h2;cases h2
theorem pR{α:Type}{p:α->Bool}{l:List α}:0<=fI p l↔∃x∈l,p x=true:=by
 unfold fI;rw[<-List.findIdx_lt_length]
 split<;>simp_all
theorem xx{α Y:Type}{l:List α}{y:Y}{p:α->Bool}{body:Int×Y->Option ((Int×Y)⊕(Int×Y))}(hl:l.length<=maxLen)
 (hb:∀k,∀h:k<l.length,body ((k:Int),y)=if p l[k]=true then some (.inr ((k:Int),y))else some (.inl (alT.wrap ((k:Int)+1),y)))
 (he:body ((l.length:Int),y)=some (.inr ((-1:Int),y))):Loop body aB ((0:Int),y)=some (fI p l,y):=by
 apply Wp.eq
 refine Wp.count (fun s=>s.1) l.length (fun k s=>s.2=y/\∀j,j<k->∀h:j<l.length,p l[j]=false) hl rfl ⟨rfl,fun j hj=>by omega⟩ fun k c hk hs hJ=>?_
 obtain⟨c1,c2⟩:=c;obtain⟨h1,hJ⟩:=hJ;obtain rfl:c2=y:=h1;obtain rfl:c1=_:=hs
 rcases Nat.lt_or_ge k l.length with aj|hge
 .rw[hb k aj];simp only[W_,implies_true,forall_const,reduceCtorEq,ba,aS,bV hl aj];exact⟨fun h=>by rw[Ha aj h hJ],fun h=>⟨aj,cK hJ fun _=>by simpa using h⟩⟩
 .obtain rfl:k=l.length:=by omega
  rw[he];simp only[W_,implies_true,forall_const,reduceCtorEq,aS];rw[zC fun j h=>hJ j h h]
theorem Hb{α:Type}{l:List α}{p:α->Bool}{body:Int->Option (Int⊕Int)}(hl:l.length<=maxLen)
 (hb:∀k,∀h:k<l.length,body (k:Int)=if p l[k]=true then some (.inr (k:Int))else some (.inl (alT.wrap ((k:Int)+1))))
 (he:body (l.length:Int)=some (.inr (-1:Int))):Loop body aB (0:Int)=some (fI p l):=by
 apply Wp.eq
 refine Wp.count (fun s=>s) l.length (fun k _=>∀j,j<k->∀h:j<l.length,p l[j]=false) hl rfl (fun j hj=>by omega) fun k c hk hs hJ=>?_
 obtain rfl:c=_:=hs
 rcases Nat.lt_or_ge k l.length with aj|hge
 .rw[hb k aj];simp only[W_,implies_true,forall_const,reduceCtorEq,ba,aS,bV hl aj];exact⟨fun h=>by rw[Ha aj h hJ],fun h=>⟨aj,cK hJ fun _=>by simpa using h⟩⟩
 .obtain rfl:k=l.length:=by omega
  rw[he];simp only[W_,implies_true,forall_const,reduceCtorEq,aS];rw[zC fun j h=>hJ j h h]
theorem pS{e:Row}{l:List e.den}{x:e.den}(h:x∈l):dy e x<=dy (.slice e) l:=by
 show dy e x<=(l.map (dy e)).sum+1
 induction l with
 |nil=>cases h
 |cons y l ih=>
  rw[am9,List.sum_cons]
  rcases amg.1 h with rfl|h
  .omega
  .have:=ih h;omega
theorem jS{e:Row}(l:List e.den):l.length<=dy (.slice e) l:=by
 show l.length<=(l.map (dy e)).sum+1
 induction l with
 |nil=>simp
 |cons y l ih=>
  rw[am9,List.sum_cons,al9];have:=Br e y;omega
structure Py(l:Lw):Prop where
 en:∀e∈l.1,e.2.length<=1048576
 tb:∀t∈l.2.1,t.2.2.2.length<=1048576
 ru:∀s∈l.2.2,∀r∈s.2.2.2.2,r.2.2.2.2.2.1.length<=1048576/\r.2.2.2.2.2.2.1.length<=1048576
 en':l.1.length<=1048576
 tb':l.2.1.length<=1048576
 sc':l.2.2.length<=1048576
 sc:∀s∈l.2.2,s.2.2.1.length<=1048576/\s.2.2.2.1.length<=1048576/\s.2.2.2.2.length<=1048576
theorem Py.of{l:Lw}(h:dy bU l<=1048576):Py l:=by
 have e1:dy bU l=dy (.slice bu) l.1+(dy (.slice av) l.2.1+dy (.slice aw) l.2.2):=rfl;rw[e1]at h;refine⟨fun e he=>?_,fun t ht=>?_,fun s hs r hr=>?_,?_,?_,?_,fun s hs=>?_⟩
 .have h1:=pS he;have h2:=jS (e:= .str) e.2;have h3:dy bu e=dy .str e.1+dy (.slice .str) e.2:=rfl;omega
 .have h1:=pS ht;have h2:=jS (e:=dW) t.2.2.2;have h3:dy av t=dy .str t.1+(dy aa t.2.1+(dy aa t.2.2.1+dy (.slice dW) t.2.2.2)):=rfl;omega
 .have h1:=pS hs;have h3:dy aw s=dy .str s.1+(dy ae s.2.1+(dy (.slice aL) s.2.2.1+(dy (.slice aL) s.2.2.2.1+dy (.slice aY) s.2.2.2.2))):=rfl;have h4:=pS hr;have h5:=jS (e:=aa) r.2.2.2.2.2.1;have h6:=jS (e:=aa) r.2.2.2.2.2.2.1;have h7:dy aY r=dy .str r.1+(dy ae r.2.1+(dy ae r.2.2.1+(dy ae r.2.2.2.1+(dy aa r.2.2.2.2.1+(dy (.slice aa) r.2.2.2.2.2.1+(dy (.slice aa) r.2.2.2.2.2.2.1+dy .str r.2.2.2.2.2.2.2)))))):=rfl;omega
 .have:=jS (e:=bu) l.1;omega
 .have:=jS (e:=av) l.2.1;omega
 .have:=jS (e:=aw) l.2.2;omega
 .have h1:=pS hs;have h3:dy aw s=dy .str s.1+(dy ae s.2.1+(dy (.slice aL) s.2.2.1+(dy (.slice aL) s.2.2.2.1+dy (.slice aY) s.2.2.2.2))):=rfl;have h5:=jS (e:=aL) s.2.2.1;have h6:=jS (e:=aL) s.2.2.2.1;have h7:=jS (e:=aY) s.2.2.2.2;omega
theorem Hc{α β:Type}(l:List α)(F:α->β){body:Int×List β->Option ((Int×List β)⊕List β)}(hl:l.length<=4294967296)
 (hb:∀k,∀h:k<l.length,∀o:List β,o.length=k->body ((k:Int),o)=some (.inl (alT.wrap ((k:Int)+1),o++[F l[k]])))
 (he:∀o:List β,body ((l.length:Int),o)=some (.inr o)):Loop body aB ((0:Int),[])=some (l.map F):=by
 have MU:l.length<aB:=by unfold aB;omega
 refine AI (fun k=>((k:Int),(l.take k).map F)) l.length _ (by simp) (fun k hk=>?_) (by rw[he,amc]) MU;rw[hb k hk _ (by simp;omega),bV (m:=l.length) (by omega) hk,List.take_add_one,alV hk,List.map_append];rfl
theorem Dz{α β S X:Type}(l:List α)(F:α->β)(mk:Int->List β->S)(out:List β->X){body:S->Option (S⊕X)}(hl:l.length<=4294967296)
 (hb:∀k,∀h:k<l.length,∀o:List β,o.length=k->body (mk (k:Int) o)=some (.inl (mk (alT.wrap ((k:Int)+1)) (o++[F l[k]]))))
 (he:∀o:List β,body (mk (l.length:Int) o)=some (.inr (out o))):Loop body aB (mk (0:Int) [])=some (out (l.map F)):=by
 have MU:l.length<aB:=by unfold aB;omega
 refine AI (fun k=>mk (k:Int) ((l.take k).map F)) l.length _ (by simp) (fun k hk=>?_) (by rw[he,amc]) MU;rw[hb k hk _ (by simp;omega),bV (m:=l.length) (by omega) hk,List.take_add_one,alV hk,List.map_append];rfl
theorem ug{α:Type}{x:α}:wN (some x) (some x)=some x:=by
 unfold wN;simp
theorem xu(r:Row)(x:r.den):nW r x x=true:=by unfold nW;simp
end L
end Go.Proofs.YtmihpkfkbfgigaaGreatDoor
end
