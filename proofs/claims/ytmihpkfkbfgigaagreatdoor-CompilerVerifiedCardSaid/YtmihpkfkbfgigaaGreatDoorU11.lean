/- Joined texts: PQ3 PQ4 PQ5 PQ6 PQ7 PQ8 P28 CV PD RA RB RC RD RE RF RI. -/
import Derived.Test.YtmihpkfkbfgigaaGreatDoorU10
import Derived.Test.YtmihpkfkbfgigaaGreatDoorU1
import Derived.Test.YtmihpkfkbfgigaaGreatDoorU8
section
open _root_.List renaming append_assoc->ajH,getElem?_eq_some_iff->ajn,length_append->ajm,take_length->ajD
open _root_.Nat renaming add_assoc->akq,zero_le->ajI
open _root_.Option.some renaming inj->ajk
namespace Go.Proofs.YtmihpkfkbfgigaaGreatDoor
open Go Go.RowKit
set_option maxRecDepth 100000
namespace L.P.Q
theorem nat_eq{u t:Nat}{x:Int}(h1:x=u)(h2:x=t):u=t:=by omega
def kW(n:Ty):Prop:=50<=(n.1:Int)/\(n.1:Int)<=53
instance(n:Ty):Decidable (kW n):=by unfold kW;infer_instance
def yt(n:Ty):Prop:=(n.1:Int)=50\/(n.1:Int)=52\/(n.1:Int)=53
theorem yt.kW{n:Ty}(h:yt n):kW n:=by
 obtain⟨(o:Int),(m:Int)⟩:=n;unfold yt at h;unfold L.P.Q.kW;dsimp only[ae,Row.den]at*;omega
theorem qm{n:Ty}(h:(n.1:Int)=51):kW n:=by
 obtain⟨(o:Int),(m:Int)⟩:=n;unfold kW;dsimp only[ae,Row.den]at*;omega
theorem ml{n:Ty}(h:kW n):(n.1:Int)=51\/yt n:=by
 obtain⟨(o:Int),(m:Int)⟩:=n;unfold kW at h;unfold yt;dsimp only[ae,Row.den]at*;omega
theorem nh{n:Ty}(h:yt n):¬(n.1:Int)=51:=by
 obtain⟨(o:Int),(m:Int)⟩:=n;unfold yt at h;dsimp only[ae,Row.den]at*;omega
theorem Cp{n:Ty}(h:kW n):¬bJ n.1:=by
 obtain⟨(o:Int),(m:Int)⟩:=n;unfold kW at h;unfold bJ;dsimp only[ae,Row.den]at*;omega
section
variable {a b:List Ty} {env:cE.den} {p:Nat} {S:List Vl} {r:Vl×Int} {n:Ty}
theorem cq.Q5(hr:cq a env p S r)(hp:p=a.length):∃v S',S=v::S'/\r=(v,0):=by
 have no:∀{n:Ty},a[p]? =some n->False:=fun{n}h=>by subst hp;simp at h
 cases hr with
 |done=>exact⟨_,_,rfl,rfl⟩
 |jump h=>exact(no h).elim
 |op h=>exact(no h).elim
 |fail h=>exact(no h).elim
 |cond h=>exact(no h).elim
 |cbad h=>exact(no h).elim
theorem cq.Ls(hr:cq a env p S r)(hn:a[p]? =some n)(hj:¬kW n):∃k:Nat,ar n.1=k/\k<=S.length/\
 (((iX env n (S.drop (S.length-k))).2=0/\cq a env (p+1) (S.take (S.length-k)++[(iX env n (S.drop (S.length-k))).1]) r)\/((iX env n (S.drop (S.length-k))).2≠0/\r=(z3,(iX env n (S.drop (S.length-k))).2))):=by
 cases hr with
 |done=>simp at hn
 |jump h oz=>obtain rfl:=ajk (h.symm.trans hn);exact absurd (qm oz) hj
 |op h bP ha hs h0 next=>obtain rfl:=ajk (h.symm.trans hn);exact⟨_,ha,hs, .inl ⟨h0,next⟩⟩
 |fail h bP ha hs h0=>obtain rfl:=ajk (h.symm.trans hn);exact⟨_,ha,hs, .inr ⟨h0,rfl⟩⟩
 |cond h fM=>obtain rfl:=ajk (h.symm.trans hn);exact absurd (yt.kW fM) hj
 |cbad h fM=>obtain rfl:=ajk (h.symm.trans hn);exact absurd (yt.kW fM) hj
theorem cq.FY(hr:cq a env p S r)(hn:a[p]? =some n)(oz:(n.1:Int)=51):∃t:Nat,(n.2:Int)=t/\p<t/\t<=a.length/\cq a env t S r:=by
 cases hr with
 |done=>simp at hn
 |jump h _ ht B8 ue next=>obtain rfl:=ajk (h.symm.trans hn);exact⟨_,ht,B8,ue,next⟩
 |op h bP=>obtain rfl:=ajk (h.symm.trans hn);exact absurd (qm oz) bP
 |fail h bP=>obtain rfl:=ajk (h.symm.trans hn);exact absurd (qm oz) bP
 |cond h fM=>obtain rfl:=ajk (h.symm.trans hn);exact absurd oz (nh fM)
 |cbad h fM=>obtain rfl:=ajk (h.symm.trans hn);exact absurd oz (nh fM)
def wB(top:Vl):Prop:=(top.1:Int)=1/\((top.2.2:Int)=0\/(top.2.2:Int)=1)
theorem cq.NQ(hr:cq a env p S r)(hn:a[p]? =some n)(hc:yt n):∃S' top,S=S'++[top]/\((¬wB top/\r=(z3,8))\/
 (wB top/\∃t:Nat,(n.2:Int)=t/\p<t/\t<=a.length/\cq a env (if uK n top=true then t else p+1) (if uK n top=false\/(n.1:Int)=50 then S' else S'++[top]) r)):=by
 cases hr with
 |done=>simp at hn
 |jump h oz=>obtain rfl:=ajk (h.symm.trans hn);exact absurd oz (nh hc)
 |op h bP=>obtain rfl:=ajk (h.symm.trans hn);exact absurd (yt.kW hc) bP
 |fail h bP=>obtain rfl:=ajk (h.symm.trans hn);exact absurd (yt.kW hc) bP
 |cond h fM ht B8 ue hk hv next=>obtain rfl:=ajk (h.symm.trans hn);exact⟨_,_,rfl, .inr ⟨⟨hk,hv⟩,_,ht,B8,ue,next⟩⟩
 |cbad h fM hk=>obtain rfl:=ajk (h.symm.trans hn);exact⟨_,_,rfl, .inl ⟨hk,rfl⟩⟩
theorem cq.lit{v:Vl}(hr:cq a env p S r)(hn:a[p]? =some n)(hj:¬kW n)(h0:ar n.1=0)(hv:iX env n []=(v,0)):cq a env (p+1) (S++[v]) r:=by
 obtain⟨k,h1,h2,h3⟩:=hr.Ls hn hj
 obtain rfl:k=0:=by omega
 rw[Nat.sub_zero,List.drop_length,ajD,hv]at h3
 rcases h3 with h3|h3
 .exact h3.2
 .exact absurd rfl h3.1
theorem cq.opI{vs:List Vl}{v:Vl}(hr:cq a env p (S++vs) r)(hn:a[p]? =some n)(hj:¬kW n)(h0:ar n.1=(vs.length:Int))(hv:iX env n vs=(v,0)):cq a env (p+1) (S++[v]) r:=by
 obtain⟨k,h1,h2,h3⟩:=hr.Ls hn hj
 obtain rfl:k=vs.length:=by omega
 rw[ajm,Nat.add_sub_cancel,List.drop_left,List.take_left,hv]at h3
 rcases h3 with h3|h3
 .exact h3.2
 .exact absurd rfl h3.1
end
inductive Ms(a b:List Ty)(R:Nat->Nat->Prop)(p q:Nat):Prop
 |op {n:Ty} (ha:a[p]? =some n) (hb:b[q]? =some n) (hn:¬kW n) (hr:R (p+1) (q+1)):Ms a b R p q
 |jump {n n':Ty} {t t':Nat} (ha:a[p]? =some n) (hb:b[q]? =some n') (h1:(n.1:Int)=51) (h2:(n'.1:Int)=51) (e1:(n.2:Int)=t) (e2:(n'.2:Int)=t') (hq:q<t') (hr:R t t'):Ms a b R p q
 |cond {n n':Ty} {t t':Nat} (ha:a[p]? =some n) (hb:b[q]? =some n') (h1:yt n) (h2:(n'.1:Int)=n.1) (e1:(n.2:Int)=t) (e2:(n'.2:Int)=t') (hq:q<t') (hr:R t t') (hs:R (p+1) (q+1)):Ms a b R p q
 |block {k:Nat} {n m:Ty} {vs:List Vl} {v:Vl} (hl:∀j,j<k->∃x y,a[p+j]? =some x/\vs[j]? =some y/\¬kW x/\ar x.1=0/\∀env,iC env->iX env x []=(y,0)) (hk:vs.length=k) (hn:a[p+k]? =some n) (hj:¬kW n) (ha:ar n.1=k)
   (hv:∀env,iC env->iX env n vs=(v,0)) (hm:b[q]? =some m) (Pj:¬kW m) (ham:ar m.1=0) (Ii:¬bJ m.1) (hvm:∀env,iC env->iX env m []=(v,0)) (hr:R (p+k+1) (q+1)):Ms a b R p q
structure NR(a b:List Ty)(F F':List Int)(R:Nat->Nat->Prop):Prop where
 fits:Fits a F
 pos:0<b.length
 le:b.length<=128
 len:F'.length=b.length+1
 bd:Bd F'
 dep:∀p q,R p q->0<=gd F p/\p<=a.length/\q<=b.length/\gd F' q=gd F p
 st:∀p q,R p q->(p=a.length/\q=b.length)\/Ms a b R p q\/∃(n:Ty)(t:Nat),a[p]? =some n/\(n.1:Int)=51/\(n.2:Int)=t/\R t q
 back:∀q,q<b.length->0<=gd F' q->∃p,R p q/\Ms a b R p q
 zero:R 0 0
 fin:R a.length b.length
section
variable {a b:List Ty} {F F':List Int} {R:Nat->Nat->Prop}
theorem Fits.at(f:Fits a F){p:Nat}{n:Ty}(hn:a[p]? =some n)(h0:0<=gd F p):iW a.length F p n/\¬bJ n.1:=by
 obtain⟨h,rfl⟩:=ajn.1 hn;exact f.step p h h0
theorem Fits.op(f:Fits a F){p:Nat}{n:Ty}(hn:a[p]? =some n)(hj:¬kW n)(h0:0<=gd F p):0<=ar n.1/\ar n.1<=gd F p/\gd F (p+1)=gd F p-ar n.1+1/\gd F p-ar n.1+1<=12/\¬bJ n.1:=by
 obtain⟨h1,h2⟩:=f.at hn h0
 rcases h1 with⟨h,_⟩|⟨h,_⟩|⟨_,_,g1,g2,g3,g4⟩
 .exact absurd (qm h) hj
 .exact absurd (yt.kW h) hj
 .exact⟨g1,g2,g3,g4,h2⟩
theorem qL(f:Fits a F){p:Nat}(h0:0<=gd F p):∀(k:Nat),(∀j,j<k->∃x:Ty,a[p+j]? =some x/\¬kW x/\ar x.1=0)->gd F (p+k)=gd F p+k
 |0,_=>by simp
 |k+1,h=>by
  have ih:=qL f h0 k fun j hj=>h j (by omega)
  obtain⟨x,h1,h2,h3⟩:=h k (by omega);obtain⟨_,_,g,_⟩:=f.op h1 h2 (by omega);rw[<-akq,g];omega
theorem NR.to(s:NR a b F F' R):Fits b F':=by
 refine⟨s.pos,s.le,s.len,s.bd,?_,?_,fun q hq h0=>?_⟩
 .rw[(s.dep _ _ s.zero).2.2.2];exact s.fits.first
 .rw[(s.dep _ _ s.fin).2.2.2];exact s.fits.last
 obtain⟨p,hR,g⟩:=s.back q hq h0;obtain⟨d1,d2,d3,d4⟩:=s.dep p q hR
 cases g with
 | @op n ha hb hn hr=>
   have e:b[q]=n:=(ajn.1 hb).2;obtain⟨g1,g2,g3,g4,g5⟩:=s.fits.op ha hn d1;obtain⟨_,_,_,d5⟩:=s.dep _ _ hr;rw[e];exact⟨.inr (.inr ⟨fun h=>hn (qm h),fun h=>hn (yt.kW h),g1,by omega,by omega,by omega⟩),g5⟩
 | @jump n n' t t' ha hb h1 h2 e1 e2 mM hr=>
   have e:b[q]=n':=(ajn.1 hb).2;obtain⟨g1,_⟩:=s.fits.at ha d1;obtain⟨_,_,c3,d5⟩:=s.dep _ _ hr;rw[e];refine⟨.inl ⟨h2,t',e2,mM,c3,?_⟩,Cp (qm h2)⟩
   rcases g1 with⟨_,u,u1,u2,u3,u4⟩|⟨h,_⟩|⟨h,_⟩
   .have:u=t:=nat_eq u1 e1;subst this;omega
   .exact absurd h1 (nh h)
   .exact absurd h1 h
 | @cond n n' t t' ha hb h1 h2 e1 e2 mM hr hs=>
   have e:b[q]=n':=(ajn.1 hb).2;obtain⟨g1,_⟩:=s.fits.at ha d1;obtain⟨_,_,c3,d5⟩:=s.dep _ _ hr;obtain⟨_,_,_,d6⟩:=s.dep _ _ hs
   have tD:yt n':=by unfold yt;rw[h2];exact h1
   rw[e];refine⟨.inr (.inl ⟨tD,?_⟩),Cp tD.kW⟩
   rcases g1 with⟨h,_⟩|⟨_,g2,g3,u,u1,u2,u3,u4⟩|⟨_,h,_⟩
   .exact absurd h (nh h1)
   .have:u=t:=nat_eq u1 e1;subst this;refine⟨by omega,by omega,t',e2,mM,c3,?_⟩;rw[d5,u4,d4,h2]
   .exact absurd h1 h
 | @block k n m vs v hl hk hn hj ha hv hm Pj ham Ii hvm hr=>
   have e:b[q]=m:=(ajn.1 hm).2
   have hd:=qL s.fits d1 k fun j hj=>by
    obtain⟨x,_,x1,_,x2,x3,_⟩:=hl j hj;exact⟨x,x1,x2,x3⟩
   obtain⟨g1,g2,g3,g4,_⟩:=s.fits.op hn hj (by omega);obtain⟨_,_,_,d5⟩:=s.dep _ _ hr;rw[e];exact⟨.inr (.inr ⟨fun h=>Pj (qm h),fun h=>Pj (yt.kW h),by omega,by omega,by omega,by omega⟩),Ii⟩
theorem cq.lits{env:cE.den}{p:Nat}{S:List Vl}{r:Vl×Int}{vs:List Vl}:∀(k:Nat),k<=vs.length->(∀j,j<k->∃(x:Ty)(y:Vl),a[p+j]? =some x/\vs[j]? =some y/\¬kW x/\ar x.1=0/\iX env x []=(y,0))->cq a env p S r->cq a env (p+k) (S++vs.take k) r
 |0,_,_,h=>by simpa using h
 |k+1,hk,hl,h=>by
  have ih:=cq.lits k (by omega) (fun j hj=>hl j (by omega)) h;obtain⟨x,y,h1,h2,h3,h4,h5⟩:=hl k (by omega);have:=ih.lit h1 h3 h4 h5
  have e:vs.take (k+1)=vs.take k++[y]:=by
   obtain⟨ao,rfl⟩:=ajn.1 h2;exact List.take_succ_eq_append_getElem ao
  rw[e,<-ajH];exact this
theorem NR.runs(s:NR a b F F' R){env:cE.den}(he:iC env){r:Vl×Int}:∀(m p q:Nat)(S:List Vl),a.length-p=m->R p q->cq a env p S r->cq b env q S r:=by
 intro m
 induction m using Nat.strongRecOn with
 |_ m ih=>
  intro p q S hm hR hr
  have RY:∀p' q' S',p<p'->R p' q'->cq a env p' S' r->cq b env q' S' r:=fun p' q' S' h VT=>by
   have:=(s.dep p' q' VT).2.1;exact ih (a.length-p') (by omega) p' q' S' rfl VT
  rcases s.st p q hR with⟨e1,e2⟩|g|⟨n,t,ha,oz,ht,VT⟩
  .obtain⟨v,S',rfl,rfl⟩:=hr.Q5 e1;rw[e2];exact .done
  .cases g with
   | @op n ha hb hn py=>
     obtain⟨k,h1,h2,h3⟩:=hr.Ls ha hn
     rcases h3 with⟨h3,h4⟩|⟨h3,rfl⟩
     .exact .op hb hn h1 h2 h3 (RY _ _ _ (by omega) py h4)
     .exact .fail hb hn h1 h2 h3
   | @jump n n' t t' ha hb h1 h2 e1 e2 mM py=>
     obtain⟨u,u1,u2,u3,u4⟩:=hr.FY ha h1;have:u=t:=nat_eq u1 e1;subst this;exact .jump hb h2 e2 mM (s.dep _ _ py).2.2.1 (RY _ _ _ u2 py u4)
   | @cond n n' t t' ha hb h1 h2 e1 e2 mM py hs=>
     have tD:yt n':=by unfold yt;rw[h2];exact h1
     obtain⟨S',top,rfl,h3⟩:=hr.NQ ha h1
     rcases h3 with⟨h3,rfl⟩|⟨h3,u,u1,u2,u3,u4⟩
     .exact .cbad hb tD h3
     .have:u=t:=nat_eq u1 e1;subst this
      have ej:uK n' top=uK n top:=by unfold uK;rw[h2]
      refine .cond hb tD e2 mM (s.dep _ _ py).2.2.1 h3.1 h3.2 ?_;rw[ej,h2];by_cases hj:uK n top=true
      .rw[if_pos hj]at u4⊢;exact RY _ _ _ u2 py u4
      .rw[if_neg hj]at u4⊢;exact RY _ _ _ (by omega) hs u4
   | @block k n m vs v hl hk hn hj ha hv hm Pj ham Ii hvm py=>
     have h1:=cq.lits (vs:=vs) k (by omega) (fun j hj=>by
      obtain⟨x,y,x1,x2,x3,x4,x5⟩:=hl j hj
      exact⟨x,y,x1,x2,x3,x4,x5 env he⟩) hr
     rw[List.take_of_length_le (by omega)]at h1;have h2:=h1.opI hn hj (by rw[ha,hk]) (hv env he);have h3:=RY _ _ _ (by omega) py h2;have e:=hvm env he;refine .op (a:=0) hm Pj (by rw[ham];rfl) (ajI _) ?_ ?_
     .rw[Nat.sub_zero,List.drop_length,e]
     .rw[Nat.sub_zero,List.drop_length,ajD,e];exact h3
  .obtain⟨u,u1,u2,u3,u4⟩:=hr.FY ha oz;have:u=t:=nat_eq u1 ht;subst this;exact RY _ _ _ u2 VT u4
end
structure oe(a b:List Ty):Prop where
 fits:∃F,Fits b F
 le:b.length<=a.length
 wf:∀n∈b,WF aa n
 runs:∀env,iC env->∀r,cq a env 0 [] r->cq b env 0 [] r
theorem oe.trans{a b c:List Ty}(h:oe a b)(k:oe b c):oe a c:=⟨k.fits,Nat.le_trans k.le h.le,k.wf,fun env he r hr=>k.runs env he r (h.runs env he r hr)⟩
theorem NR.same{a b:List Ty}{F F':List Int}{R:Nat->Nat->Prop}(s:NR a b F F' R)(hl:b.length<=a.length)(hw:∀n∈b,WF aa n):oe a b:=
 ⟨⟨F',s.to⟩,hl,hw,fun _ he _ hr=>s.runs he _ 0 0 [] rfl s.zero hr⟩
end L.P.Q
end Go.Proofs.YtmihpkfkbfgigaaGreatDoor
end
section
open _root_.Bool renaming false_eq_true->ajp
open _root_.Int renaming tdiv->ajE,tdiv_eq_ediv_of_nonneg->aki,tmod->ajY
open _root_.Go.IntKind renaming i64->ajj
open _root_.Option renaming bind_some->aji
open _root_.Option.some renaming inj->ajk
namespace Go.Proofs.YtmihpkfkbfgigaaGreatDoor
open Go Go.RowKit
set_option maxRecDepth 100000
namespace L.P.Q
theorem mE(N:Nat)(op:Int):M.dc N op=some (decide (50<=op/\op<=53)):=by
 unfold M.dc
 by_cases h:50<=op<;>simp[h]
def e0:cE.den:=((0,[],[],[],[],[]):Int×List Vl×List Vl×List (List Vl)×List Ty×List ay.den)
theorem Cq:iC e0:=⟨by decide,fun t h=>by cases h⟩
theorem FZ{n:Ty}{args:List Vl}{env:cE.den}(he:iC env)(hn:WF aa n)(hl:args.length<=100000):Wp (M.bI aE n args env) fun r=>r.2=0->(args.length:Int)=ar n.1/\∀v∈args,da v.1 v.2.1 v.2.2:=by
 obtain⟨op,m⟩:=n;have hm:=hn.2;unfold M.bI
 refine Wp.seq (fun j=>j=false->Fm op m/\(args.length:Int)=ar op) ?_ fun j hj=>?_
 .refine Wp.seq _ (sY ..) fun y hy=>?_
  refine Wp.ite (fun _=> .some fun h=>by cases h) fun hc=>?_
  rw[cw]
  exact .some fun h=>⟨hy (by simpa using hc),by simpa using h⟩
 refine Wp.ite (fun _=> .some fun h=>absurd h (by decide)) fun hc=>?_
 obtain⟨hf,ha⟩:=hj (by simpa using hc)
 refine Wp.seq _ (sZ ..) fun y hy=>?_
 refine Wp.ite (fun _=> .some fun h=>absurd h (by decide)) fun uv=>?_
 have hx:=hy (by simpa using uv)
 have sd:op=34->0<=ajj.wrap (ajE m 8):=fun e=>by
  have h0:=(hf.2.2.1 e).1;have h1:(m:Int)<=9223372036854775807:=hm.2;rw[aki h0];dsimp only[ae,Row.den]at h0 h1⊢;rw[aM (by omega) (by omega)];omega
 refine Wp.seq (fun j=>j=false->US op m env/\∀v∈args,da v.1 v.2.1 v.2.2) ?_ fun j5 hj5=>?_
 .refine Wp.seq _ (BX _ hl (by unfold aE;omega)) fun y hy=>?_
  refine Wp.ite (fun _=> .some fun h=>by cases h) fun hc=>?_
  exact Wp.seq _ (wh hx ha sd) fun z hz=> .some fun h=>⟨hz (by simpa using h),hy (by simpa using hc)⟩
 refine Wp.ite (fun _=> .some fun h=>absurd h (by decide)) fun JQ=>?_
 obtain⟨UX,qy⟩:=hj5 (by simpa using JQ)
 refine Wp.seq _ (wj he hf hx ha UX sd) fun r hr=>?_
 refine Wp.jV (fun _=> .some fun _=>⟨ha,qy⟩) fun _=>?_
 rw[cR];simp only[aji]
 exact Wp.jV (fun _=> .some fun _=>⟨ha,qy⟩) fun hp=> .some fun _=>⟨ha,qy⟩
theorem NS{op m:Int}(h:op=33\/op=34)(hm:m<=9223372036854775807)(args:List Vl):Wp (M.bI aE ((op,m):Int×Int) args e0) fun r=>r.2≠0:=by
 unfold M.bI
 refine Wp.seq (fun j=>j=false->Fm op m) ?_ fun j hj=>?_
 .refine Wp.seq _ (sY ..) fun y hy=>?_
  refine Wp.ite (fun _=> .some fun h=>by cases h) fun hc=>?_
  rw[cw]
  exact .some fun _=>hy (by simpa using hc)
 refine Wp.ite (fun _=> .some (by decide)) fun hc=>?_
 have hf:=hj (by simpa using hc)
 have he:M.dD aE ((op,m):Int×Int) e0=some false:=by
  unfold M.dD
  rcases h with rfl|rfl
  .by_cases h0:0<=m
   .simp[e0,h0];exact decide_eq_false (Int.not_lt.2 h0)
   .simp[h0]
  .have h0:=(hf.2.2.1 rfl).1
   have hw:ajj.wrap (ajE m 8)=m/8:=by
    rw[aki h0,aM (by omega) (by omega)]
   simp[e0,hw];omega
 rw[he];simp only[aji,Bool.not_false,if_true];exact .some (by decide)
theorem Q6{n:Ty}(hn:WF aa n)(h1:1<=ar n.1){args:List Vl}(h0:(iX e0 n args).2=0)(env:cE.den):iX env n args=iX e0 n args:=by
 obtain⟨(op:Int),(m:Int)⟩:=n;by_cases h:op=33\/op=34
 .obtain⟨r,hr,bP⟩:=NS h hn.2.2 args;unfold iX at h0;rw[hr]at h0;exact absurd h0 bP
 .have ha:10<=op/\op<=32:=by
   revert h1
   show 1<=ar op->_
   unfold ar;intro h1;split at h1
   .omega
   .omega
  have ne:∀k:Int,(k<=9\/33<=k)->decide (op=k)=false:=fun k hk=>decide_eq_false (by omega)
  have e:M.bI aE ((op,m):Int×Int) args env=M.bI aE ((op,m):Int×Int) args e0:=by
   unfold M.bI M.dD M.bt M.bB;simp only[ne 1 (by omega),ne 2 (by omega),ne 3 (by omega),ne 4 (by omega),ne 5 (by omega),ne 6 (by omega),ne 7 (by omega),ne 8 (by omega),ne 9 (by omega),ne 33 (by omega),ne 34 (by omega),ne 35 (by omega),ne 36 (by omega),ne 37 (by omega),ne 38 (by omega),ne 39 (by omega),ajp,if_false,aji]
  unfold iX;exact congrArg (fun x=>x.getD (z3,0)) e
def rT(n:Ty):Option Vl:=
 if 1<=(n.1:Int)/\(n.1:Int)<=5 then some ((n.1,0,n.2):Int×Int×Int)else if(n.1:Int)=6/\0<=(n.2:Int)/\(n.2:Int)<128 then some ((6,(n.2:Int)/16,(n.2:Int)%16):Int×Int×Int)else none
def nN(v:Vl):Ty:=if 1<=(v.1:Int)/\(v.1:Int)<=5 then((v.1,v.2.2):Int×Int)else((6,16*(v.2.1:Int)+v.2.2):Int×Int)
theorem uo(N:Nat)(n:Ty):M.eZ N n=some (match rT n with
 |some v=>(v,true)
 |none=>(z3,false)):=by
 obtain⟨(op:Int),(m:Int)⟩:=n;unfold M.eZ rT bM;dsimp only[ae,Row.den];by_cases h1:op=1
 .subst h1;simp
 by_cases h2:op=2
 .subst h2;simp
 by_cases h3:op=3
 .subst h3;simp
 by_cases h4:op=4
 .subst h4;simp
 by_cases h5:op=5
 .subst h5;simp
 rw[if_neg (show¬(1<=op/\op<=5) by omega)];by_cases h6:op=6
 .subst h6;by_cases h7:0<=m
  .by_cases h8:m<128
   .have w:ajj.wrap (ajE m 16)=m/16:=by rw[aki h7,aM (by omega) (by omega)]
    have w2:ajY m 16=m%16:=Int.tmod_eq_emod_of_nonneg h7;simp[h7,h8,w,w2]
   .simp[h7,h8,z3]
  .simp[h7,z3]
 .simp[h1,h2,h3,h4,h5,h6,z3]
theorem tU{k e n:Int}(h:da k e n):((1<=k/\k<=5)/\e=0/\-1000000000000000<=n/\n<=1000000000000000)\/(k=6/\0<=e/\e<=7/\0<=n/\n<=15):=by
 unfold da at h;omega
theorem xl(N:Nat){v:Vl}(hp:da v.1 v.2.1 v.2.2):M.fO N v=some (nN v):=by
 obtain⟨(k:Int),(e:Int),(n:Int)⟩:=v;unfold M.fO nN;dsimp only[ae,Row.den]at*;by_cases h1:k=1
 .subst h1;simp
 by_cases h2:k=2
 .subst h2;simp
 by_cases h3:k=3
 .subst h3;simp
 by_cases h4:k=4
 .subst h4;simp
 by_cases h5:k=5
 .subst h5;simp
 rcases tU hp with h|⟨h6,h7,h8,h9,UZ⟩
 .omega
 .have w1:ajj.wrap (16*e)=16*e:=aM (by omega) (by omega);have w2:ajj.wrap (16*e+n)=16*e+n:=aM (by omega) (by omega);rw[if_neg (show¬(1<=k/\k<=5) by omega)];simp[h1,h2,h3,h4,h5,w1,w2]
theorem rU{n:Ty}{v:Vl}(h:rT n=some v):¬kW n/\ar n.1=0/\¬bJ n.1:=by
 obtain⟨(op:Int),(m:Int)⟩:=n
 have:1<=op/\op<=6:=by
  unfold rT at h;dsimp only[ae,Row.den]at h;split at h
  .omega
  .split at h
   .omega
   .cases h
 refine⟨?_,?_,?_⟩
 .show¬(50<=op/\op<=53);omega
 .show ar op=0
  unfold ar;rw[if_pos (by omega)]
 .show¬(op=23\/op=24\/op=26);omega
theorem F5{v:Vl}(hp:da v.1 v.2.1 v.2.2):rT (nN v)=some v/\WF aa (nN v):=by
 obtain⟨(k:Int),(e:Int),(n:Int)⟩:=v;dsimp only[ae,Row.den]at hp
 rcases tU hp with⟨h1,rfl,h3,h4⟩|⟨rfl,h7,h8,h9,UZ⟩
 .have e1:nN ((k,0,n):Int×Int×Int)=((k,n):Int×Int):=by unfold nN;dsimp only[ae,Row.den];rw[if_pos h1]
  rw[e1];refine⟨by unfold rT;dsimp only[ae,Row.den];rw[if_pos h1],⟨?_,?_⟩,?_,?_⟩
  .show(-9223372036854775808:Int)<=k;omega
  .show k<=(9223372036854775807:Int);omega
  .show(-9223372036854775808:Int)<=n;omega
  .show n<=(9223372036854775807:Int);omega
 .have e1:nN ((6,e,n):Int×Int×Int)=((6,16*e+n):Int×Int):=by unfold nN;dsimp only[ae,Row.den];rw[if_neg (by decide)]
  rw[e1];refine⟨?_,⟨?_,?_⟩,?_,?_⟩
  .unfold rT;dsimp only[ae,Row.den];rw[if_neg (by decide),if_pos ⟨rfl,by omega,by omega⟩,show(16*e+n)/16=e by omega,show(16*e+n)%16=n by omega]
  .show(-9223372036854775808:Int)<=6;decide
  .show(6:Int)<=9223372036854775807;decide
  .show(-9223372036854775808:Int)<=16*e+n;omega
  .show 16*e+n<=(9223372036854775807:Int);omega
theorem NU{op m:Int}(fM:op=1\/op=2\/op=3\/op=4\/op=5\/op=6)(h6:op=6->0<=m/\m<128){v:Vl}(hv:rT ((op,m):Int×Int)=some v)(hp:da v.1 v.2.1 v.2.2)(env:cE.den):M.bI aE ((op,m):Int×Int) [] env=some (v,0):=by
 have ha:ar op=0:=by unfold ar;rw[if_pos (by omega)]
 have ne:∀k:Int,7<=k->decide (op=k)=false:=fun k hk=>decide_eq_false (by omega)
 have hu:M.fD aE op=some true:=by
  rcases fM with rfl|rfl|rfl|rfl|rfl|rfl<;>(show(_:Option Bool)=_;kernel_rfl)
 have Mr:M.cM aE ((op,m):Int×Int)=some true:=by
  unfold M.cM;simp only[cw,ha,hu,ne 14 (by omega),ne 15 (by omega),ne 16 (by omega),ne 34 (by omega),aji,ajp,if_false]
  by_cases hm:m=0<;>by_cases h:op=6<;>simp[hm,h]
  exact(h6 h).1
 have hex:M.dD aE ((op,m):Int×Int) env=some true:=by
  unfold M.dD;simp only[ne 7 (by omega),ne 8 (by omega),ne 33 (by omega),ne 34 (by omega),ne 36 (by omega),ne 37 (by omega),ne 38 (by omega),ne 39 (by omega),aji,ajp,if_false]
 have qy:M.cZ aE []=some true:=by
  apply Wp.eq;unfold M.cZ;refine Wp.loop (fun s=>s=0) (fun _=>0) rfl (by unfold aE;omega) ?_
  rintro _ rfl
  exact Wp.dec (fun h=>absurd h (by simp)) fun _=> .some rfl
 have Aj:M.bt aE ((op,m):Int×Int) [] env=some true:=by
  unfold M.bt;simp only[ne 7 (by omega),ne 8 (by omega),ne 33 (by omega),ne 34 (by omega),ne 36 (by omega),ne 37 (by omega),ne 38 (by omega),ne 39 (by omega),aji,ajp,if_false];simp
 have hco:M.bB aE ((op,m):Int×Int) [] env=some (v,0):=by
  unfold M.bB;unfold rT at hv;dsimp only[ae,Row.den]at hv⊢;by_cases h:op=6
  .subst h;obtain⟨m1,m2⟩:=h6 rfl;rw[if_neg (by decide),if_pos ⟨rfl,m1,m2⟩]at hv;obtain rfl:=ajk hv
   have w:ajj.wrap (ajE m 16)=m/16:=by rw[aki m1,aM (by omega) (by omega)]
   have w2:ajY m 16=m%16:=Int.tmod_eq_emod_of_nonneg m1;simp[w,w2]
  .rw[if_pos (by omega)]at hv;obtain rfl:=ajk hv
   rcases fM with rfl|rfl|rfl|rfl|rfl|rfl
   .simp
   .simp
   .simp
   .simp
   .simp
   .exact absurd rfl h
 unfold M.bI;simp only[Mr,cw,ha,hex,qy,Aj,hco,aji,cR,decide_eq_true hp];simp
theorem Lt{n:Ty}{v:Vl}(hv:rT n=some v)(hp:da v.1 v.2.1 v.2.2)(env:cE.den):iX env n []=(v,0):=by
 obtain⟨(op:Int),(m:Int)⟩:=n
 have h:(op=1\/op=2\/op=3\/op=4\/op=5\/op=6)/\(op=6->0<=m/\m<128):=by
  have dz:=hv;unfold rT at dz;dsimp only[ae,Row.den]at dz;split at dz
  .omega
  .split at dz
   .omega
   .cases dz
 unfold iX;rw[NU h.1 h.2 hv hp env];rfl
end L.P.Q
end Go.Proofs.YtmihpkfkbfgigaaGreatDoor
end
section
open _root_.Bool renaming false_eq_true->ajp,not_true->akr
open _root_.Go.IntKind renaming i64->ajj
open _root_.List renaming append_assoc->ajH,drop_eq_getElem_cons->ajX,getElem?_append_left->ajQ,getElem?_append_right->aj6,getElem?_eq_getElem->ajl,getElem_append_right->ajA,getElem_mem->ajs,length_map->ajM,length_take->ajB,mem_append->ajL,mem_singleton->ajz,set_append_right->aj4,take_length->ajD
open _root_.Nat renaming le_refl->ajo,min_eq_left->aj3,zero_le->ajI
open _root_.Option renaming bind_some->aji
open _root_.Option.some renaming inj->ajk
namespace Go.Proofs.YtmihpkfkbfgigaaGreatDoor
open Go Go.RowKit
set_option maxRecDepth 100000
namespace L.P.Q
theorem Cr{α:Type}{f:α->α}{body:Int×List α->Option ((Int×List α)⊕List α)}{l0:List α}(hl:l0.length<=1000)
 (hb:∀(j:Nat)(hj:j<l0.length)(l:List α)(Ah:l.length=l0.length),l[j]'(by omega)=l0[j]->Wp (body ((j:Int),l)) fun s=>s= .inl (((j+1:Nat):Int),l.set j (f l0[j])))
 (he:∀l:List α,l.length=l0.length->Wp (body ((l0.length:Int),l)) fun s=>s= .inr l):Wp (Loop body aE ((0:Int),l0)) fun r=>r=l0.map f:=by
 refine Wp.loop (fun s=>∃k:Nat,s=((k:Int),(l0.take k).map f++l0.drop k)/\k<=l0.length) (fun s=>(l0.length-s.1).toNat) ⟨0,by simp,ajI _⟩ (by unfold aE;simp only;omega) ?_
 rintro _ ⟨k,rfl,hk⟩
 have hlen:((l0.take k).map f++l0.drop k).length=l0.length:=by simp;omega
 by_cases h:k<l0.length
 .refine(hb k h _ hlen ?_).mono ?_
  .rw[ajA (by simp;omega)];simp[aj3 hk]
  .rintro _ rfl
   refine⟨⟨k+1,?_,h⟩,by simp only;omega⟩;refine Prod.ext rfl ?_
   show(List.map f (List.take k l0)++List.drop k l0).set k (f l0[k])=_
   rw[aj4 _ _ (by simp;omega),List.take_succ_eq_append_getElem h,List.map_append,ajH]
   congr 1
   rw[ajM,ajB,aj3 hk,Nat.sub_self,ajX h];rfl
 .obtain rfl:k=l0.length:=by omega
  refine(he _ hlen).mono ?_
  rintro _ rfl
  show _=_
  simp
structure Q7(code:List Ty)(i k:Nat)(v:Vl):Prop where
 k1:1<=k
 ki:k<=i
 ex:∃(n:Ty)(vs:List Vl),code[i]? =some n/\¬kW n/\ar n.1=k/\vs.length=k/\(∀j,j<k->∃x y,code[i-k+j]? =some x/\vs[j]? =some y/\rT x=some y)/\iX e0 n vs=(v,0)
 nj:∀m∈code,kW m->¬((i:Int)-k<m.2/\(m.2:Int)<=i)
theorem NV{code:List Ty}{i:Nat}(hi:i<code.length)(hl:code.length<=1000)(hw:∀n∈code,WF aa n):Wp (M.gG aE code (i:Int)) fun r=>r.2.2=true->∃(k:Nat)(v:Vl),r.2.1=(k:Int)/\r.1=nN v/\Q7 code i k v:=by
 have no:∀(c:Int)(m:Ty),((m,c,false):Ty×Int×Bool).2.2=true->∃(k:Nat)(v:Vl),((m,c,false):Ty×Int×Bool).2.1=(k:Int)/\((m,c,false):Ty×Int×Bool).1=nN v/\Q7 code i k v:=fun c m h=>by cases h
 have hn:=hw _ (ajs hi);have hge:=ajl hi;unfold M.gG;rw[ah hi];generalize code[i]=n at hn hge;simp only[aji,mE,cw]
 refine Wp.dec (fun _=> .some (no 0 ((0,0):Int×Int))) fun hj=>?_
 have Ie:=jP n.1
 refine Wp.seq (fun j=>j=false->1<=ar n.1/\ar n.1<=i) ?_ fun jj Q8=>?_
 .refine Wp.dec (fun _=> .some fun h=>by cases h) fun h1=> .some fun h2=>?_
  have h2:=of_decide_eq_false h2;omega
 refine Wp.ite (fun _=> .some (no 0 ((0,0):Int×Int))) fun hc=>?_
 obtain⟨q1,q2⟩:=Q8 (by simpa using hc)
 obtain⟨k,hk⟩:∃k:Nat,ar n.1=k:=⟨(ar n.1).toNat,by omega⟩
 rw[hk]at q1 q2 Ie⊢
 have Fp:1<=k:=by omega
 have Q0:k<=i:=by omega
 have w1:ajj.wrap ((i:Int)-(k:Int))=((i-k:Nat):Int):=by rw[aM (by omega) (by omega)];omega
 rw[w1,lm (i-k) i rfl rfl (by omega) (by omega)];simp only[aji]
 have yf:((code.take i).drop (i-k)).length=k:=by simp;omega
 have VN:∀j(h:j<((code.take i).drop (i-k)).length),code[i-k+j]? =some (((code.take i).drop (i-k))[j]):=by
  intro j h;rw[List.getElem_drop,List.getElem_take];exact ajl _
 obtain⟨l6,VU⟩:∃l6,l6=(code.take i).drop (i-k):=⟨_,rfl⟩
 rw[<-VU];rw[<-VU]at yf
 replace VN:∀j(h:j<l6.length),code[i-k+j]? =some l6[j]:=by subst VU;exact VN
 clear VU;refine Wp.join (Wp.loop (fun s:Int×List Vl=>∃j:Nat,s.1=j/\j<=k/\s.2.length=j/\∀t,t<j->∃x y,code[i-k+t]? =some x/\s.2[t]? =some y/\rT x=some y) (fun s=>(k-s.1).toNat) ⟨0,rfl,ajI _,rfl,fun t h=>by omega⟩ (by unfold aE;simp only;omega) ?_)
 rintro⟨_,vs⟩ ⟨j,rfl,U5,IQ,hv⟩
 dsimp only at IQ hv⊢
 refine Wp.dec (fun h=>?_) fun h=> .some ?_
 .have IR:j<l6.length:=by omega
  rw[ah IR];simp only[aji,uo];cases VV:rT l6[j]with
  |none=>
   simp only[Bool.not_false,if_true];exact .some (no 0 ((0,0):Int×Int))
  |some v=>
   simp only[akr,ajp,if_false];rw[bL (by simp;omega),az (by omega)];simp only[aji];refine .some ⟨⟨j+1,rfl,by omega,by simp[IQ],fun t ht=>?_⟩,by simp only;omega⟩;by_cases htj:t<j
   .obtain⟨x,y,h1,h2,h3⟩:=hv t htj;exact⟨x,y,h1,by rw[ajQ (by omega)];exact h2,h3⟩
   .obtain rfl:t=j:=by omega
    exact⟨_,v,VN t IR,by rw[aj6 (by omega)];simp[IQ],VV⟩
 obtain rfl:j=k:=by omega
 refine Wp.join (Wp.loop (fun s:Int=>∃t:Nat,s=t/\t<=code.length/\∀m∈code.take t,kW m->¬((i:Int)-j<m.2/\(m.2:Int)<=i)) (fun s=>(code.length-s).toNat) ⟨0,rfl,ajI _,by simp⟩ (by unfold aE;omega) ?_)
 rintro _ ⟨t,rfl,ht,Ph⟩
 refine Wp.dec (fun h=>?_) fun h=> .some ?_
 .have EU:t<code.length:=by omega
  rw[ah EU];simp only[aji]
  refine Wp.seq (fun b=>b=false->kW code[t]->¬((i:Int)-j<(code[t].2:Int)/\(code[t].2:Int)<=i)) ?_ fun b hb=>?_
  .refine Wp.dec (fun g1=>Wp.dec (fun g2=> .some fun g3 _=>?_) fun g2=> .some fun _ _ g=>?_) fun g1=> .some fun _ g=>absurd g g1
   .have g3:=of_decide_eq_false g3
    exact fun g=>g3 g.2
   .apply g2;have g4:=g.1;revert g4;generalize(code[t].2:Int)=z;intro g4;dsimp only[ae,Row.den]at*;omega
  refine Wp.ite (fun _=> .some (no 0 ((0,0):Int×Int))) fun uv=> .some ?_
  rw[az (by omega)];refine⟨⟨t+1,rfl,EU,fun m hm Pj=>?_⟩,by simp only;omega⟩;rw[List.take_succ_eq_append_getElem EU]at hm
  rcases ajL.1 hm with hm|hm
  .exact Ph m hm Pj
  .obtain rfl:=ajz.1 hm;exact hb (by simpa using uv) Pj
 rw[List.take_of_length_le (by omega)]at Ph
 show Wp ((M.bI aE n vs e0).bind _) _
 obtain⟨r,hr,hra⟩:=FZ (args:=vs) Cq hn (by omega);obtain⟨r',py,abz⟩:=pb (args:=vs) Cq hn (by omega);rw[hr]at py;obtain rfl:=ajk py;rw[hr];simp only[aji]
 refine Wp.jV (fun _=> .some (no 0 ((0,0):Int×Int))) fun h0=>?_
 rw[xl _ (abz.ok h0)];simp only[aji]
 have Dd:iX e0 n vs=(r.1,0):=by
  unfold iX;rw[hr];exact Prod.ext rfl h0
 exact .some fun _=>⟨j,r.1,rfl,rfl,Fp,Q0,⟨n,vs,hge,hj,hk,IQ,hv,Dd⟩,Ph⟩
def F6(i k:Nat)(n:Ty):Ty:=if kW n/\(i:Int)<n.2 then((n.1,(n.2:Int)-k):Int×Int)else n
def pZ(code:List Ty)(i k:Nat)(m:Ty):List Ty:=((code.take (i-k)++[m])++code.drop (i+1)).map (F6 i k)
theorem NW{code:List Ty}{i k:Nat}{m:Ty}(hi:i<code.length)(hk:k<=i)(hl:code.length<=1000)(hw:∀n∈code,WF aa n)(hm:¬kW m):Wp (M.dQ aE code (i:Int) (k:Int) m) fun r=>r=pZ code i k m:=by
 unfold M.dQ
 have w1:ajj.wrap ((i:Int)-(k:Int))=((i-k:Nat):Int):=by rw[aM (by omega) (by omega)];omega
 rw[w1,fW (by omega),az (by omega),lm (i+1) code.length rfl rfl (by omega) (ajo _),ajD];simp only[aji];rw[bL (by simp;omega)];simp only[aji,List.nil_append];rw[bL (by simp;omega)];simp only[aji];rw[bL (by simp;omega)];simp only[aji]
 have hwl:∀n∈(code.take (i-k)++[m])++code.drop (i+1),n=m\/n∈code:=by
  intro n hn
  rcases ajL.1 hn with hn|hn
  .rcases ajL.1 hn with hn|hn
   .exact .inr (List.mem_of_mem_take hn)
   .exact .inl (ajz.1 hn)
  .exact .inr (List.mem_of_mem_drop hn)
 have Ah:((code.take (i-k)++[m])++code.drop (i+1)).length<=1000:=by simp;omega
 unfold pZ;generalize(code.take (i-k)++[m])++code.drop (i+1)=l5 at hwl Ah⊢
 refine Cr Ah (fun j hj l hlen hlj=>?_) fun l hlen=>?_
 .have Ow:j<l.length:=by omega
  have Ak:=hwl _ (ajs hj);dsimp only;rw[ah Ow,hlj];simp only[aji,mE,aC];generalize hx:l5[j]=x at Ak hlj⊢;refine .some ?_;rw[if_pos (decide_eq_true (by omega)),az (by omega)]
  have WA:kW x->WF aa x:=fun h=>Ak.elim (fun e=>absurd (e▸h) hm) (hw x)
  have e:(if(if decide (50<=(x.1:Int)/\(x.1:Int)<=53)=true then decide ((i:Int)<x.2)else false)=true then aQ l (j:Int) ((x.1,ajj.wrap ((x.2:Int)-(k:Int))):Int×Int)else l)=l.set j (F6 i k x):=by
   unfold F6;by_cases h:kW x/\(i:Int)<x.2
   .have Lu:=(WA h.1).2.2;have g:(50<=(x.1:Int)/\(x.1:Int)<=53):=h.1
    have w2:ajj.wrap ((x.2:Int)-(k:Int))=(x.2:Int)-k:=by
     have h2:=h.2;revert Lu h2;generalize(x.2:Int)=z;intro Lu h2;have:z<=9223372036854775807:=Lu;dsimp only[ae,Row.den]at*;exact aM (by omega) (by omega)
    rw[if_pos h,if_pos (by simp[g,h.2]),w2];simp[aQ]
   .rw[if_neg h,if_neg (fun hc=>h ?_)]
    .rw[<-hlj];simp
    .by_cases g:(50<=(x.1:Int)/\(x.1:Int)<=53)
     .rw[if_pos (decide_eq_true g)]at hc;exact⟨g,by simpa using hc⟩
     .rw[if_neg (by simpa using g)]at hc;cases hc
  rw[e]
 .dsimp only
  exact Wp.dec (fun h=>by omega) fun _=> .some rfl
end L.P.Q
end Go.Proofs.YtmihpkfkbfgigaaGreatDoor
end
section
open _root_.List renaming append_assoc->ajH,getElem?_append_left->ajQ,getElem?_append_right->aj6,getElem?_drop->ajF,getElem?_eq_getElem->ajl,getElem?_eq_some_iff->ajn,getElem?_map->akj,length_append->ajm,length_eq_zero_iff->akn,length_singleton->ajw,length_take->ajB,mem_append->ajL,mem_map->akT,mem_of_getElem?->aka,mem_singleton->ajz
open _root_.Nat renaming eq_of_beq_eq_true->akb,le_refl->ajo,min_eq_left->aj3,zero_le->ajI
open _root_.Option renaming bind_some->aji
open _root_.Option.some renaming inj->ajk
namespace Go.Proofs.YtmihpkfkbfgigaaGreatDoor
open Go Go.RowKit
set_option maxRecDepth 100000
namespace L.P.Q
theorem F7(i k:Nat)(n:Ty):((F6 i k n).1:Int)=n.1:=by
 unfold F6
 split<;>rfl
theorem F8{i k:Nat}{n:Ty}(h:¬kW n):F6 i k n=n:=by
 unfold F6;rw[if_neg (fun g=>h g.1)]
section
variable {code:List Ty} {i k:Nat} {m:Ty}
theorem Ct(hi:i<code.length)(hk:k<=i):(pZ code i k m).length+k=code.length:=by
 simp[pZ];omega
theorem NX{q:Nat}(hi:i<code.length)(h:q<i-k):(pZ code i k m)[q]? =(code[q]?).map (F6 i k):=by
 unfold pZ;rw[akj,ajH,ajQ (by simp;omega),List.getElem?_take_of_lt h]
theorem NY(hi:i<code.length)(hm:¬kW m):(pZ code i k m)[i-k]? =some m:=by
 unfold pZ;rw[akj,ajH,aj6 (by simp;omega),ajB,aj3 (by omega),Nat.sub_self];simp[F8 hm]
theorem NZ{q:Nat}(hi:i<code.length)(hk:k<=i)(h:i-k<q):(pZ code i k m)[q]? =(code[q+k]?).map (F6 i k):=by
 unfold pZ;rw[akj,aj6 (by simp;omega),ajm,ajB,aj3 (by omega),ajw,ajF]
 congr 2
 omega
theorem th(F:List Int)(q:Nat):gd F q=(F[q]?).getD (-1):=rfl
def FR(code:List Ty)(F:List Int)(i k:Nat)(p q:Nat):Prop:=0<=gd F p/\p<=code.length/\((p<=i-k/\q=p)\/(i<p/\q+k=p))
theorem Iq{v:Vl}{F:List Int}(f:Fits code F)(hi:i<code.length)(h:Q7 code i k v)(hw:∀n∈code,WF aa n):oe code (pZ code i k (nN v)):=by
 obtain⟨Fp,Q0,⟨n,vs,hn,hj,ha,IQ,hvs,Dd⟩,Ph⟩:=h;have Ao:=hw n (aka hn)
 have qy:∀u∈vs,da u.1 u.2.1 u.2.2:=by
  obtain⟨r,hr,hh⟩:=FZ (args:=vs) Cq Ao (by have:=jP n.1;omega)
  have e:r=(v,0):=by
   unfold iX at Dd;rw[hr]at Dd;exact Dd
  rw[e]at hh;exact(hh rfl).2
 have VW:da v.1 v.2.1 v.2.2:=by
  have:=(FI (args:=vs) Cq Ao (by have:=jP n.1;omega)).ok (by rw[Dd]);rw[Dd]at this;exact this
 obtain⟨VV,hlw⟩:=F5 VW;obtain⟨l1,l2,l3⟩:=rU VV;have hbl:=Ct (m:=nN v) hi Q0;have hle:=f.le;have RV:=f.len
 have g1:∀q,q<=i-k->gd (F.take (i-k+1)++F.drop (i+1)) q=gd F q:=by
  intro q hq;rw[th,ajQ (by simp;omega),List.getElem?_take_of_lt (by omega)];rfl
 have g2:∀q,i-k<q->gd (F.take (i-k+1)++F.drop (i+1)) q=gd F (q+k):=by
  intro q hq;rw[th,aj6 (by simp;omega),ajB,aj3 (by omega),ajF,th]
  congr 2
  omega
 have dep:∀p q,FR code F i k p q->gd (F.take (i-k+1)++F.drop (i+1)) q=gd F p:=by
  rintro p q ⟨_,_,⟨a1,rfl⟩|⟨a1,a2⟩⟩
  .exact g1 _ a1
  .rw[g2 _ (by omega),a2]
 have keep:∀p q x,FR code F i k p q->p≠i-k->code[p]? =some x->Ms code (pZ code i k (nN v)) (FR code F i k) p q:=by
  rintro p q x ⟨b1,b2,b3⟩ bP hx
  have ao:p<code.length:=(ajn.1 hx).1
  have hb:(pZ code i k (nN v))[q]? =some (F6 i k x):=by
   rcases b3 with⟨a1,rfl⟩|⟨a1,rfl⟩
   .rw[NX hi (by omega),hx];rfl
   .rw[NZ hi Q0 (by omega),hx];rfl
  have next:0<=gd F (p+1)->FR code F i k (p+1) (q+1):=fun h=>⟨h,ao,by omega⟩
  have U6:∀t:Nat,kW x->(x.2:Int)=t->p<t->t<=code.length->0<=gd F t->∃t':Nat,((F6 i k x).2:Int)=t'/\q<t'/\FR code F i k t t':=by
   intro t CW ht B8 ue VX;have hn:=Ph x (aka hx) CW;rw[ht]at hn;have hn:¬((i:Int)-k<(t:Int)/\(t:Int)<=i):=hn;by_cases hc:i<t
   .refine⟨t-k,?_,by omega,VX,ue, .inr ⟨hc,by omega⟩⟩;unfold F6;rw[if_pos ⟨CW,by rw[ht];exact(by omega:(i:Int)<(t:Int))⟩]
    show(x.2:Int)-k=_
    rw[ht];exact(by omega:(t:Int)-k=((t-k:Nat):Int))
   .refine⟨t,?_,by omega,VX,ue, .inl ⟨by omega,rfl⟩⟩;unfold F6;rw[if_neg (fun g=>by have g2:=g.2;rw[ht]at g2;have g2:(i:Int)<(t:Int):=g2;omega)];exact ht
  by_cases CW:kW x
  .obtain⟨s1,_⟩:=f.at hx b1
   rcases s1 with⟨c1,t,c2,c3,c4,c5⟩|⟨c1,c2,c3,t,c4,c5,c6,c7⟩|⟨c1,c2,_⟩
   .obtain⟨t',d1,d2,d3⟩:=U6 t CW c2 c3 c4 (by omega);exact .jump hx hb c1 ((F7 i k x).trans c1) c2 d1 d2 d3
   .obtain⟨t',d1,d2,d3⟩:=U6 t CW c4 c5 c6 (by rw[c7];split<;>omega);exact .cond hx hb c1 (F7 i k x) c4 d1 d2 d3 (next (by omega))
   .exact(ml CW).elim (fun e=>absurd e c1) (fun e=>absurd e c2)
  .rw[F8 CW]at hb;obtain⟨s1,s2,s3,_⟩:=f.op hx CW b1;exact .op hx hb CW (next (by omega))
 have oC:0<=gd F (i-k)->Ms code (pZ code i k (nN v)) (FR code F i k) (i-k) (i-k):=by
  intro h0
  have hd:=qL f h0 k fun j hj=>by
   obtain⟨x,y,x1,_,x2⟩:=hvs j hj;obtain⟨y1,y2,_⟩:=rU x2;exact⟨x,x1,y1,y2⟩
  have e1:i-k+k=i:=by omega
  rw[e1]at hd;obtain⟨s1,s2,s3,_⟩:=f.op hn hj (by omega);refine .block (k:=k) (n:=n) (m:=nN v) (vs:=vs) (v:=v) (fun j IR=>?_) IQ (by rw[e1];exact hn) hj ha (fun env _=>?_) (NY hi l1) l1 l2 l3 (fun env _=>Lt VV VW env) ?_
  .obtain⟨x,y,x1,x2,x3⟩:=hvs j IR;obtain⟨y1,y2,_⟩:=rU x3;exact⟨x,y,x1,x2,y1,y2,fun env _=>Lt x3 (qy y (aka x2)) env⟩
  .rw[Q6 Ao (by omega) (by rw[Dd]) env,Dd]
  .rw[e1];exact⟨by omega,by omega, .inr ⟨by omega,by omega⟩⟩
 have bwd:Bd F:=f.bd
 have s:NR code (pZ code i k (nN v)) F (F.take (i-k+1)++F.drop (i+1)) (FR code F i k):=by
  refine⟨f,by omega,by omega,by simp;omega,fun q=>?_,fun p q h=>⟨h.1,h.2.1,?_,dep p q h⟩,fun p q h=>?_,fun q hq h0=>?_,⟨by rw[f.first];decide,ajI _, .inl ⟨ajI _,rfl⟩⟩,⟨by rw[f.last];decide,ajo _, .inr ⟨hi,by omega⟩⟩⟩
  .by_cases hq:q<=i-k
   .rw[g1 q hq];exact bwd q
   .rw[g2 q (by omega)];exact bwd _
  .obtain⟨_,a2,a3⟩:=h;omega
  .by_cases hp:p=code.length
   .left
    refine⟨hp,?_⟩;obtain⟨_,a2,a3⟩:=h;omega
   .right;left
    have ao:p<code.length:=by have:=h.2.1;omega
    by_cases sM:p=i-k
    .obtain⟨a1,a2,a3⟩:=h
     have hq:q=i-k:=by omega
     subst sM;rw[hq];exact oC a1
    .exact keep p q _ h sM (ajl ao)
  .by_cases hqk:q<=i-k
   .rw[g1 q hqk]at h0
    have hR:FR code F i k q q:=⟨h0,by omega, .inl ⟨hqk,rfl⟩⟩
    by_cases he:q=i-k
    .subst he;exact⟨_,hR,oC h0⟩
    .exact⟨q,hR,keep q q _ hR he (ajl (by omega))⟩
   .rw[g2 q (by omega)]at h0
    have hR:FR code F i k (q+k) q:=⟨h0,by omega, .inr ⟨by omega,rfl⟩⟩
    exact⟨q+k,hR,keep _ q _ hR (by omega) (ajl (by omega))⟩
 refine s.same (by omega) fun x hx=>?_
 obtain⟨y,hy,rfl⟩:=akT.1 hx
 have Dz:WF aa y:=by
  rcases ajL.1 hy with hy|hy
  .rcases ajL.1 hy with hy|hy
   .exact hw y (List.mem_of_mem_take hy)
   .obtain rfl:=ajz.1 hy;exact hlw
  .exact hw y (List.mem_of_mem_drop hy)
 unfold F6;split
 .rename_i hc;refine⟨Dz.1,?_,?_⟩
  .have h2:=hc.2;have h3:=Dz.2.1
   show(-9223372036854775808:Int)<=(y.2:Int)-k
   revert h2 h3;generalize(y.2:Int)=z;intro h2 h3;dsimp only[ae,Row.den]at*;omega
  .have h3:=Dz.2.2
   show(y.2:Int)-k<=(9223372036854775807:Int)
   revert h3;generalize(y.2:Int)=z;intro h3;have h4:z<=(9223372036854775807:Int):=h3;dsimp only[ae,Row.den]at*;omega
 .exact Dz
end
theorem wC{l:List Ty}(hl:l.length<=1000):M.ak aE l=some l:=by
 unfold M.ak
 have e:bZ ([]:List aa.den) l=some l:=by rw[bL (by simp;omega)];rfl
 rw[e];simp only[aji];split
 .rename_i h;have:l=[]:=akn.1 (akb h);subst this;unfold vI;rw[if_pos rfl]
 .rfl
theorem pe(code:List Ty):Wp (M.ed aE code) fun b=>b=true↔∃F,Fits code F:=by
 unfold M.ed;obtain⟨y,hy,h⟩:=tT code;rw[hy];simp only[aji];refine .some ⟨fun hb=>h (by simpa using hb),fun⟨F,f⟩=>?_⟩;obtain⟨y',Dz,h'⟩:=f.verify;rw[hy]at Dz;obtain rfl:=ajk Dz;simpa using h'
def Q9(code:List Ty):Prop:=∀i:Nat,i<code.length->Wp (M.gG aE code (i:Int)) fun r=>r.2.2=false
theorem N0{code:List Ty}(hl:code.length<=1000)(hw:∀n∈code,WF aa n):Wp (M.dy aE code) fun y=>((¬∃F,Fits code F)/\y=code)\/((∃F,Fits code F)/\oe code y/\Q9 y):=by
 unfold M.dy;rw[wC hl];simp only[aji];obtain⟨b,hb,Dl⟩:=pe code;rw[hb];simp only[aji];refine Wp.join (Wp.ite (fun hc=> .some ?_) fun hc=> .some ?_)
 .exact .inl ⟨fun h=>(by rw[Dl.2 h]at hc;cases hc),rfl⟩
 have hF:∃F,Fits code F:=Dl.1 (by simpa using hc)
 have Lv:oe code code:=⟨hF,ajo _,hw,fun _ _ _ h=>h⟩
 refine Wp.loop (fun s:List Ty=>oe code s) (fun s=>s.length) Lv (by unfold aE;omega) ?_;intro s hs;have fZ:s.length<=1000:=Nat.le_trans hs.le hl;refine Wp.join (Wp.loop (fun t:Int×List Ty=>∃i:Nat,t.1=i/\i<=s.length/\t.2=s/\∀j,j<i->Wp (M.gG aE s (j:Int)) fun r=>r.2.2=false) (fun t=>(s.length-t.1).toNat) ⟨0,rfl,ajI _,rfl,fun j h=>by omega⟩ (by unfold aE;simp only;omega) ?_)
 rintro⟨_,s⟩ ⟨i,rfl,hi,rfl,CP⟩
 dsimp only at hi CP fZ hs⊢
 refine Wp.dec (fun h=>?_) fun h=> .some (.some ?_)
 .have gj:i<s.length:=by omega
  obtain⟨r,hr,hr2⟩:=NV gj fZ hs.wf;rw[hr];simp only[aji]
  refine Wp.ite (fun h1=>?_) fun h1=> .some ?_
  .obtain⟨k,v,e1,e2,hf⟩:=hr2 h1
   have VW:¬kW (nN v):=by
    obtain⟨n,vs,hn,_,_,IQ,_,Dd⟩:=hf.ex;have:=(FI (args:=vs) Cq (hs.wf n (aka hn)) (by have:=hf.ki;omega)).ok (by rw[Dd]);rw[Dd]at this;exact(rU (F5 this).1).1
   rw[e1,e2]
   refine Wp.seq _ (NW gj hf.ki fZ hs.wf VW) fun y hy=> .some ?_
   obtain⟨F,f⟩:=hs.fits;rw[hy];refine⟨hs.trans (Iq f gj hf hs.wf),?_⟩;have:=Ct (m:=nN v) gj hf.ki;have:=hf.k1
   show(pZ s i k (nN v)).length<s.length
   omega
  .rw[az (by omega)];refine⟨⟨i+1,rfl,gj,rfl,fun j hj=>?_⟩,by simp only;omega⟩;by_cases e:j=i
   .subst e;exact⟨r,hr,by simpa using h1⟩
   .exact CP j (by omega)
 .obtain rfl:i=s.length:=by omega
  exact .inr ⟨hF,hs,CP⟩
end L.P.Q
end Go.Proofs.YtmihpkfkbfgigaaGreatDoor
end
section
open _root_.Int renaming toNat_natCast->ajr
open _root_.List renaming getElem?_eq_getElem->ajl,getElem?_eq_some_iff->ajn,getElem_mem->ajs,getElem_of_mem->ajG
open _root_.Nat renaming le_refl->ajo,zero_le->ajI
open _root_.Option renaming bind_some->aji
open _root_.Option.some renaming inj->ajk
namespace Go.Proofs.YtmihpkfkbfgigaaGreatDoor
open Go Go.RowKit
set_option maxRecDepth 100000
namespace L.P.Q
inductive IV(code:List Ty):Int->Int->Prop
 |refl (t:Int):IV code t t
 |next {t:Nat} {n:Ty} {T:Int} (h:code[t]? =some n) (oz:(n.1:Int)=51) (ao:(t:Int)<n.2) (hT:IV code n.2 T):IV code t T
theorem IV.snoc{code:List Ty}{s:Int}{t:Nat}{n:Ty}(h:IV code s t)(hn:code[t]? =some n)(oz:(n.1:Int)=51)(ao:(t:Int)<n.2):IV code s n.2:=by
 generalize hx:(t:Int)=x at h
 induction h with
 |refl u=>subst hx;exact .next hn oz ao (.refl _)
 |next g g51 glt gT ih=>exact .next g g51 glt (ih hx)
def VY(x:Int):Prop:= -9223372036854775808<=x/\x<=9223372036854775807
theorem Lx{n:Ty}(h:WF aa n):VY n.2:=h.2
theorem Ir{code:List Ty}(hl:code.length<=1000)(hw:∀n∈code,WF aa n){t0:Int}(h0:VY t0):Wp (Loop (S:=Int) (X:=Int) (fun s9=>
((if(decide ((0:Int)<=s9))=true then
(if(decide (s9<(code.length:Int)))=true then
(idx code s9).bind fun oE=>
(if(decide (oE.1=(51:Int)))=true then
(idx code s9).bind fun rH=>
some (decide (s9<rH.2))
else
some false)
else
some false)
else
some false):Option (Bool)).bind fun qh=>
(if qh=true then
(idx code s9).bind fun oX=>
some (Sum.inl oX.2)
else
some (Sum.inr s9))) aE t0) fun T=>IV code t0 T/\VY T:=by
 refine Wp.loop (fun s=>IV code t0 s/\VY s) (fun s=>(code.length-s).toNat) ⟨.refl _,h0⟩ (by obtain⟨a,b⟩:=h0;unfold aE;omega) ?_
 rintro s ⟨hs,hr⟩
 refine Wp.seq (fun b=>b=true->∃(t:Nat)(n:Ty),s=t/\code[t]? =some n/\(n.1:Int)=51/\(t:Int)<n.2) ?_ fun b hb=>?_
 .refine Wp.dec (fun h1=>Wp.dec (fun h2=>?_) fun _=> .some fun h=>by cases h) fun _=> .some fun h=>by cases h
  obtain⟨t,rfl⟩:∃t:Nat,s=t:=⟨s.toNat,by omega⟩
  have ht:t<code.length:=by omega
  rw[ah ht];simp only[aji]
  refine Wp.dec (fun h3=> .some fun h4=>?_) fun _=> .some fun h=>by cases h
  exact⟨t,_,rfl,ajl ht,h3,of_decide_eq_true h4⟩
 .refine Wp.ite (fun h=>?_) fun _=> .some ⟨hs,hr⟩
  obtain⟨t,n,rfl,h1,h2,h3⟩:=hb h;obtain⟨ht,rfl⟩:=ajn.1 h1;rw[ah ht];simp only[aji];refine .some ⟨⟨hs.snoc h1 h2 h3,Lx (hw _ (ajs ht))⟩,?_⟩;revert h3;generalize(code[t].2:Int)=z;intro h3;have h3:(t:Int)<z:=h3
  show((code.length:Int)-z).toNat<((code.length:Int)-t).toNat
  have:(t:Int)<code.length:=by omega
  omega
def U7(code:List Ty)(n m:Ty):Prop:=(m.1:Int)=n.1/\WF aa m/\(¬kW n->m=n)/\(kW n->IV code n.2 m.2)
theorem Is{code:List Ty}(hl:code.length<=1000)(hw:∀n∈code,WF aa n):Wp (M.dV aE code) fun y=>((¬∃F,Fits code F)/\y=code)\/((∃F,Fits code F)/\y.length=code.length/\∀(i:Nat)n,code[i]? =some n->∃m,y[i]? =some m/\U7 code n m):=by
 unfold M.dV;rw[wC hl];simp only[aji];obtain⟨b,hb,Dl⟩:=pe code;rw[hb];simp only[aji]
 refine Wp.ite (fun hc=> .some (.inl ⟨fun h=>(by rw[Dl.2 h]at hc;cases hc),rfl⟩)) fun hc=>?_
 have hF:∃F,Fits code F:=Dl.1 (by simpa using hc);refine Wp.loop (fun s:Int×List Ty=>∃i:Nat,s.1=i/\i<=code.length/\s.2.length=code.length/\(∀(j:Nat)n,code[j]? =some n->j<i->∃m,s.2[j]? =some m/\U7 code n m)/\∀j:Nat,i<=j->s.2[j]? =code[j]?) (fun s=>(code.length-s.1).toNat) ⟨0,rfl,ajI _,rfl,fun j n _ h=>by omega,fun j _=>rfl⟩ (by unfold aE;simp only;omega) ?_
 rintro⟨_,out⟩ ⟨i,rfl,hi,VZ,Ly,AT⟩
 dsimp only at VZ Ly AT⊢
 refine Wp.dec (fun h=>?_) fun h=> .some (.inr ⟨hF,VZ,fun j n hn=>Ly j n hn ?_⟩)
 case refine_2=>
  have:=(ajn.1 hn).1;omega
 have gj:i<code.length:=by omega
 have V0:i<out.length:=by omega
 have hge:=ajl gj
 have Sv:out[i]=code[i]:=by
  have:=AT i (ajo _);rw[ajl V0,hge]at this;exact ajk this
 have Ao:=hw _ (ajs gj);rw[ah gj];simp only[aji,mE]
 refine Wp.seq (fun o=>o.length=code.length/\(∃m,o[i]? =some m/\U7 code code[i] m)/\∀j:Nat,j≠i->o[j]? =out[j]?) ?_ fun o ho=> .some ?_
 .refine Wp.seq (fun o=>o.length=code.length/\(∃m,o[i]? =some m/\U7 code code[i] m)/\∀j:Nat,j≠i->o[j]? =out[j]?) ?_ fun o ho=> .some ho
  generalize code[i]=n at Ao Sv hge⊢
  refine Wp.jV (fun hj=> .some ⟨VZ,⟨n,by rw[ajl V0,Sv],rfl,Ao,fun _=>rfl,fun h=>absurd h hj⟩,fun j _=>rfl⟩) fun hj=>?_
  refine Wp.seq _ (Ir hl hw (Lx Ao)) fun T hT=>?_
  rw[ah V0,Sv];simp only[aji];refine .some ⟨by simp[aQ,VZ],⟨((n.1,T):Int×Int),by simp[aQ,V0],rfl,⟨Ao.1,hT.2⟩,fun h=>absurd hj h,fun _=>hT.1⟩,fun j hj=>?_⟩;simp only[aQ,ajr];rw[List.getElem?_set_ne (Ne.symm hj)]
 .obtain⟨o1,o2,o3⟩:=ho;rw[az (by omega)];refine⟨⟨i+1,rfl,gj,o1,fun j n hn hj=>?_,fun j hj=>?_⟩,by simp only;omega⟩
  .by_cases e:j=i
   .subst e;rw[hge]at hn;obtain rfl:=ajk hn;exact o2
   .obtain⟨m,m1,m2⟩:=Ly j n hn (by omega);exact⟨m,by rw[o3 j e];exact m1,m2⟩
  .rw[o3 j (by omega)];exact AT j (by omega)
theorem tj{code:List Ty}{F:List Int}(f:Fits code F){x T:Int}(h:IV code x T):∀p:Nat,x=p->0<=gd F p->p<=code.length->∃q:Nat,T=q/\p<=q/\q<=code.length/\gd F q=gd F p:=by
 induction h with
 |refl t=>exact fun p e h0 hp=>⟨p,e,ajo _,hp,rfl⟩
 | @next t n T hn oz ao hT ih=>
   intro p e h0 hp
   obtain rfl:t=p:=by omega
   obtain⟨s,_⟩:=f.at hn h0
   rcases s with⟨_,u,u1,u2,u3,u4⟩|⟨c,_⟩|⟨c,_⟩
   .obtain⟨q,q1,q2,q3,q4⟩:=ih u u1 (by omega) u3;exact⟨q,q1,by omega,q3,by omega⟩
   .exact absurd oz (nh c)
   .exact absurd oz c
theorem Cu{code y:List Ty}{F:List Int}(f:Fits code F)(N1:y.length=code.length)(hy:∀(i:Nat)n,code[i]? =some n->∃m,y[i]? =some m/\U7 code n m):oe code y:=by
 have one:∀p:Nat,p<code.length->0<=gd F p->Ms code y (fun p q=>0<=gd F p/\p<=code.length/\IV code p q) p p:=by
  intro p hp h0;have hge:=ajl hp;generalize code[p]=n at hge;obtain⟨m,hm,e1,hwm,CP,hth⟩:=hy p n hge;by_cases hj:kW n
  .obtain⟨s,_⟩:=f.at hge h0;have ht:=hth hj
   rcases s with⟨c1,t,c2,c3,c4,c5⟩|⟨c1,c2,c3,t,c4,c5,c6,c7⟩|⟨c1,c2,_⟩
   .rw[show(n.2:Int)=t from c2]at ht;obtain⟨q,q1,q2,q3,q4⟩:=tj f ht t rfl (by omega) c4;rw[show(m.2:Int)=q from q1]at ht;exact .jump hge hm c1 (e1.trans c1) c2 q1 (by omega) ⟨by omega,c4,ht⟩
   .have h7:0<=gd F t:=by rw[c7];split<;>omega
    rw[show(n.2:Int)=t from c4]at ht;obtain⟨q,q1,q2,q3,q4⟩:=tj f ht t rfl h7 c6;rw[show(m.2:Int)=q from q1]at ht;exact .cond hge hm c1 e1 c4 q1 (by omega) ⟨h7,c6,ht⟩ ⟨by omega,hp, .refl _⟩
   .exact(ml hj).elim (fun e=>absurd e c1) (fun e=>absurd e c2)
  .rw[CP hj]at hm;obtain⟨s1,s2,s3,_⟩:=f.op hge hj h0;exact .op hge hm hj ⟨by omega,hp, .refl _⟩
 have s:NR code y F F (fun p q=>0<=gd F p/\p<=code.length/\IV code p q):=by
  refine⟨f,by rw[N1];exact f.pos,by rw[N1];exact f.le,by rw[N1];exact f.len,f.bd,fun p q h=>?_,fun p q h=>?_,fun q hq h0=>⟨q,⟨h0,by omega, .refl _⟩,one q (by omega) h0⟩,⟨by rw[f.first];decide,ajI _, .refl _⟩,?_⟩
  .obtain⟨a1,a2,a3⟩:=h;obtain⟨q',b1,b2,b3,b4⟩:=tj f a3 p rfl a1 a2
   obtain rfl:q=q':=by omega
   exact⟨a1,a2,by omega,b4⟩
  .obtain⟨a1,a2,a3⟩:=h;generalize hx:(p:Int)=x at a3;generalize hz:(q:Int)=z at a3
   cases a3 with
   |refl t=>
    obtain rfl:p=q:=by omega
    by_cases hp:p=code.length
    .exact .inl ⟨hp,by omega⟩
    .exact .inr (.inl (one p (by omega) a1))
   | @next t n T hn oz ao hT=>
     obtain rfl:p=t:=by omega
     obtain⟨s,_⟩:=f.at hn a1
     rcases s with⟨_,u,u1,u2,u3,u4⟩|⟨c,_⟩|⟨c,_⟩
     .refine .inr (.inr ⟨n,u,hn,oz,u1,by omega,u3,?_⟩);rw[show(n.2:Int)=u from u1]at hT;exact hT
     .exact absurd oz (nh c)
     .exact absurd oz c
  .rw[N1];exact⟨by rw[f.last];decide,ajo _, .refl _⟩
 refine s.same (by omega) fun m hm=>?_
 obtain⟨i,hi,rfl⟩:=ajG hm
 have gj:i<code.length:=by omega
 obtain⟨m',h1,h2⟩:=hy i _ (ajl gj);rw[ajl hi]at h1;rw[ajk h1];exact h2.2.1
end L.P.Q
end Go.Proofs.YtmihpkfkbfgigaaGreatDoor
end
section
open _root_.Int renaming toNat_natCast->ajr
open _root_.List renaming append_nil->akd,getD->ajN,getElem?_append_left->ajQ,getElem?_append_right->aj6,getElem?_eq_getElem->ajl,getElem?_eq_some_iff->ajn,getElem?_map->akj,getElem_mem->ajs,getElem_of_mem->ajG,length_append->ajm,length_map->ajM,mem_append->ajL,mem_map->akT,mem_of_getElem?->aka,mem_singleton->ajz,replicate->ajq,replicate_succ->ako
open _root_.Nat renaming le_refl->ajo,zero_le->ajI
open _root_.Option renaming bind_some->aji,getD_some->ajW
open _root_.Option.some renaming inj->ajk
namespace Go.Proofs.YtmihpkfkbfgigaaGreatDoor
open Go Go.RowKit
set_option maxRecDepth 100000
namespace L.P.Q
def gb(l:List Bool)(k:Nat):Bool:=l.getD k false
theorem qM{l:List Bool}{t:Nat}(ht:t<l.length)(d:Bool)(k:Nat):gb (l.set t d) k=if k=t then d else gb l k:=by
 unfold gb ajN;by_cases h:k=t
 .subst h;rw[if_pos rfl,List.getElem?_set_self ht];rfl
 .rw[if_neg h,List.getElem?_set_ne (by omega)]
theorem tl{l:List Bool}{t:Nat}(ht:t<l.length):idx l (t:Int)=some (gb l t):=by
 rw[ah ht];simp[gb,ajN,ht]
theorem Ra(n k:Nat):gb (ajq n false) k=false:=by
 unfold gb ajN;by_cases h:k<n
 .simp[h]
 .rw[List.getElem?_eq_none (by simp;omega)];rfl
structure RL(code:List Ty)(F:List Int)(l:List Bool):Prop where
 len:l.length=code.length+1
 zero:gb l 0=true
 sound:∀i,gb l i=true->0<=gd F i
 step:∀(i:Nat)n,code[i]? =some n->gb l i=true->((n.1:Int)≠51->gb l (i+1)=true)/\(kW n->∀t:Nat,(n.2:Int)=t->gb l t=true)
theorem zW{code:List Ty}{F:List Int}(f:Fits code F):Wp (M.eU aE code) fun r=>∃l,RL code F l/\r=l.take code.length:=by
 have hle:=f.le;have nl:=f.pos;unfold M.eU;rw[az (by omega)]
 have uI:mI ((code.length+1:Nat):Int) false=some (ajq (code.length+1) false):=by
  unfold mI;rw[if_pos (by omega),ajr]
 rw[uI];simp only[aji]
 have e1:idx (ajq (code.length+1) false) 0=some false:=by rw[ako];rfl
 rw[e1];simp only[aji];have es:aQ (ajq (code.length+1) false) (0:Int) true=(ajq (code.length+1) false).set 0 true:=rfl;rw[es]
 have g0:∀k,gb ((ajq (code.length+1) false).set 0 true) k=if k=0 then true else false:=fun k=>by
  rw[qM (by simp),Ra]
 refine Wp.seq (RL code F) ?_ fun l hl=>?_
 .refine Wp.loop (fun s:Int×List Bool=>∃i:Nat,s.1=i/\i<=code.length/\s.2.length=code.length+1/\gb s.2 0=true/\(∀j,gb s.2 j=true->0<=gd F j)/\∀(j:Nat)n,j<i->code[j]? =some n->gb s.2 j=true->((n.1:Int)≠51->gb s.2 (j+1)=true)/\(kW n->∀t:Nat,(n.2:Int)=t->gb s.2 t=true)) (fun s=>(code.length-s.1).toNat) ⟨0,rfl,ajI _,by simp,by rw[g0];rfl,fun j hj=>?_,fun j n h=>by omega⟩ (by unfold aE;simp only;omega) ?_
  .simp only[g0]at hj;split at hj
   .rename_i e;subst e;rw[f.first];decide
   .cases hj
  rintro⟨_,l⟩ ⟨i,rfl,hi,Ah,hz,hs,eM⟩
  dsimp only at Ah hz hs eM⊢
  refine Wp.dec (fun h=>?_) fun h=> .some ⟨Ah,hz,hs,fun j n hn=>eM j n ?_ hn⟩
  case refine_2=>
   have:=(ajn.1 hn).1;omega
  have gj:i<code.length:=by omega
  have hge:=ajl gj;rw[ah gj,tl (by omega)];generalize code[i]=n at hge⊢;simp only[aji,mE]
  have mono:∀{a b:List Bool}{t:Nat},t<a.length->0<=gd F t->b=a.set t true->(∀j,gb a j=true->0<=gd F j)->(∀j,gb b j=true->0<=gd F j)/\(∀j,gb a j=true->gb b j=true)/\(∀j,j≠t->gb b j=gb a j)/\gb b t=true:=by
   intro a b t ht h0 e hs;subst e;refine⟨fun j hj=>?_,fun j hj=>?_,fun j hj=>?_,?_⟩
   .rw[qM ht]at hj;split at hj
    .rename_i e;rw[e];exact h0
    .exact hs j hj
   .rw[qM ht];split
    .rfl
    .exact hj
   .rw[qM ht,if_neg hj]
   .rw[qM ht,if_pos rfl]
  refine Wp.seq (fun o=>o.length=code.length+1/\(∀j,gb o j=true->0<=gd F j)/\(∀j,gb l j=true->gb o j=true)/\(∀j,j<=i->gb o j=gb l j)/\(gb l i=true->((n.1:Int)≠51->gb o (i+1)=true)/\(kW n->∀t:Nat,(n.2:Int)=t->gb o t=true))) ?_ fun o ho=> .some ?_
  .by_cases hg:gb l i=true
   .rw[if_neg (by simp[hg])];have h0:=hs i hg;obtain⟨sp,_⟩:=f.at hge h0
    have hnx:(n.1:Int)≠51->0<=gd F (i+1):=by
     intro h
     rcases sp with⟨c,_⟩|⟨_,c2,c3,_⟩|⟨_,_,c3,c4,c5,_⟩
     .exact absurd c h
     .omega
     .omega
    have htg:kW n->∃t:Nat,(n.2:Int)=t/\i<t/\t<=code.length/\0<=gd F t:=by
     intro h
     rcases sp with⟨_,t,c2,c3,c4,c5⟩|⟨_,c2,c3,t,c4,c5,c6,c7⟩|⟨c1,c2,_⟩
     .exact⟨t,c2,c3,c4,by omega⟩
     .exact⟨t,c4,c5,c6,by rw[c7];split<;>omega⟩
     .exact(ml h).elim (fun e=>absurd e c1) (fun e=>absurd e c2)
    refine Wp.seq (fun o=>o.length=code.length+1/\(∀j,gb o j=true->0<=gd F j)/\(∀j,gb l j=true->gb o j=true)/\(∀j,j<=i->gb o j=gb l j)/\((n.1:Int)≠51->gb o (i+1)=true)) ?_ fun o ho=>?_
    .refine Wp.jV (fun oz=>?_) fun oz=> .some ⟨Ah,hs,fun _ h=>h,fun _ _=>rfl,fun h=>absurd oz h⟩
     rw[az (by omega),tl (by omega)];simp only[aji];obtain⟨m1,m2,m3,m4⟩:=mono (a:=l) (t:=i+1) (by omega) (hnx oz) rfl hs;refine .some ⟨by simp[aQ,Ah],m1,m2,fun j hj=>m3 j (by omega),fun _=>m4⟩
    obtain⟨o1,o2,o3,o4,o5⟩:=ho
    refine Wp.dec (fun hj=>?_) fun hj=> .some ⟨o1,o2,o3,o4,fun _=>⟨o5,fun h=>absurd h hj⟩⟩
    obtain⟨t,t1,t2,t3,t4⟩:=htg hj;rw[show(n.2:Int)=t from t1,tl (by omega)];simp only[aji];obtain⟨m1,m2,m3,m4⟩:=mono (a:=o) (t:=t) (by omega) t4 rfl o2;refine .some ⟨by simp[aQ,o1],m1,fun j h=>m2 j (o3 j h),fun j hj=>by rw[<-o4 j hj];exact m3 j (by omega),fun _=>⟨fun h=>m2 _ (o5 h),fun _ u hu=>?_⟩⟩
    have:u=t:=by have h:(t:Int)=u:=hu;omega
    subst this;exact m4
   .rw[if_pos (by simpa using hg)];exact .some ⟨Ah,hs,fun _ h=>h,fun _ _=>rfl,fun h=>absurd h hg⟩
  .obtain⟨o1,o2,o3,o4,o5⟩:=ho;rw[az (by omega)];refine⟨⟨i+1,rfl,gj,o1,o3 0 hz,o2,fun j m hj hm V2=>?_⟩,by simp only;omega⟩;by_cases e:j=i
   .subst e;rw[hge]at hm;obtain rfl:=ajk hm;rw[o4 j (ajo _)]at V2;exact o5 V2
   .rw[o4 j (by omega)]at V2;obtain⟨a1,a2⟩:=eM j m (by omega) hm V2;exact⟨fun h=>o3 _ (a1 h),fun h t ht=>o3 _ (a2 h t ht)⟩
 .rw[fW (by rw[hl.len];omega)];simp only[aji];exact .some ⟨l,hl,rfl⟩
def pf(n:Ty)(i:Nat):Prop:=(n.1:Int)=51/\(n.2:Int)=((i+1:Nat):Int)
instance(n:Ty)(i:Nat):Decidable (pf n i):=by unfold pf;infer_instance
structure KL(code:List Ty)(l K:List Bool):Prop where
 len:K.length=code.length
 ok:∀(i:Nat)n,code[i]? =some n->(gb K i=true↔gb l i=true/\¬pf n i)
def ct(K:List Bool):Nat->Nat
 |0=>0
 |i+1=>ct K i+if gb K i=true then 1 else 0
def kp{α:Type}(g:Nat->α)(K:List Bool):Nat->List α
 |0=>[]
 |i+1=>kp g K i++if gb K i=true then[g i]else[]
theorem la{α:Type}(g:Nat->α)(K:List Bool):∀i,(kp g K i).length=ct K i
 |0=>rfl
 |i+1=>by
  rw[kp,ct,ajm,la g K i]
  split<;>rfl
theorem zX(K:List Bool){i j:Nat}(h:i<=j):ct K i<=ct K j:=by
 induction j with
 |zero=>obtain rfl:i=0:=by omega
        exact ajo _
 |succ j ih=>
  by_cases e:i=j+1
  .rw[e];exact ajo _
  .have:=ih (by omega);rw[ct];omega
theorem yu(K:List Bool):∀i,ct K i<=i
 |0=>ajo _
 |i+1=>by
  have:=yu K i;rw[ct]
  split<;>omega
theorem wD{α:Type}(g:Nat->α)(K:List Bool){i:Nat}(hi:gb K i=true):∀j,i<j->(kp g K j)[ct K i]? =some (g i):=by
 intro j
 induction j with
 |zero=>intro h;omega
 |succ j ih=>
  intro h;rw[kp];by_cases e:i=j
  .subst e;rw[if_pos hi,aj6 (by rw[la];exact ajo _),la,Nat.sub_self];rfl
  .have ao:ct K i<(kp g K j).length:=by
    rw[la];have h1:ct K (i+1)<=ct K j:=zX K (by omega);rw[ct,if_pos hi]at h1;omega
   rw[ajQ ao];exact ih (by omega)
theorem zY(K:List Bool){q:Nat}:∀j,q<ct K j->∃i,i<j/\gb K i=true/\ct K i=q:=by
 intro j
 induction j with
 |zero=>intro h;simp[ct]at h
 |succ j ih=>
  intro h;by_cases hq:q<ct K j
  .obtain⟨i,h1,h2,h3⟩:=ih hq;exact⟨i,by omega,h2,h3⟩
  .rw[ct]at h;by_cases hk:gb K j=true
   .rw[if_pos hk]at h;exact⟨j,by omega,hk,by omega⟩
   .rw[if_neg hk]at h;omega
def rj(K:List Bool)(n:Ty):Ty:=if kW n then((n.1,((ct K (n.2:Int).toNat:Nat):Int)):Int×Int)else n
def rem(code:List Ty)(K:List Bool):List Ty:=(kp (fun i=>code.getD i ((0,0):Int×Int)) K code.length).map (rj K)
theorem Lz(K:List Bool)(n:Ty):((rj K n).1:Int)=n.1:=by
 unfold rj
 split<;>rfl
theorem LA{K:List Bool}{n:Ty}(h:¬kW n):rj K n=n:=by
 unfold rj;rw[if_neg h]
theorem uq{code:List Ty}{K:List Bool}(hl:code.length<=1000)(hK:K.length=code.length)(hj:∀(i:Nat)n,code[i]? =some n->gb K i=true->kW n->∃t:Nat,(n.2:Int)=t/\t<=code.length):Wp (M.dH aE code K) fun r=>r=rem code K:=by
 unfold M.dH;rw[az (by omega)]
 have uI:mI ((code.length+1:Nat):Int) (0:Int)=some (ajq (code.length+1) 0):=by
  unfold mI;rw[if_pos (by omega),ajr]
 rw[uI];simp only[aji]
 refine Wp.seq (fun j=>j.1.length=code.length+1/\(∀t:Nat,t<code.length->j.1[t]? =some (((ct K t:Nat):Int)))/\j.2=kp (fun i=>code.getD i ((0,0):Int×Int)) K code.length) ?_ fun j Q8=>?_
 .refine Wp.loop (fun s:Int×List Int×List Ty=>∃i:Nat,s.1=i/\i<=code.length/\s.2.1.length=code.length+1/\(∀t:Nat,t<i->s.2.1[t]? =some (((ct K t:Nat):Int)))/\s.2.2=kp (fun i=>code.getD i ((0,0):Int×Int)) K i) (fun s=>(code.length-s.1).toNat) ⟨0,rfl,ajI _,by simp,fun t h=>by omega,rfl⟩ (by unfold aE;simp only;omega) ?_
  rintro⟨_,ps,_⟩ ⟨i,rfl,hi,qy,hp,rfl⟩
  dsimp only at qy hp⊢
  refine Wp.dec (fun h=>?_) fun h=> .some ?_
  .have gj:i<code.length:=by omega
   rw[ah gj,ah (show i<ps.length by omega),tl (by omega)];simp only[aji]
   have HJ:code.getD i ((0,0):Int×Int)=code[i]:=by simp only[ajN,gj,ajl,ajW]
   have IW:=la (fun i=>code.getD i ((0,0):Int×Int)) K i;have yf:=yu K i
   refine Wp.seq (fun o=>o=(ps.set i (((ct K i:Nat):Int)),kp (fun i=>code.getD i ((0,0):Int×Int)) K (i+1))) ?_ fun o ho=> .some ?_
   .by_cases hg:gb K i=true
    .rw[if_pos hg,bL (by rw[IW];simp;omega)];simp only[aji];refine .some ?_;rw[kp,if_pos hg,HJ,IW];rfl
    .rw[if_neg hg];refine .some ?_;rw[kp,if_neg hg,akd,IW];rfl
   .subst ho;rw[az (by omega)];refine⟨⟨i+1,rfl,gj,by simp[qy],fun t ht=>?_,rfl⟩,by simp only;omega⟩
    show(ps.set i _)[t]? =_
    by_cases e:t=i
    .subst e;rw[List.getElem?_set_self (by omega)]
    .rw[List.getElem?_set_ne (by omega)];exact hp t (by omega)
  .obtain rfl:i=code.length:=by omega
   exact⟨qy,hp,rfl⟩
 .obtain⟨ps,res⟩:=j;obtain⟨p1,p2,rfl⟩:=Q8;dsimp only at p1 p2⊢;rw[ah (show code.length<ps.length by omega)];simp only[aji];have yf:=yu K code.length;have IW:=la (fun i=>code.getD i ((0,0):Int×Int)) K code.length
  have Ry:∀t:Nat,t<=code.length->idx (aQ ps (code.length:Int) (((kp (fun i=>code.getD i ((0,0):Int×Int)) K code.length).length:Nat):Int)) (t:Int)=some (((ct K t:Nat):Int)):=by
   intro t ht
   have hlen:t<(aQ ps (code.length:Int) (((kp (fun i=>code.getD i ((0,0):Int×Int)) K code.length).length:Nat):Int)).length:=by simp[aQ];omega
   rw[ah hlen]
   have e:(aQ ps (code.length:Int) (((kp (fun i=>code.getD i ((0,0):Int×Int)) K code.length).length:Nat):Int))[t]? =some (((ct K t:Nat):Int)):=by
    unfold aQ;rw[ajr,IW];by_cases e:t=code.length
    .subst e;rw[List.getElem?_set_self (by omega)]
    .rw[List.getElem?_set_ne (by omega)];exact p2 t (by omega)
   rw[ajl hlen]at e;exact e
  unfold rem
  refine Cr (by omega) (fun q hq l Ah V3=>?_) fun l Ah=>?_
  .have hq2:q<l.length:=by omega
   have hqc:q<ct K code.length:=by omega
   obtain⟨i,i1,i2,i3⟩:=zY K _ hqc
   have HJ:code.getD i ((0,0):Int×Int)=code[i]:=by simp only[ajN,i1,ajl,ajW]
   have hx:(kp (fun i=>code.getD i ((0,0):Int×Int)) K code.length)[q]=code[i]:=by
    have:=wD (fun i=>code.getD i ((0,0):Int×Int)) K i2 code.length i1;rw[i3,ajl hq,HJ]at this;exact ajk this
   have hge:=ajl i1;rw[hx]at V3⊢;generalize code[i]=x at V3 hge⊢;dsimp only;rw[ah hq2,V3];simp only[aji,mE]
   refine Wp.dec (fun _=>?_) fun h=>by omega
   refine Wp.seq (fun o=>o=l.set q (rj K x)) ?_ fun o ho=> .some ?_
   .refine Wp.dec (fun CW=>?_) fun CW=> .some ?_
    .obtain⟨t,t1,t2⟩:=hj i x hge i2 CW;rw[show(x.2:Int)=t from t1,Ry t t2];simp only[aji];refine .some ?_;unfold rj;rw[if_pos (show kW x from CW),t1];simp[aQ]
    .rw[LA CW,<-V3];simp
   .rw[ho,az (by omega)]
  .dsimp only
   exact Wp.dec (fun h=>by omega) fun _=> .some rfl
theorem Cv{K:List Bool}(hl:K.length<=1000):Wp (M.cS aE K false) fun b=>(b=true->∃i,i<K.length/\gb K i=false):=by
 unfold M.cS M.gp
 refine Wp.seq (fun r:Int=>0<=r->∃i,i<K.length/\gb K i=false) ?_ fun r hr=> .some fun h=>hr (by simpa using h)
 refine Wp.loop (fun s:Int=>∃i:Nat,s=i/\i<=K.length) (fun s=>(K.length-s).toNat) ⟨0,rfl,ajI _⟩ (by unfold aE;omega) ?_
 rintro _ ⟨i,rfl,hi⟩
 refine Wp.dec (fun h=>?_) fun h=> .some fun h=>absurd h (by decide)
 have gj:i<K.length:=by omega
 rw[tl gj];simp only[aji]
 refine Wp.dec (fun h1=> .some fun _=>⟨i,gj,h1.symm⟩) fun h1=> .some ?_
 rw[az (by omega)];exact⟨⟨i+1,rfl,gj⟩,by simp only;omega⟩
theorem LB{code:List Ty}{F:List Int}{l K:List Bool}(f:Fits code F)(hw:∀n∈code,WF aa n)(r:RL code F l)(k:KL code l K):oe code (rem code K)/\(rem code K).length=ct K code.length:=by
 have hlen:(rem code K).length=ct K code.length:=by unfold rem;rw[ajM,la]
 have yf:=yu K code.length;have hle:=f.le;refine⟨?_,hlen⟩
 have gF:∀i,gb K i=true->i<code.length->gd (kp (fun i=>gd F i) K code.length++[1]) (ct K i)=gd F i:=by
  intro i hi ao;have:=wD (fun i=>gd F i) K hi code.length ao;have hl2:ct K i<(kp (fun i=>gd F i) K code.length).length:=(ajn.1 this).1;rw[th,ajQ hl2,this];rfl
 have gL:gd (kp (fun i=>gd F i) K code.length++[1]) (ct K code.length)=1:=by
  rw[th,aj6 (by rw[la];exact ajo _),la,Nat.sub_self];rfl
 have skip:∀(p:Nat)n,code[p]? =some n->gb l p=true->¬gb K p=true->pf n p/\gb l (p+1)=true/\gd F (p+1)=gd F p/\ct K (p+1)=ct K p:=by
  intro p n hn hg hk
  have hx:pf n p:=by
   by_cases h:pf n p
   .exact h
   .exact absurd ((k.ok p n hn).2 ⟨hg,h⟩) hk
  refine⟨hx,(r.step p n hn hg).2 (qm hx.1) (p+1) hx.2,?_,by rw[ct,if_neg hk];rfl⟩;obtain⟨s,_⟩:=f.at hn (r.sound p hg)
  rcases s with⟨_,u,u1,u2,u3,u4⟩|⟨c,_⟩|⟨c,_⟩
  .have:u=p+1:=nat_eq u1 hx.2;rw[<-this];exact u4
  .exact absurd hx.1 (nh c)
  .exact absurd hx.1 c
 have dep:∀(m p:Nat),code.length-p<=m->p<=code.length->gb l p=true->gd (kp (fun i=>gd F i) K code.length++[1]) (ct K p)=gd F p:=by
  intro m
  induction m with
  |zero=>
   intro p hm hp hg
   obtain rfl:p=code.length:=by omega
   rw[gL,f.last]
  |succ m ih=>
   intro p hm hp hg;by_cases ao:p<code.length
   .by_cases hk:gb K p=true
    .exact gF p hk ao
    .obtain⟨_,h1,h2,h3⟩:=skip p _ (ajl ao) hg hk;rw[<-h3,<-h2];exact ih (p+1) (by omega) ao h1
   .obtain rfl:p=code.length:=by omega
    rw[gL,f.last]
 have abB:∀(m p:Nat),code.length-p<=m->p<=code.length->gb l p=true->gb l code.length=true:=by
  intro m
  induction m with
  |zero=>
   intro p hm hp hg
   obtain rfl:p=code.length:=by omega
   exact hg
  |succ m ih=>
   intro p hm hp hg;by_cases ao:p<code.length
   .have hge:=ajl ao;obtain⟨s1,s2⟩:=r.step p _ hge hg;by_cases oz:(code[p].1:Int)=51
    .obtain⟨s,_⟩:=f.at hge (r.sound p hg)
     rcases s with⟨_,u,u1,u2,u3,u4⟩|⟨c,_⟩|⟨c,_⟩
     .exact ih u (by omega) u3 (s2 (qm oz) u u1)
     .exact absurd oz (nh c)
     .exact absurd oz c
    .exact ih (p+1) (by omega) ao (s1 oz)
   .obtain rfl:p=code.length:=by omega
    exact hg
 have abC:=abB code.length 0 (by omega) (ajI _) r.zero
 have one:∀p:Nat,p<code.length->gb K p=true->Ms code (rem code K) (fun p q=>gb l p=true/\p<=code.length/\q=ct K p) p (ct K p):=by
  intro p hp hk;have hge:=ajl hp
  have hb:(rem code K)[ct K p]? =some (rj K code[p]):=by
   unfold rem;rw[akj,wD _ K hk code.length hp];simp only[ajN,hge,ajW,Option.map_some]
  have RM:ct K (p+1)=ct K p+1:=by rw[ct,if_pos hk]
  generalize code[p]=n at hge hb;have hg:=((k.ok p n hge).1 hk).1;obtain⟨s1,s2⟩:=r.step p n hge hg
  have U6:∀t:Nat,kW n->(n.2:Int)=t->p<t->t<=code.length->((rj K n).2:Int)=((ct K t:Nat):Int)/\ct K p<ct K t/\gb l t=true:=by
   intro t hj ht B8 ue;refine⟨?_,?_,s2 hj t ht⟩
   .unfold rj;rw[if_pos hj]
    show((ct K (n.2:Int).toNat:Nat):Int)=_
    rw[ht];rfl
   .have:=zX K (show p+1<=t by omega);omega
  by_cases hj:kW n
  .obtain⟨s,_⟩:=f.at hge (r.sound p hg)
   rcases s with⟨c1,t,c2,c3,c4,c5⟩|⟨c1,c2,c3,t,c4,c5,c6,c7⟩|⟨c1,c2,_⟩
   .obtain⟨t1,t2,t3⟩:=U6 t hj c2 c3 c4;exact .jump hge hb c1 ((Lz K n).trans c1) c2 t1 t2 ⟨t3,c4,rfl⟩
   .obtain⟨t1,t2,t3⟩:=U6 t hj c4 c5 c6;exact .cond hge hb c1 (Lz K n) c4 t1 t2 ⟨t3,c6,rfl⟩ ⟨s1 (nh c1),hp,RM.symm⟩
   .exact(ml hj).elim (fun e=>absurd e c1) (fun e=>absurd e c2)
  .rw[LA hj]at hb;exact .op hge hb hj ⟨s1 (fun h=>hj (qm h)),hp,RM.symm⟩
 have d0:=dep code.length 0 (by omega) (ajI _) r.zero;rw[f.first]at d0
 have nl:0<ct K code.length:=by
  rcases Nat.eq_zero_or_pos (ct K code.length)with h|h
  .rw[h]at gL;have e:ct K 0=0:=rfl;rw[e,gL]at d0;cases d0
  .exact h
 have s:NR code (rem code K) F (kp (fun i=>gd F i) K code.length++[1]) (fun p q=>gb l p=true/\p<=code.length/\q=ct K p):=by
  refine⟨f,by omega,by omega,by rw[ajm,la,hlen];rfl,fun q=>?_,fun p q h=>?_,fun p q h=>?_,fun q hq h0=>?_,⟨r.zero,ajI _,rfl⟩,⟨abC,ajo _,hlen⟩⟩
  .rw[th]
   cases hx:(kp (fun i=>gd F i) K code.length++[1])[q]? with
   |none=>decide
   |some z=>
    show-1<=z/\z<=12
    have hm:=aka hx
    rcases ajL.1 hm with hm|hm
    .obtain⟨q',mM,rfl⟩:=ajG hm;rw[la]at mM;obtain⟨i,i1,i2,i3⟩:=zY K _ mM;have:=wD (fun i=>gd F i) K i2 code.length i1;rw[i3,ajl (by rw[la];exact mM)]at this;rw[ajk this];exact f.bd i
    .rw[ajz.1 hm];decide
  .obtain⟨a1,a2,rfl⟩:=h;exact⟨r.sound p a1,a2,by rw[hlen];exact zX K a2,dep code.length p (by omega) a2 a1⟩
  .obtain⟨a1,a2,rfl⟩:=h;by_cases hp:p=code.length
   .exact .inl ⟨hp,by rw[hlen,hp]⟩
   .have ao:p<code.length:=by omega
    by_cases hk:gb K p=true
    .exact .inr (.inl (one p ao hk))
    .have hge:=ajl ao;obtain⟨h1,h2,_,h3⟩:=skip p _ hge a1 hk;exact .inr (.inr ⟨_,p+1,hge,h1.1,h1.2,h2,ao,h3.symm⟩)
  .rw[hlen]at hq;obtain⟨i,i1,i2,i3⟩:=zY K _ hq;subst i3;exact⟨i,⟨((k.ok i _ (ajl i1)).1 i2).1,by omega,rfl⟩,one i i1 i2⟩
 refine s.same (by omega) fun m hm=>?_
 unfold rem at hm;obtain⟨y,hy,rfl⟩:=akT.1 hm;obtain⟨q,hq,rfl⟩:=ajG hy;have mM:=hq;rw[la]at mM;obtain⟨i,i1,i2,i3⟩:=zY K _ mM;have:=wD (fun i=>code.getD i ((0,0):Int×Int)) K i2 code.length i1;rw[i3,ajl hq]at this;have e:=ajk this
 have HJ:code.getD i ((0,0):Int×Int)=code[i]:=by simp only[ajN,i1,ajl,ajW]
 rw[e,HJ];have hwi:=hw _ (ajs i1);unfold rj;split
 .rename_i hj;refine⟨hwi.1,?_,?_⟩
  .show(-9223372036854775808:Int)<=((ct K _:Nat):Int);omega
  .show((ct K (code[i].2:Int).toNat:Nat):Int)<=(9223372036854775807:Int)
   by_cases Pd:∃t:Nat,(code[i].2:Int)=t/\t<=code.length
   .obtain⟨t,t1,t2⟩:=Pd;rw[t1,ajr];have:=yu K t;omega
   .exfalso;apply Pd;have hge:=ajl i1;obtain⟨s,_⟩:=f.at hge (r.sound i ((k.ok i _ hge).1 i2).1)
    rcases s with⟨c1,t,c2,c3,c4,c5⟩|⟨c1,c2,c3,t,c4,c5,c6,c7⟩|⟨c1,c2,_⟩
    .exact⟨t,c2,c4⟩
    .exact⟨t,c4,c6⟩
    .exact(ml hj).elim (fun e=>absurd e c1) (fun e=>absurd e c2)
 .exact hwi
end L.P.Q
end Go.Proofs.YtmihpkfkbfgigaaGreatDoor
end
section
open _root_.Go.IntKind renaming i64->ajj
open _root_.List renaming getD->ajN,getElem?_eq_getElem->ajl,getElem?_eq_some_iff->ajn
open _root_.Nat renaming le_refl->ajo,zero_le->ajI
open _root_.Option renaming bind_some->aji
open _root_.Option.some renaming inj->ajk
namespace Go.Proofs.YtmihpkfkbfgigaaGreatDoor
open Go Go.RowKit
set_option maxRecDepth 100000
namespace L.P.Q
noncomputable def F9(s4:List aa.den):Option (List aa.den⊕List aa.den):=
(M.eU aE s4).bind fun y5=>
(Loop (S:=Int×List Bool) (X:=List Bool) (fun s7=>
(if(decide (s7.1<(s4.length:Int)))=true then
((idx s4 s7.1).bind fun x9=>
((if(decide (x9.1=(51:Int)))=true then
some (decide (x9.2=(ajj.wrap (s7.1+(1:Int)))))
else
some false):Option (Bool)).bind fun qh=>
(if qh=true then
(idx s7.2 s7.1).bind fun oE=>
some (aQ s7.2 s7.1 false)
else
some s7.2):Option (List Bool)).bind fun j8=>
some (Sum.inl (ajj.wrap (s7.1+(1:Int)),j8))
else
some (Sum.inr s7.2))) aE ((0:Int),y5):Option (List Bool)).bind fun j6=>
(M.cS aE j6 false).bind fun qj=>
(if qj=true then
(M.dH aE s4 j6).bind fun BP=>
some (Sum.inl BP)
else
some (Sum.inr s4))
theorem Pk{K:List Bool}:∀{j:Nat},(∃i,i<j/\gb K i=false)->ct K j<j
 |0,⟨i,h,_⟩=>by omega
 |j+1,⟨i,h,hk⟩=>by
  rw[ct];by_cases e:i=j
  .subst e;rw[if_neg (by simp[hk])];have:=yu K i;omega
  .have:=Pk (K:=K) (j:=j) ⟨i,by omega,hk⟩
   split<;>omega
theorem LC{code:List Ty}{F:List Int}(f:Fits code F)(hw:∀n∈code,WF aa n):Wp (F9 code) fun r=>(∃y,r= .inl y/\oe code y/\y.length<code.length)\/r= .inr code:=by
 have hle:=f.le;unfold F9
 refine Wp.seq _ (zW f) fun y hy=>?_
 obtain⟨l,r,rfl⟩:=hy;have hrl:=r.len
 refine Wp.seq (KL code l) ?_ fun K k=>?_
 .refine Wp.loop (fun s:Int×List Bool=>∃i:Nat,s.1=i/\i<=code.length/\s.2.length=code.length/\(∀(j:Nat)n,j<i->code[j]? =some n->(gb s.2 j=true↔gb l j=true/\¬pf n j))/\∀j,i<=j->j<code.length->gb s.2 j=gb l j) (fun s=>(code.length-s.1).toNat) ⟨0,rfl,ajI _,by simp;omega,fun j n h=>by omega,fun j _ hj=>?_⟩ (by unfold aE;simp only;omega) ?_
  .show gb (l.take code.length) j=gb l j
   unfold gb;rw[ajN,ajN,List.getElem?_take_of_lt hj]
  rintro⟨_,K⟩ ⟨i,rfl,hi,V4,hd,hr⟩
  dsimp only at V4 hd hr⊢
  refine Wp.dec (fun h=>?_) fun h=> .some ⟨V4,fun j n hn=>hd j n ?_ hn⟩
  case refine_2=>
   have:=(ajn.1 hn).1;omega
  have gj:i<code.length:=by omega
  have hge:=ajl gj;rw[ah gj];generalize code[i]=n at hge⊢;simp only[aji]
  refine Wp.seq (fun o=>o.length=code.length/\(gb o i=true↔gb l i=true/\¬pf n i)/\∀j,j≠i->gb o j=gb K j) ?_ fun o ho=> .some ?_
  .refine Wp.seq (fun b=>b=decide (pf n i)) ?_ fun b hb=>?_
   .rw[az (by omega)]
    refine Wp.dec (fun h1=> .some ?_) fun h1=> .some ?_
    .unfold pf
     by_cases h2:(n.2:Int)=((i+1:Nat):Int)
     .simp[h1,h2]
     .simp[h1,h2]
    .unfold pf;simp[h1]
   .subst hb
    refine Wp.dec (fun h1=>?_) fun h1=> .some ⟨V4,?_,fun _ _=>rfl⟩
    .rw[tl (by omega)];simp only[aji];refine .some ⟨by simp[aQ,V4],?_,fun j hj=>?_⟩
     .show gb (K.set i false) i=true↔_
      rw[qM (by omega),if_pos rfl];simp[h1]
     .show gb (K.set i false) j=gb K j
      rw[qM (by omega),if_neg hj]
    .rw[hr i (ajo _) gj];simp[h1]
  .obtain⟨o1,o2,o3⟩:=ho;rw[az (by omega)];refine⟨⟨i+1,rfl,gj,o1,fun j m hj hm=>?_,fun j hj Ow=>?_⟩,by simp only;omega⟩
   .by_cases e:j=i
    .subst e;rw[hge]at hm;obtain rfl:=ajk hm;exact o2
    .show gb o j=true↔_
     rw[o3 j e];exact hd j m (by omega) hm
   .show gb o j=gb l j
    rw[o3 j (by omega)];exact hr j (by omega) Ow
 .refine Wp.seq _ (Cv (by rw[k.len];omega)) fun b hb=>?_
  refine Wp.ite (fun h=>?_) fun _=> .some (.inr rfl)
  have hx:=hb h;rw[k.len]at hx
  refine Wp.seq _ (uq (by omega) k.len fun i n hn hk hj=>?_) fun z hz=> .some (.inl ⟨z,rfl,?_⟩)
  .obtain⟨s,_⟩:=f.at hn (r.sound i ((k.ok i n hn).1 hk).1)
   rcases s with⟨c1,t,c2,c3,c4,c5⟩|⟨c1,c2,c3,t,c4,c5,c6,c7⟩|⟨c1,c2,_⟩
   .exact⟨t,c2,c4⟩
   .exact⟨t,c4,c6⟩
   .exact(ml hj).elim (fun e=>absurd e c1) (fun e=>absurd e c2)
  .obtain⟨a1,a2⟩:=LB f hw r k;rw[hz];refine⟨a1,?_⟩;rw[a2];exact Pk hx
theorem It{code:List Ty}(hl:code.length<=1000)(hw:∀n∈code,WF aa n):Wp (M.cJ aE code) fun y=>((¬∃F,Fits code F)/\y=code)\/((∃F,Fits code F)/\oe code y/\F9 y=some (.inr y)):=by
 unfold M.cJ;rw[wC hl];simp only[aji];obtain⟨b,hb,Dl⟩:=pe code;rw[hb];simp only[aji];refine Wp.join (Wp.ite (fun hc=> .some ?_) fun hc=> .some ?_)
 .exact .inl ⟨fun h=>(by rw[Dl.2 h]at hc;cases hc),rfl⟩
 have hF:∃F,Fits code F:=Dl.1 (by simpa using hc)
 have Lv:oe code code:=⟨hF,ajo _,hw,fun _ _ _ h=>h⟩
 show Wp (Loop F9 aE code) _
 refine Wp.loop (fun s:List Ty=>oe code s) (fun s=>s.length) Lv (by unfold aE;omega) ?_;intro s hs;obtain⟨F,f⟩:=hs.fits;obtain⟨r,hr,h⟩:=LC f hs.wf;refine⟨r,hr,?_⟩
 rcases h with⟨y,rfl,h1,h2⟩|rfl
 .exact⟨hs.trans h1,h2⟩
 .exact .inr ⟨hF,hs,hr⟩
end L.P.Q
end Go.Proofs.YtmihpkfkbfgigaaGreatDoor
end
section
open _root_.Go.IntKind renaming i64->ajj
open _root_.List renaming getD->ajN,getElem?_append_left->ajQ,getElem_mem->ajs,length_map->ajM,mem_map->akT
open _root_.Nat renaming zero_add->ajO
open _root_.Option renaming bind_some->aji
open _root_.Option.some renaming inj->ajk
namespace Go.Proofs.YtmihpkfkbfgigaaGreatDoor
open Go Go.RowKit
set_option maxRecDepth 100000
set_option linter.unusedSimpArgs false
namespace L.P.V
theorem abD{code:List Ty}{env:cE.den}{p:Nat}{S:List Vl}{r:Vl×Int}(h:P.cq code env p S r):P.Q.cq code env p S r:=by
 induction h with
 |done=>exact .done
 |jump h oz ht B8 ue _ ih=>exact .jump h oz ht B8 ue ih
 |op h bP ha hs h0 _ ih=>exact .op h bP ha hs h0 ih
 |fail h bP ha hs h0=>exact .fail h bP ha hs h0
 |cond h fM ht B8 ue hk hv _ ih=>exact .cond h fM ht B8 ue hk hv ih
structure Code(e:List Ty)(s:Sg)(y:List Ty):Prop where
 pos:0<y.length
 le:y.length<=128
 wf:∀n∈y,WF aa n
 verify:Wp (M.bH aE y) fun v=>v.2=0
 run:∀env,iC env->U4 s env->∃n v,M.n8 aE y env=some (v.1,n,v.2)/\M.sX aE e env=some v
theorem Cw{code:List Ty}(hl:code.length<=1000)(hw:∀n∈code,WF aa n)(hF:∃F,P.Q.Fits code F):Wp (M.gP aE code) (P.Q.oe code):=by
 have thr:∀{a:List Ty},a.length<=1000->(∀n∈a,WF aa n)->(∃F,P.Q.Fits a F)->Wp (M.dV aE a) fun y=>P.Q.oe a y:=fun{a}hl hw hF=>(P.Q.Is hl hw).mono fun y hy=>by
  rcases hy with⟨h,_⟩|⟨⟨F,f⟩,e1,e2⟩
  .exact absurd hF h
  .exact P.Q.Cu f e1 e2
 have fol:∀{a:List Ty},a.length<=1000->(∀n∈a,WF aa n)->(∃F,P.Q.Fits a F)->Wp (M.dy aE a) fun y=>P.Q.oe a y:=fun{a}hl hw hF=>(P.Q.N0 hl hw).mono fun y hy=>by
  rcases hy with⟨h,_⟩|⟨_,h,_⟩
  .exact absurd hF h
  .exact h
 have rmv:∀{a:List Ty},a.length<=1000->(∀n∈a,WF aa n)->(∃F,P.Q.Fits a F)->Wp (M.cJ aE a) fun y=>P.Q.oe a y:=fun{a}hl hw hF=>(P.Q.It hl hw).mono fun y hy=>by
  rcases hy with⟨h,_⟩|⟨_,h,_⟩
  .exact absurd hF h
  .exact h
 unfold M.gP
 refine Wp.seq _ (fol hl hw hF) fun z1 t1=>?_
 refine Wp.seq _ (thr (Nat.le_trans t1.le hl) t1.wf t1.fits) fun z2 t2=>?_
 have t12:=t1.trans t2
 exact Wp.seq _ (rmv (Nat.le_trans t12.le hl) t12.wf t12.fits) fun z3 t3=> .some (t12.trans t3)
theorem Ga{e:List Ty}{s:Sg}(Mr:∀n∈e,WF aa n){r:Ty×Int×Int}(hT:M.gh aE e s=some r)(h0:r.2.2=0):Wp (M.bD aE e) (Code e s):=by
 obtain⟨r',er,hr⟩:=Ip (s:=s) Mr;rw[hT]at er;obtain rfl:=ajk er;obtain⟨st,w,ty,IP,Lo⟩:=hr h0;have nl:0<e.length:=List.length_pos_iff.2 w.ne;have hle:=w.le;have f:=Ld w
 have U8:M.iL aE e=some (0,ins (iD e st)):=by
  have eM:M.gi aE e=some ((pY e).2.1,(pY e).2.2):=by
   unfold M.gi;rw[ma];rfl
  unfold M.iL;rw[eM,w.res];simp only[aji];rw[if_neg (by simp),show ajj.wrap ((e.length:Int)-1)=((e.length-1:Nat):Int) by rw[aM (by omega) (by omega)];omega];unfold M.iu;rw[wy w e.length (e.length-1) aE (by omega) (by omega) (by unfold aE;omega) [] 0 (by simp;omega)];rfl
 have hA:At (ins (iD e st)) (wz e st) 0 (iD e st):=fun k hk=>by
  rw[ajO];refine⟨by simp[ins,hk],?_⟩;unfold gd ajN wz;rw[ajQ (by simpa using hk)];simp[hk]
 have U9:∀env,iC env->U4 s env->P.cq (ins (iD e st)) env 0 [] ((eH (iX env) e st e.length (e.length-1)).1,(eH (iX env) e st e.length (e.length-1)).2):=fun env he ag=>by
  have abE:=FV (code:=ins (iD e st)) (F:=wz e st) w he ag Lo e.length (e.length-1) 0 0 (by omega) (by omega) hA (by rw[ajO];exact Nat.le_of_eq (ajM ..).symm);obtain⟨c1,c2⟩:=abE [];rw[ajO]at c1;by_cases hz:(eH (iX env) e st e.length (e.length-1)).2=0
  .refine c1 hz _ ?_;rw[hz,show(cg e st e.length (e.length-1) 0 0).length=(ins (iD e st)).length from(ajM ..).symm];exact P.cq.done
  .rw[FW w he Mr e.length (e.length-1) (by omega) (by omega) hz];exact c2 hz
 have hwc:∀n∈ins (iD e st),WF aa n:=fun n hn=>by
  obtain⟨j,hj,rfl⟩:=List.mem_iff_getElem.1 hn;obtain⟨kR,_⟩:=f.step j hj;have ahK:=f.le;obtain⟨x,hx,hxn⟩:=akT.1 (ajs hj)
  rcases Lr w e.length (e.length-1) 0 0 (by omega) x hx with h|h
  .rw[hxn]at h;generalize(ins (iD e st))[j]=n at*;obtain⟨(op:Int),(m:Int)⟩:=n;dsimp only[ae,Row.den]at*
   have hm:0<=m/\m<=128:=by
    rcases kR with⟨h1,t,h2,h3,h4,h5⟩|⟨h1,h2,h3,t,h4,h5,h6,h7⟩|⟨h1,h2,h3,h4,h5,h6⟩
    .dsimp only[ae,Row.den]at*;omega
    .dsimp only[ae,Row.den]at*;omega
    .dsimp only[ae,Row.den]at*;omega
   refine⟨⟨?_,?_⟩,⟨?_,?_⟩⟩
   .show(-9223372036854775808:Int)<=op;omega
   .show op<=(9223372036854775807:Int);omega
   .show(-9223372036854775808:Int)<=m;omega
   .show m<=(9223372036854775807:Int);omega
  .rw[hxn]at h;exact Mr _ h
 have abF:∃F,P.Q.Fits (ins (iD e st)) F:=by
  obtain⟨v,ev,hv⟩:=P.Q.tT (ins (iD e st));obtain⟨v',ev',dz⟩:=Ij f;rw[ev]at ev';obtain rfl:=ajk ev';exact hv dz
 unfold M.bD;rw[if_neg (by rw[decide_eq_true_eq];omega),U8,aji];dsimp only
 refine Wp.seq _ (Cw (by have:=f.le;omega) hwc abF) fun y hy=> .some ?_
 obtain⟨F',f'⟩:=hy.fits;refine⟨f'.pos,f'.le,hy.wf,f'.verify,fun env he ag=>?_⟩;obtain⟨x,hx,x1,x2⟩:=P.Q.B9 he hy.wf f'.le f'.verify (hy.runs env he _ (abD (U9 env he ag)));obtain⟨v,n,c⟩:=x;dsimp only at x1 x2;refine⟨n,_,?_,Eh w he Mr⟩;rw[hx,x1,x2]
end L.P.V
end Go.Proofs.YtmihpkfkbfgigaaGreatDoor
end
section
namespace Go.Proofs.YtmihpkfkbfgigaaGreatDoor
open Go Go.RowKit
set_option maxRecDepth 100000
set_option linter.unusedSimpArgs false
namespace L
abbrev Ty:Type:=aa.den
abbrev dq(l:List Nat):List Int:=l.map (fun n:Nat=>(n:Int))
def ar(op:Int):Int:=
 if(1<=op/\op<=9)\/(35<=op/\op<=39)then 0 else if op=10\/op=25\/(31<=op/\op<=34)then 1 else if(11<=op/\op<=24)\/(27<=op/\op<=30)then 2 else if op=26 then 3 else-1
theorem jP(op:Int):ar op<=3:=by unfold ar;omega
def mi(a:Int)(i:Nat)(sk:List Nat):Nat:=if a=0 then i else sk.getD (sk.length-a.toNat) 0
def jC:List Ty->Nat->List Nat->List Nat->(Nat×Int)⊕(List Nat×List Nat)
 |[],_,st,sk=> .inr (st,sk)
 |n::e,i,st,sk=>
  if ar n.1<0 then .inl (i,2)else if(sk.length:Int)<ar n.1 then .inl (i,5)else
  if 12<sk.length-(ar n.1).toNat+1 then .inl (i,16)else jC e (i+1) (st++[mi (ar n.1) i sk]) (sk.take (sk.length-(ar n.1).toNat)++[mi (ar n.1) i sk])
def pY(e:List Ty):Int×Int×List Int:=
 if 48<e.length then(0,4,[])else if e.length=0 then(0,5,[])else match jC e 0 [] []with
  | .inl (i,c)=>(i,c,[])
  | .inr (st,sk)=>if 1<sk.length then(e.length,4,[])else(0,0,dq st)
def jo(t:Ty)(n:Nat):Prop:=(1<=(t.1:Int)/\(t.1:Int)<=5/\(t.2:Int)=0)\/((t.1:Int)=6/\0<=(t.2:Int)/\(t.2:Int)<n)
instance(t:Ty)(n:Nat):Decidable (jo t n):=by unfold jo;infer_instance
def VR(r:Ty):Prop:=0<=(r.1:Int)/\(r.1:Int)<=r.2/\(r.2:Int)<=109573
instance(r:Ty):Decidable (VR r):=by unfold VR;infer_instance
theorem zQ(a b:Ty):oD aa a b=decide (a=b):=by
 unfold oD;exact decide_eq_decide.2 Iff.rfl
end L
end Go.Proofs.YtmihpkfkbfgigaaGreatDoor
end
section
open _root_.Classical renaming propDecidable->akz
open _root_.Go.IntKind renaming i64->ajj
open _root_.List renaming getElem?_eq_getElem->ajl,getElem_mem->ajs,getElem_of_mem->ajG,length_take->ajB
open _root_.Nat renaming lt_succ_iff_lt_or_eq->akg
namespace Go.Proofs.YtmihpkfkbfgigaaGreatDoor
open Go Go.RowKit
set_option maxRecDepth 100000
set_option linter.unusedSimpArgs false
namespace L
abbrev En:Type:=bp.den
abbrev xm:Type:=ay.den
abbrev Rw:Type:=dJ.den
abbrev Fd:Type:=aN.den
abbrev Lw:Type:=cF.den
abbrev jq:Type:=aB.den
abbrev me:Type:=aZ.den
theorem Cx(c:Int):M.mY aE c=some (decide (97<=c/\c<=122)):=by
 apply Wp.eq;unfold M.mY;simp only[W_,implies_true,forall_const,reduceCtorEq];omega
theorem LD(c:Int):M.oZ aE c=some (decide (48<=c/\c<=57)):=by
 apply Wp.eq;unfold M.oZ;simp only[W_,implies_true,forall_const,reduceCtorEq];omega
theorem N2(c:Int):M.qI aE c=some (decide ((97<=c/\c<=122)\/(48<=c/\c<=57)\/c=95)):=by
 apply Wp.eq;unfold M.qI;simp only[Cx,LD,W_,implies_true,forall_const,reduceCtorEq];omega
noncomputable def lA(s:ByteArray):Bool:=(M.jB aE s).getD false
def fc{β:Type}(l:List (ByteArray×β))(nm:ByteArray):Prop:=∃x∈l,x.1=nm
noncomputable instance{β:Type}(l:List (ByteArray×β))(nm:ByteArray):Decidable (fc l nm):=akz _
noncomputable instance(m:ByteArray)(l:List ByteArray):Decidable (m∈l):=akz _
theorem N3{β:Type}{l:List (ByteArray×β)}{nm:ByteArray}:fc l nm↔∃k,∃h:k<l.length,l[k].1=nm:=by
 unfold fc;constructor
 .rintro⟨x,hx,h⟩
  obtain⟨k,hk,rfl⟩:=ajG hx;exact⟨k,hk,h⟩
 .rintro⟨k,hk,h⟩
  exact⟨_,ajs hk,h⟩
theorem yv{β:Type}{l:List (ByteArray×β)}{nm:ByteArray}{m:Nat}:fc (l.take m) nm↔∃k,∃h:k<l.length,k<m/\l[k].1=nm:=by
 rw[N3];constructor
 .rintro⟨k,hk,h⟩
  rw[ajB]at hk;rw[List.getElem_take]at h;exact⟨k,by omega,by omega,h⟩
 .rintro⟨k,hk,hm,h⟩
  exact⟨k,by rw[ajB];omega,by rw[List.getElem_take];exact h⟩
theorem cx{p:Nat->Prop}{k:Nat}(h:∀j,j<k->p j)(hk:p k):∀j,j<k+1->p j:=fun j hj=>by
 rcases akg.1 hj with h1|rfl
 .exact h j h1
 .exact hk
open Classical in
theorem bN(t:Ty)(E:List En):M.fj aE t E=some (decide (jo t E.length)):=by
 obtain⟨(k:Int),(e:Int)⟩:=t;apply Wp.eq;unfold M.fj;simp only[W_,implies_true,forall_const,reduceCtorEq];simp only[jo];dsimp only[ae,Row.den]at*;omega
def HD(t:Ty)(E:List En):Int×Int:=
 if¬jo t E.length then(0,-1)else if(t.1:Int)=1 then(0,1)else if(t.1:Int)=2 then(-1000000000000,1000000000000)else if(t.1:Int)=3 then(-1000000000000000,1000000000000000)else if(t.1:Int)=4 then(-1000000000,1000000000)else if(t.1:Int)=5 then(0,109572)
 else(0,ajj.wrap ((((E[(t.2:Int).toNat]?).map fun e=>(e.2.length:Int)).getD 0)-1))
theorem Rb(t:Ty)(E:List En):M.oa aE t E=some (HD t E):=by
 obtain⟨(k:Int),(e:Int)⟩:=t;apply Wp.eq;unfold M.oa HD;simp only[bN,W_,implies_true,forall_const,reduceCtorEq];by_cases hv:jo (k,e) E.length
 .simp only[hv,not_true_eq_false,if_false,false_implies,true_implies,true_and];refine⟨fun h=>by rw[if_pos h],fun h1=>⟨fun h=>by rw[if_neg h1,if_pos h],fun h2=>⟨fun h=>by rw[if_neg h1,if_neg h2,if_pos h],fun h3=>⟨fun h=>by rw[if_neg h1,if_neg h2,if_neg h3,if_pos h],fun h4=>⟨fun h=>by rw[if_neg h1,if_neg h2,if_neg h3,if_neg h4,if_pos h],fun h5=>?_⟩⟩⟩⟩⟩;simp only[jo]at hv;dsimp only[ae,Row.den]at*
  have hi:e.toNat<E.length:=by omega
  refine dX.2 ⟨by omega,?_⟩;rw[if_neg h1,if_neg h2,if_neg h3,if_neg h4,if_neg h5,ajl hi];rfl
 .simp only[hv,not_false_eq_true,if_true,true_implies,false_implies,and_true]
def C1(n:Int)(t:Ty)(E:List En):Prop:=(HD t E).1<=n/\n<=(HD t E).2
instance(n:Int)(t:Ty)(E:List En):Decidable (C1 n t E):=by unfold C1;infer_instance
def nO(x:Rw)(t:xm)(E:List En):Prop:=¬VR x.1\/(x.1.1:Int)=x.1.2\/(x.2.2.1:Int)<=x.2.1\/¬C1 x.2.1 t.2.1 E\/¬C1 (ajj.wrap ((x.2.2.1:Int)-1)) t.2.1 E\/¬C1 x.2.2.2 t.2.2.1 E
instance(x:Rw)(t:xm)(E:List En):Decidable (nO x t E):=by unfold nO;infer_instance
def mZ(a b:Rw):Prop:=VR a.1/\VR b.1/\((a.1.1:Int)<a.1.2/\(a.1.1:Int)<b.1.2/\(b.1.1:Int)<a.1.2/\(b.1.1:Int)<b.1.2)/\(a.2.1:Int)<a.2.2.1/\(a.2.1:Int)<b.2.2.1/\(b.2.1:Int)<a.2.2.1/\(b.2.1:Int)<b.2.2.1
instance(a b:Rw):Decidable (mZ a b):=by simp only[mZ];dsimp only[ae,Row.den]at*;infer_instance
open Classical in
noncomputable def qN(t:xm)(E:List En)(k:Nat):Option (Int×Int):=match t.2.2.2[k]? with
 |none=>none
 |some x=>if nO x t E then some ((k:Int),3)else if∃y∈t.2.2.2.take k,mZ y x then some ((k:Int),11)else none
noncomputable def ni(t:xm)(E:List En):Int×Int:=
 if 64<t.2.2.2.length then(64,4)else if¬(jo t.2.1 E.length/\jo t.2.2.1 E.length)then(-1,8)else(cc (qN t E) t.2.2.2.length).getD (0,0)
end L
end Go.Proofs.YtmihpkfkbfgigaaGreatDoor
end
section
open _root_.Int renaming tdiv->ajE,tdiv_eq_ediv_of_nonneg->aki,tmod->ajY
open _root_.Go.IntKind renaming i64->ajj
open _root_.List renaming getElem?_eq_getElem->ajl
namespace Go.Proofs.YtmihpkfkbfgigaaGreatDoor
open Go Go.RowKit
set_option maxRecDepth 100000
set_option linter.unusedSimpArgs false
namespace L
abbrev nP:Type:=aR.den
theorem ax(op:Int):M.nc aE op=some (decide ((1<=op/\op<=8)\/(14<=op/\op<=16)\/op=33\/op=34\/(36<=op/\op<=39))):=by
 apply Wp.eq;unfold M.nc;simp only[W_,implies_true,forall_const,reduceCtorEq];omega
theorem aA(k:Int):M.kB aE k=some (decide (k=2\/k=3\/k=4)):=by
 apply Wp.eq;unfold M.kB;simp only[W_,implies_true,forall_const,reduceCtorEq];omega
theorem aw(k:Int):M.gH aE k=some (decide (k=2\/k=3\/k=4\/k=5)):=by
 apply Wp.eq;unfold M.gH;simp only[aA,W_,implies_true,forall_const,reduceCtorEq];omega
theorem aV(k:Int):M.dj aE k=some ((k,(0:Int)):Ty):=rfl
def Cy(op m:Int)(s:nP):Prop:=(1<=op/\op<=5->C1 m (op,(0:Int)) s.1)/\(14<=op/\op<=16->0<=m/\m<=5)/\(op=34->0<=m/\ajY m 8<=5)/\(op=6->0<=m)
instance(op m:Int)(s:nP):Decidable (Cy op m s):=by unfold Cy;infer_instance
theorem wE(n:Ty)(s:nP):M.iN aE n s=some (decide (Cy n.1 n.2 s)):=by
 obtain⟨(op:Int),(m:Int)⟩:=n;apply Wp.eq;unfold M.iN;simp only[aV,Rb,W_,implies_true,forall_const,reduceCtorEq];unfold Cy C1;dsimp only[ae,Row.den]at*;generalize HD (op,(0:Int)) s.1=b;omega
def N4(op m:Int)(s:nP):Prop:=
 (op=6->ajj.wrap (ajE m 16)<(s.1.length:Int)/\ajY m 16<(((s.1[(ajj.wrap (ajE m 16)).toNat]?).map fun e=>(e.2.length:Int)).getD 0))/\
 (op=7->0<=m/\m<(s.2.2.1.length:Int))/\(op=8->0<=m/\m<(s.2.2.2.1.length:Int))/\(op=33->0<=m/\m<(s.2.1.length:Int))/\(op=34->ajj.wrap (ajE m 8)<(s.2.1.length:Int))/\
 (35<=op/\op<=39->s.2.2.2.2.2=true)/\(36<=op/\op<=39->0<=m/\m<(s.2.2.2.2.1.length:Int))
instance(op m:Int)(s:nP):Decidable (N4 op m s):=by unfold N4;infer_instance
theorem Gb{m k:Int}(h0:0<=m)(h1:m<=9223372036854775807)(hk:0<k):0<=ajj.wrap (ajE m k):=by
 have h2:0<=ajE m k:=Int.tdiv_nonneg h0 (by omega)
 have h3:ajE m k<=m:=by rw[aki h0];exact Int.ediv_le_self _ h0
 rw[aM (by omega) (by omega)];exact h2
theorem Rc(n:Ty)(s:nP)(hm:(n.2:Int)<=9223372036854775807)(hr:Cy n.1 n.2 s):M.bc aE n s=some (decide (N4 n.1 n.2 s)):=by
 obtain⟨(op:Int),(m:Int)⟩:=n;apply Wp.eq;unfold M.bc;simp only[W_,implies_true,forall_const,reduceCtorEq];unfold N4;unfold Cy at hr;dsimp only[ae,Row.den]at*;refine⟨fun h6=>⟨fun h=>?_,fun h=>?_⟩,fun h6=>?_⟩
 .have h0:=Gb (k:=16) (hr.2.2.2 h6) hm (by omega);refine dX.2 ⟨⟨h0,h⟩,?_⟩;rw[ajl (show(ajj.wrap (ajE m 16)).toNat<s.1.length by omega)];exact⟨fun g=>⟨fun _=>⟨h,g⟩,by omega,by omega,by omega,by omega,fun _=>by omega,by omega⟩,fun g=>(g.1 h6).2⟩
 .exact fun g=>h (g.1 h6).1
 simp only[h6,W_,implies_true,forall_const,reduceCtorEq]
 cases h5:s.2.2.2.2.2<;>simp only[imp_false,W_,implies_true,forall_const,reduceCtorEq]<;>omega
theorem LF{op m:Int}{s:nP}(hf:N4 op m s):Wp (M.bS aE (op,m) s) fun _=>True:=by
 unfold M.bS;simp only[aV,aw,bN,W_,implies_true,forall_const,reduceCtorEq];unfold N4 at hf;dsimp only[ae,Row.den]at*
 refine fun h6=>⟨fun h7=>?_,fun h7=>⟨fun h8=>?_,fun h8=>fun h9 h35=>?_⟩⟩
 .exact dX.2 ⟨hf.2.1 h7,trivial⟩
 .exact dX.2 ⟨hf.2.2.1 h8,trivial⟩
 .by_cases h:36<=op/\op<=39
  .have:Wp (idx s.2.2.2.2.1 m) fun _=>True:=dX.2 ⟨hf.2.2.2.2.2.2 h,trivial⟩
   simp only[this,W_,implies_true,forall_const,reduceCtorEq]
  .simp only[show¬op=36 by omega,show¬op=37 by omega,show¬op=38 by omega,show¬op=39 by omega,W_,implies_true,forall_const,reduceCtorEq]
theorem Er{op m:Int}{a:Ty}{s:nP}(hm:m<=9223372036854775807)(h1:ar op=1)(hr:Cy op m s)(hf:N4 op m s):Wp (M.cf aE (op,m) a s) fun _=>True:=by
 have fM:op=10\/op=25\/(31<=op/\op<=34):=by
  clear hr hf;unfold ar at h1;omega
 unfold M.cf;simp only[aV,aA,bN,W_,implies_true,forall_const,reduceCtorEq];unfold N4 at hf;unfold Cy at hr;dsimp only[ae,Row.den]at*
 have key:¬op=31->¬op=32->¬op=10->¬op=25->(op=33->Wp (idx s.2.1 m) fun _=>True)/\(¬op=33->Wp (idx s.2.1 (ajj.wrap (m.tdiv 8))) fun _=>True):=by
  refine fun V5 h32 UZ h25=>⟨fun Mm=>dX.2 ⟨hf.2.2.2.1 Mm,trivial⟩,fun Mm=>?_⟩
  have sd:op=34:=by clear hr hf;omega
  exact dX.2 ⟨⟨Gb (hr.2.2.1 sd).1 hm (by omega),hf.2.2.2.2.1 sd⟩,trivial⟩
 exact fun UZ h25=>⟨fun V5 g=>absurd V5 g,fun V5 h32=>key V5 h32 UZ h25⟩
theorem Es(op a b:Int):Wp (M.kC aE op a b) fun _=>True:=by
 unfold M.kC;simp only[aV,W_,implies_true,forall_const,reduceCtorEq]
theorem Et(op:Int)(a b:Ty):Wp (M.gv aE op a b) fun _=>True:=by
 obtain⟨r,e,_⟩:=Es op a.1 b.1;unfold M.gv
 repeat' first|exact Wp.some trivial|exact⟨_,aA _,trivial⟩|exact⟨_,aw _,trivial⟩|exact⟨_,aV _,trivial⟩|exact⟨_,e,trivial⟩|refine Wp.seq (fun _=>True) ?_ fun _ _=>?_|refine Wp.dec (fun _=>?_) fun _=>?_|refine Wp.ite (fun _=>?_) fun _=>?_
noncomputable def Gc(n:Ty)(l:List Ty)(s:nP):Ty×Int:=(M.aF aE n l s).getD (((0:Int),(0:Int)),(0:Int))
theorem LG{n:Ty}{l:List Ty}{s:nP}(hw:WF aa n)(hl:(l.length:Int)=ar n.1):M.aF aE n l s=some (Gc n l s):=by
 refine(Wp.getD (Q:=fun _=>True) ?_ _).1;have hm:(n.2:Int)<=9223372036854775807:=hw.2.2;have h3:=jP n.1
 have key:Wp (M.iN aE n s) fun x=>x=true->Wp (M.bc aE n s) fun x=>x=true->((l.length:Int)=0->Wp (M.bS aE n s) fun _=>True)/\(¬(l.length:Int)=0->((l.length:Int)=1->Wp (idx l 0) fun x=>Wp (M.cf aE n x s) fun _=>True)/\
  (¬(l.length:Int)=1->((l.length:Int)=2->Wp (idx l 0) fun x=>Wp (idx l 1) fun x_1=>Wp (M.gv aE n.1 x x_1) fun _=>True)/\(¬(l.length:Int)=2->Wp (idx l 1) fun _=>Wp (idx l 0) fun x=>(x.1:Int)=1->Wp (idx l 1) fun _=>Wp (idx l 2) fun _=>True))):=by
  rw[wE]
  refine .some fun hr=>?_
  have hr:Cy n.1 n.2 s:=of_decide_eq_true hr;rw[Rc n s hm hr]
  refine .some fun hf=>?_
  have hf:N4 n.1 n.2 s:=of_decide_eq_true hf;exact⟨fun _=>LF hf,fun h0=>⟨fun h1=>dX.2 ⟨by omega,Er hm (by omega) hr hf⟩,fun h1=>⟨fun h2=>dX.2 ⟨by omega,dX.2 ⟨by omega,Et ..⟩⟩,fun h2=>dX.2 ⟨by omega,dX.2 ⟨by omega,fun _=>dX.2 ⟨by omega,dX.2 ⟨by omega,trivial⟩⟩⟩⟩⟩⟩⟩
 unfold M.aF;simp only[ax,W_,implies_true,forall_const,reduceCtorEq];exact⟨fun _ _=>key,fun _=>key⟩
noncomputable def m5(s:nP):List Ty->Nat->List Ty->(Nat×Int)⊕List Ty
 |[],_,gB=> .inr gB
 |n::e,i,gB=>
  if(Gc n (gB.drop (gB.length-(ar n.1).toNat)) s).2≠0 then .inl (i,(Gc n (gB.drop (gB.length-(ar n.1).toNat)) s).2)
  else m5 s e (i+1) (gB.take (gB.length-(ar n.1).toNat)++[(Gc n (gB.drop (gB.length-(ar n.1).toNat)) s).1])
noncomputable def C2(e:List Ty)(s:nP):Ty×Int×Int:=
 if(pY e).2.1≠0 then(((0:Int),(0:Int)),(pY e).1,(pY e).2.1)else match m5 s e 0 []with
  | .inl (i,c)=>(((0:Int),(0:Int)),(i:Int),c)
  | .inr gB=>(gB.headD ((0:Int),(0:Int)),0,0)
theorem N5{e:List Ty}(h:(pY e).2.1=0):e.length<=48/\e≠[]/\∃st sk,jC e 0 [] []= .inr (st,sk):=by
 unfold pY at h;split at h
 .cases h
 split at h
 .cases h
 rename_i h1 h2;refine⟨by omega,fun e=>h2 (by rw[e];rfl),?_⟩;split at h
 .rename_i c hc;exfalso
  have:∀(e:List Ty)(i:Nat)(st sk:List Nat)(j:Nat),jC e i st sk≠ .inl (j,0):=by
   intro e
   induction e with
   |nil=>intro i st sk j h;cases h
   |cons n e ih=>
    intro i st sk j h;rw[jC]at h;split at h
    .cases h
    split at h
    .cases h
    split at h
    .cases h
    exact ih _ _ _ _ h
  have hc0:c=0:=h;subst hc0;exact this _ _ _ _ _ hc
 .rename_i st sk hs;exact⟨st,sk,hs⟩
end L
end Go.Proofs.YtmihpkfkbfgigaaGreatDoor
end
section
open _root_.List renaming length_cons->ajy,mem_cons->ajJ,pairwise_cons->akF
namespace Go.Proofs.YtmihpkfkbfgigaaGreatDoor
open Go Go.RowKit
set_option maxRecDepth 100000
set_option linter.unusedSimpArgs false
namespace L
def ins(n:Int):List Int->List Int
 |[]=>[n]
 |x::l=>if x<n then x::ins n l else if x=n then x::l else n::x::l
theorem LH(n x:Int)(l:List Int):ins n (x::l)=if x<n then x::ins n l else if x=n then x::l else n::x::l:=rfl
theorem m6{n y:Int}:∀{l:List Int},y∈ins n l↔y=n\/y∈l
 |[]=>by simp[ins]
 |x::l=>by
  unfold ins;split
  .rw[ajJ,m6,ajJ];exact⟨fun h=>by rcases h with h|h|h<;>simp[h],fun h=>by rcases h with h|h|h<;>simp[h]⟩
  split
  .rename_i h;subst h;simp
  .simp
def og(p:Int->Bool)(e:List Ty):List Int:=e.foldl (fun l n=>if p n.1=true then ins n.2 l else l) []
def tV(op:Int):Bool:=decide (op=8)
def tW(n:Nat)(l:List Int):Prop:=l.Pairwise (· < ·)/\∀x∈l,0<=x/\x<(n:Int)
theorem tW.nil{n:Nat}:tW n []:=⟨.nil,fun _ h=>by cases h⟩
theorem Re{l:List Int}:∀{a b:Int},l.Pairwise (· < ·)->(∀x∈l,a<=x/\x<b)->(l.length:Int)<=max 0 (b-a):=by
 induction l with
 |nil=>intro a b _ _;simp;omega
 |cons x l ih=>
  intro a b hp hb;obtain⟨h1,h2⟩:=akF.1 hp;have hx:=hb x (List.mem_cons_self ..)
  have:=ih (a:=x+1) (b:=b) h2 fun y hy=>⟨h1 y hy,(hb y (List.mem_cons_of_mem _ hy)).2⟩
  simp only[ajy];omega
theorem tW.len{n:Nat}{l:List Int}(h:tW n l):l.length<=n:=by
 have:=Re h.1 h.2;omega
theorem Eu{n:Int}:∀{l:List Int},l.Pairwise (· < ·)->(ins n l).Pairwise (· < ·)
 |[],_=>List.pairwise_singleton ..
 |x::l,h=>by
  obtain⟨h1,h2⟩:=akF.1 h;rw[LH];split
  .exact akF.2 ⟨fun y hy=>by rcases m6.1 hy with rfl|hy;assumption;exact h1 y hy,Eu h2⟩
  split
  .exact h
  .refine akF.2 ⟨fun y hy=>?_,h⟩
   rcases ajJ.1 hy with rfl|hy
   .omega
   .have:=h1 y hy;omega
theorem tW.ins{n:Nat}{x:Int}{l:List Int}(h:tW n l)(hx:0<=x/\x<(n:Int)):tW n (ins x l):=
 ⟨Eu h.1,fun y hy=>by rcases m6.1 hy with rfl|hy;exact hx;exact h.2 y hy⟩
def m7(n:Nat)(out l:List Int):List Int:=l.foldl (fun o x=>if 0<=x/\x<(n:Int)then ins x o else o) out
theorem tW.m7{n:Nat}:∀{l out:List Int},tW n out->tW n (m7 n out l)
 |[],_,h=>h
 |x::l,out,h=>by
  show tW n (L.m7 n (if 0<=x/\x<(n:Int)then L.ins x out else out) l)
  refine tW.m7 ?_;split
  .exact h.ins ‹_›
  .exact h
def lB(s:jq)(d:Int):List Int:=
 if 0<=d/\d<(s.2.2.2.1.length:Int)then s.2.2.2.2.foldl (fun out r=>if(r.2.1:Int)=d then m7 s.2.2.2.1.length (m7 s.2.2.2.1.length out (og tV r.2.2.2.2.2.1)) (og tV r.2.2.2.2.2.2.1)else out) []else[]
theorem mF(s:jq)(d:Int):tW s.2.2.2.1.length (lB s d):=by
 unfold lB;split
 .suffices∀(rs:List me)(out:List Int),tW s.2.2.2.1.length out->tW s.2.2.2.1.length (rs.foldl (fun out r=>if(r.2.1:Int)=d then m7 s.2.2.2.1.length (m7 s.2.2.2.1.length out (og tV r.2.2.2.2.2.1)) (og tV r.2.2.2.2.2.2.1)else out) out)from this _ _ .nil
  intro rs
  induction rs with
  |nil=>intro out h;exact h
  |cons r rs ih=>
   intro out h;rw[List.foldl_cons];refine ih _ ?_;split
   .exact h.m7.m7
   .exact h
 .exact .nil
def stepT(s:jq)(out:List Int):List Int:=out.foldl (fun o x=>(lB s x).foldl (fun o y=>ins y o) o) out
def jR(s:jq):Nat->List Int->List Int
 |0,out=>out
 |n+1,out=>stepT s (jR s n out)
def IX(s:jq)(d:Int):List Int:=jR s s.2.2.2.1.length (lB s d)
theorem tW.LI{n:Nat}:∀{l out:List Int},(∀x∈l,0<=x/\x<(n:Int))->tW n out->tW n (l.foldl (fun o y=>L.ins y o) out)
 |[],_,_,h=>h
 |x::l,out,hx,h=>tW.LI (l:=l) (out:=L.ins x out) (fun y hy=>hx y (List.mem_cons_of_mem _ hy)) (h.ins (hx x (List.mem_cons_self ..)))
theorem pT(s:jq){out:List Int}(h:tW s.2.2.2.1.length out):tW s.2.2.2.1.length (stepT s out):=by
 unfold stepT
 suffices∀(l o:List Int),tW s.2.2.2.1.length o->tW s.2.2.2.1.length (l.foldl (fun o x=>(lB s x).foldl (fun o y=>ins y o) o) o)from this _ _ h
 intro l
 induction l with
 |nil=>intro o h;exact h
 |cons x l ih=>intro o h;exact ih _ (h.LI (mF s x).2)
end L
end Go.Proofs.YtmihpkfkbfgigaaGreatDoor
end
section
open _root_.Go.IntKind renaming i64->ajj
open _root_.List renaming getElem_mem->ajs,getElem_of_mem->ajG
namespace Go.Proofs.YtmihpkfkbfgigaaGreatDoor
open Go Go.RowKit
set_option maxRecDepth 100000
set_option linter.unusedSimpArgs false
namespace L
def mG(s:jq):Prop:=s.1.size<=80/\s.2.2.1.length<=14/\s.2.2.2.1.length<=14/\s.2.2.2.2.length<=60/\(∀f∈s.2.2.1,f.1.size<=80)/\(∀f∈s.2.2.2.1,f.1.size<=80)/\∀r∈s.2.2.2.2,r.1.size<=80/\r.2.2.2.2.2.2.2.size<=80/\r.2.2.2.2.2.1.length<=50/\r.2.2.2.2.2.2.1.length<=50
def lK(l:Lw):Prop:=l.1.length<=9/\l.2.1.length<=9/\l.2.2.length<=5/\(∀e∈l.1,e.1.size<=80/\e.2.length<=20/\∀m∈e.2,m.size<=80)/\(∀t∈l.2.1,t.1.size<=80)/\∀s∈l.2.2,mG s
theorem qO{α:Type}{l:List α}{p:α->Prop}(h:∀j,j<l.length->∀h:j<l.length,p l[j]):∀x∈l,p x:=fun x hx=>by
 obtain⟨j,hj,rfl⟩:=ajG hx;exact h j hj hj
theorem Iu(s:jq)(hw:WF aB s):Wp (M.jg aE s) fun r=>r=true->mG s:=by
 have w1:=hw.2.2.1.1;have w2:=hw.2.2.2.1.1;have w3:=hw.2.2.2.2.1;unfold maxLen at w1 w2 w3;unfold M.jg;simp only[W_,implies_true,forall_const,reduceCtorEq]
 refine fun h1 h2 h3 h4=>?_
 refine Wp.count (fun s=>s) s.2.2.1.length (fun k _=>∀j,j<k->∀h:j<s.2.2.1.length,(s.2.2.1[j].1:ByteArray).size<=80) w1 rfl (fun j hj=>by omega) fun k c hk hs hA=>?_
 obtain rfl:c=_:=hs;simp only[W_,implies_true,forall_const,reduceCtorEq,aY,aP];refine⟨fun ao=>?_,fun hge=>?_⟩
 .have ao:k<s.2.2.1.length:=by omega
  simp only[ah ao,de w1 ao,W_,implies_true,forall_const,reduceCtorEq]
  exact fun h=>⟨ao,cx hA fun _=>by omega⟩
 have hA:=fun j(hj:j<s.2.2.1.length)=>hA j (by omega)
 refine Wp.count (fun s=>s) s.2.2.2.1.length (fun k _=>∀j,j<k->∀h:j<s.2.2.2.1.length,(s.2.2.2.1[j].1:ByteArray).size<=80) w2 rfl (fun j hj=>by omega) fun k c hk hs hB=>?_
 obtain rfl:c=_:=hs;simp only[W_,implies_true,forall_const,reduceCtorEq,aY,aP];refine⟨fun ao=>?_,fun hge=>?_⟩
 .have ao:k<s.2.2.2.1.length:=by omega
  simp only[ah ao,de w2 ao,W_,implies_true,forall_const,reduceCtorEq]
  exact fun h=>⟨ao,cx hB fun _=>by omega⟩
 have hB:=fun j(hj:j<s.2.2.2.1.length)=>hB j (by omega)
 refine Wp.count (fun s=>s) s.2.2.2.2.length (fun k _=>∀j,j<k->∀h:j<s.2.2.2.2.length,(s.2.2.2.2[j].1:ByteArray).size<=80/\(s.2.2.2.2[j].2.2.2.2.2.2.2:ByteArray).size<=80/\s.2.2.2.2[j].2.2.2.2.2.1.length<=50/\s.2.2.2.2[j].2.2.2.2.2.2.1.length<=50) w3 rfl (fun j hj=>by omega) fun k c hk hs hC=>?_
 obtain rfl:c=_:=hs;simp only[W_,implies_true,forall_const,reduceCtorEq,aY,aP];refine⟨fun ao=>?_,fun hge=>?_⟩
 .have ao:k<s.2.2.2.2.length:=by omega
  simp only[ah ao,de w3 ao,W_,implies_true,forall_const,reduceCtorEq]
  exact fun h1 h2 h3 h4=>⟨ao,cx hC fun _=>⟨by omega,by omega,by omega,by omega⟩⟩
 exact⟨by omega,by omega,by omega,by omega,qO hA,qO hB,qO fun j hj=>hC j (by omega)⟩
theorem Iv(l:Lw)(hw:WF cF l):Wp (M.ld aE l) fun r=>r=true->lK l:=by
 have w1:=hw.1.1;have w2:=hw.2.1.1;have w3:=hw.2.2.1;unfold maxLen at w1 w2 w3;unfold M.ld;simp only[W_,implies_true,forall_const,reduceCtorEq]
 refine fun h1 h2 h3=>?_
 refine Wp.count (fun s=>s) l.1.length (fun k _=>∀j,j<k->∀h:j<l.1.length,(l.1[j].1:ByteArray).size<=80/\l.1[j].2.length<=20/\∀m∈l.1[j].2,ByteArray.size m<=80) w1 rfl (fun j hj=>by omega) fun k c hk hs hA=>?_
 obtain rfl:c=_:=hs;simp only[W_,implies_true,forall_const,reduceCtorEq,aY,aP];refine⟨fun ao=>?_,fun hge=>?_⟩
 .have ao:k<l.1.length:=by omega
  simp only[ah ao,de w1 ao,W_,implies_true,forall_const,reduceCtorEq]
  refine fun g1 g2=>?_
  refine Wp.count (fun s=>s) l.1[k].2.length (fun i _=>∀j,j<i->∀h:j<l.1[k].2.length,ByteArray.size l.1[k].2[j]<=80) (by omega) rfl (fun j hj=>by omega) fun i c hi hs hB=>?_
  obtain rfl:c=_:=hs;simp only[W_,implies_true,forall_const,reduceCtorEq,aY,aP];refine⟨fun Am=>?_,fun Am=>⟨ao,cx hA fun _=>⟨by omega,by omega,qO fun j hj=>hB j (by omega)⟩⟩⟩
  have Am:i<l.1[k].2.length:=by omega
  simp only[ah Am,de (m:=l.1[k].2.length) (by omega) Am,W_,implies_true,forall_const,reduceCtorEq]
  exact fun h=>⟨Am,cx hB fun _=>by omega⟩
 have hA:=fun j(hj:j<l.1.length)=>hA j (by omega)
 refine Wp.count (fun s=>s.2) l.2.1.length (fun k _=>∀j,j<k->∀h:j<l.2.1.length,(l.2.1[j].1:ByteArray).size<=80) w2 rfl (fun j hj=>by omega) fun k c hk hs hB=>?_
 obtain⟨c1,c2⟩:=c;dsimp only at hs;subst hs;simp only[W_,implies_true,forall_const,reduceCtorEq,aY,aP];refine⟨fun ao=>?_,fun hge=>?_⟩
 .have ao:k<l.2.1.length:=by omega
  simp only[ah ao,de w2 ao,W_,implies_true,forall_const,reduceCtorEq]
  exact fun h _=>⟨ao,cx hB fun _=>by omega⟩
 have hB:=fun j(hj:j<l.2.1.length)=>hB j (by omega)
 refine Wp.count (fun s=>s.2) l.2.2.length (fun k _=>∀j,j<k->∀h:j<l.2.2.length,mG l.2.2[j]) w3 rfl (fun j hj=>by omega) fun k c hk hs hC=>?_
 obtain⟨c1,c2⟩:=c;dsimp only at hs;subst hs;simp only[W_,implies_true,forall_const,reduceCtorEq,aY,aP];refine⟨fun ao=>?_,fun hge=>?_⟩
 .have ao:k<l.2.2.length:=by omega
  simp only[ah ao,de w3 ao,W_,implies_true,forall_const,reduceCtorEq]
  refine fun h=>(Iu _ (hw.2.2.2 _ (ajs ao))).mono fun r hr py=>⟨ao,cx hC fun _=>hr py⟩
 exact⟨by omega,by omega,by omega,qO hA,qO hB,qO fun j hj=>hC j (by omega)⟩
abbrev LE:Type:=aS.den
def N6:LE:=((0:Int),((0:Int),((0:Int),(0:Int))))
def rV(sec:Int)(k:Int):Option (Int×Int)->LE
 |none=>N6
 |some (c,e)=>(c,(sec,(k,e)))
noncomputable def LJ(ms:List ByteArray)(i:Nat):Option (Int×Int):=match ms[i]? with
 |none=>none
 |some m=>if lA m=false then some (2,100+(i:Int))else if m∈ms.take i then some (7,100+(i:Int))else none
noncomputable def nQ(l:Lw)(k:Nat):Option (Int×Int):=match l.1[k]? with
 |none=>none
 |some x=>if lA x.1=false then some (2,0)else if fc (l.1.take k) x.1 then some (7,0)else if x.2.length=0 then some (5,0)else if 16<x.2.length then some (4,116)else cc (LJ x.2) x.2.length
theorem rW{k:Nat}{a:Int}(h:k<=100000)(ha:0<=a/\a<=1000):ajj.wrap (a+(k:Int))=a+(k:Int):=aM (by omega) (by omega)
end L
end Go.Proofs.YtmihpkfkbfgigaaGreatDoor
end
section
open _root_.Classical renaming propDecidable->akz
open _root_.List renaming getElem?_eq_getElem->ajl,getElem_mem->ajs
open _root_.Nat renaming le_refl->ajo
namespace Go.Proofs.YtmihpkfkbfgigaaGreatDoor
open Go Go.RowKit
set_option maxRecDepth 100000
set_option linter.unusedSimpArgs false
namespace L
noncomputable def oA(l:Lw)(k:Nat):Option (Int×Int):=match l.2.1[k]? with
 |none=>none
 |some x=>if lA x.1=false then some (2,0)else if fc l.1 x.1\/fc (l.2.1.take k) x.1 then some (7,0)else if(ni x l.1).2=0 then none else some ((ni x l.1).2,if 0<=(ni x l.1).1 then 100+(ni x l.1).1 else 0)
noncomputable def LK(l:Lw)(x:jq)(i:Nat):Option (Int×Int):=match x.2.2.1[i]? with
 |none=>none
 |some f=>if lA f.1=false then some (2,100+(i:Int))else if fc (x.2.2.1.take i) f.1 then some (7,100+(i:Int))else if¬jo f.2 l.1.length then some (8,100+(i:Int))else none
noncomputable def LL(l:Lw)(x:jq)(i:Nat):Option (Int×Int):=match x.2.2.2.1[i]? with
 |none=>none
 |some f=>if lA f.1=false then some (2,200+(i:Int))else if fc x.2.2.1 f.1\/fc (x.2.2.2.1.take i) f.1 then some (7,200+(i:Int))else if¬jo f.2 l.1.length then some (8,200+(i:Int))else none
noncomputable def Iw(l:Lw)(x:jq):Option (Int×Int):=(cc (LK l x) x.2.2.1.length).or (cc (LL l x) x.2.2.2.1.length)
def plain(s:ByteArray):Prop:=(∀i,∀h:i<s.size,32<=(s[i].toNat:Int)/\(s[i].toNat:Int)<=126/\(s[i].toNat:Int)≠34)/\s.size<=64
noncomputable instance(s:ByteArray):Decidable (plain s):=akz _
theorem wF(f:List Fd)(hf:f.length<=100000):M.fV aE f=some (f.map (·.2)):=by
 apply Wp.eq;unfold M.fV
 refine Wp.fold (fun s=>s.1) (fun s=>s.2) f (fun(o:List Ty)x=>o++[x.2]) [] (fun k c=>c.length<=k) (by omega) rfl rfl (ajo _) (fun k s ao hs hI=>?_) fun s hs hc hI=>?_
 .obtain⟨i,o⟩:=s;dsimp only at hs hI;subst hs;simp only[Ed ao,ah ao,de (m:=f.length) (by omega) ao,W_,implies_true,forall_const,reduceCtorEq,HW];exact nf.2 ⟨by simp;omega,rfl,by simp;omega⟩
 .obtain⟨i,o⟩:=s;dsimp only at hs hc;subst hs;simp only[eX,W_,implies_true,forall_const,reduceCtorEq,HX];rw[hc]
  have:∀(f:List Fd)(o:List Ty),f.foldl (fun(o:List Ty)x=>o++[x.2]) o=o++f.map (·.2):=by
   intro f
   induction f with
   |nil=>intro o;simp
   |cons x f ih=>intro o;rw[List.foldl_cons,ih];simp
  rw[this];rfl
def eB(l:Lw)(x:jq):nP:=(l.1,(l.2.1,(x.2.2.1.map (·.2),(x.2.2.2.1.map (·.2),(match l.2.2[(x.2.1:Int).toNat]? with
 |some y=>if 0<=(x.2.1:Int)then y.2.2.2.1.map (·.2)else[]
 |none=>[],decide (0<=(x.2.1:Int)/\(x.2.1:Int)<(l.2.2.length:Int)))))))
theorem N7(l:Lw)(k:Nat)(hk:k<l.2.2.length)(hs:∀s∈l.2.2,s.2.2.1.length<=100000/\s.2.2.2.1.length<=100000):M.lI aE l (k:Int)=some ((eB l l.2.2[k]).1,(eB l l.2.2[k]).2.1,(eB l l.2.2[k]).2.2.2.2.2,(eB l l.2.2[k]).2.2.1,(eB l l.2.2[k]).2.2.2.1,(eB l l.2.2[k]).2.2.2.2.1):=by
 apply Wp.eq;unfold M.lI;have h1:=hs _ (ajs hk);simp only[show¬(k:Int)<0 by omega,show¬(l.2.2.length:Int)<=(k:Int) by omega,ah hk,wF _ h1.1,wF _ h1.2,W_,implies_true,forall_const,reduceCtorEq];unfold eB;generalize l.2.2[k]=x at*;obtain⟨x1,(x2:Int),x3,x4,x5⟩:=x;dsimp only[ae,Row.den]at*;refine⟨fun h=>⟨fun h'=>?_,fun h'=>?_⟩,fun h=>?_⟩
 .refine dX.2 ⟨by omega,?_⟩
  have hi:x2.toNat<l.2.2.length:=by omega
  simp only[wF _ (hs _ (ajs hi)).2,W_,implies_true,forall_const,reduceCtorEq,ajl hi,h,h',if_true]
 .rw[List.getElem?_eq_none (by omega)];simp only[h',W_,implies_true,forall_const,reduceCtorEq]
 .simp only[h,W_,implies_true,forall_const,reduceCtorEq]
  split<;>rfl
end L
end Go.Proofs.YtmihpkfkbfgigaaGreatDoor
end
section
open _root_.Classical renaming not_not->akp,propDecidable->akz
open _root_.List renaming getElem?_eq_getElem->ajl
namespace Go.Proofs.YtmihpkfkbfgigaaGreatDoor
open Go Go.RowKit
set_option maxRecDepth 100000
set_option linter.unusedSimpArgs false
namespace L
noncomputable def qP(e:List Ty)(s:nP)(want:Ty):Int:=if(C2 e s).2.2≠0 then(C2 e s).2.2 else if(C2 e s).1≠want then 8 else 0
def zZ(x:jq)(k:Nat)(d:Int):Nat:=(x.2.2.2.2.take k).countP fun r=>decide ((r.2.1:Int)=d)
def pg(x:jq)(k:Nat)(r:me):Prop:=(r.2.2.1:Int)≠-1/\((r.2.2.1:Int)<0\/(k:Int)<=r.2.2.1\/∃y,x.2.2.2.2[(r.2.2.1:Int).toNat]? =some y/\(y.2.1:Int)≠r.2.1)
noncomputable instance(x:jq)(k:Nat)(r:me):Decidable (pg x k r):=akz _
noncomputable def tn(l:Lw)(x:jq)(k:Nat)(r:me):Int:=
 if lA r.1=false then 2 else if fc (x.2.2.2.2.take k) r.1 then 7 else if¬(0<=(r.2.1:Int)/\(r.2.1:Int)<(x.2.2.2.1.length:Int))then 6 else if pg x k r then 9 else
 if(r.2.2.2.1:Int)<0\/9<(r.2.2.2.1:Int)\/¬VR r.2.2.2.2.1\/(r.2.2.2.2.1.1:Int)=r.2.2.2.2.1.2 then 3 else if 8<=zZ x k r.2.1 then 4 else if¬plain r.2.2.2.2.2.2.2 then 2 else
 if 0<r.2.2.2.2.2.1.length/\qP r.2.2.2.2.2.1 (eB l x) ((1:Int),(0:Int))≠0 then qP r.2.2.2.2.2.1 (eB l x) ((1:Int),(0:Int))else
 match x.2.2.2.1[(r.2.1:Int).toNat]? with
 |some d=>qP r.2.2.2.2.2.2.1 (eB l x) d.2
 |none=>0
noncomputable def Cz(l:Lw)(x:jq)(k:Nat):Option (Int×Int):=match x.2.2.2.2[k]? with
 |none=>none
 |some r=>if tn l x k r≠0 then some (tn l x k r,300+(k:Int))else none
noncomputable def Ev(x:jq)(d:Nat):Option (Int×Int):=if(d:Int)∈IX x d then some (9,200+(d:Int))else none
def qQ(l:Lw)(k:Nat)(x:jq):Prop:=(x.2.1:Int)≠-1/\((x.2.1:Int)<0\/(k:Int)<=x.2.1\/∃y,l.2.2[(x.2.1:Int).toNat]? =some y/\(y.2.1:Int)≠-1)
noncomputable instance(l:Lw)(k:Nat)(x:jq):Decidable (qQ l k x):=akz _
noncomputable def qR(l:Lw)(k:Nat):Option (Int×Int):=match l.2.2[k]? with
 |none=>none
 |some x=>
  if lA x.1=false then some (2,0)else if fc l.1 x.1\/fc l.2.1 x.1\/fc (l.2.2.take k) x.1 then some (7,0)else if qQ l k x then some (6,0)else
  if 12<x.2.2.1.length then some (4,112)else if 12<x.2.2.2.1.length then some (4,212)else((Iw l x).or (cc (Cz l x) x.2.2.2.2.length)).or (cc (Ev x) x.2.2.2.1.length)
theorem LM{l:Lw}{x:jq}{e:Int×Int}(h:Iw l x=some e):e.1≠0:=by
 have key:∀(f:Nat->Option (Int×Int)),(∀i e,f i=some e->e.1≠0)->∀{m e},cc f m=some e->e.1≠0:=fun f hf m e h=>by
  obtain⟨k,_,h,_⟩:=fB h;exact hf k e h
 unfold Iw at h
 rcases Option.or_eq_some_iff.1 h with h|⟨_,h⟩
 .refine key _ (fun i e h=>?_) h;unfold LK at h
  repeat' split at h
  all_goals first|cases h|skip
  all_goals simp
 .refine key _ (fun i e h=>?_) h;unfold LL at h
  repeat' split at h
  all_goals first|cases h|skip
  all_goals simp
theorem N8(x:jq)(d:Int):tW x.2.2.2.1.length (IX x d):=by
 have:∀m,tW x.2.2.2.1.length (jR x m (lB x d)):=fun m=>by
  induction m with
  |zero=>exact mF x d
  |succ m ih=>exact pT x ih
 exact this _
noncomputable def Ew(l:Lw):LE:=
 if 8<l.1.length then((4:Int),((1:Int),((8:Int),(0:Int))))else match cc (fun k=>(nQ l k).map fun e=>(k,e)) l.1.length with
 |some (k,e)=>rV 1 (k:Int) (some e)
 |none=>if 8<l.2.1.length then((4:Int),((2:Int),((8:Int),(0:Int))))else match cc (fun k=>(oA l k).map fun e=>(k,e)) l.2.1.length with
  |some (k,e)=>rV 2 (k:Int) (some e)
  |none=>if 4<l.2.2.length then((4:Int),((3:Int),((4:Int),(0:Int))))else match cc (fun k=>(qR l k).map fun e=>(k,e)) l.2.2.length with
   |some (k,e)=>rV 3 (k:Int) (some e)
   |none=>N6
theorem qS{f:Nat->Option (Int×Int)}(hf:∀i e,f i=some e->e.1≠0){m:Nat}{e:Int×Int}(h:cc f m=some e):e.1≠0:=by
 obtain⟨k,_,h,_⟩:=fB h;exact hf k e h
theorem tq{l:Lw}{k:Nat}{e:Int×Int}(h:nQ l k=some e):e.1≠0:=by
 unfold nQ at h
 repeat' split at h
 all_goals first|cases h|skip
 all_goals first|simp;done|skip
 refine qS (fun i e h=>?_) h;unfold LJ at h
 repeat' split at h
 all_goals first|cases h|skip
 all_goals simp
theorem CA{l:Lw}{k:Nat}{e:Int×Int}(h:oA l k=some e):e.1≠0:=by
 unfold oA at h
 repeat' split at h
 all_goals first|cases h|skip
 all_goals first|simp;done|assumption
theorem CB{l:Lw}{k:Nat}{e:Int×Int}(h:qR l k=some e):e.1≠0:=by
 unfold qR at h
 repeat' split at h
 all_goals first|cases h|skip
 all_goals first|simp;done|skip
 rcases Option.or_eq_some_iff.1 h with h|⟨_,h⟩
 .rcases Option.or_eq_some_iff.1 h with h|⟨_,h⟩
  .exact LM h
  .refine qS (fun i e h=>?_) h;unfold Cz at h
   repeat' split at h
   all_goals first|cases h|skip
   assumption
 .refine qS (fun i e h=>?_) h;unfold Ev at h
  repeat' split at h
  all_goals first|cases h|skip
  simp
theorem Rf{f:Nat->Option (Int×Int)}{k:Nat}{e:Int×Int}(h:f k=some e):(fun k=>(f k).map fun e=>(k,e)) k=some (k,e):=by simp[h]
theorem N9{f:Nat->Option (Int×Int)}{k:Nat}(h:f k=none):(fun k=>(f k).map fun e=>(k,e)) k=none:=by simp[h]
def Valid(l:Lw):Prop:=(Ew l).1=0
noncomputable instance(l:Lw):Decidable (Valid l):=akz _
theorem Valid.scopes{l:Lw}(h:Valid l):l.1.length<=8/\l.2.1.length<=8/\l.2.2.length<=4/\(∀k,k<l.1.length->nQ l k=none)/\(∀k,k<l.2.1.length->oA l k=none)/\∀k,k<l.2.2.length->qR l k=none:=by
 unfold Valid Ew at h;split at h
 .cases h
 split at h
 .rename_i k e hf;obtain⟨j,_,hj,_⟩:=fB hf;obtain⟨e',he',h2⟩:=Option.map_eq_some_iff.1 hj;cases h2;exact absurd h (tq he')
 rename_i hA;split at h
 .cases h
 split at h
 .rename_i k e hf;obtain⟨j,_,hj,_⟩:=fB hf;obtain⟨e',he',h2⟩:=Option.map_eq_some_iff.1 hj;cases h2;exact absurd h (CA he')
 rename_i hB;split at h
 .cases h
 split at h
 .rename_i k e hf;obtain⟨j,_,hj,_⟩:=fB hf;obtain⟨e',he',h2⟩:=Option.map_eq_some_iff.1 hj;cases h2;exact absurd h (CB he')
 rename_i hC;exact⟨by omega,by omega,by omega,fun k hk=>by simpa using bE.1 hA k hk,fun k hk=>by simpa using bE.1 hB k hk,fun k hk=>by simpa using bE.1 hC k hk⟩
theorem Valid.scope{l:Lw}(h:Valid l)(k:Nat)(hk:k<l.2.2.length):lA l.2.2[k].1=true/\¬fc (l.2.2.take k) l.2.2[k].1/\¬qQ l k l.2.2[k]/\l.2.2[k].2.2.1.length<=12/\l.2.2[k].2.2.2.1.length<=12/\Iw l l.2.2[k]=none/\
 (∀i,∀hi:i<l.2.2[k].2.2.2.2.length,tn l l.2.2[k] i l.2.2[k].2.2.2.2[i]=0)/\∀d:Nat,d<l.2.2[k].2.2.2.1.length->¬(d:Int)∈IX l.2.2[k] d:=by
 have h:=h.scopes.2.2.2.2.2 k hk;unfold qR at h;rw[ajl hk]at h;dsimp only at h;split at h
 .cases h
 split at h
 .cases h
 split at h
 .cases h
 split at h
 .cases h
 split at h
 .cases h
 rename_i h1 h2 h3 h4 h5;rw[Option.or_eq_none_iff,Option.or_eq_none_iff]at h;refine⟨by simpa using h1,fun g=>h2 (.inr (.inr g)),h3,by omega,by omega,h.1.1,fun i hi=>?_,fun d hd g=>?_⟩
 .have:=bE.1 h.1.2 i hi;unfold Cz at this;rw[ajl hi]at this;dsimp only at this;split at this
  .cases this
  .exact akp.1 ‹_›
 .have:=bE.1 h.2 d hd;unfold Ev at this;rw[if_pos g]at this;cases this
end L
end Go.Proofs.YtmihpkfkbfgigaaGreatDoor
end
section
open _root_.Go.IntKind renaming i64->ajj
open _root_.List renaming getElem?_eq_getElem->ajl,length_cons->ajy,map_cons->akv,mem_cons->ajJ,take_length->ajD
namespace Go.Proofs.YtmihpkfkbfgigaaGreatDoor
open Go Go.RowKit
set_option maxRecDepth 100000
set_option linter.unusedSimpArgs false
namespace L
def fb{α:Type}(p:α->Bool)(l:List α):Int:=if l.findIdx p<l.length then((l.findIdx p:Nat):Int)else-1
theorem Gd{α:Type}{p:α->Bool}{l:List α}{k:Nat}(hk:k<l.length)(hp:p l[k]=true)(hn:∀j,j<k->∀h:j<l.length,p l[j]=false):fb p l=(k:Int):=by
 have h1:l.findIdx p=k:=by
  rcases Nat.lt_trichotomy (l.findIdx p) k with h|h|h
  .have:=hn _ h (by omega);have h2:=List.findIdx_getElem (xs:=l) (p:=p) (w:=by omega);rw[this]at h2;cases h2
  .exact h
  .have:=List.not_of_lt_findIdx h;rw[hp]at this;cases this
 unfold fb;rw[if_pos (by omega),h1]
theorem yw{α:Type}{p:α->Bool}{l:List α}(hn:∀j,∀h:j<l.length,p l[j]=false):fb p l= -1:=by
 unfold fb;rw[if_neg fun h=>?_];have h2:=List.findIdx_getElem (xs:=l) (p:=p) (w:=h);rw[hn _ h]at h2;cases h2
theorem ph{α:Type}{p:α->Bool}{l:List α}:0<=fb p l↔∃x∈l,p x=true:=by
 unfold fb;rw[<-List.findIdx_lt_length]
 split<;>simp_all
theorem wG{α Y:Type}{l:List α}{y:Y}{p:α->Bool}{body:Int×Y->Option ((Int×Y)⊕(Int×Y))}(hl:l.length<=maxLen)
 (hb:∀k,∀h:k<l.length,body ((k:Int),y)=if p l[k]=true then some (.inr ((k:Int),y))else some (.inl (ajj.wrap ((k:Int)+1),y)))
 (he:body ((l.length:Int),y)=some (.inr ((-1:Int),y))):Loop body aE ((0:Int),y)=some (fb p l,y):=by
 apply Wp.eq
 refine Wp.count (fun s=>s.1) l.length (fun k s=>s.2=y/\∀j,j<k->∀h:j<l.length,p l[j]=false) hl rfl ⟨rfl,fun j hj=>by omega⟩ fun k c hk hs hJ=>?_
 obtain⟨c1,c2⟩:=c;obtain⟨h1,hJ⟩:=hJ;obtain rfl:c2=y:=h1;obtain rfl:c1=_:=hs
 rcases Nat.lt_or_ge k l.length with ao|hge
 .rw[hb k ao];simp only[W_,implies_true,forall_const,reduceCtorEq,aY,aP,de hl ao];exact⟨fun h=>by rw[Gd ao h hJ],fun h=>⟨ao,cx hJ fun _=>by simpa using h⟩⟩
 .obtain rfl:k=l.length:=by omega
  rw[he];simp only[W_,implies_true,forall_const,reduceCtorEq,aP];rw[yw fun j h=>hJ j h h]
theorem Ge{α:Type}{l:List α}{p:α->Bool}{body:Int->Option (Int⊕Int)}(hl:l.length<=maxLen)
 (hb:∀k,∀h:k<l.length,body (k:Int)=if p l[k]=true then some (.inr (k:Int))else some (.inl (ajj.wrap ((k:Int)+1))))
 (he:body (l.length:Int)=some (.inr (-1:Int))):Loop body aE (0:Int)=some (fb p l):=by
 apply Wp.eq
 refine Wp.count (fun s=>s) l.length (fun k _=>∀j,j<k->∀h:j<l.length,p l[j]=false) hl rfl (fun j hj=>by omega) fun k c hk hs hJ=>?_
 obtain rfl:c=_:=hs
 rcases Nat.lt_or_ge k l.length with ao|hge
 .rw[hb k ao];simp only[W_,implies_true,forall_const,reduceCtorEq,aY,aP,de hl ao];exact⟨fun h=>by rw[Gd ao h hJ],fun h=>⟨ao,cx hJ fun _=>by simpa using h⟩⟩
 .obtain rfl:k=l.length:=by omega
  rw[he];simp only[W_,implies_true,forall_const,reduceCtorEq,aP];rw[yw fun j h=>hJ j h h]
theorem pj{e:Row}{l:List e.den}{x:e.den}(h:x∈l):db e x<=db (.slice e) l:=by
 show db e x<=(l.map (db e)).sum+1
 induction l with
 |nil=>cases h
 |cons y l ih=>
  rw[akv,List.sum_cons]
  rcases ajJ.1 h with rfl|h
  .omega
  .have:=ih h;omega
theorem jc{e:Row}(l:List e.den):l.length<=db (.slice e) l:=by
 show l.length<=(l.map (db e)).sum+1
 induction l with
 |nil=>simp
 |cons y l ih=>
  rw[akv,List.sum_cons,ajy];have:=Ar e y;omega
structure Oa(l:Lw):Prop where
 en:∀e∈l.1,e.2.length<=1048576
 tb:∀t∈l.2.1,t.2.2.2.length<=1048576
 ru:∀s∈l.2.2,∀r∈s.2.2.2.2,r.2.2.2.2.2.1.length<=1048576/\r.2.2.2.2.2.2.1.length<=1048576
 en':l.1.length<=1048576
 tb':l.2.1.length<=1048576
 sc':l.2.2.length<=1048576
 sc:∀s∈l.2.2,s.2.2.1.length<=1048576/\s.2.2.2.1.length<=1048576/\s.2.2.2.2.length<=1048576
theorem Oa.of{l:Lw}(h:db cF l<=1048576):Oa l:=by
 have e1:db cF l=db (.slice bp) l.1+(db (.slice ay) l.2.1+db (.slice aB) l.2.2):=rfl;rw[e1]at h;refine⟨fun e he=>?_,fun t ht=>?_,fun s hs r hr=>?_,?_,?_,?_,fun s hs=>?_⟩
 .have h1:=pj he;have h2:=jc (e:= .str) e.2;have h3:db bp e=db .str e.1+db (.slice .str) e.2:=rfl;omega
 .have h1:=pj ht;have h2:=jc (e:=dJ) t.2.2.2;have h3:db ay t=db .str t.1+(db aa t.2.1+(db aa t.2.2.1+db (.slice dJ) t.2.2.2)):=rfl;omega
 .have h1:=pj hs;have h3:db aB s=db .str s.1+(db ae s.2.1+(db (.slice aN) s.2.2.1+(db (.slice aN) s.2.2.2.1+db (.slice aZ) s.2.2.2.2))):=rfl;have h4:=pj hr;have h5:=jc (e:=aa) r.2.2.2.2.2.1;have h6:=jc (e:=aa) r.2.2.2.2.2.2.1;have h7:db aZ r=db .str r.1+(db ae r.2.1+(db ae r.2.2.1+(db ae r.2.2.2.1+(db aa r.2.2.2.2.1+(db (.slice aa) r.2.2.2.2.2.1+(db (.slice aa) r.2.2.2.2.2.2.1+db .str r.2.2.2.2.2.2.2)))))):=rfl;omega
 .have:=jc (e:=bp) l.1;omega
 .have:=jc (e:=ay) l.2.1;omega
 .have:=jc (e:=aB) l.2.2;omega
 .have h1:=pj hs;have h3:db aB s=db .str s.1+(db ae s.2.1+(db (.slice aN) s.2.2.1+(db (.slice aN) s.2.2.2.1+db (.slice aZ) s.2.2.2.2))):=rfl;have h5:=jc (e:=aN) s.2.2.1;have h6:=jc (e:=aN) s.2.2.2.1;have h7:=jc (e:=aZ) s.2.2.2.2;omega
theorem Gf{α β:Type}(l:List α)(F:α->β){body:Int×List β->Option ((Int×List β)⊕List β)}(hl:l.length<=4294967296)
 (hb:∀k,∀h:k<l.length,∀o:List β,o.length=k->body ((k:Int),o)=some (.inl (ajj.wrap ((k:Int)+1),o++[F l[k]])))
 (he:∀o:List β,body ((l.length:Int),o)=some (.inr o)):Loop body aE ((0:Int),[])=some (l.map F):=by
 have LN:l.length<aE:=by unfold aE;omega
 refine zI (fun k=>((k:Int),(l.take k).map F)) l.length _ (by simp) (fun k hk=>?_) (by rw[he,ajD]) LN;rw[hb k hk _ (by simp;omega),de (m:=l.length) (by omega) hk,List.take_add_one,ajl hk,List.map_append];rfl
theorem CC{α β S X:Type}(l:List α)(F:α->β)(mk:Int->List β->S)(out:List β->X){body:S->Option (S⊕X)}(hl:l.length<=4294967296)
 (hb:∀k,∀h:k<l.length,∀o:List β,o.length=k->body (mk (k:Int) o)=some (.inl (mk (ajj.wrap ((k:Int)+1)) (o++[F l[k]]))))
 (he:∀o:List β,body (mk (l.length:Int) o)=some (.inr (out o))):Loop body aE (mk (0:Int) [])=some (out (l.map F)):=by
 have LN:l.length<aE:=by unfold aE;omega
 refine zI (fun k=>mk (k:Int) ((l.take k).map F)) l.length _ (by simp) (fun k hk=>?_) (by rw[he,ajD]) LN;rw[hb k hk _ (by simp;omega),de (m:=l.length) (by omega) hk,List.take_add_one,ajl hk,List.map_append];rfl
theorem tt{α:Type}{x:α}:vI (some x) (some x)=some x:=by
 unfold vI;simp
end L
end Go.Proofs.YtmihpkfkbfgigaaGreatDoor
end
