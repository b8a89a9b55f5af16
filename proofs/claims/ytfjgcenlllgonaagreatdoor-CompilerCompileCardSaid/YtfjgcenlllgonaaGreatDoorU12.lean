/- Joined texts: PQ3 PQ4 PQ5 PQ6 PQ7 PQ8 P28 KO KP KP2 KP3. -/
import Derived.Test.YtfjgcenlllgonaaGreatDoorU11
import Derived.Test.YtfjgcenlllgonaaGreatDoorU1
open _root_.Bool renaming false->ag,true->af,false_eq_true->aoC,not_false->apd,not_true->aoX,eq_iff_iff->aoO
open _root_.Option renaming some->aa,none->ae,bind_some->aoy,getD_some->ao8,bind_eq_some_iff->ao6,bind_assoc->apv
open _root_.List renaming append_assoc->ape,getElem?_eq_some_iff->aoI,length_append->aoH,take_length->ao3,take_succ_eq_append_getElem->apf,drop_eq_getElem_cons->ao2,getElem?_append_left->apc,getElem?_append_right->apk,getElem?_eq_getElem->aoA,getElem_append_right->ao1,getElem_mem->aoG,length_map->ao5,length_take->ao0,map_append->apj,mem_append->ao7,mem_singleton->aoY,set_append_right->apw,getElem?_drop->apx,getElem?_map->apD,length_eq_zero_iff->apL,length_singleton->aoT,mem_map->apY,mem_of_getElem?->apW,getElem_of_mem->aoS,append_nil->apq,getD->apb,replicate->aoE,replicate_succ->apr,getElem_map->apB,length_set->ap6,range->ap1,all_eq_true->aqf
open _root_.Nat renaming zero_le->aoR,le_refl->aoJ,min_eq_left->apC,lt_or_ge->aph
open _root_.Option.some renaming inj->aoB
open _root_.Int renaming tdiv->aoM,tdiv_eq_ediv_of_nonneg->aoN,tmod->aoP,tmod_eq_emod_of_nonneg->aoQ,toNat_natCast->aoF,lt_or_le->apZ
open _root_.Go.IntKind renaming i64->aoz
open _root_.Sum renaming inl->ao4,inr->aoV
open _root_.Sum.inl renaming inj->aqn
namespace Go.Proofs.YtfjgcenlllgonaaGreatDoor
open Go Go.RowKit
set_option maxRecDepth 100000
set_option linter.unusedSimpArgs false
set_option linter.unusedVariables false
set_option linter.defProp false
section
namespace L.P.Q
theorem nat_eq{u t:Nat}{x:Int}(h1:x=u)(h2:x=t):u=t:=by omega
def mh(n:Ty):Prop:=50<=(n.1:Int)/\(n.1:Int)<=53
instance(n:Ty):Decidable (mh n):=by unfold mh;infer_instance
def CC(n:Ty):Prop:=(n.1:Int)=50\/(n.1:Int)=52\/(n.1:Int)=53
theorem CC.mh{n:Ty}(h:CC n):mh n:=by
 obtain⟨(o:Int),(m:Int)⟩:=n;unfold CC at h;unfold L.P.Q.mh;dsimp only[aB,Row.den]at*;omega
theorem uS{n:Ty}(h:(n.1:Int)=51):mh n:=by
 obtain⟨(o:Int),(m:Int)⟩:=n;unfold mh;dsimp only[aB,Row.den]at*;omega
theorem oe{n:Ty}(h:mh n):(n.1:Int)=51\/CC n:=by
 obtain⟨(o:Int),(m:Int)⟩:=n;unfold mh at h;unfold CC;dsimp only[aB,Row.den]at*;omega
theorem qI{n:Ty}(h:CC n):¬(n.1:Int)=51:=by
 obtain⟨(o:Int),(m:Int)⟩:=n;unfold CC at h;dsimp only[aB,Row.den]at*;omega
theorem GX{n:Ty}(h:mh n):¬cH n.1:=by
 obtain⟨(o:Int),(m:Int)⟩:=n;unfold mh at h;unfold cH;dsimp only[aB,Row.den]at*;omega
section
variable {a b:List Ty} {env:cz.den} {p:Nat} {S:List Vl} {r:Vl×Int} {n:Ty}
theorem gK.Xl(hr:gK a env p S r)(hp:p=a.length):∃v S',S=v::S'/\r=(v,0):=by
 have no:∀{n:Ty},a[p]? =aa n->False:=λ{n}h=>by subst hp;simp at h
 cases hr with
 |done=>exact⟨_,_,rfl,rfl⟩
 |jump h=>exact(no h).elim
 |op h=>exact(no h).elim
 |fail h=>exact(no h).elim
 |cond h=>exact(no h).elim
 |cbad h=>exact(no h).elim
theorem gK.QL(hr:gK a env p S r)(hn:a[p]? =aa n)(hj:¬mh n):∃k:Nat,ar n.1=k/\k<=S.length/\
 (((qK env n (S.drop (S.length-k))).2=0/\gK a env (p+1) (S.take (S.length-k)++[(qK env n (S.drop (S.length-k))).1]) r)\/((qK env n (S.drop (S.length-k))).2≠0/\r=(z3,(qK env n (S.drop (S.length-k))).2))):=by
 cases hr with
 |done=>simp at hn
 |jump h nJ=>obtain rfl:=aoB (h.symm.trans hn);exact absurd (uS nJ) hj
 |op h dS ha hs h0 next=>obtain rfl:=aoB (h.symm.trans hn);exact⟨_,ha,hs, .inl ⟨h0,next⟩⟩
 |fail h dS ha hs h0=>obtain rfl:=aoB (h.symm.trans hn);exact⟨_,ha,hs, .inr ⟨h0,rfl⟩⟩
 |cond h gx=>obtain rfl:=aoB (h.symm.trans hn);exact absurd (CC.mh gx) hj
 |cbad h gx=>obtain rfl:=aoB (h.symm.trans hn);exact absurd (CC.mh gx) hj
theorem gK.KX(hr:gK a env p S r)(hn:a[p]? =aa n)(nJ:(n.1:Int)=51):∃t:Nat,(n.2:Int)=t/\p<t/\t<=a.length/\gK a env t S r:=by
 cases hr with
 |done=>simp at hn
 |jump h _ ht TH Hi next=>obtain rfl:=aoB (h.symm.trans hn);exact⟨_,ht,TH,Hi,next⟩
 |op h dS=>obtain rfl:=aoB (h.symm.trans hn);exact absurd (uS nJ) dS
 |fail h dS=>obtain rfl:=aoB (h.symm.trans hn);exact absurd (uS nJ) dS
 |cond h gx=>obtain rfl:=aoB (h.symm.trans hn);exact absurd nJ (qI gx)
 |cbad h gx=>obtain rfl:=aoB (h.symm.trans hn);exact absurd nJ (qI gx)
def DE(top:Vl):Prop:=(top.1:Int)=1/\((top.2.2:Int)=0\/(top.2.2:Int)=1)
theorem gK.TJ(hr:gK a env p S r)(hn:a[p]? =aa n)(hc:CC n):∃S' top,S=S'++[top]/\((¬DE top/\r=(z3,8))\/
 (DE top/\∃t:Nat,(n.2:Int)=t/\p<t/\t<=a.length/\gK a env (if KW n top=af then t else p+1) (if KW n top=ag\/(n.1:Int)=50 then S' else S'++[top]) r)):=by
 cases hr with
 |done=>simp at hn
 |jump h nJ=>obtain rfl:=aoB (h.symm.trans hn);exact absurd nJ (qI hc)
 |op h dS=>obtain rfl:=aoB (h.symm.trans hn);exact absurd (CC.mh hc) dS
 |fail h dS=>obtain rfl:=aoB (h.symm.trans hn);exact absurd (CC.mh hc) dS
 |cond h gx ht TH Hi hk hv next=>obtain rfl:=aoB (h.symm.trans hn);exact⟨_,_,rfl, .inr ⟨⟨hk,hv⟩,_,ht,TH,Hi,next⟩⟩
 |cbad h gx hk=>obtain rfl:=aoB (h.symm.trans hn);exact⟨_,_,rfl, .inl ⟨hk,rfl⟩⟩
theorem gK.lit{v:Vl}(hr:gK a env p S r)(hn:a[p]? =aa n)(hj:¬mh n)(h0:ar n.1=0)(hv:qK env n []=(v,0)):gK a env (p+1) (S++[v]) r:=by
 obtain⟨k,h1,h2,h3⟩:=hr.QL hn hj
 obtain rfl:k=0:=by omega
 rw[Nat.sub_zero,List.drop_length,ao3,hv]at h3
 rcases h3 with h3|h3
 .exact h3.2
 .exact absurd rfl h3.1
theorem gK.opI{vs:List Vl}{v:Vl}(hr:gK a env p (S++vs) r)(hn:a[p]? =aa n)(hj:¬mh n)(h0:ar n.1=(vs.length:Int))(hv:qK env n vs=(v,0)):gK a env (p+1) (S++[v]) r:=by
 obtain⟨k,h1,h2,h3⟩:=hr.QL hn hj
 obtain rfl:k=vs.length:=by omega
 rw[aoH,Nat.add_sub_cancel,List.drop_left,List.take_left,hv]at h3
 rcases h3 with h3|h3
 .exact h3.2
 .exact absurd rfl h3.1
end
inductive Rx(a b:List Ty)(R:Nat->Nat->Prop)(p q:Nat):Prop
 |op {n:Ty} (ha:a[p]? =aa n) (hb:b[q]? =aa n) (hn:¬mh n) (hr:R (p+1) (q+1)):Rx a b R p q
 |jump {n n':Ty} {t t':Nat} (ha:a[p]? =aa n) (hb:b[q]? =aa n') (h1:(n.1:Int)=51) (h2:(n'.1:Int)=51) (e1:(n.2:Int)=t) (e2:(n'.2:Int)=t') (hq:q<t') (hr:R t t'):Rx a b R p q
 |cond {n n':Ty} {t t':Nat} (ha:a[p]? =aa n) (hb:b[q]? =aa n') (h1:CC n) (h2:(n'.1:Int)=n.1) (e1:(n.2:Int)=t) (e2:(n'.2:Int)=t') (hq:q<t') (hr:R t t') (hs:R (p+1) (q+1)):Rx a b R p q
 |block {k:Nat} {n m:Ty} {vs:List Vl} {v:Vl} (hl:∀j,j<k->∃x y,a[p+j]? =aa x/\vs[j]? =aa y/\¬mh x/\ar x.1=0/\∀env,qx env->qK env x []=(y,0)) (hk:vs.length=k) (hn:a[p+k]? =aa n) (hj:¬mh n) (ha:ar n.1=k)
   (hv:∀env,qx env->qK env n vs=(v,0)) (hm:b[q]? =aa m) (UZ:¬mh m) (ham:ar m.1=0) (QK:¬cH m.1) (hvm:∀env,qx env->qK env m []=(v,0)) (hr:R (p+k+1) (q+1)):Rx a b R p q
structure TK(a b:List Ty)(F F':List Int)(R:Nat->Nat->Prop):Prop where
 fits:Fits a F
 pos:0<b.length
 le:b.length<=128
 len:F'.length=b.length+1
 bd:Bd F'
 dep:∀p q,R p q->0<=gd F p/\p<=a.length/\q<=b.length/\gd F' q=gd F p
 st:∀p q,R p q->(p=a.length/\q=b.length)\/Rx a b R p q\/∃(n:Ty)(t:Nat),a[p]? =aa n/\(n.1:Int)=51/\(n.2:Int)=t/\R t q
 back:∀q,q<b.length->0<=gd F' q->∃p,R p q/\Rx a b R p q
 zero:R 0 0
 fin:R a.length b.length
section
variable {a b:List Ty} {F F':List Int} {R:Nat->Nat->Prop}
theorem Fits.at(f:Fits a F){p:Nat}{n:Ty}(hn:a[p]? =aa n)(h0:0<=gd F p):lF a.length F p n/\¬cH n.1:=by
 obtain⟨h,rfl⟩:=aoI.1 hn;exact f.step p h h0
theorem Fits.op(f:Fits a F){p:Nat}{n:Ty}(hn:a[p]? =aa n)(hj:¬mh n)(h0:0<=gd F p):0<=ar n.1/\ar n.1<=gd F p/\gd F (p+1)=gd F p-ar n.1+1/\gd F p-ar n.1+1<=12/\¬cH n.1:=by
 obtain⟨h1,h2⟩:=f.at hn h0
 rcases h1 with⟨h,_⟩|⟨h,_⟩|⟨_,_,g1,g2,g3,g4⟩
 .exact absurd (uS h) hj
 .exact absurd (CC.mh h) hj
 .exact⟨g1,g2,g3,g4,h2⟩
theorem vv(f:Fits a F){p:Nat}(h0:0<=gd F p):∀(k:Nat),(∀j,j<k->∃x:Ty,a[p+j]? =aa x/\¬mh x/\ar x.1=0)->gd F (p+k)=gd F p+k
 |0,_=>by simp
 |k+1,h=>by
  have ih:=vv f h0 k λj hj=>h j (by omega)
  obtain⟨x,h1,h2,h3⟩:=h k (by omega);obtain⟨_,_,g,_⟩:=f.op h1 h2 (by omega);rw[<-Nat.add_assoc,g];omega
theorem TK.to(s:TK a b F F' R):Fits b F':=by
 refine⟨s.pos,s.le,s.len,s.bd,?_,?_,λq hq h0=>?_⟩
 .rw[(s.dep _ _ s.zero).2.2.2];exact s.fits.first
 .rw[(s.dep _ _ s.fin).2.2.2];exact s.fits.last
 obtain⟨p,hR,g⟩:=s.back q hq h0;obtain⟨d1,d2,d3,d4⟩:=s.dep p q hR
 cases g with
 | @op n ha hb hn hr=>
   have e:b[q]=n:=(aoI.1 hb).2;obtain⟨g1,g2,g3,g4,g5⟩:=s.fits.op ha hn d1;obtain⟨_,_,_,d5⟩:=s.dep _ _ hr;rw[e];exact⟨.inr (.inr ⟨λh=>hn (uS h),λh=>hn (CC.mh h),g1,by omega,by omega,by omega⟩),g5⟩
 | @jump n n' t t' ha hb h1 h2 e1 e2 uH hr=>
   have e:b[q]=n':=(aoI.1 hb).2;obtain⟨g1,_⟩:=s.fits.at ha d1;obtain⟨_,_,c3,d5⟩:=s.dep _ _ hr;rw[e];refine⟨.inl ⟨h2,t',e2,uH,c3,?_⟩,GX (uS h2)⟩
   rcases g1 with⟨_,u,u1,u2,u3,u4⟩|⟨h,_⟩|⟨h,_⟩
   .have:u=t:=nat_eq u1 e1;subst this;omega
   .exact absurd h1 (qI h)
   .exact absurd h1 h
 | @cond n n' t t' ha hb h1 h2 e1 e2 uH hr hs=>
   have e:b[q]=n':=(aoI.1 hb).2;obtain⟨g1,_⟩:=s.fits.at ha d1;obtain⟨_,_,c3,d5⟩:=s.dep _ _ hr;obtain⟨_,_,_,d6⟩:=s.dep _ _ hs
   have Ef:CC n':=by unfold CC;rw[h2];exact h1
   rw[e];refine⟨.inr (.inl ⟨Ef,?_⟩),GX Ef.mh⟩
   rcases g1 with⟨h,_⟩|⟨_,g2,g3,u,u1,u2,u3,u4⟩|⟨_,h,_⟩
   .exact absurd h (qI h1)
   .have:u=t:=nat_eq u1 e1;subst this;refine⟨by omega,by omega,t',e2,uH,c3,?_⟩;rw[d5,u4,d4,h2]
   .exact absurd h1 h
 | @block k n m vs v hl hk hn hj ha hv hm UZ ham QK hvm hr=>
   have e:b[q]=m:=(aoI.1 hm).2
   have hd:=vv s.fits d1 k λj hj=>by
    obtain⟨x,_,x1,_,x2,x3,_⟩:=hl j hj;exact⟨x,x1,x2,x3⟩
   obtain⟨g1,g2,g3,g4,_⟩:=s.fits.op hn hj (by omega);obtain⟨_,_,_,d5⟩:=s.dep _ _ hr;rw[e];exact⟨.inr (.inr ⟨λh=>UZ (uS h),λh=>UZ (CC.mh h),by omega,by omega,by omega,by omega⟩),QK⟩
theorem gK.lits{env:cz.den}{p:Nat}{S:List Vl}{r:Vl×Int}{vs:List Vl}:∀(k:Nat),k<=vs.length->(∀j,j<k->∃(x:Ty)(y:Vl),a[p+j]? =aa x/\vs[j]? =aa y/\¬mh x/\ar x.1=0/\qK env x []=(y,0))->gK a env p S r->gK a env (p+k) (S++vs.take k) r
 |0,_,_,h=>by simpa using h
 |k+1,hk,hl,h=>by
  have ih:=gK.lits k (by omega) (λj hj=>hl j (by omega)) h;obtain⟨x,y,h1,h2,h3,h4,h5⟩:=hl k (by omega);have:=ih.lit h1 h3 h4 h5
  have e:vs.take (k+1)=vs.take k++[y]:=by
   obtain⟨aJ,rfl⟩:=aoI.1 h2;exact apf aJ
  rw[e,<-ape];exact this
theorem TK.runs(s:TK a b F F' R){env:cz.den}(he:qx env){r:Vl×Int}:∀(m p q:Nat)(S:List Vl),a.length-p=m->R p q->gK a env p S r->gK b env q S r:=by
 intro m
 induction m using Nat.strongRecOn with
 |_ m ih=>
  intro p q S hm hR hr
  have XW:∀p' q' S',p<p'->R p' q'->gK a env p' S' r->gK b env q' S' r:=λp' q' S' h hR'=>by
   have:=(s.dep p' q' hR').2.1;exact ih (a.length-p') (by omega) p' q' S' rfl hR'
  rcases s.st p q hR with⟨e1,e2⟩|g|⟨n,t,ha,nJ,ht,hR'⟩
  .obtain⟨v,S',rfl,rfl⟩:=hr.Xl e1;rw[e2];exact .done
  .cases g with
   | @op n ha hb hn yZ=>
     obtain⟨k,h1,h2,h3⟩:=hr.QL ha hn
     rcases h3 with⟨h3,h4⟩|⟨h3,rfl⟩
     .exact .op hb hn h1 h2 h3 (XW _ _ _ (by omega) yZ h4)
     .exact .fail hb hn h1 h2 h3
   | @jump n n' t t' ha hb h1 h2 e1 e2 uH yZ=>
     obtain⟨u,u1,u2,u3,u4⟩:=hr.KX ha h1;have:u=t:=nat_eq u1 e1;subst this;exact .jump hb h2 e2 uH (s.dep _ _ yZ).2.2.1 (XW _ _ _ u2 yZ u4)
   | @cond n n' t t' ha hb h1 h2 e1 e2 uH yZ hs=>
     have Ef:CC n':=by unfold CC;rw[h2];exact h1
     obtain⟨S',top,rfl,h3⟩:=hr.TJ ha h1
     rcases h3 with⟨h3,rfl⟩|⟨h3,u,u1,u2,u3,u4⟩
     .exact .cbad hb Ef h3
     .have:u=t:=nat_eq u1 e1;subst this
      have ej:KW n' top=KW n top:=by unfold KW;rw[h2]
      refine .cond hb Ef e2 uH (s.dep _ _ yZ).2.2.1 h3.1 h3.2 ?_;rw[ej,h2];by_cases hj:KW n top=af
      .rw[aj hj]at u4⊢;exact XW _ _ _ u2 yZ u4
      .rw[ai hj]at u4⊢;exact XW _ _ _ (by omega) hs u4
   | @block k n m vs v hl hk hn hj ha hv hm UZ ham QK hvm yZ=>
     have h1:=gK.lits (vs:=vs) k (by omega) (λj hj=>by
      obtain⟨x,y,x1,x2,x3,x4,x5⟩:=hl j hj
      exact⟨x,y,x1,x2,x3,x4,x5 env he⟩) hr
     rw[List.take_of_length_le (by omega)]at h1;have h2:=h1.opI hn hj (by rw[ha,hk]) (hv env he);have h3:=XW _ _ _ (by omega) yZ h2;have e:=hvm env he;refine .op (a:=0) hm UZ (by rw[ham];rfl) (aoR _) ?_ ?_
     .rw[Nat.sub_zero,List.drop_length,e]
     .rw[Nat.sub_zero,List.drop_length,ao3,e];exact h3
  .obtain⟨u,u1,u2,u3,u4⟩:=hr.KX ha nJ;have:u=t:=nat_eq u1 ht;subst this;exact XW _ _ _ u2 hR' u4
end
structure sd(a b:List Ty):Prop where
 fits:∃F,Fits b F
 le:b.length<=a.length
 wf:∀n∈b,WF aA n
 runs:∀env,qx env->∀r,gK a env 0 [] r->gK b env 0 [] r
theorem sd.trans{a b c:List Ty}(h:sd a b)(k:sd b c):sd a c:=⟨k.fits,Nat.le_trans k.le h.le,k.wf,λenv he r hr=>k.runs env he r (h.runs env he r hr)⟩
theorem TK.same{a b:List Ty}{F F':List Int}{R:Nat->Nat->Prop}(s:TK a b F F' R)(hl:b.length<=a.length)(hw:∀n∈b,WF aA n):sd a b:=
 ⟨⟨F',s.to⟩,hl,hw,λ_ he _ hr=>s.runs he _ 0 0 [] rfl s.zero hr⟩
end L.P.Q
end
namespace L.P.Q
theorem gM(N:Nat)(op:Int):M.eh N op=aa (decide (50<=op/\op<=53)):=by
 unfold M.eh
 by_cases h:50<=op<;>simp[h]
def e0:cz.den:=((0,[],[],[],[],[]):Int×List Vl×List Vl×List (List Vl)×List Ty×List aP.den)
theorem xZ:qx e0:=⟨by decide,λt h=>by cases h⟩
theorem KY{n:Ty}{args:List Vl}{env:cz.den}(he:qx env)(hn:WF aA n)(hl:args.length<=100000):Wp (M.cr aG n args env) λr=>r.2=0->(args.length:Int)=ar n.1/\∀v∈args,bz v.1 v.2.1 v.2.2:=by
 obtain⟨op,m⟩:=n;have hm:=hn.2;unfold M.cr
 refine Wp.seq (λj=>j=ag->Fm op m/\(args.length:Int)=ar op) ?_ λj hj=>?_
 .refine Wp.seq _ (uv ..) λy hy=>?_
  refine Wp.ite (λ_=> .some λh=>by cases h) λhc=>?_
  rw[eJ]
  exact .some λh=>⟨hy (by simpa using hc),by simpa using h⟩
 refine Wp.ite (λ_=> .some λh=>absurd h (by decide)) λhc=>?_
 obtain⟨hf,ha⟩:=hj (by simpa using hc)
 refine Wp.seq _ (xx ..) λy hy=>?_
 refine Wp.ite (λ_=> .some λh=>absurd h (by decide)) λCO=>?_
 have hx:=hy (by simpa using CO)
 have Ku:op=34->0<=aoz.wrap (aoM m 8):=λe=>by
  have h0:=(hf.2.2.1 e).1;have h1:(m:Int)<=9223372036854775807:=hm.2;rw[aoN h0];dsimp only[aB,Row.den]at h0 h1⊢;rw[aE (by omega) (by omega)];omega
 refine Wp.seq (λj=>j=ag->Aws op m env/\∀v∈args,bz v.1 v.2.1 v.2.2) ?_ λj5 hj5=>?_
 .refine Wp.seq _ (GL _ hl (by unfold aG;omega)) λy hy=>?_
  refine Wp.ite (λ_=> .some λh=>by cases h) λhc=>?_
  exact Wp.seq _ (As hx ha Ku) λz hz=> .some λh=>⟨hz (by simpa using h),hy (by simpa using hc)⟩
 refine Wp.ite (λ_=> .some λh=>absurd h (by decide)) λSe=>?_
 obtain⟨haw,pU⟩:=hj5 (by simpa using Se)
 refine Wp.seq _ (Au he hf hx ha haw Ku) λr hr=>?_
 refine Wp.uA (λ_=> .some λ_=>⟨ha,pU⟩) λ_=>?_
 rw[da];simp only[aoy]
 exact Wp.uA (λ_=> .some λ_=>⟨ha,pU⟩) λhp=> .some λ_=>⟨ha,pU⟩
theorem TL{op m:Int}(h:op=33\/op=34)(hm:m<=9223372036854775807)(args:List Vl):Wp (M.cr aG ((op,m):Int×Int) args e0) λr=>r.2≠0:=by
 unfold M.cr
 refine Wp.seq (λj=>j=ag->Fm op m) ?_ λj hj=>?_
 .refine Wp.seq _ (uv ..) λy hy=>?_
  refine Wp.ite (λ_=> .some λh=>by cases h) λhc=>?_
  rw[eJ]
  exact .some λ_=>hy (by simpa using hc)
 refine Wp.ite (λ_=> .some (by decide)) λhc=>?_
 have hf:=hj (by simpa using hc)
 have he:M.fi aG ((op,m):Int×Int) e0=aa ag:=by
  unfold M.fi
  rcases h with rfl|rfl
  .by_cases h0:0<=m
   .simp[e0,h0];exact aq (Int.not_lt.2 h0)
   .simp[h0]
  .have h0:=(hf.2.2.1 rfl).1
   have hw:aoz.wrap (aoM m 8)=m/8:=by
    rw[aoN h0,aE (by omega) (by omega)]
   simp[e0,hw];omega
 rw[he];simp only[aoy,apd,if_true];exact .some (by decide)
theorem Xm{n:Ty}(hn:WF aA n)(h1:1<=ar n.1){args:List Vl}(h0:(qK e0 n args).2=0)(env:cz.den):qK env n args=qK e0 n args:=by
 obtain⟨(op:Int),(m:Int)⟩:=n;by_cases h:op=33\/op=34
 .obtain⟨r,hr,dS⟩:=TL h hn.2.2 args;unfold qK at h0;rw[hr]at h0;exact absurd h0 dS
 .have ha:10<=op/\op<=32:=by
   revert h1
   show 1<=ar op->_
   unfold ar;intro h1;split at h1
   .omega
   .omega
  have ne:∀k:Int,(k<=9\/33<=k)->decide (op=k)=ag:=λk hk=>aq (by omega)
  have e:M.cr aG ((op,m):Int×Int) args env=M.cr aG ((op,m):Int×Int) args e0:=by
   unfold M.cr M.fi M.bT M.bW;simp only[ne 1 (by omega),ne 2 (by omega),ne 3 (by omega),ne 4 (by omega),ne 5 (by omega),ne 6 (by omega),ne 7 (by omega),ne 8 (by omega),ne 9 (by omega),ne 33 (by omega),ne 34 (by omega),ne 35 (by omega),ne 36 (by omega),ne 37 (by omega),ne 38 (by omega),ne 39 (by omega),aoC,if_false,aoy]
  unfold qK;exact aw (λx=>x.getD (z3,0)) e
def pX(n:Ty):Option Vl:=
 if 1<=(n.1:Int)/\(n.1:Int)<=5 then aa ((n.1,0,n.2):Int×Int×Int)else if(n.1:Int)=6/\0<=(n.2:Int)/\(n.2:Int)<128 then aa ((6,(n.2:Int)/16,(n.2:Int)%16):Int×Int×Int)else ae
def pY(v:Vl):Ty:=if 1<=(v.1:Int)/\(v.1:Int)<=5 then((v.1,v.2.2):Int×Int)else((6,16*(v.2.1:Int)+v.2.2):Int×Int)
theorem o6(N:Nat)(n:Ty):M.dh N n=aa (match pX n with
 |some v=>(v,af)
 |none=>(z3,ag)):=by
 obtain⟨(op:Int),(m:Int)⟩:=n;unfold M.dh pX bx;dsimp only[aB,Row.den];by_cases h1:op=1
 .subst h1;simp
 by_cases h2:op=2
 .subst h2;simp
 by_cases h3:op=3
 .subst h3;simp
 by_cases h4:op=4
 .subst h4;simp
 by_cases h5:op=5
 .subst h5;simp
 rw[ai (show¬(1<=op/\op<=5) by omega)];by_cases h6:op=6
 .subst h6;by_cases h7:0<=m
  .by_cases h8:m<128
   .have w:aoz.wrap (aoM m 16)=m/16:=by rw[aoN h7,aE (by omega) (by omega)]
    have w2:aoP m 16=m%16:=aoQ h7;simp[h7,h8,w,w2]
   .simp[h7,h8,z3]
  .simp[h7,z3]
 .simp[h1,h2,h3,h4,h5,h6,z3]
theorem ya{k e n:Int}(h:bz k e n):((1<=k/\k<=5)/\e=0/\-1000000000000000<=n/\n<=1000000000000000)\/(k=6/\0<=e/\e<=7/\0<=n/\n<=15):=by
 unfold bz at h;omega
theorem Bu(N:Nat){v:Vl}(hp:bz v.1 v.2.1 v.2.2):M.dP N v=aa (pY v):=by
 obtain⟨(k:Int),(e:Int),(n:Int)⟩:=v;unfold M.dP pY;dsimp only[aB,Row.den]at*;by_cases h1:k=1
 .subst h1;simp
 by_cases h2:k=2
 .subst h2;simp
 by_cases h3:k=3
 .subst h3;simp
 by_cases h4:k=4
 .subst h4;simp
 by_cases h5:k=5
 .subst h5;simp
 rcases ya hp with h|⟨h6,h7,h8,h9,h10⟩
 .omega
 .have w1:aoz.wrap (16*e)=16*e:=aE (by omega) (by omega);have w2:aoz.wrap (16*e+n)=16*e+n:=aE (by omega) (by omega);rw[ai (show¬(1<=k/\k<=5) by omega)];simp[h1,h2,h3,h4,h5,w1,w2]
theorem tI{n:Ty}{v:Vl}(h:pX n=aa v):¬mh n/\ar n.1=0/\¬cH n.1:=by
 obtain⟨(op:Int),(m:Int)⟩:=n
 have:1<=op/\op<=6:=by
  unfold pX at h;dsimp only[aB,Row.den]at h;split at h
  .omega
  .split at h
   .omega
   .cases h
 refine⟨?_,?_,?_⟩
 .show¬(50<=op/\op<=53);omega
 .show ar op=0
  unfold ar;rw[aj (by omega)]
 .show¬(op=23\/op=24\/op=26);omega
theorem D5{v:Vl}(hp:bz v.1 v.2.1 v.2.2):pX (pY v)=aa v/\WF aA (pY v):=by
 obtain⟨(k:Int),(e:Int),(n:Int)⟩:=v;dsimp only[aB,Row.den]at hp
 rcases ya hp with⟨h1,rfl,h3,h4⟩|⟨rfl,h7,h8,h9,h10⟩
 .have e1:pY ((k,0,n):Int×Int×Int)=((k,n):Int×Int):=by unfold pY;dsimp only[aB,Row.den];rw[aj h1]
  rw[e1];refine⟨by unfold pX;dsimp only[aB,Row.den];rw[aj h1],⟨?_,?_⟩,?_,?_⟩
  .show(-9223372036854775808:Int)<=k;omega
  .show k<=(9223372036854775807:Int);omega
  .show(-9223372036854775808:Int)<=n;omega
  .show n<=(9223372036854775807:Int);omega
 .have e1:pY ((6,e,n):Int×Int×Int)=((6,16*e+n):Int×Int):=by unfold pY;dsimp only[aB,Row.den];rw[ai (by decide)]
  rw[e1];refine⟨?_,⟨?_,?_⟩,?_,?_⟩
  .unfold pX;dsimp only[aB,Row.den];rw[ai (by decide),aj ⟨rfl,by omega,by omega⟩,show(16*e+n)/16=e by omega,show(16*e+n)%16=n by omega]
  .show(-9223372036854775808:Int)<=6;decide
  .show(6:Int)<=9223372036854775807;decide
  .show(-9223372036854775808:Int)<=16*e+n;omega
  .show 16*e+n<=(9223372036854775807:Int);omega
theorem TM{op m:Int}(gx:op=1\/op=2\/op=3\/op=4\/op=5\/op=6)(h6:op=6->0<=m/\m<128){v:Vl}(hv:pX ((op,m):Int×Int)=aa v)(hp:bz v.1 v.2.1 v.2.2)(env:cz.den):M.cr aG ((op,m):Int×Int) [] env=aa (v,0):=by
 have ha:ar op=0:=by unfold ar;rw[aj (by omega)]
 have ne:∀k:Int,7<=k->decide (op=k)=ag:=λk hk=>aq (by omega)
 have hu:M.gB aG op=aa af:=by
  rcases gx with rfl|rfl|rfl|rfl|rfl|rfl<;>(show(_:Option Bool)=_;kernel_rfl)
 have hwf:M.dD aG ((op,m):Int×Int)=aa af:=by
  unfold M.dD;simp only[eJ,ha,hu,ne 14 (by omega),ne 15 (by omega),ne 16 (by omega),ne 34 (by omega),aoy,aoC,if_false]
  by_cases hm:m=0<;>by_cases h:op=6<;>simp[hm,h]
  exact(h6 h).1
 have hex:M.fi aG ((op,m):Int×Int) env=aa af:=by
  unfold M.fi;simp only[ne 7 (by omega),ne 8 (by omega),ne 33 (by omega),ne 34 (by omega),ne 36 (by omega),ne 37 (by omega),ne 38 (by omega),ne 39 (by omega),aoy,aoC,if_false]
 have pU:M.cV aG []=aa af:=by
  apply Wp.eq;unfold M.cV;refine Wp.loop (λs=>s=0) (λ_=>0) rfl (by unfold aG;omega) ?_
  rintro _ rfl
  exact Wp.dec (λh=>absurd h (by simp)) λ_=> .some rfl
 have OJ:M.bT aG ((op,m):Int×Int) [] env=aa af:=by
  unfold M.bT;simp only[ne 7 (by omega),ne 8 (by omega),ne 33 (by omega),ne 34 (by omega),ne 36 (by omega),ne 37 (by omega),ne 38 (by omega),ne 39 (by omega),aoy,aoC,if_false];simp
 have hco:M.bW aG ((op,m):Int×Int) [] env=aa (v,0):=by
  unfold M.bW;unfold pX at hv;dsimp only[aB,Row.den]at hv⊢;by_cases h:op=6
  .subst h;obtain⟨m1,m2⟩:=h6 rfl;rw[ai (by decide),aj ⟨rfl,m1,m2⟩]at hv;obtain rfl:=aoB hv
   have w:aoz.wrap (aoM m 16)=m/16:=by rw[aoN m1,aE (by omega) (by omega)]
   have w2:aoP m 16=m%16:=aoQ m1;simp[w,w2]
  .rw[aj (by omega)]at hv;obtain rfl:=aoB hv
   rcases gx with rfl|rfl|rfl|rfl|rfl|rfl
   .simp
   .simp
   .simp
   .simp
   .simp
   .exact absurd rfl h
 unfold M.cr;simp only[hwf,eJ,ha,hex,pU,OJ,hco,aoy,da,ao hp];simp
theorem QM{n:Ty}{v:Vl}(hv:pX n=aa v)(hp:bz v.1 v.2.1 v.2.2)(env:cz.den):qK env n []=(v,0):=by
 obtain⟨(op:Int),(m:Int)⟩:=n
 have h:(op=1\/op=2\/op=3\/op=4\/op=5\/op=6)/\(op=6->0<=m/\m<128):=by
  have gQ:=hv;unfold pX at gQ;dsimp only[aB,Row.den]at gQ;split at gQ
  .omega
  .split at gQ
   .omega
   .cases gQ
 unfold qK;rw[TM h.1 h.2 hv hp env];rfl
end L.P.Q
namespace L.P.Q
theorem Av{α:Type}{f:α->α}{body:Int×List α->Option ((Int×List α)⊕List α)}{l0:List α}(hl:l0.length<=1000)
 (hb:∀(j:Nat)(hj:j<l0.length)(l:List α)(vx:l.length=l0.length),l[j]'(by omega)=l0[j]->Wp (body ((j:Int),l)) λs=>s= .inl (((j+1:Nat):Int),l.set j (f l0[j])))
 (he:∀l:List α,l.length=l0.length->Wp (body ((l0.length:Int),l)) λs=>s= .inr l):Wp (Loop body aG ((0:Int),l0)) λr=>r=l0.map f:=by
 refine Wp.loop (λs=>∃k:Nat,s=((k:Int),(l0.take k).map f++l0.drop k)/\k<=l0.length) (λs=>(l0.length-s.1).toNat) ⟨0,by simp,aoR _⟩ (by unfold aG;simp only;omega) ?_
 rintro _ ⟨k,rfl,hk⟩
 have hlen:((l0.take k).map f++l0.drop k).length=l0.length:=by simp;omega
 by_cases h:k<l0.length
 .refine(hb k h _ hlen ?_).mono ?_
  .rw[ao1 (by simp;omega)];simp[apC hk]
  .rintro _ rfl
   refine⟨⟨k+1,?_,h⟩,by simp only;omega⟩;refine Prod.ext rfl ?_
   show(List.map f (List.take k l0)++List.drop k l0).set k (f l0[k])=_
   rw[apw _ _ (by simp;omega),apf h,apj,ape]
   congr 1
   rw[ao5,ao0,apC hk,Nat.sub_self,ao2 h];rfl
 .obtain rfl:k=l0.length:=by omega
  refine(he _ hlen).mono ?_
  rintro _ rfl
  show _=_
  simp
structure Xn(code:List Ty)(i k:Nat)(v:Vl):Prop where
 k1:1<=k
 ki:k<=i
 ex:∃(n:Ty)(vs:List Vl),code[i]? =aa n/\¬mh n/\ar n.1=k/\vs.length=k/\(∀j,j<k->∃x y,code[i-k+j]? =aa x/\vs[j]? =aa y/\pX x=aa y)/\qK e0 n vs=(v,0)
 nj:∀m∈code,mh m->¬((i:Int)-k<m.2/\(m.2:Int)<=i)
theorem KZ{code:List Ty}{i:Nat}(hi:i<code.length)(hl:code.length<=1000)(hw:∀n∈code,WF aA n):Wp (M.fF aG code (i:Int)) λr=>r.2.2=af->∃(k:Nat)(v:Vl),r.2.1=(k:Int)/\r.1=pY v/\Xn code i k v:=by
 have no:∀(c:Int)(m:Ty),((m,c,ag):Ty×Int×Bool).2.2=af->∃(k:Nat)(v:Vl),((m,c,ag):Ty×Int×Bool).2.1=(k:Int)/\((m,c,ag):Ty×Int×Bool).1=pY v/\Xn code i k v:=λc m h=>by cases h
 have hn:=hw _ (aoG hi);have hge:=aoA hi;unfold M.fF;rw[aD hi];generalize code[i]=n at hn hge;simp only[aoy,gM,eJ]
 refine Wp.dec (λ_=> .some (no 0 ((0,0):Int×Int))) λhj=>?_
 have DI:=kE n.1
 refine Wp.seq (λj=>j=ag->1<=ar n.1/\ar n.1<=i) ?_ λjj Tk=>?_
 .refine Wp.dec (λ_=> .some λh=>by cases h) λh1=> .some λh2=>?_
  have h2:=al h2;omega
 refine Wp.ite (λ_=> .some (no 0 ((0,0):Int×Int))) λhc=>?_
 obtain⟨q1,q2⟩:=Tk (by simpa using hc)
 obtain⟨k,hk⟩:∃k:Nat,ar n.1=k:=⟨(ar n.1).toNat,by omega⟩
 rw[hk]at q1 q2 DI⊢
 have Md:1<=k:=by omega
 have NM:k<=i:=by omega
 have w1:aoz.wrap ((i:Int)-(k:Int))=((i-k:Nat):Int):=by rw[aE (by omega) (by omega)];omega
 rw[w1,rU (i-k) i rfl rfl (by omega) (by omega)];simp only[aoy]
 have AN:((code.take i).drop (i-k)).length=k:=by simp;omega
 have Xo:∀j(h:j<((code.take i).drop (i-k)).length),code[i-k+j]? =aa (((code.take i).drop (i-k))[j]):=by
  intro j h;rw[List.getElem_drop,List.getElem_take];exact aoA _
 obtain⟨l6,hl6⟩:∃l6,l6=(code.take i).drop (i-k):=⟨_,rfl⟩
 rw[<-hl6];rw[<-hl6]at AN
 replace Xo:∀j(h:j<l6.length),code[i-k+j]? =aa l6[j]:=by subst hl6;exact Xo
 clear hl6;refine Wp.join (Wp.loop (λs:Int×List Vl=>∃j:Nat,s.1=j/\j<=k/\s.2.length=j/\∀t,t<j->∃x y,code[i-k+t]? =aa x/\s.2[t]? =aa y/\pX x=aa y) (λs=>(k-s.1).toNat) ⟨0,rfl,aoR _,rfl,λt h=>by omega⟩ (by unfold aG;simp only;omega) ?_)
 rintro⟨_,vs⟩ ⟨j,rfl,Rn,LN,hv⟩
 dsimp only at LN hv⊢
 refine Wp.dec (λh=>?_) λh=> .some ?_
 .have yk:j<l6.length:=by omega
  rw[aD yk];simp only[aoy,o6];cases hlv:pX l6[j]with
  |none=>
   simp only[apd,if_true];exact .some (no 0 ((0,0):Int×Int))
  |some v=>
   simp only[aoX,aoC,if_false];rw[bF (by simp;omega),aL (by omega)];simp only[aoy];refine .some ⟨⟨j+1,rfl,by omega,by simp[LN],λt ht=>?_⟩,by simp only;omega⟩;by_cases htj:t<j
   .obtain⟨x,y,h1,h2,h3⟩:=hv t htj;exact⟨x,y,h1,by rw[apc (by omega)];exact h2,h3⟩
   .obtain rfl:t=j:=by omega
    exact⟨_,v,Xo t yk,by rw[apk (by omega)];simp[LN],hlv⟩
 obtain rfl:j=k:=by omega
 refine Wp.join (Wp.loop (λs:Int=>∃t:Nat,s=t/\t<=code.length/\∀m∈code.take t,mh m->¬((i:Int)-j<m.2/\(m.2:Int)<=i)) (λs=>(code.length-s).toNat) ⟨0,rfl,aoR _,by simp⟩ (by unfold aG;omega) ?_)
 rintro _ ⟨t,rfl,ht,UY⟩
 refine Wp.dec (λh=>?_) λh=> .some ?_
 .have Jw:t<code.length:=by omega
  rw[aD Jw];simp only[aoy]
  refine Wp.seq (λb=>b=ag->mh code[t]->¬((i:Int)-j<(code[t].2:Int)/\(code[t].2:Int)<=i)) ?_ λb hb=>?_
  .refine Wp.dec (λg1=>Wp.dec (λg2=> .some λg3 _=>?_) λg2=> .some λ_ _ g=>?_) λg1=> .some λ_ g=>absurd g g1
   .have g3:=al g3
    exact λg=>g3 g.2
   .apply g2;have g4:=g.1;revert g4;generalize(code[t].2:Int)=z;intro g4;dsimp only[aB,Row.den]at*;omega
  refine Wp.ite (λ_=> .some (no 0 ((0,0):Int×Int))) λCO=> .some ?_
  rw[aL (by omega)];refine⟨⟨t+1,rfl,Jw,λm hm UZ=>?_⟩,by simp only;omega⟩;rw[apf Jw]at hm
  rcases ao7.1 hm with hm|hm
  .exact UY m hm UZ
  .obtain rfl:=aoY.1 hm;exact hb (by simpa using CO) UZ
 rw[List.take_of_length_le (by omega)]at UY
 show Wp ((M.cr aG n vs e0).bind _) _
 obtain⟨r,hr,hra⟩:=KY (args:=vs) xZ hn (by omega);obtain⟨r',yZ,ahw⟩:=tG (args:=vs) xZ hn (by omega);rw[hr]at yZ;obtain rfl:=aoB yZ;rw[hr];simp only[aoy]
 refine Wp.uA (λ_=> .some (no 0 ((0,0):Int×Int))) λh0=>?_
 rw[Bu _ (ahw.ok h0)];simp only[aoy]
 have Ee:qK e0 n vs=(r.1,0):=by
  unfold qK;rw[hr];exact Prod.ext rfl h0
 exact .some λ_=>⟨j,r.1,rfl,rfl,Md,NM,⟨n,vs,hge,hj,hk,LN,hv,Ee⟩,UY⟩
def K0(i k:Nat)(n:Ty):Ty:=if mh n/\(i:Int)<n.2 then((n.1,(n.2:Int)-k):Int×Int)else n
def uF(code:List Ty)(i k:Nat)(m:Ty):List Ty:=((code.take (i-k)++[m])++code.drop (i+1)).map (K0 i k)
theorem K1{code:List Ty}{i k:Nat}{m:Ty}(hi:i<code.length)(hk:k<=i)(hl:code.length<=1000)(hw:∀n∈code,WF aA n)(hm:¬mh m):Wp (M.cJ aG code (i:Int) (k:Int) m) λr=>r=uF code i k m:=by
 unfold M.cJ
 have w1:aoz.wrap ((i:Int)-(k:Int))=((i-k:Nat):Int):=by rw[aE (by omega) (by omega)];omega
 rw[w1,mG (by omega),aL (by omega),rU (i+1) code.length rfl rfl (by omega) (aoJ _),ao3];simp only[aoy];rw[bF (by simp;omega)];simp only[aoy,List.nil_append];rw[bF (by simp;omega)];simp only[aoy];rw[bF (by simp;omega)];simp only[aoy]
 have hwl:∀n∈(code.take (i-k)++[m])++code.drop (i+1),n=m\/n∈code:=by
  intro n hn
  rcases ao7.1 hn with hn|hn
  .rcases ao7.1 hn with hn|hn
   .exact .inr (List.mem_of_mem_take hn)
   .exact .inl (aoY.1 hn)
  .exact .inr (List.mem_of_mem_drop hn)
 have vx:((code.take (i-k)++[m])++code.drop (i+1)).length<=1000:=by simp;omega
 unfold uF;generalize(code.take (i-k)++[m])++code.drop (i+1)=l5 at hwl vx⊢
 refine Av vx (λj hj l hlen WM=>?_) λl hlen=>?_
 .have Nu:j<l.length:=by omega
  have NA:=hwl _ (aoG hj);dsimp only;rw[aD Nu,WM];simp only[aoy,gM,aK];generalize hx:l5[j]=x at NA WM⊢;refine .some ?_;rw[aj (ao (by omega)),aL (by omega)]
  have hw':mh x->WF aA x:=λh=>NA.elim (λe=>absurd (e▸h) hm) (hw x)
  have e:(if(if decide (50<=(x.1:Int)/\(x.1:Int)<=53)=af then decide ((i:Int)<x.2)else ag)=af then be l (j:Int) ((x.1,aoz.wrap ((x.2:Int)-(k:Int))):Int×Int)else l)=l.set j (K0 i k x):=by
   unfold K0;by_cases h:mh x/\(i:Int)<x.2
   .have MH:=(hw' h.1).2.2;have g:(50<=(x.1:Int)/\(x.1:Int)<=53):=h.1
    have w2:aoz.wrap ((x.2:Int)-(k:Int))=(x.2:Int)-k:=by
     have h2:=h.2;revert MH h2;generalize(x.2:Int)=z;intro MH h2;have:z<=9223372036854775807:=MH;dsimp only[aB,Row.den]at*;exact aE (by omega) (by omega)
    rw[aj h,aj (by simp[g,h.2]),w2];simp[be]
   .rw[ai h,ai (λhc=>h ?_)]
    .rw[<-WM];simp
    .by_cases g:(50<=(x.1:Int)/\(x.1:Int)<=53)
     .rw[aj (ao g)]at hc;exact⟨g,by simpa using hc⟩
     .rw[ai (by simpa using g)]at hc;cases hc
  rw[e]
 .dsimp only
  exact Wp.dec (λh=>by omega) λ_=> .some rfl
end L.P.Q
section
namespace L.P.Q
theorem K2(i k:Nat)(n:Ty):((K0 i k n).1:Int)=n.1:=by
 unfold K0
 split<;>rfl
theorem K3{i k:Nat}{n:Ty}(h:¬mh n):K0 i k n=n:=by
 unfold K0;rw[ai (λg=>h g.1)]
section
variable {code:List Ty} {i k:Nat} {m:Ty}
theorem Aw(hi:i<code.length)(hk:k<=i):(uF code i k m).length+k=code.length:=by
 simp[uF];omega
theorem TN{q:Nat}(hi:i<code.length)(h:q<i-k):(uF code i k m)[q]? =(code[q]?).map (K0 i k):=by
 unfold uF;rw[apD,ape,apc (by simp;omega),List.getElem?_take_of_lt h]
theorem TO(hi:i<code.length)(hm:¬mh m):(uF code i k m)[i-k]? =aa m:=by
 unfold uF;rw[apD,ape,apk (by simp;omega),ao0,apC (by omega),Nat.sub_self];simp[K3 hm]
theorem TP{q:Nat}(hi:i<code.length)(hk:k<=i)(h:i-k<q):(uF code i k m)[q]? =(code[q+k]?).map (K0 i k):=by
 unfold uF;rw[apD,apk (by simp;omega),aoH,ao0,apC (by omega),aoT,apx]
 congr 2
 omega
theorem xz(F:List Int)(q:Nat):gd F q=(F[q]?).getD (-1):=rfl
def FR(code:List Ty)(F:List Int)(i k:Nat)(p q:Nat):Prop:=0<=gd F p/\p<=code.length/\((p<=i-k/\q=p)\/(i<p/\q+k=p))
theorem CD{v:Vl}{F:List Int}(f:Fits code F)(hi:i<code.length)(h:Xn code i k v)(hw:∀n∈code,WF aA n):sd code (uF code i k (pY v)):=by
 obtain⟨Md,NM,⟨n,vs,hn,hj,ha,LN,Xp,Ee⟩,UY⟩:=h;have U0:=hw n (apW hn)
 have pU:∀u∈vs,bz u.1 u.2.1 u.2.2:=by
  obtain⟨r,hr,hh⟩:=KY (args:=vs) xZ U0 (by have:=kE n.1;omega)
  have e:r=(v,0):=by
   unfold qK at Ee;rw[hr]at Ee;exact Ee
  rw[e]at hh;exact(hh rfl).2
 have XX:bz v.1 v.2.1 v.2.2:=by
  have:=(KV (args:=vs) xZ U0 (by have:=kE n.1;omega)).ok (by rw[Ee]);rw[Ee]at this;exact this
 obtain⟨hlv,hlw⟩:=D5 XX;obtain⟨l1,l2,l3⟩:=tI hlv;have hbl:=Aw (m:=pY v) hi NM;have hle:=f.le;have hFl:=f.len
 have g1:∀q,q<=i-k->gd (F.take (i-k+1)++F.drop (i+1)) q=gd F q:=by
  intro q hq;rw[xz,apc (by simp;omega),List.getElem?_take_of_lt (by omega)];rfl
 have g2:∀q,i-k<q->gd (F.take (i-k+1)++F.drop (i+1)) q=gd F (q+k):=by
  intro q hq;rw[xz,apk (by simp;omega),ao0,apC (by omega),apx,xz]
  congr 2
  omega
 have dep:∀p q,FR code F i k p q->gd (F.take (i-k+1)++F.drop (i+1)) q=gd F p:=by
  rintro p q ⟨_,_,⟨a1,rfl⟩|⟨a1,a2⟩⟩
  .exact g1 _ a1
  .rw[g2 _ (by omega),a2]
 have keep:∀p q x,FR code F i k p q->p≠i-k->code[p]? =aa x->Rx code (uF code i k (pY v)) (FR code F i k) p q:=by
  rintro p q x ⟨b1,b2,b3⟩ dS hx
  have aJ:p<code.length:=(aoI.1 hx).1
  have hb:(uF code i k (pY v))[q]? =aa (K0 i k x):=by
   rcases b3 with⟨a1,rfl⟩|⟨a1,rfl⟩
   .rw[TN hi (by omega),hx];rfl
   .rw[TP hi NM (by omega),hx];rfl
  have next:0<=gd F (p+1)->FR code F i k (p+1) (q+1):=λh=>⟨h,aJ,by omega⟩
  have tgt:∀t:Nat,mh x->(x.2:Int)=t->p<t->t<=code.length->0<=gd F t->∃t':Nat,((K0 i k x).2:Int)=t'/\q<t'/\FR code F i k t t':=by
   intro t AM ht TH Hi ht0;have hn:=UY x (apW hx) AM;rw[ht]at hn;have hn:¬((i:Int)-k<(t:Int)/\(t:Int)<=i):=hn;by_cases hc:i<t
   .refine⟨t-k,?_,by omega,ht0,Hi, .inr ⟨hc,by omega⟩⟩;unfold K0;rw[aj ⟨AM,by rw[ht];exact(by omega:(i:Int)<(t:Int))⟩]
    show(x.2:Int)-k=_
    rw[ht];exact(by omega:(t:Int)-k=((t-k:Nat):Int))
   .refine⟨t,?_,by omega,ht0,Hi, .inl ⟨by omega,rfl⟩⟩;unfold K0;rw[ai (λg=>by have g2:=g.2;rw[ht]at g2;have g2:(i:Int)<(t:Int):=g2;omega)];exact ht
  by_cases AM:mh x
  .obtain⟨s1,_⟩:=f.at hx b1
   rcases s1 with⟨c1,t,c2,c3,c4,c5⟩|⟨c1,c2,c3,t,c4,c5,c6,c7⟩|⟨c1,c2,_⟩
   .obtain⟨t',d1,d2,d3⟩:=tgt t AM c2 c3 c4 (by omega);exact .jump hx hb c1 ((K2 i k x).trans c1) c2 d1 d2 d3
   .obtain⟨t',d1,d2,d3⟩:=tgt t AM c4 c5 c6 (by rw[c7];split<;>omega);exact .cond hx hb c1 (K2 i k x) c4 d1 d2 d3 (next (by omega))
   .exact(oe AM).elim (λe=>absurd e c1) (λe=>absurd e c2)
  .rw[K3 AM]at hb;obtain⟨s1,s2,s3,_⟩:=f.op hx AM b1;exact .op hx hb AM (next (by omega))
 have sI:0<=gd F (i-k)->Rx code (uF code i k (pY v)) (FR code F i k) (i-k) (i-k):=by
  intro h0
  have hd:=vv f h0 k λj hj=>by
   obtain⟨x,y,x1,_,x2⟩:=Xp j hj;obtain⟨y1,y2,_⟩:=tI x2;exact⟨x,x1,y1,y2⟩
  have e1:i-k+k=i:=by omega
  rw[e1]at hd;obtain⟨s1,s2,s3,_⟩:=f.op hn hj (by omega);refine .block (k:=k) (n:=n) (m:=pY v) (vs:=vs) (v:=v) (λj yk=>?_) LN (by rw[e1];exact hn) hj ha (λenv _=>?_) (TO hi l1) l1 l2 l3 (λenv _=>QM hlv XX env) ?_
  .obtain⟨x,y,x1,x2,x3⟩:=Xp j yk;obtain⟨y1,y2,_⟩:=tI x3;exact⟨x,y,x1,x2,y1,y2,λenv _=>QM x3 (pU y (apW x2)) env⟩
  .rw[Xm U0 (by omega) (by rw[Ee]) env,Ee]
  .rw[e1];exact⟨by omega,by omega, .inr ⟨by omega,by omega⟩⟩
 have bwd:Bd F:=f.bd
 have s:TK code (uF code i k (pY v)) F (F.take (i-k+1)++F.drop (i+1)) (FR code F i k):=by
  refine⟨f,by omega,by omega,by simp;omega,λq=>?_,λp q h=>⟨h.1,h.2.1,?_,dep p q h⟩,λp q h=>?_,λq hq h0=>?_,⟨by rw[f.first];decide,aoR _, .inl ⟨aoR _,rfl⟩⟩,⟨by rw[f.last];decide,aoJ _, .inr ⟨hi,by omega⟩⟩⟩
  .by_cases hq:q<=i-k
   .rw[g1 q hq];exact bwd q
   .rw[g2 q (by omega)];exact bwd _
  .obtain⟨_,a2,a3⟩:=h;omega
  .by_cases hp:p=code.length
   .left
    refine⟨hp,?_⟩;obtain⟨_,a2,a3⟩:=h;omega
   .right;left
    have aJ:p<code.length:=by have:=h.2.1;omega
    by_cases xc:p=i-k
    .obtain⟨a1,a2,a3⟩:=h
     have hq:q=i-k:=by omega
     subst xc;rw[hq];exact sI a1
    .exact keep p q _ h xc (aoA aJ)
  .by_cases hqk:q<=i-k
   .rw[g1 q hqk]at h0
    have hR:FR code F i k q q:=⟨h0,by omega, .inl ⟨hqk,rfl⟩⟩
    by_cases he:q=i-k
    .subst he;exact⟨_,hR,sI h0⟩
    .exact⟨q,hR,keep q q _ hR he (aoA (by omega))⟩
   .rw[g2 q (by omega)]at h0
    have hR:FR code F i k (q+k) q:=⟨h0,by omega, .inr ⟨by omega,rfl⟩⟩
    exact⟨q+k,hR,keep _ q _ hR (by omega) (aoA (by omega))⟩
 refine s.same (by omega) λx hx=>?_
 obtain⟨y,hy,rfl⟩:=apY.1 hx
 have Pm:WF aA y:=by
  rcases ao7.1 hy with hy|hy
  .rcases ao7.1 hy with hy|hy
   .exact hw y (List.mem_of_mem_take hy)
   .obtain rfl:=aoY.1 hy;exact hlw
  .exact hw y (List.mem_of_mem_drop hy)
 unfold K0;split
 .rename_i hc;refine⟨Pm.1,?_,?_⟩
  .have h2:=hc.2;have h3:=Pm.2.1
   show(-9223372036854775808:Int)<=(y.2:Int)-k
   revert h2 h3;generalize(y.2:Int)=z;intro h2 h3;dsimp only[aB,Row.den]at*;omega
  .have h3:=Pm.2.2
   show(y.2:Int)-k<=(9223372036854775807:Int)
   revert h3;generalize(y.2:Int)=z;intro h3;have h4:z<=(9223372036854775807:Int):=h3;dsimp only[aB,Row.den]at*;omega
 .exact Pm
end
theorem rp{l:List Ty}(hl:l.length<=1000):M.aI aG l=aa l:=by
 unfold M.aI
 have e:bR ([]:List aA.den) l=aa l:=by rw[bF (by simp;omega)];rfl
 rw[e];simp only[aoy];split
 .rename_i h;have:l=[]:=apL.1 (Nat.eq_of_beq_eq_true h);subst this;unfold zC;rw[aj rfl]
 .rfl
theorem qy(code:List Ty):Wp (M.dm aG code) λb=>b=af↔∃F,Fits code F:=by
 unfold M.dm;obtain⟨y,hy,h⟩:=GW code;rw[hy];simp only[aoy];refine .some ⟨λhb=>h (by simpa using hb),λ⟨F,f⟩=>?_⟩;obtain⟨y',Pm,h'⟩:=f.verify;rw[hy]at Pm;obtain rfl:=aoB Pm;simpa using h'
def Xq(code:List Ty):Prop:=∀i:Nat,i<code.length->Wp (M.fF aG code (i:Int)) λr=>r.2.2=ag
theorem TQ{code:List Ty}(hl:code.length<=1000)(hw:∀n∈code,WF aA n):Wp (M.cZ aG code) λy=>((¬∃F,Fits code F)/\y=code)\/((∃F,Fits code F)/\sd code y/\Xq y):=by
 unfold M.cZ;rw[rp hl];simp only[aoy];obtain⟨b,hb,AZ⟩:=qy code;rw[hb];simp only[aoy];refine Wp.join (Wp.ite (λhc=> .some ?_) λhc=> .some ?_)
 .exact .inl ⟨λh=>(by rw[AZ.2 h]at hc;cases hc),rfl⟩
 have hF:∃F,Fits code F:=AZ.1 (by simpa using hc)
 have GY:sd code code:=⟨hF,aoJ _,hw,λ_ _ _ h=>h⟩
 refine Wp.loop (λs:List Ty=>sd code s) (λs=>s.length) GY (by unfold aG;omega) ?_;intro s hs;have iP:s.length<=1000:=Nat.le_trans hs.le hl;refine Wp.join (Wp.loop (λt:Int×List Ty=>∃i:Nat,t.1=i/\i<=s.length/\t.2=s/\∀j,j<i->Wp (M.fF aG s (j:Int)) λr=>r.2.2=ag) (λt=>(s.length-t.1).toNat) ⟨0,rfl,aoR _,rfl,λj h=>by omega⟩ (by unfold aG;simp only;omega) ?_)
 rintro⟨_,s⟩ ⟨i,rfl,hi,rfl,By⟩
 dsimp only at hi By iP hs⊢
 refine Wp.dec (λh=>?_) λh=> .some (.some ?_)
 .have gh:i<s.length:=by omega
  obtain⟨r,hr,Tt⟩:=KZ gh iP hs.wf;rw[hr];simp only[aoy]
  refine Wp.ite (λh1=>?_) λh1=> .some ?_
  .obtain⟨k,v,e1,e2,hf⟩:=Tt h1
   have XX:¬mh (pY v):=by
    obtain⟨n,vs,hn,_,_,LN,_,Ee⟩:=hf.ex;have:=(KV (args:=vs) xZ (hs.wf n (apW hn)) (by have:=hf.ki;omega)).ok (by rw[Ee]);rw[Ee]at this;exact(tI (D5 this).1).1
   rw[e1,e2]
   refine Wp.seq _ (K1 gh hf.ki iP hs.wf XX) λy hy=> .some ?_
   obtain⟨F,f⟩:=hs.fits;rw[hy];refine⟨hs.trans (CD f gh hf hs.wf),?_⟩;have:=Aw (m:=pY v) gh hf.ki;have:=hf.k1
   show(uF s i k (pY v)).length<s.length
   omega
  .rw[aL (by omega)];refine⟨⟨i+1,rfl,gh,rfl,λj hj=>?_⟩,by simp only;omega⟩;by_cases e:j=i
   .subst e;exact⟨r,hr,by simpa using h1⟩
   .exact By j (by omega)
 .obtain rfl:i=s.length:=by omega
  exact .inr ⟨hF,hs,By⟩
end L.P.Q
end
namespace L.P.Q
inductive NN(code:List Ty):Int->Int->Prop
 |refl (t:Int):NN code t t
 |next {t:Nat} {n:Ty} {T:Int} (h:code[t]? =aa n) (nJ:(n.1:Int)=51) (aJ:(t:Int)<n.2) (hT:NN code n.2 T):NN code t T
theorem NN.snoc{code:List Ty}{s:Int}{t:Nat}{n:Ty}(h:NN code s t)(hn:code[t]? =aa n)(nJ:(n.1:Int)=51)(aJ:(t:Int)<n.2):NN code s n.2:=by
 generalize hx:(t:Int)=x at h
 induction h with
 |refl u=>subst hx;exact .next hn nJ aJ (.refl _)
 |next g g51 glt gT ih=>exact .next g g51 glt (ih hx)
def Ran(x:Int):Prop:= -9223372036854775808<=x/\x<=9223372036854775807
theorem QN{n:Ty}(h:WF aA n):Ran n.2:=h.2
theorem Nb{code:List Ty}(hl:code.length<=1000)(hw:∀n∈code,WF aA n){t0:Int}(h0:Ran t0):Wp (Loop (S:=Int) (X:=Int) (λs9=>
((if(decide ((0:Int)<=s9))=af then
(if(decide (s9<(code.length:Int)))=af then
(idx code s9).bind λnT=>
(if(decide (nT.1=(51:Int)))=af then
(idx code s9).bind λqZ=>
some (decide (s9<qZ.2))
else
some ag)
else
some ag)
else
some ag):Option (Bool)).bind λsx=>
(if sx=af then
(idx code s9).bind λnK=>
some (ao4 nK.2)
else
some (aoV s9))) aG t0) λT=>NN code t0 T/\Ran T:=by
 refine Wp.loop (λs=>NN code t0 s/\Ran s) (λs=>(code.length-s).toNat) ⟨.refl _,h0⟩ (by obtain⟨a,b⟩:=h0;unfold aG;omega) ?_
 rintro s ⟨hs,hr⟩
 refine Wp.seq (λb=>b=af->∃(t:Nat)(n:Ty),s=t/\code[t]? =aa n/\(n.1:Int)=51/\(t:Int)<n.2) ?_ λb hb=>?_
 .refine Wp.dec (λh1=>Wp.dec (λh2=>?_) λ_=> .some λh=>by cases h) λ_=> .some λh=>by cases h
  obtain⟨t,rfl⟩:∃t:Nat,s=t:=⟨s.toNat,by omega⟩
  have ht:t<code.length:=by omega
  rw[aD ht];simp only[aoy]
  refine Wp.dec (λh3=> .some λh4=>?_) λ_=> .some λh=>by cases h
  exact⟨t,_,rfl,aoA ht,h3,ak h4⟩
 .refine Wp.ite (λh=>?_) λ_=> .some ⟨hs,hr⟩
  obtain⟨t,n,rfl,h1,h2,h3⟩:=hb h;obtain⟨ht,rfl⟩:=aoI.1 h1;rw[aD ht];simp only[aoy];refine .some ⟨⟨hs.snoc h1 h2 h3,QN (hw _ (aoG ht))⟩,?_⟩;revert h3;generalize(code[t].2:Int)=z;intro h3;have h3:(t:Int)<z:=h3
  show((code.length:Int)-z).toNat<((code.length:Int)-t).toNat
  have:(t:Int)<code.length:=by omega
  omega
def Th1(code:List Ty)(n m:Ty):Prop:=(m.1:Int)=n.1/\WF aA m/\(¬mh n->m=n)/\(mh n->NN code n.2 m.2)
theorem Nc{code:List Ty}(hl:code.length<=1000)(hw:∀n∈code,WF aA n):Wp (M.dy aG code) λy=>((¬∃F,Fits code F)/\y=code)\/((∃F,Fits code F)/\y.length=code.length/\∀(i:Nat)n,code[i]? =aa n->∃m,y[i]? =aa m/\Th1 code n m):=by
 unfold M.dy;rw[rp hl];simp only[aoy];obtain⟨b,hb,AZ⟩:=qy code;rw[hb];simp only[aoy]
 refine Wp.ite (λhc=> .some (.inl ⟨λh=>(by rw[AZ.2 h]at hc;cases hc),rfl⟩)) λhc=>?_
 have hF:∃F,Fits code F:=AZ.1 (by simpa using hc);refine Wp.loop (λs:Int×List Ty=>∃i:Nat,s.1=i/\i<=code.length/\s.2.length=code.length/\(∀(j:Nat)n,code[j]? =aa n->j<i->∃m,s.2[j]? =aa m/\Th1 code n m)/\∀j:Nat,i<=j->s.2[j]? =code[j]?) (λs=>(code.length-s.1).toNat) ⟨0,rfl,aoR _,rfl,λj n _ h=>by omega,λj _=>rfl⟩ (by unfold aG;simp only;omega) ?_
 rintro⟨_,out⟩ ⟨i,rfl,hi,hol,QO,QP⟩
 dsimp only at hol QO QP⊢
 refine Wp.dec (λh=>?_) λh=> .some (.inr ⟨hF,hol,λj n hn=>QO j n hn ?_⟩)
 case refine_2=>
  have:=(aoI.1 hn).1;omega
 have gh:i<code.length:=by omega
 have hio:i<out.length:=by omega
 have hge:=aoA gh
 have hoe:out[i]=code[i]:=by
  have:=QP i (aoJ _);rw[aoA hio,hge]at this;exact aoB this
 have U0:=hw _ (aoG gh);rw[aD gh];simp only[aoy,gM]
 refine Wp.seq (λo=>o.length=code.length/\(∃m,o[i]? =aa m/\Th1 code code[i] m)/\∀j:Nat,j≠i->o[j]? =out[j]?) ?_ λo ho=> .some ?_
 .refine Wp.seq (λo=>o.length=code.length/\(∃m,o[i]? =aa m/\Th1 code code[i] m)/\∀j:Nat,j≠i->o[j]? =out[j]?) ?_ λo ho=> .some ho
  generalize code[i]=n at U0 hoe hge⊢
  refine Wp.uA (λhj=> .some ⟨hol,⟨n,by rw[aoA hio,hoe],rfl,U0,λ_=>rfl,λh=>absurd h hj⟩,λj _=>rfl⟩) λhj=>?_
  refine Wp.seq _ (Nb hl hw (QN U0)) λT hT=>?_
  rw[aD hio,hoe];simp only[aoy];refine .some ⟨by simp[be,hol],⟨((n.1,T):Int×Int),by simp[be,hio],rfl,⟨U0.1,hT.2⟩,λh=>absurd hj h,λ_=>hT.1⟩,λj hj=>?_⟩;simp only[be,aoF];rw[List.getElem?_set_ne (Ne.symm hj)]
 .obtain⟨o1,o2,o3⟩:=ho;rw[aL (by omega)];refine⟨⟨i+1,rfl,gh,o1,λj n hn hj=>?_,λj hj=>?_⟩,by simp only;omega⟩
  .by_cases e:j=i
   .subst e;rw[hge]at hn;obtain rfl:=aoB hn;exact o2
   .obtain⟨m,m1,m2⟩:=QO j n hn (by omega);exact⟨m,by rw[o3 j e];exact m1,m2⟩
  .rw[o3 j (by omega)];exact QP j (by omega)
theorem xA{code:List Ty}{F:List Int}(f:Fits code F){x T:Int}(h:NN code x T):∀p:Nat,x=p->0<=gd F p->p<=code.length->∃q:Nat,T=q/\p<=q/\q<=code.length/\gd F q=gd F p:=by
 induction h with
 |refl t=>exact λp e h0 hp=>⟨p,e,aoJ _,hp,rfl⟩
 | @next t n T hn nJ aJ hT ih=>
   intro p e h0 hp
   obtain rfl:t=p:=by omega
   obtain⟨s,_⟩:=f.at hn h0
   rcases s with⟨_,u,u1,u2,u3,u4⟩|⟨c,_⟩|⟨c,_⟩
   .obtain⟨q,q1,q2,q3,q4⟩:=ih u u1 (by omega) u3;exact⟨q,q1,by omega,q3,by omega⟩
   .exact absurd nJ (qI c)
   .exact absurd nJ c
theorem GZ{code y:List Ty}{F:List Int}(f:Fits code F)(NH:y.length=code.length)(hy:∀(i:Nat)n,code[i]? =aa n->∃m,y[i]? =aa m/\Th1 code n m):sd code y:=by
 have one:∀p:Nat,p<code.length->0<=gd F p->Rx code y (λp q=>0<=gd F p/\p<=code.length/\NN code p q) p p:=by
  intro p hp h0;have hge:=aoA hp;generalize code[p]=n at hge;obtain⟨m,hm,e1,hwm,By,hth⟩:=hy p n hge;by_cases hj:mh n
  .obtain⟨s,_⟩:=f.at hge h0;have ht:=hth hj
   rcases s with⟨c1,t,c2,c3,c4,c5⟩|⟨c1,c2,c3,t,c4,c5,c6,c7⟩|⟨c1,c2,_⟩
   .rw[show(n.2:Int)=t from c2]at ht;obtain⟨q,q1,q2,q3,q4⟩:=xA f ht t rfl (by omega) c4;rw[show(m.2:Int)=q from q1]at ht;exact .jump hge hm c1 (e1.trans c1) c2 q1 (by omega) ⟨by omega,c4,ht⟩
   .have h7:0<=gd F t:=by rw[c7];split<;>omega
    rw[show(n.2:Int)=t from c4]at ht;obtain⟨q,q1,q2,q3,q4⟩:=xA f ht t rfl h7 c6;rw[show(m.2:Int)=q from q1]at ht;exact .cond hge hm c1 e1 c4 q1 (by omega) ⟨h7,c6,ht⟩ ⟨by omega,hp, .refl _⟩
   .exact(oe hj).elim (λe=>absurd e c1) (λe=>absurd e c2)
  .rw[By hj]at hm;obtain⟨s1,s2,s3,_⟩:=f.op hge hj h0;exact .op hge hm hj ⟨by omega,hp, .refl _⟩
 have s:TK code y F F (λp q=>0<=gd F p/\p<=code.length/\NN code p q):=by
  refine⟨f,by rw[NH];exact f.pos,by rw[NH];exact f.le,by rw[NH];exact f.len,f.bd,λp q h=>?_,λp q h=>?_,λq hq h0=>⟨q,⟨h0,by omega, .refl _⟩,one q (by omega) h0⟩,⟨by rw[f.first];decide,aoR _, .refl _⟩,?_⟩
  .obtain⟨a1,a2,a3⟩:=h;obtain⟨q',b1,b2,b3,b4⟩:=xA f a3 p rfl a1 a2
   obtain rfl:q=q':=by omega
   exact⟨a1,a2,by omega,b4⟩
  .obtain⟨a1,a2,a3⟩:=h;generalize hx:(p:Int)=x at a3;generalize hz:(q:Int)=z at a3
   cases a3 with
   |refl t=>
    obtain rfl:p=q:=by omega
    by_cases hp:p=code.length
    .exact .inl ⟨hp,by omega⟩
    .exact .inr (.inl (one p (by omega) a1))
   | @next t n T hn nJ aJ hT=>
     obtain rfl:p=t:=by omega
     obtain⟨s,_⟩:=f.at hn a1
     rcases s with⟨_,u,u1,u2,u3,u4⟩|⟨c,_⟩|⟨c,_⟩
     .refine .inr (.inr ⟨n,u,hn,nJ,u1,by omega,u3,?_⟩);rw[show(n.2:Int)=u from u1]at hT;exact hT
     .exact absurd nJ (qI c)
     .exact absurd nJ c
  .rw[NH];exact⟨by rw[f.last];decide,aoJ _, .refl _⟩
 refine s.same (by omega) λm hm=>?_
 obtain⟨i,hi,rfl⟩:=aoS hm
 have gh:i<code.length:=by omega
 obtain⟨m',h1,h2⟩:=hy i _ (aoA gh);rw[aoA hi]at h1;rw[aoB h1];exact h2.2.1
end L.P.Q
namespace L.P.Q
def gb(l:List Bool)(k:Nat):Bool:=l.getD k ag
theorem se{l:List Bool}{t:Nat}(ht:t<l.length)(d:Bool)(k:Nat):gb (l.set t d) k=if k=t then d else gb l k:=by
 unfold gb apb;by_cases h:k=t
 .subst h;rw[aj rfl,List.getElem?_set_self ht];rfl
 .rw[ai h,List.getElem?_set_ne (by omega)]
theorem o7{l:List Bool}{t:Nat}(ht:t<l.length):idx l (t:Int)=aa (gb l t):=by
 rw[aD ht];simp[gb,apb,ht]
theorem Xr(n k:Nat):gb (aoE n ag) k=ag:=by
 unfold gb apb;by_cases h:k<n
 .simp[h]
 .rw[List.getElem?_eq_none (by simp;omega)];rfl
structure RL(code:List Ty)(F:List Int)(l:List Bool):Prop where
 len:l.length=code.length+1
 zero:gb l 0=af
 sound:∀i,gb l i=af->0<=gd F i
 step:∀(i:Nat)n,code[i]? =aa n->gb l i=af->((n.1:Int)≠51->gb l (i+1)=af)/\(mh n->∀t:Nat,(n.2:Int)=t->gb l t=af)
theorem wC{code:List Ty}{F:List Int}(f:Fits code F):Wp (M.eF aG code) λr=>∃l,RL code F l/\r=l.take code.length:=by
 have hle:=f.le;have pC:=f.pos;unfold M.eF;rw[aL (by omega)]
 have Be:pw ((code.length+1:Nat):Int) ag=aa (aoE (code.length+1) ag):=by
  unfold pw;rw[aj (by omega),aoF]
 rw[Be];simp only[aoy]
 have e1:idx (aoE (code.length+1) ag) 0=aa ag:=by rw[apr];rfl
 rw[e1];simp only[aoy];have es:be (aoE (code.length+1) ag) (0:Int) af=(aoE (code.length+1) ag).set 0 af:=rfl;rw[es]
 have g0:∀k,gb ((aoE (code.length+1) ag).set 0 af) k=if k=0 then af else ag:=λk=>by
  rw[se (by simp),Xr]
 refine Wp.seq (RL code F) ?_ λl hl=>?_
 .refine Wp.loop (λs:Int×List Bool=>∃i:Nat,s.1=i/\i<=code.length/\s.2.length=code.length+1/\gb s.2 0=af/\(∀j,gb s.2 j=af->0<=gd F j)/\∀(j:Nat)n,j<i->code[j]? =aa n->gb s.2 j=af->((n.1:Int)≠51->gb s.2 (j+1)=af)/\(mh n->∀t:Nat,(n.2:Int)=t->gb s.2 t=af)) (λs=>(code.length-s.1).toNat) ⟨0,rfl,aoR _,by simp,by rw[g0];rfl,λj hj=>?_,λj n h=>by omega⟩ (by unfold aG;simp only;omega) ?_
  .simp only[g0]at hj;split at hj
   .rename_i e;subst e;rw[f.first];decide
   .cases hj
  rintro⟨_,l⟩ ⟨i,rfl,hi,vx,hz,hs,lm⟩
  dsimp only at vx hz hs lm⊢
  refine Wp.dec (λh=>?_) λh=> .some ⟨vx,hz,hs,λj n hn=>lm j n ?_ hn⟩
  case refine_2=>
   have:=(aoI.1 hn).1;omega
  have gh:i<code.length:=by omega
  have hge:=aoA gh;rw[aD gh,o7 (by omega)];generalize code[i]=n at hge⊢;simp only[aoy,gM]
  have mono:∀{a b:List Bool}{t:Nat},t<a.length->0<=gd F t->b=a.set t af->(∀j,gb a j=af->0<=gd F j)->(∀j,gb b j=af->0<=gd F j)/\(∀j,gb a j=af->gb b j=af)/\(∀j,j≠t->gb b j=gb a j)/\gb b t=af:=by
   intro a b t ht h0 e hs;subst e;refine⟨λj hj=>?_,λj hj=>?_,λj hj=>?_,?_⟩
   .rw[se ht]at hj;split at hj
    .rename_i e;rw[e];exact h0
    .exact hs j hj
   .rw[se ht];split
    .rfl
    .exact hj
   .rw[se ht,ai hj]
   .rw[se ht,aj rfl]
  refine Wp.seq (λo=>o.length=code.length+1/\(∀j,gb o j=af->0<=gd F j)/\(∀j,gb l j=af->gb o j=af)/\(∀j,j<=i->gb o j=gb l j)/\(gb l i=af->((n.1:Int)≠51->gb o (i+1)=af)/\(mh n->∀t:Nat,(n.2:Int)=t->gb o t=af))) ?_ λo ho=> .some ?_
  .by_cases hg:gb l i=af
   .rw[ai (by simp[hg])];have h0:=hs i hg;obtain⟨sp,_⟩:=f.at hge h0
    have hnx:(n.1:Int)≠51->0<=gd F (i+1):=by
     intro h
     rcases sp with⟨c,_⟩|⟨_,c2,c3,_⟩|⟨_,_,c3,c4,c5,_⟩
     .exact absurd c h
     .omega
     .omega
    have htg:mh n->∃t:Nat,(n.2:Int)=t/\i<t/\t<=code.length/\0<=gd F t:=by
     intro h
     rcases sp with⟨_,t,c2,c3,c4,c5⟩|⟨_,c2,c3,t,c4,c5,c6,c7⟩|⟨c1,c2,_⟩
     .exact⟨t,c2,c3,c4,by omega⟩
     .exact⟨t,c4,c5,c6,by rw[c7];split<;>omega⟩
     .exact(oe h).elim (λe=>absurd e c1) (λe=>absurd e c2)
    refine Wp.seq (λo=>o.length=code.length+1/\(∀j,gb o j=af->0<=gd F j)/\(∀j,gb l j=af->gb o j=af)/\(∀j,j<=i->gb o j=gb l j)/\((n.1:Int)≠51->gb o (i+1)=af)) ?_ λo ho=>?_
    .refine Wp.uA (λnJ=>?_) λnJ=> .some ⟨vx,hs,λ_ h=>h,λ_ _=>rfl,λh=>absurd nJ h⟩
     rw[aL (by omega),o7 (by omega)];simp only[aoy];obtain⟨m1,m2,m3,m4⟩:=mono (a:=l) (t:=i+1) (by omega) (hnx nJ) rfl hs;refine .some ⟨by simp[be,vx],m1,m2,λj hj=>m3 j (by omega),λ_=>m4⟩
    obtain⟨o1,o2,o3,o4,o5⟩:=ho
    refine Wp.dec (λhj=>?_) λhj=> .some ⟨o1,o2,o3,o4,λ_=>⟨o5,λh=>absurd h hj⟩⟩
    obtain⟨t,t1,t2,t3,t4⟩:=htg hj;rw[show(n.2:Int)=t from t1,o7 (by omega)];simp only[aoy];obtain⟨m1,m2,m3,m4⟩:=mono (a:=o) (t:=t) (by omega) t4 rfl o2;refine .some ⟨by simp[be,o1],m1,λj h=>m2 j (o3 j h),λj hj=>by rw[<-o4 j hj];exact m3 j (by omega),λ_=>⟨λh=>m2 _ (o5 h),λ_ u hu=>?_⟩⟩
    have:u=t:=by have h:(t:Int)=u:=hu;omega
    subst this;exact m4
   .rw[aj (by simpa using hg)];exact .some ⟨vx,hs,λ_ h=>h,λ_ _=>rfl,λh=>absurd h hg⟩
  .obtain⟨o1,o2,o3,o4,o5⟩:=ho;rw[aL (by omega)];refine⟨⟨i+1,rfl,gh,o1,o3 0 hz,o2,λj m hj hm hgj=>?_⟩,by simp only;omega⟩;by_cases e:j=i
   .subst e;rw[hge]at hm;obtain rfl:=aoB hm;rw[o4 j (aoJ _)]at hgj;exact o5 hgj
   .rw[o4 j (by omega)]at hgj;obtain⟨a1,a2⟩:=lm j m (by omega) hm hgj;exact⟨λh=>o3 _ (a1 h),λh t ht=>o3 _ (a2 h t ht)⟩
 .rw[mG (by rw[hl.len];omega)];simp only[aoy];exact .some ⟨l,hl,rfl⟩
def nP(n:Ty)(i:Nat):Prop:=(n.1:Int)=51/\(n.2:Int)=((i+1:Nat):Int)
instance(n:Ty)(i:Nat):Decidable (nP n i):=by unfold nP;infer_instance
structure KL(code:List Ty)(l K:List Bool):Prop where
 len:K.length=code.length
 ok:∀(i:Nat)n,code[i]? =aa n->(gb K i=af↔gb l i=af/\¬nP n i)
def ct(K:List Bool):Nat->Nat
 |0=>0
 |i+1=>ct K i+if gb K i=af then 1 else 0
def kp{α:Type}(g:Nat->α)(K:List Bool):Nat->List α
 |0=>[]
 |i+1=>kp g K i++if gb K i=af then[g i]else[]
theorem lG{α:Type}(g:Nat->α)(K:List Bool):∀i,(kp g K i).length=ct K i
 |0=>rfl
 |i+1=>by
  rw[kp,ct,aoH,lG g K i]
  split<;>rfl
theorem D6(K:List Bool){i j:Nat}(h:i<=j):ct K i<=ct K j:=by
 induction j with
 |zero=>obtain rfl:i=0:=by omega
        exact aoJ _
 |succ j ih=>
  by_cases e:i=j+1
  .rw[e];exact aoJ _
  .have:=ih (by omega);rw[ct];omega
theorem yb(K:List Bool):∀i,ct K i<=i
 |0=>aoJ _
 |i+1=>by
  have:=yb K i;rw[ct]
  split<;>omega
theorem xB{α:Type}(g:Nat->α)(K:List Bool){i:Nat}(hi:gb K i=af):∀j,i<j->(kp g K j)[ct K i]? =aa (g i):=by
 intro j
 induction j with
 |zero=>intro h;omega
 |succ j ih=>
  intro h;rw[kp];by_cases e:i=j
  .subst e;rw[aj hi,apk (by rw[lG];exact aoJ _),lG,Nat.sub_self];rfl
  .have aJ:ct K i<(kp g K j).length:=by
    rw[lG];have h1:ct K (i+1)<=ct K j:=D6 K (by omega);rw[ct,aj hi]at h1;omega
   rw[apc aJ];exact ih (by omega)
theorem Ax(K:List Bool){q:Nat}:∀j,q<ct K j->∃i,i<j/\gb K i=af/\ct K i=q:=by
 intro j
 induction j with
 |zero=>intro h;simp[ct]at h
 |succ j ih=>
  intro h;by_cases hq:q<ct K j
  .obtain⟨i,h1,h2,h3⟩:=ih hq;exact⟨i,by omega,h2,h3⟩
  .rw[ct]at h;by_cases hk:gb K j=af
   .rw[aj hk]at h;exact⟨j,by omega,hk,by omega⟩
   .rw[ai hk]at h;omega
def rj(K:List Bool)(n:Ty):Ty:=if mh n then((n.1,((ct K (n.2:Int).toNat:Nat):Int)):Int×Int)else n
def rem(code:List Ty)(K:List Bool):List Ty:=(kp (λi=>code.getD i ((0,0):Int×Int)) K code.length).map (rj K)
theorem QR(K:List Bool)(n:Ty):((rj K n).1:Int)=n.1:=by
 unfold rj
 split<;>rfl
theorem Jh{K:List Bool}{n:Ty}(h:¬mh n):rj K n=n:=by
 unfold rj;rw[ai h]
theorem sA{code:List Ty}{K:List Bool}(hl:code.length<=1000)(hK:K.length=code.length)(hj:∀(i:Nat)n,code[i]? =aa n->gb K i=af->mh n->∃t:Nat,(n.2:Int)=t/\t<=code.length):Wp (M.fm aG code K) λr=>r=rem code K:=by
 unfold M.fm;rw[aL (by omega)]
 have Be:pw ((code.length+1:Nat):Int) (0:Int)=aa (aoE (code.length+1) 0):=by
  unfold pw;rw[aj (by omega),aoF]
 rw[Be];simp only[aoy]
 refine Wp.seq (λj=>j.1.length=code.length+1/\(∀t:Nat,t<code.length->j.1[t]? =aa (((ct K t:Nat):Int)))/\j.2=kp (λi=>code.getD i ((0,0):Int×Int)) K code.length) ?_ λj Tk=>?_
 .refine Wp.loop (λs:Int×List Int×List Ty=>∃i:Nat,s.1=i/\i<=code.length/\s.2.1.length=code.length+1/\(∀t:Nat,t<i->s.2.1[t]? =aa (((ct K t:Nat):Int)))/\s.2.2=kp (λi=>code.getD i ((0,0):Int×Int)) K i) (λs=>(code.length-s.1).toNat) ⟨0,rfl,aoR _,by simp,λt h=>by omega,rfl⟩ (by unfold aG;simp only;omega) ?_
  rintro⟨_,ps,_⟩ ⟨i,rfl,hi,pU,hp,rfl⟩
  dsimp only at pU hp⊢
  refine Wp.dec (λh=>?_) λh=> .some ?_
  .have gh:i<code.length:=by omega
   rw[aD gh,aD (show i<ps.length by omega),o7 (by omega)];simp only[aoy]
   have Hk:code.getD i ((0,0):Int×Int)=code[i]:=by simp only[apb,gh,aoA,ao8]
   have Ei:=lG (λi=>code.getD i ((0,0):Int×Int)) K i;have AN:=yb K i
   refine Wp.seq (λo=>o=(ps.set i (((ct K i:Nat):Int)),kp (λi=>code.getD i ((0,0):Int×Int)) K (i+1))) ?_ λo ho=> .some ?_
   .by_cases hg:gb K i=af
    .rw[aj hg,bF (by rw[Ei];simp;omega)];simp only[aoy];refine .some ?_;rw[kp,aj hg,Hk,Ei];rfl
    .rw[ai hg];refine .some ?_;rw[kp,ai hg,apq,Ei];rfl
   .subst ho;rw[aL (by omega)];refine⟨⟨i+1,rfl,gh,by simp[pU],λt ht=>?_,rfl⟩,by simp only;omega⟩
    show(ps.set i _)[t]? =_
    by_cases e:t=i
    .subst e;rw[List.getElem?_set_self (by omega)]
    .rw[List.getElem?_set_ne (by omega)];exact hp t (by omega)
  .obtain rfl:i=code.length:=by omega
   exact⟨pU,hp,rfl⟩
 .obtain⟨ps,res⟩:=j;obtain⟨p1,p2,rfl⟩:=Tk;dsimp only at p1 p2⊢;rw[aD (show code.length<ps.length by omega)];simp only[aoy];have AN:=yb K code.length;have Ei:=lG (λi=>code.getD i ((0,0):Int×Int)) K code.length
  have Uc:∀t:Nat,t<=code.length->idx (be ps (code.length:Int) (((kp (λi=>code.getD i ((0,0):Int×Int)) K code.length).length:Nat):Int)) (t:Int)=aa (((ct K t:Nat):Int)):=by
   intro t ht
   have hlen:t<(be ps (code.length:Int) (((kp (λi=>code.getD i ((0,0):Int×Int)) K code.length).length:Nat):Int)).length:=by simp[be];omega
   rw[aD hlen]
   have e:(be ps (code.length:Int) (((kp (λi=>code.getD i ((0,0):Int×Int)) K code.length).length:Nat):Int))[t]? =aa (((ct K t:Nat):Int)):=by
    unfold be;rw[aoF,Ei];by_cases e:t=code.length
    .subst e;rw[List.getElem?_set_self (by omega)]
    .rw[List.getElem?_set_ne (by omega)];exact p2 t (by omega)
   rw[aoA hlen]at e;exact e
  unfold rem
  refine Av (by omega) (λq hq l vx TR=>?_) λl vx=>?_
  .have hq2:q<l.length:=by omega
   have hqc:q<ct K code.length:=by omega
   obtain⟨i,i1,i2,i3⟩:=Ax K _ hqc
   have Hk:code.getD i ((0,0):Int×Int)=code[i]:=by simp only[apb,i1,aoA,ao8]
   have hx:(kp (λi=>code.getD i ((0,0):Int×Int)) K code.length)[q]=code[i]:=by
    have:=xB (λi=>code.getD i ((0,0):Int×Int)) K i2 code.length i1;rw[i3,aoA hq,Hk]at this;exact aoB this
   have hge:=aoA i1;rw[hx]at TR⊢;generalize code[i]=x at TR hge⊢;dsimp only;rw[aD hq2,TR];simp only[aoy,gM]
   refine Wp.dec (λ_=>?_) λh=>by omega
   refine Wp.seq (λo=>o=l.set q (rj K x)) ?_ λo ho=> .some ?_
   .refine Wp.dec (λAM=>?_) λAM=> .some ?_
    .obtain⟨t,t1,t2⟩:=hj i x hge i2 AM;rw[show(x.2:Int)=t from t1,Uc t t2];simp only[aoy];refine .some ?_;unfold rj;rw[aj (show mh x from AM),t1];simp[be]
    .rw[Jh AM,<-TR];simp
   .rw[ho,aL (by omega)]
  .dsimp only
   exact Wp.dec (λh=>by omega) λ_=> .some rfl
theorem G0{K:List Bool}(hl:K.length<=1000):Wp (M.cE aG K ag) λb=>(b=af->∃i,i<K.length/\gb K i=ag):=by
 unfold M.cE M.fZ
 refine Wp.seq (λr:Int=>0<=r->∃i,i<K.length/\gb K i=ag) ?_ λr hr=> .some λh=>hr (by simpa using h)
 refine Wp.loop (λs:Int=>∃i:Nat,s=i/\i<=K.length) (λs=>(K.length-s).toNat) ⟨0,rfl,aoR _⟩ (by unfold aG;omega) ?_
 rintro _ ⟨i,rfl,hi⟩
 refine Wp.dec (λh=>?_) λh=> .some λh=>absurd h (by decide)
 have gh:i<K.length:=by omega
 rw[o7 gh];simp only[aoy]
 refine Wp.dec (λh1=> .some λ_=>⟨i,gh,h1.symm⟩) λh1=> .some ?_
 rw[aL (by omega)];exact⟨⟨i+1,rfl,gh⟩,by simp only;omega⟩
theorem QS{code:List Ty}{F:List Int}{l K:List Bool}(f:Fits code F)(hw:∀n∈code,WF aA n)(r:RL code F l)(k:KL code l K):sd code (rem code K)/\(rem code K).length=ct K code.length:=by
 have hlen:(rem code K).length=ct K code.length:=by unfold rem;rw[ao5,lG]
 have AN:=yb K code.length;have hle:=f.le;refine⟨?_,hlen⟩
 have gF:∀i,gb K i=af->i<code.length->gd (kp (λi=>gd F i) K code.length++[1]) (ct K i)=gd F i:=by
  intro i hi aJ;have:=xB (λi=>gd F i) K hi code.length aJ;have Rt:ct K i<(kp (λi=>gd F i) K code.length).length:=(aoI.1 this).1;rw[xz,apc Rt,this];rfl
 have gL:gd (kp (λi=>gd F i) K code.length++[1]) (ct K code.length)=1:=by
  rw[xz,apk (by rw[lG];exact aoJ _),lG,Nat.sub_self];rfl
 have skip:∀(p:Nat)n,code[p]? =aa n->gb l p=af->¬gb K p=af->nP n p/\gb l (p+1)=af/\gd F (p+1)=gd F p/\ct K (p+1)=ct K p:=by
  intro p n hn hg hk
  have hx:nP n p:=by
   by_cases h:nP n p
   .exact h
   .exact absurd ((k.ok p n hn).2 ⟨hg,h⟩) hk
  refine⟨hx,(r.step p n hn hg).2 (uS hx.1) (p+1) hx.2,?_,by rw[ct,ai hk];rfl⟩;obtain⟨s,_⟩:=f.at hn (r.sound p hg)
  rcases s with⟨_,u,u1,u2,u3,u4⟩|⟨c,_⟩|⟨c,_⟩
  .have:u=p+1:=nat_eq u1 hx.2;rw[<-this];exact u4
  .exact absurd hx.1 (qI c)
  .exact absurd hx.1 c
 have dep:∀(m p:Nat),code.length-p<=m->p<=code.length->gb l p=af->gd (kp (λi=>gd F i) K code.length++[1]) (ct K p)=gd F p:=by
  intro m
  induction m with
  |zero=>
   intro p hm hp hg
   obtain rfl:p=code.length:=by omega
   rw[gL,f.last]
  |succ m ih=>
   intro p hm hp hg;by_cases aJ:p<code.length
   .by_cases hk:gb K p=af
    .exact gF p hk aJ
    .obtain⟨_,h1,h2,h3⟩:=skip p _ (aoA aJ) hg hk;rw[<-h3,<-h2];exact ih (p+1) (by omega) aJ h1
   .obtain rfl:p=code.length:=by omega
    rw[gL,f.last]
 have ahz:∀(m p:Nat),code.length-p<=m->p<=code.length->gb l p=af->gb l code.length=af:=by
  intro m
  induction m with
  |zero=>
   intro p hm hp hg
   obtain rfl:p=code.length:=by omega
   exact hg
  |succ m ih=>
   intro p hm hp hg;by_cases aJ:p<code.length
   .have hge:=aoA aJ;obtain⟨s1,s2⟩:=r.step p _ hge hg;by_cases nJ:(code[p].1:Int)=51
    .obtain⟨s,_⟩:=f.at hge (r.sound p hg)
     rcases s with⟨_,u,u1,u2,u3,u4⟩|⟨c,_⟩|⟨c,_⟩
     .exact ih u (by omega) u3 (s2 (uS nJ) u u1)
     .exact absurd nJ (qI c)
     .exact absurd nJ c
    .exact ih (p+1) (by omega) aJ (s1 nJ)
   .obtain rfl:p=code.length:=by omega
    exact hg
 have ahA:=ahz code.length 0 (by omega) (aoR _) r.zero
 have one:∀p:Nat,p<code.length->gb K p=af->Rx code (rem code K) (λp q=>gb l p=af/\p<=code.length/\q=ct K p) p (ct K p):=by
  intro p hp hk;have hge:=aoA hp
  have hb:(rem code K)[ct K p]? =aa (rj K code[p]):=by
   unfold rem;rw[apD,xB _ K hk code.length hp];simp only[apb,hge,ao8,Option.map_some]
  have VH:ct K (p+1)=ct K p+1:=by rw[ct,aj hk]
  generalize code[p]=n at hge hb;have hg:=((k.ok p n hge).1 hk).1;obtain⟨s1,s2⟩:=r.step p n hge hg
  have tgt:∀t:Nat,mh n->(n.2:Int)=t->p<t->t<=code.length->((rj K n).2:Int)=((ct K t:Nat):Int)/\ct K p<ct K t/\gb l t=af:=by
   intro t hj ht TH Hi;refine⟨?_,?_,s2 hj t ht⟩
   .unfold rj;rw[aj hj]
    show((ct K (n.2:Int).toNat:Nat):Int)=_
    rw[ht];rfl
   .have:=D6 K (show p+1<=t by omega);omega
  by_cases hj:mh n
  .obtain⟨s,_⟩:=f.at hge (r.sound p hg)
   rcases s with⟨c1,t,c2,c3,c4,c5⟩|⟨c1,c2,c3,t,c4,c5,c6,c7⟩|⟨c1,c2,_⟩
   .obtain⟨t1,t2,t3⟩:=tgt t hj c2 c3 c4;exact .jump hge hb c1 ((QR K n).trans c1) c2 t1 t2 ⟨t3,c4,rfl⟩
   .obtain⟨t1,t2,t3⟩:=tgt t hj c4 c5 c6;exact .cond hge hb c1 (QR K n) c4 t1 t2 ⟨t3,c6,rfl⟩ ⟨s1 (qI c1),hp,VH.symm⟩
   .exact(oe hj).elim (λe=>absurd e c1) (λe=>absurd e c2)
  .rw[Jh hj]at hb;exact .op hge hb hj ⟨s1 (λh=>hj (uS h)),hp,VH.symm⟩
 have d0:=dep code.length 0 (by omega) (aoR _) r.zero;rw[f.first]at d0
 have pC:0<ct K code.length:=by
  rcases Nat.eq_zero_or_pos (ct K code.length)with h|h
  .rw[h]at gL;have e:ct K 0=0:=rfl;rw[e,gL]at d0;cases d0
  .exact h
 have s:TK code (rem code K) F (kp (λi=>gd F i) K code.length++[1]) (λp q=>gb l p=af/\p<=code.length/\q=ct K p):=by
  refine⟨f,by omega,by omega,by rw[aoH,lG,hlen];rfl,λq=>?_,λp q h=>?_,λp q h=>?_,λq hq h0=>?_,⟨r.zero,aoR _,rfl⟩,⟨ahA,aoJ _,hlen⟩⟩
  .rw[xz]
   cases hx:(kp (λi=>gd F i) K code.length++[1])[q]? with
   |none=>decide
   |some z=>
    show-1<=z/\z<=12
    have hm:=apW hx
    rcases ao7.1 hm with hm|hm
    .obtain⟨q',uH,rfl⟩:=aoS hm;rw[lG]at uH;obtain⟨i,i1,i2,i3⟩:=Ax K _ uH;have:=xB (λi=>gd F i) K i2 code.length i1;rw[i3,aoA (by rw[lG];exact uH)]at this;rw[aoB this];exact f.bd i
    .rw[aoY.1 hm];decide
  .obtain⟨a1,a2,rfl⟩:=h;exact⟨r.sound p a1,a2,by rw[hlen];exact D6 K a2,dep code.length p (by omega) a2 a1⟩
  .obtain⟨a1,a2,rfl⟩:=h;by_cases hp:p=code.length
   .exact .inl ⟨hp,by rw[hlen,hp]⟩
   .have aJ:p<code.length:=by omega
    by_cases hk:gb K p=af
    .exact .inr (.inl (one p aJ hk))
    .have hge:=aoA aJ;obtain⟨h1,h2,_,h3⟩:=skip p _ hge a1 hk;exact .inr (.inr ⟨_,p+1,hge,h1.1,h1.2,h2,aJ,h3.symm⟩)
  .rw[hlen]at hq;obtain⟨i,i1,i2,i3⟩:=Ax K _ hq;subst i3;exact⟨i,⟨((k.ok i _ (aoA i1)).1 i2).1,by omega,rfl⟩,one i i1 i2⟩
 refine s.same (by omega) λm hm=>?_
 unfold rem at hm;obtain⟨y,hy,rfl⟩:=apY.1 hm;obtain⟨q,hq,rfl⟩:=aoS hy;have uH:=hq;rw[lG]at uH;obtain⟨i,i1,i2,i3⟩:=Ax K _ uH;have:=xB (λi=>code.getD i ((0,0):Int×Int)) K i2 code.length i1;rw[i3,aoA hq]at this;have e:=aoB this
 have Hk:code.getD i ((0,0):Int×Int)=code[i]:=by simp only[apb,i1,aoA,ao8]
 rw[e,Hk];have hwi:=hw _ (aoG i1);unfold rj;split
 .rename_i hj;refine⟨hwi.1,?_,?_⟩
  .show(-9223372036854775808:Int)<=((ct K _:Nat):Int);omega
  .show((ct K (code[i].2:Int).toNat:Nat):Int)<=(9223372036854775807:Int)
   by_cases hjt:∃t:Nat,(code[i].2:Int)=t/\t<=code.length
   .obtain⟨t,t1,t2⟩:=hjt;rw[t1,aoF];have:=yb K t;omega
   .exfalso;apply hjt;have hge:=aoA i1;obtain⟨s,_⟩:=f.at hge (r.sound i ((k.ok i _ hge).1 i2).1)
    rcases s with⟨c1,t,c2,c3,c4,c5⟩|⟨c1,c2,c3,t,c4,c5,c6,c7⟩|⟨c1,c2,_⟩
    .exact⟨t,c2,c4⟩
    .exact⟨t,c4,c6⟩
    .exact(oe hj).elim (λe=>absurd e c1) (λe=>absurd e c2)
 .exact hwi
end L.P.Q
namespace L.P.Q
noncomputable def Ay(s4:List aA.den):Option (List aA.den⊕List aA.den):=
(M.eF aG s4).bind λy5=>
(Loop (S:=Int×List Bool) (X:=List Bool) (λs7=>
(if(decide (s7.1<(s4.length:Int)))=af then
((idx s4 s7.1).bind λx9=>
((if(decide (x9.1=(51:Int)))=af then
some (decide (x9.2=(aoz.wrap (s7.1+(1:Int)))))
else
some ag):Option (Bool)).bind λsx=>
(if sx=af then
(idx s7.2 s7.1).bind λnT=>
some (be s7.2 s7.1 ag)
else
some s7.2):Option (List Bool)).bind λj8=>
some (ao4 (aoz.wrap (s7.1+(1:Int)),j8))
else
some (aoV s7.2))) aG ((0:Int),y5):Option (List Bool)).bind λj6=>
(M.cE aG j6 ag).bind λpJ=>
(if pJ=af then
(M.fm aG s4 j6).bind λpT=>
some (ao4 pT)
else
some (aoV s4))
theorem K4{K:List Bool}:∀{j:Nat},(∃i,i<j/\gb K i=ag)->ct K j<j
 |0,⟨i,h,_⟩=>by omega
 |j+1,⟨i,h,hk⟩=>by
  rw[ct];by_cases e:i=j
  .subst e;rw[ai (by simp[hk])];have:=yb K i;omega
  .have:=K4 (K:=K) (j:=j) ⟨i,by omega,hk⟩
   split<;>omega
theorem G1{code:List Ty}{F:List Int}(f:Fits code F)(hw:∀n∈code,WF aA n):Wp (Ay code) λr=>(∃y,r= .inl y/\sd code y/\y.length<code.length)\/r= .inr code:=by
 have hle:=f.le;unfold Ay
 refine Wp.seq _ (wC f) λy hy=>?_
 obtain⟨l,r,rfl⟩:=hy;have hrl:=r.len
 refine Wp.seq (KL code l) ?_ λK k=>?_
 .refine Wp.loop (λs:Int×List Bool=>∃i:Nat,s.1=i/\i<=code.length/\s.2.length=code.length/\(∀(j:Nat)n,j<i->code[j]? =aa n->(gb s.2 j=af↔gb l j=af/\¬nP n j))/\∀j,i<=j->j<code.length->gb s.2 j=gb l j) (λs=>(code.length-s.1).toNat) ⟨0,rfl,aoR _,by simp;omega,λj n h=>by omega,λj _ hj=>?_⟩ (by unfold aG;simp only;omega) ?_
  .show gb (l.take code.length) j=gb l j
   unfold gb;rw[apb,apb,List.getElem?_take_of_lt hj]
  rintro⟨_,K⟩ ⟨i,rfl,hi,Ry,hd,hr⟩
  dsimp only at Ry hd hr⊢
  refine Wp.dec (λh=>?_) λh=> .some ⟨Ry,λj n hn=>hd j n ?_ hn⟩
  case refine_2=>
   have:=(aoI.1 hn).1;omega
  have gh:i<code.length:=by omega
  have hge:=aoA gh;rw[aD gh];generalize code[i]=n at hge⊢;simp only[aoy]
  refine Wp.seq (λo=>o.length=code.length/\(gb o i=af↔gb l i=af/\¬nP n i)/\∀j,j≠i->gb o j=gb K j) ?_ λo ho=> .some ?_
  .refine Wp.seq (λb=>b=decide (nP n i)) ?_ λb hb=>?_
   .rw[aL (by omega)]
    refine Wp.dec (λh1=> .some ?_) λh1=> .some ?_
    .unfold nP
     by_cases h2:(n.2:Int)=((i+1:Nat):Int)
     .simp[h1,h2]
     .simp[h1,h2]
    .unfold nP;simp[h1]
   .subst hb
    refine Wp.dec (λh1=>?_) λh1=> .some ⟨Ry,?_,λ_ _=>rfl⟩
    .rw[o7 (by omega)];simp only[aoy];refine .some ⟨by simp[be,Ry],?_,λj hj=>?_⟩
     .show gb (K.set i ag) i=af↔_
      rw[se (by omega),aj rfl];simp[h1]
     .show gb (K.set i ag) j=gb K j
      rw[se (by omega),ai hj]
    .rw[hr i (aoJ _) gh];simp[h1]
  .obtain⟨o1,o2,o3⟩:=ho;rw[aL (by omega)];refine⟨⟨i+1,rfl,gh,o1,λj m hj hm=>?_,λj hj Nu=>?_⟩,by simp only;omega⟩
   .by_cases e:j=i
    .subst e;rw[hge]at hm;obtain rfl:=aoB hm;exact o2
    .show gb o j=af↔_
     rw[o3 j e];exact hd j m (by omega) hm
   .show gb o j=gb l j
    rw[o3 j (by omega)];exact hr j (by omega) Nu
 .refine Wp.seq _ (G0 (by rw[k.len];omega)) λb hb=>?_
  refine Wp.ite (λh=>?_) λ_=> .some (.inr rfl)
  have hx:=hb h;rw[k.len]at hx
  refine Wp.seq _ (sA (by omega) k.len λi n hn hk hj=>?_) λz hz=> .some (.inl ⟨z,rfl,?_⟩)
  .obtain⟨s,_⟩:=f.at hn (r.sound i ((k.ok i n hn).1 hk).1)
   rcases s with⟨c1,t,c2,c3,c4,c5⟩|⟨c1,c2,c3,t,c4,c5,c6,c7⟩|⟨c1,c2,_⟩
   .exact⟨t,c2,c4⟩
   .exact⟨t,c4,c6⟩
   .exact(oe hj).elim (λe=>absurd e c1) (λe=>absurd e c2)
  .obtain⟨a1,a2⟩:=QS f hw r k;rw[hz];refine⟨a1,?_⟩;rw[a2];exact K4 hx
theorem Nd{code:List Ty}(hl:code.length<=1000)(hw:∀n∈code,WF aA n):Wp (M.cv aG code) λy=>((¬∃F,Fits code F)/\y=code)\/((∃F,Fits code F)/\sd code y/\Ay y=aa (.inr y)):=by
 unfold M.cv;rw[rp hl];simp only[aoy];obtain⟨b,hb,AZ⟩:=qy code;rw[hb];simp only[aoy];refine Wp.join (Wp.ite (λhc=> .some ?_) λhc=> .some ?_)
 .exact .inl ⟨λh=>(by rw[AZ.2 h]at hc;cases hc),rfl⟩
 have hF:∃F,Fits code F:=AZ.1 (by simpa using hc)
 have GY:sd code code:=⟨hF,aoJ _,hw,λ_ _ _ h=>h⟩
 show Wp (Loop Ay aG code) _
 refine Wp.loop (λs:List Ty=>sd code s) (λs=>s.length) GY (by unfold aG;omega) ?_;intro s hs;obtain⟨F,f⟩:=hs.fits;obtain⟨r,hr,h⟩:=G1 f hs.wf;refine⟨r,hr,?_⟩
 rcases h with⟨y,rfl,h1,h2⟩|rfl
 .exact⟨hs.trans h1,h2⟩
 .exact .inr ⟨hF,hs,hr⟩
theorem zW(r:Row)(x:r.den):px r x x=af:=by unfold px;simp
end L.P.Q
namespace L.P.Q
theorem CE{S S' X X':Type}{body:S->Option (S⊕X)}{body':S'->Option (S'⊕X')}(φ:S->S')(ψ:X->X')(I:S->Prop)(h:∀s,I s->body' (φ s)=(body s).map (Sum.map φ ψ))(hI:∀s s',I s->body s=aa (.inl s')->I s'):∀(N:Nat)(s:S),I s->Loop body' N (φ s)=(Loop body N s).map ψ
 |0,_,_=>rfl
 |N+1,s,hs=>by
  unfold Loop;rw[h s hs]
  cases hb:body s with
  |none=>rfl
  |some x=>cases x with
   |inl s'=>exact CE φ ψ I h hI N s' (hI s s' hs hb)
   |inr x=>rfl
def kr(op:Int):Int:=if op=51 then 0 else if 50<=op/\op<=53 then 1 else if cH op then-1 else ar op
theorem QT(N:Nat)(op:Int):M.nZ N op=aa (decide (50<=op/\op<=53)):=by
 unfold M.nZ;simp only[aK,aoy,iy,Bool.decide_and]
theorem K5(N:Nat)(op:Int):M.mF N op=aa (kr op):=by
 unfold M.mF kr;rw[QT,uw];by_cases h1:op=51
 .subst h1;rfl
 rw[ai (by simpa using h1),ai h1,aoy];by_cases h2:50<=op/\op<=53
 .rw[aj (by simpa using h2),aj h2]
 rw[ai (by simpa using h2),ai h2];unfold cH;by_cases h3:op=23
 .subst h3;rfl
 by_cases h4:op=24
 .subst h4;rfl
 by_cases h5:op=26
 .subst h5;rfl
 simp[h3,h4,h5]
def G2(D:List Int)(t:Nat)(d:Int):Int×List Int:=if 0<=gd D t/\gd D t≠d then(9,D)else(0,D.set t d)
theorem wD(N:Nat){D:List Int}{t:Nat}(ht:t<D.length)(d:Int):M.bl N (t:Int) d D=aa (G2 D t d):=by
 unfold M.bl G2;rw[fA ht];simp only[aoy,aK,iy];by_cases h:0<=gd D t/\gd D t≠d
 .rw[aj h,aj (by simp[h.1,h.2])]
 .rw[ai h,ai (by simpa using h)];simp[be]
def SR(len k:Nat)(op m:Int)(D:List Int):Int×List Int:=
 if¬(¬cH op/\(50<=op/\op<=53\/0<=ar op))\/((50<=op/\op<=53)/\(m<=k\/(len:Int)<m))then(2,D)
 else if op=51 then G2 D m.toNat (gd D k)
 else if 50<=op/\op<=53 then(if gd D k<1 then(5,D)else if(G2 D (k+1) (gd D k-1)).1=0 then G2 (G2 D (k+1) (gd D k-1)).2 m.toNat (if op=50 then gd D k-1 else gd D k)else G2 D (k+1) (gd D k-1))
 else if gd D k<ar op then(5,D)else if 12<gd D k-ar op+1 then(16,D)else G2 D (k+1) (gd D k-ar op+1)
theorem TS(D:List Int)(t:Nat)(d:Int):(G2 D t d).2.length=D.length:=by unfold G2;split<;>simp
theorem step_eq(N:Nat){code:List Ty}{D:List Int}{k:Nat}{op m:Int}(hl:code.length<=128)(hk:k<code.length)(hD:D.length=code.length+1)(h0:0<=gd D k)(h1:gd D k<=12):M.bO N code (k:Int) ((op,m):Int×Int) D=aa (SR code.length k op m D):=by
 unfold M.bO SR;have OJ:=kE op;simp only[od,mH,aoy]
 have e0:((if(!decide (¬cH op/\(50<=op/\op<=53\/0<=ar op)))=af then aa af else(if decide (50<=op/\op<=53)=af then(if(decide (m<=(k:Int)))=af then aa af else aa (decide ((code.length:Int)<m)))else aa ag)):Option Bool)=aa (decide (¬(¬cH op/\(50<=op/\op<=53\/0<=ar op))\/((50<=op/\op<=53)/\(m<=k\/(code.length:Int)<m)))):=by
  by_cases a:¬cH op/\(50<=op/\op<=53\/0<=ar op)
  .rw[ai (by rw[ao a];decide)];by_cases b:50<=op/\op<=53
   .rw[aj (ao b)]
    by_cases c:m<=(k:Int)
    .rw[aj (ao c)];exact aw aa (ao (.inr ⟨b, .inl c⟩)).symm
    .rw[ai (by rw[ax];exact c)];refine aw aa ?_;rw[aoO,ax,ax];exact⟨λg=> .inr ⟨b, .inr g⟩,λg=>g.elim (λe=>absurd a e) λe=>e.2.elim (λf=>absurd f c) id⟩
   .rw[ai (by rw[ax];exact b)];refine aw aa (aq ?_).symm
    exact λg=>g.elim (λe=>e a) λe=>b e.1
  .rw[aj (by rw[aq a];decide)];exact aw aa (ao (.inl a)).symm
 rw[e0,aoy];by_cases c:¬(¬cH op/\(50<=op/\op<=53\/0<=ar op))\/((50<=op/\op<=53)/\(m<=k\/(code.length:Int)<m))
 .rw[aj (ao c),aj c]
 rw[ai (by rw[ax];exact c),ai c,fA (by omega),aoy]
 have hm:(50<=op/\op<=53)->∃t:Nat,m=t/\t<D.length:=λhj=>⟨m.toNat,by omega,by omega⟩
 by_cases nJ:op=51
 .obtain⟨t,rfl,ht⟩:=hm (by omega);rw[aj (ao nJ),aj nJ,wD N ht,aoF];rfl
 rw[ai (by rw[ax];exact nJ),ai nJ]
 have e1:((if(decide (op=(50:Int)))=af then aa (decide (op=(50:Int)))else(if(decide (op=(52:Int)))=af then aa (decide (op=(52:Int)))else aa (decide (op=(53:Int))))):Option Bool)=aa (decide (50<=op/\op<=53)):=by
  rw[D2];refine aw aa ?_;rw[aoO,ax,ax];omega
 rw[e1,aoy];by_cases hj:50<=op/\op<=53
 .obtain⟨t,rfl,ht⟩:=hm hj;rw[aj (ao hj),aj hj,aoF];by_cases h5:gd D k<1
  .rw[aj (ao h5),aj h5]
  rw[ai (by rw[ax];exact h5),ai h5,aL (by omega),aE (by omega) (by omega),wD N (by omega),aoy];have hrl:=TS D (k+1) (gd D k-1);generalize G2 D (k+1) (gd D k-1)=r at hrl⊢;by_cases hr:(r.1:Int)=0
  .rw[ai (by rw[ao hr];decide),aj hr]
   have e2:((if(decide (op=(50:Int)))=af then aa (gd D k-1)else aa (gd D k)):Option Int)=aa (if op=50 then gd D k-1 else gd D k):=by
    by_cases h:op=50<;>simp[h]
   rw[e2,aoy,wD N (by omega)];rfl
  .rw[aj (by rw[aq hr];decide),ai hr]
 .rw[ai (by rw[ax];exact hj),ai hj,eJ,aoy]
  have DI:0<=ar op:=by
   rcases Decidable.em (0<=ar op)with h|h
   .exact h
   .exact absurd (.inl λg=>g.2.elim hj h) c
  by_cases h5:gd D k<ar op
  .rw[aj (ao h5),aj h5]
  rw[ai (by rw[ax];exact h5),ai h5,aE (n:=gd D k-ar op) (by omega) (by omega),aE (n:=gd D k-ar op+1) (by omega) (by omega)];by_cases Kg:12<gd D k-ar op+1
  .rw[aj (ao Kg),aj Kg]
  rw[ai (by rw[ax];exact Kg),ai Kg,aL (by omega),wD N (by omega)];rfl
noncomputable def Xs(code:List Ty)(s6:Int×List Int):Option ((List Int)⊕((Int×List Int)⊕((List Int)⊕(Int×Int)))):=
(idx s6.2 s6.1).bind λx8=>
(if(decide (x8<(0:Int)))=af then
some (ao4 s6.2)
else
(idx code s6.1).bind λx9=>
(M.mF aG x9.1).bind λnI=>
((if(decide (nI<(0:Int)))=af then
some af
else
(M.nZ aG x9.1).bind λpJ=>
(if pJ=af then
(if(decide (x9.2<=s6.1))=af then
some af
else
some (decide ((code.length:Int)<x9.2)))
else
some ag)):Option (Bool)).bind λsK=>
(if sK=af then
some (aoV (aoV (aoV ((0:Int),(2:Int)))))
else
(idx s6.2 s6.1).bind λnK=>
(if(decide (nK<nI))=af then
some (aoV (aoV (aoV ((0:Int),(5:Int)))))
else
(idx s6.2 s6.1).bind λqE=>
(M.pL aG x9 qE).bind λlv=>
(if(decide ((12:Int)<lv.1))=af then
some (aoV (aoV (aoV ((0:Int),(16:Int)))))
else
bx (J:=List Int) (R:=(List Int)⊕((Int×List Int)⊕((List Int)⊕(Int×Int)))) ((if(decide ((0:Int)<=lv.1))=af then
((idx s6.2 (aoz.wrap (s6.1+(1:Int)))).bind λuN=>
(if(decide ((0:Int)<=uN))=af then
(idx s6.2 (aoz.wrap (s6.1+(1:Int)))).bind λDt=>
some (!decide (Dt=lv.1))
else
some ag):Option (Bool)).bind λRm=>
(if Rm=af then
some (aoV (aoV (aoV (aoV ((0:Int),(9:Int))))))
else
(idx s6.2 (aoz.wrap (s6.1+(1:Int)))).bind λY7=>
some (ao4 (be s6.2 (aoz.wrap (s6.1+(1:Int))) lv.1)))
else
some (ao4 s6.2))) λAO=>
(if(decide ((0:Int)<=lv.2))=af then
((idx AO x9.2).bind λSG=>
(if(decide ((0:Int)<=SG))=af then
(idx AO x9.2).bind λVZ=>
some (!decide (VZ=lv.2))
else
some ag):Option (Bool)).bind λV0=>
(if V0=af then
some (aoV (aoV (aoV ((0:Int),(9:Int)))))
else
(idx AO x9.2).bind λx24=>
some (ao4 (be AO x9.2 lv.2)))
else
some (ao4 AO))))))
theorem TT{D:List Int}{t:Nat}(ht:t<D.length)(d:Int):((idx D (t:Int)).bind λuN=>(if(decide ((0:Int)<=uN))=af then(idx D (t:Int)).bind λDt=>aa (!decide (Dt=d))else aa ag):Option Bool)=aa (decide (0<=gd D t/\gd D t≠d)):=by
 rw[fA ht];simp only[aoy,aK,iy];refine aw aa ?_;rw[aoO];simp
theorem Ji{N:Nat}{op m d:Int}(hd:0<=d/\d<=12)(hk:0<=kr op)(hkd:kr op<=d):M.pL N ((op,m):Int×Int) d=aa (if op=51 then(-1,d)else if 50<=op/\op<=53 then(d-1,if op=50 then d-1 else d)else(d-ar op+1,-1)):=by
 unfold M.pL;by_cases h1:op=51
 .subst h1;rfl
 rw[ai (by rw[ax];exact h1),ai h1];by_cases h2:op=50
 .subst h2;have:(1:Int)<=d:=hkd;rw[aj rfl,aE (by omega) (by omega)];rfl
 rw[ai (by rw[ax];exact h2),Qv,aoy];by_cases h3:op=52\/op=53
 .rw[aj (ao h3),aj (by omega),ai h2,aE (by omega) (by omega)]
 rw[ai (by rw[ax];exact h3),ai (by omega),K5,aoy];have OJ:=kE op
 have Xt:kr op=ar op:=by
  unfold kr at hk⊢;rw[ai h1,ai (by omega)]at hk⊢;split at hk
  .omega
  .rw[ai (by assumption)]
 rw[Xt]at hk hkd⊢;rw[aE (n:=d-ar op) (by omega) (by omega),aE (by omega) (by omega)]
theorem Jj(op:Int):kr op<0↔¬(¬cH op/\(50<=op/\op<=53\/0<=ar op)):=by
 have hz:(50<=op/\op<=53)->¬cH op:=λh=>by unfold cH;omega
 unfold kr;by_cases h1:op=51
 .rw[aj h1];exact⟨λh=>absurd h (by decide),λg=>absurd ⟨hz (by omega), .inl (by omega)⟩ g⟩
 rw[ai h1];by_cases h2:50<=op/\op<=53
 .rw[aj h2];exact⟨λh=>absurd h (by decide),λg=>absurd ⟨hz h2, .inl h2⟩ g⟩
 rw[ai h2];by_cases h3:cH op
 .rw[aj h3];exact⟨λ_ g=>g.1 h3,λ_=>by decide⟩
 .rw[ai h3];constructor
  .intro h g
   rcases g.2 with e|e
   .exact h2 e
   .omega
  .intro g
   rcases apZ (ar op) 0 with e|e
   .exact e
   .exact absurd ⟨h3, .inr e⟩ g
theorem TU{code:List Ty}{D:List Int}{k:Nat}{op m:Int}(hl:code.length<=128)(hk:k<code.length)(hn:idx code (k:Int)=aa ((op,m):Int×Int))(hD:D.length=code.length+1)(h1:gd D k<=12):
 Xs code ((k:Int),D)=aa (if gd D k<0 then .inl D else if(SR code.length k op m D).1=0 then .inl (SR code.length k op m D).2 else .inr (.inr (.inr (0,(SR code.length k op m D).1)))):=by
 unfold Xs;have OJ:=kE op;dsimp only;rw[fA (by omega),aoy];by_cases h0:gd D k<0
 .rw[aj (ao h0),aj h0]
 rw[ai (by rw[ax];exact h0),ai h0,hn,aoy];dsimp only;rw[K5,aoy,QT,aoy]
 have e0:((if(decide (kr op<(0:Int)))=af then aa af else(if decide (50<=op/\op<=53)=af then(if(decide (m<=(k:Int)))=af then aa af else aa (decide ((code.length:Int)<m)))else aa ag)):Option Bool)=aa (decide (¬(¬cH op/\(50<=op/\op<=53\/0<=ar op))\/((50<=op/\op<=53)/\(m<=k\/(code.length:Int)<m)))):=by
  by_cases a:kr op<0
  .rw[aj (ao a)];exact aw aa (ao (.inl ((Jj op).1 a))).symm
  .have a':¬¬(¬cH op/\(50<=op/\op<=53\/0<=ar op)):=λg=>a ((Jj op).2 g)
   rw[ai (by rw[ax];exact a)];by_cases b:50<=op/\op<=53
   .rw[aj (ao b)]
    by_cases c:m<=(k:Int)
    .rw[aj (ao c)];exact aw aa (ao (.inr ⟨b, .inl c⟩)).symm
    .rw[ai (by rw[ax];exact c)];refine aw aa ?_;rw[aoO,ax,ax];exact⟨λg=> .inr ⟨b, .inr g⟩,λg=>g.elim (λe=>absurd e a') λe=>e.2.elim (λf=>absurd f c) id⟩
   .rw[ai (by rw[ax];exact b)];refine aw aa (aq ?_).symm
    exact λg=>g.elim (λe=>a' e) λe=>b e.1
 rw[e0,aoy];unfold SR;by_cases c:¬(¬cH op/\(50<=op/\op<=53\/0<=ar op))\/((50<=op/\op<=53)/\(m<=k\/(code.length:Int)<m))
 .simp only[aj (ao c),aj c];rfl
 have XM:0<=kr op:=by
  rcases apZ (kr op) 0 with e|e
  .exact absurd (.inl ((Jj op).1 e)) c
  .exact e
 simp only[ai (show¬decide (¬(¬cH op/\(50<=op/\op<=53\/0<=ar op))\/((50<=op/\op<=53)/\(m<=k\/(code.length:Int)<m)))=af by rw[ax];exact c),ai c,fA (show k<D.length by omega),aoy]
 have hm:(50<=op/\op<=53)->∃t:Nat,m=t/\t<D.length:=λhj=>⟨m.toNat,by omega,by omega⟩
 by_cases nJ:op=51
 .subst nJ;obtain⟨t,rfl,ht⟩:=hm (by omega);have Vp:kr 51=0:=rfl;rw[Vp,ai (by rw[ax];omega),Ji (by omega) (by rw[Vp];omega) (by rw[Vp];omega),aj rfl,aoy];dsimp only;rw[ai (show¬decide ((12:Int)< -1)=af by decide),ai (show¬decide ((0:Int)<=-1)=af by decide)]
  show((if decide (0<=gd D k)=af then _ else _):Option _)=_
  rw[aj (ao (by omega)),TT ht,aoy,fA ht];unfold G2;simp only[if_true,aoF];by_cases g:0<=gd D t/\gd D t≠gd D k
  .simp only[aj (ao g),aj g];rfl
  .simp only[ai (show¬decide (0<=gd D t/\gd D t≠gd D k)=af by rw[ax];exact g),ai g];rfl
 by_cases hj:50<=op/\op<=53
 .obtain⟨t,rfl,ht⟩:=hm hj
  have Vp:kr op=1:=by unfold kr;rw[ai nJ,aj hj]
  simp only[ai nJ,aj hj,aoF];rw[Vp];by_cases h5:gd D k<1
  .rw[aj (ao h5),aj h5];rfl
  rw[ai (by rw[ax];exact h5),ai h5,Ji (by omega) (by omega) (by omega),ai nJ,aj hj,aoy];dsimp only;rw[ai (by rw[ax];omega),aj (ao (by omega)),aL (by omega),TT (by omega),aoy];by_cases g:0<=gd D (k+1)/\gd D (k+1)≠gd D k-1
  .have er:G2 D (k+1) (gd D k-1)=(9,D):=aj g;rw[aj (ao g),er];rfl
  .have er:G2 D (k+1) (gd D k-1)=(0,D.set (k+1) (gd D k-1)):=ai g;rw[ai (by rw[ax];exact g),er,fA (by omega),aoy];dsimp only;rw[aj rfl]
   have hd:0<=(if op=50 then gd D k-1 else gd D k):=by split<;>omega
   generalize(if op=50 then gd D k-1 else gd D k)=d at hd⊢
   show((if decide (0<=d)=af then _ else _):Option _)=_
   have es:be D ((k+1:Nat):Int) (gd D k-1)=D.set (k+1) (gd D k-1):=rfl;rw[aj (ao hd),es]
   have JH:t<(D.set (k+1) (gd D k-1)).length:=by simpa using ht
   generalize D.set (k+1) (gd D k-1)=D' at JH⊢;rw[TT JH,aoy,fA JH];unfold G2;by_cases g2:0<=gd D' t/\gd D' t≠d
   .simp only[aj (ao g2),aj g2];rfl
   .simp only[ai (show¬decide (0<=gd D' t/\gd D' t≠d)=af by rw[ax];exact g2),ai g2];rfl
 .have Xt:kr op=ar op:=by
   unfold kr at XM⊢;rw[ai nJ,ai hj]at XM⊢;split at XM
   .omega
   .rw[ai (by assumption)]
  simp only[ai nJ,ai hj];rw[Xt]at XM⊢;by_cases h5:gd D k<ar op
  .rw[aj (ao h5),aj h5];rfl
  rw[ai (by rw[ax];exact h5),ai h5,Ji (by omega) (by rw[Xt];omega) (by rw[Xt];omega),ai nJ,ai hj,aoy];dsimp only;by_cases Kg:12<gd D k-ar op+1
  .rw[aj (ao Kg),aj Kg];rfl
  rw[ai (by rw[ax];exact Kg),ai Kg,aj (ao (by omega)),aL (by omega),TT (by omega),aoy];generalize gd D k-ar op+1=d;by_cases g:0<=gd D (k+1)/\gd D (k+1)≠d
  .have er:G2 D (k+1) d=(9,D):=aj g;rw[aj (ao g),er];rfl
  .have er:G2 D (k+1) d=(0,D.set (k+1) d):=ai g;rw[ai (by rw[ax];exact g),er,fA (by omega),aoy];rfl
theorem K6{S S' J J' R:Type}{b:S->Option (S⊕(J⊕R))}{b':S'->Option (S'⊕(J'⊕R))}{k:J->Option R}{k':J'->Option R}{A:Type}(acc:R->Option A)(φ:S->S')(ψ:J->J')(I:S->Prop)(P:J->Prop)
 (h:∀s,I s->b' (φ s)=(b s).map (Sum.map φ (Sum.map ψ id)))(hI:∀s s',I s->b s=aa (.inl s')->I s')(hP:∀s j,I s->b s=aa (.inr (.inl j))->P j)(hk:∀j,P j->(k' (ψ j)).bind acc=(k j).bind acc):
 ∀(N:Nat)(s:S),I s->(bx (Loop b' N (φ s)) k').bind acc=(bx (Loop b N s) k).bind acc
 |0,_,_=>rfl
 |N+1,s,hs=>by
  unfold Loop;rw[h s hs]
  cases hb:b s with
  |none=>rfl
  |some x=>cases x with
   |inl s'=>exact K6 acc φ ψ I P h hI hP hk N s' (hI s s' hs hb)
   |inr x=>cases x with
    |inl j=>exact hk j (hP s j hs hb)
    |inr r=>rfl
theorem Az{code:List Ty}:M.iY aG code=M.dm aG code:=by
 unfold M.iY M.dm M.rS M.fh;by_cases h1:128<(code.length:Int)
 .simp only[ao h1,if_true]
 simp only[aq h1,aoC,if_false];by_cases h2:(code.length:Int)=0
 .simp only[ao h2,if_true]
 simp only[aq h2,aoC,if_false]
 have hl:code.length<=128:=by omega
 have hp:0<code.length:=by omega
 rw[aL (by omega)]
 have Be:pw ((code.length+1:Nat):Int) (0:Int)=aa (aoE (code.length+1) 0):=by
  unfold pw;rw[aj (by omega),aoF]
 rw[Be,aoy,aoy]
 have p1:Loop (S:=Int×List Int) (X:=List Int) (λs3=>(if(decide (s3.1<((aoE (code.length+1) (0:Int)).length:Int)))=af then(idx s3.2 s3.1).bind λx4=>aa (ao4 (aoz.wrap (s3.1+(1:Int)),be s3.2 s3.1 (-1:Int)))else aa (aoV s3.2))) aG ((0:Int),aoE (code.length+1) (0:Int))=aa (aoE (code.length+1) (-1:Int)):=by
  apply Wp.eq;refine Wp.loop (λs:Int×List Int=>∃k m:Nat,s=((k:Int),aoE k (-1)++aoE m 0)/\k+m=code.length+1) (λs=>(code.length+1-s.1).toNat) ⟨0,code.length+1,by simp,by omega⟩ (by unfold aG;simp only;omega) ?_
  rintro _ ⟨k,m,rfl,hk⟩
  simp only[List.length_replicate]
  refine Wp.dec (λh=>?_) λh=> .some ?_
  .obtain⟨m,rfl⟩:∃m',m=m'+1:=⟨m-1,by omega⟩
   rw[aD (by simp)];simp only[aoy];rw[aL (by omega)];refine .some ⟨⟨k+1,m,?_,by omega⟩,by simp only;omega⟩;refine Prod.ext rfl ?_;simp only[be,aoF];rw[apw _ _ (by simp),apr];simp[List.replicate_succ']
  .obtain rfl:m=0:=by omega
   obtain rfl:k=code.length+1:=by omega
   show _=_
   simp
 have p2:Loop (S:=Int×List Int) (X:=List Int) (λs3=>(if(decide (s3.1<=(code.length:Int)))=af then(idx s3.2 s3.1).bind λx4=>aa (ao4 (aoz.wrap (s3.1+(1:Int)),be s3.2 s3.1 (-1:Int)))else aa (aoV s3.2))) aG ((1:Int),aoE (code.length+1) (0:Int))=aa (0::aoE code.length (-1:Int)):=by
  apply Wp.eq;refine Wp.loop (λs:Int×List Int=>∃k m:Nat,s=(((k+1:Nat):Int),0::(aoE k (-1)++aoE m 0))/\k+m=code.length) (λs=>(code.length+1-s.1).toNat) ⟨0,code.length,by simp[apr],by omega⟩ (by unfold aG;simp only;omega) ?_
  rintro _ ⟨k,m,rfl,hk⟩
  simp only
  refine Wp.dec (λh=>?_) λh=> .some ?_
  .obtain⟨m,rfl⟩:∃m',m=m'+1:=⟨m-1,by omega⟩
   rw[aD (by simp)];simp only[aoy];rw[aL (by omega)];refine .some ⟨⟨k+1,m,?_,by omega⟩,by simp only;omega⟩;refine Prod.ext rfl ?_;simp only[be,aoF,List.set_cons_succ];rw[apw _ _ (by simp),apr];simp[List.replicate_succ']
  .obtain rfl:m=0:=by omega
   obtain rfl:k=code.length:=by omega
   show _=_
   simp
 rw[p1,p2,aoy,aoy]
 have e1:idx (aoE (code.length+1) (-1:Int)) 0=aa (-1):=by rw[apr];rfl
 rw[e1,aoy]
 have e0:be (aoE (code.length+1) (-1:Int)) (0:Int) (0:Int)=0::aoE code.length (-1:Int):=by rw[apr];rfl
 rw[e0]
 have g0:∀k,gd (0::aoE code.length (-1:Int)) k=if k=0 then 0 else-1:=λk=>by
  cases k with
  |zero=>rfl
  |succ k=>
   have:=D4 code.length k;rw[ai (by omega)];exact this
 refine K6 (λy:Int×Int=>aa (decide (y.2=0))) (λs:Int×Int×List Int=>(s.2.1,s.2.2)) (λj:Int×List Int=>j.2) (λs=>∃k:Nat,s.2.1=k/\k<=code.length/\s.2.2.length=code.length+1/\Bd s.2.2) (λj=>j.2.length=code.length+1) ?_ ?_ ?_ ?_ aG (0,0,0::aoE code.length (-1:Int)) ?_
 .rintro⟨g,_,D⟩ ⟨k,rfl,hk,hD,hB⟩
  dsimp only at hD hB⊢;by_cases h:(k:Int)<(code.length:Int)
  .rw[aj (ao h),aj (ao h)]
   have dT:k<code.length:=by omega
   have hn:=aD dT;generalize code[k]=n at hn;obtain⟨(op:Int),(m:Int)⟩:=n
   show bx (Xs code ((k:Int),D)) _=_
   rw[TU hl dT hn hD (hB k).2,hn,aoy,fA (by omega),aoy];by_cases h0:gd D k<0
   .rw[aj h0,aj (ao h0)];rfl
   .have hd:=aq h0;simp only[ai h0,hd,aoC,if_false,aoy];rw[step_eq aG hl dT hD (by omega) (hB k).2,aoy];by_cases hr:(SR code.length k op m D).1=0
    .have mI:=ao hr;simp only[aj hr,mI,aoX,aoC,if_false];rfl
    .have mI:=aq hr;simp only[ai hr,mI,apd,if_true];rfl
  .rw[ai (by rw[ax];exact h),ai (by rw[ax];exact h)];rfl
 .rintro⟨g,_,D⟩ s' ⟨k,rfl,hk,hD,hB⟩ hb
  dsimp only at hD hB hb;by_cases h:(k:Int)<(code.length:Int)
  .rw[aj (ao h)]at hb
   have dT:k<code.length:=by omega
   have sL:=D3 (N:=aG) hl dT hD hB;have hn:=aD dT;generalize code[k]=n at hn sL;obtain⟨(op:Int),(m:Int)⟩:=n;rw[hn,aoy,fA (by omega),aoy]at hb;by_cases h0:gd D k<0
   .rw[aj (ao h0)]at hb;obtain rfl:=aqn (aoB hb);exact⟨k+1,aL (by omega),dT,hD,hB⟩
   .rw[ai (by rw[ax];exact h0),aoy,step_eq aG hl dT hD (by omega) (hB k).2,aoy]at hb;obtain⟨r,hr,Tt⟩:=sL (by omega);rw[step_eq aG hl dT hD (by omega) (hB k).2]at hr;obtain rfl:=aoB hr;by_cases hr:(SR code.length k op m D).1=0
    .rw[ai (by rw[ao hr];decide)]at hb;obtain rfl:=aqn (aoB hb);obtain⟨a1,a2,_⟩:=Tt hr;exact⟨k+1,aL (by omega),dT,a1.len.trans hD,a2⟩
    .rw[aj (by rw[aq hr];decide)]at hb;cases hb
  .rw[ai (by rw[ax];exact h)]at hb;cases hb
 .rintro⟨g,_,D⟩ j ⟨k,rfl,hk,hD,hB⟩ hb
  dsimp only at hD hB hb;by_cases h:(k:Int)<(code.length:Int)
  .rw[aj (ao h)]at hb
   have dT:k<code.length:=by omega
   have hn:=aD dT;generalize code[k]=n at hn;obtain⟨(op:Int),(m:Int)⟩:=n;rw[hn,aoy,fA (by omega),aoy]at hb;by_cases h0:gd D k<0
   .rw[aj (ao h0)]at hb;cases hb
   .rw[ai (by rw[ax];exact h0),aoy,step_eq aG hl dT hD (by omega) (hB k).2,aoy]at hb;by_cases hr:(SR code.length k op m D).1=0
    .rw[ai (by rw[ao hr];decide)]at hb;cases hb
    .rw[aj (by rw[aq hr];decide)]at hb;cases hb
  .rw[ai (by rw[ax];exact h)]at hb;obtain rfl:=aqn (Sum.inr.inj (aoB hb));exact hD
 .rintro⟨g,D⟩ hD
  dsimp only at hD⊢
  obtain⟨M0,hM⟩:∃M0,Loop (S:=Int×Int) (X:=Int) (λCb=>(if(decide (Cb.2<=(code.length:Int)))=af then(idx D Cb.2).bind λMD=>aa (ao4 (if Cb.1<MD then MD else Cb.1,aoz.wrap (Cb.2+(1:Int))))else aa (aoV Cb.1))) aG ((0:Int),(0:Int))=aa M0:=by
   have key:Wp (Loop (S:=Int×Int) (X:=Int) (λCb=>(if(decide (Cb.2<=(code.length:Int)))=af then(idx D Cb.2).bind λMD=>aa (ao4 (if Cb.1<MD then MD else Cb.1,aoz.wrap (Cb.2+(1:Int))))else aa (aoV Cb.1))) aG ((0:Int),(0:Int))) λ_=>True:=by
    refine Wp.loop (λs:Int×Int=>∃k:Nat,s.2=k/\k<=code.length+1) (λs=>(code.length+1-s.2).toNat) ⟨0,rfl,aoR _⟩ (by unfold aG;simp only;omega) ?_
    rintro⟨g,_⟩ ⟨k,rfl,hk⟩
    refine Wp.dec (λh=>?_) λh=> .some trivial
    dsimp only at h⊢;rw[fA (show k<D.length by omega),aoy,aL (by omega)];exact .some ⟨⟨k+1,rfl,by omega⟩,by simp only;omega⟩
   obtain⟨x,e,_⟩:=key;exact⟨x,e⟩
  simp only[hM,fA (show code.length<D.length by omega),aoy];by_cases h3:gd D code.length<1
  .have d1:=ao h3;have d2:=ao (show gd D code.length<=0 by omega);simp only[d1,d2,if_true,aoy]
  .have d1:=aq h3;have d2:=aq (show¬gd D code.length<=0 by omega);simp only[d1,d2,aoC,if_false];by_cases h4:1<gd D code.length
   .have d3:=ao h4;simp only[d3,if_true,aoy]
   .have d3:=aq h4;simp only[d3,aoC,if_false,aoy]
 .exact⟨0,rfl,aoR _,by simp,λk=>by show-1<=gd (0::aoE code.length (-1:Int)) k/\gd (0::aoE code.length (-1:Int)) k<=12;rw[g0];split<;>omega⟩
end L.P.Q
namespace L.P.Q
theorem AA(N:Nat)(op:Int):M.iI N op=aa (decide (50<=op/\op<=53)):=by
 unfold M.iI;simp only[aK,aoy,jD];refine aw aa ?_;rw[aoO];simp;omega
theorem D7{code:List Ty}(hl:code.length<=1000):bR ([]:List Ty) code=aa code:=by
 rw[bF (by simp;omega),List.nil_append]
theorem AB(code:List Ty):∃b,M.dm aG code=aa b/\(b=af↔∃F,Fits code F):=by
 obtain⟨b,h,g⟩:=qy code;exact⟨b,h,g⟩
theorem pR{S X:Type}{body body':S->Option (S⊕X)}(I:S->Prop)(h:∀s,I s->body' s=body s)(hI:∀s s',I s->body s=aa (.inl s')->I s'):∀(N:Nat)(s:S),I s->Loop body' N s=Loop body N s
 |0,_,_=>rfl
 |N+1,s,hs=>by
  unfold Loop;rw[h s hs]
  cases hb:body s with
  |none=>rfl
  |some x=>cases x with
   |inl s'=>exact pR I h hI N s' (hI s s' hs hb)
   |inr x=>rfl
theorem G3{code:List Ty}(hl:code.length<=1000):M.jS aG code=M.dy aG code:=by
 unfold M.jS M.dy;obtain⟨b,hb,_⟩:=AB code;rw[rp hl,D7 hl,aoy,aoy,Az,hb,aoy,aoy]
 cases b with
 |false=>simp only[apd,if_true]
 |true=>
  simp only[aoX,aoC,if_false];refine pR (λs:Int×List Ty=>∃k:Nat,s.1=k/\k<=code.length/\s.2.length=code.length/\∀j,k<=j->s.2[j]? =code[j]?) ?_ ?_ aG ((0:Int),code) ⟨0,rfl,aoR _,rfl,λ_ _=>rfl⟩
  .rintro⟨_,out⟩ ⟨k,rfl,hk,ho,hj⟩
   dsimp only at ho hj⊢;by_cases h:(k:Int)<(code.length:Int)
   .have dT:k<code.length:=by omega
    have h':(k:Int)<(out.length:Int):=by omega
    have e1:=hj k (aoJ _);rw[aoA (by omega),aoA dT]at e1;have e1:=aoB e1;have i1:=aD dT;have i2:=aD (l:=out) (k:=k) (by omega);rw[e1]at i2;generalize code[k]=n at i1 i2;simp only[ao h,ao h',if_true,i1,i2,aoy,gM,AA]
   .have h':¬(k:Int)<(out.length:Int):=by omega
    simp only[aq h,aq h',aoC,if_false]
  .rintro⟨_,out⟩ s' ⟨k,rfl,hk,ho,hj⟩ hb
   dsimp only at ho hj hb;by_cases h:(k:Int)<(code.length:Int)
   .have dT:k<code.length:=by omega
    have e1:=hj k (aoJ _);rw[aoA (by omega),aoA dT]at e1;have e1:=aoB e1;have i1:=aD dT;have i2:=aD (l:=out) (k:=k) (by omega);rw[e1]at i2;generalize code[k]=n at i1 i2;simp only[ao h,if_true,i1,i2,aoy,gM]at hb;by_cases hjo:50<=(n.1:Int)/\(n.1:Int)<=53
    .have dj:=ao hjo;simp only[dj,aoX,aoC,if_false]at hb;obtain⟨j4,h4,hb⟩:=ao6.1 hb;obtain⟨j5,h5,h4⟩:=ao6.1 h4;obtain⟨T,_,h5⟩:=ao6.1 h5;obtain rfl:=aqn (aoB hb);obtain rfl:=aoB h4;obtain rfl:=aoB h5;refine⟨k+1,aL (by omega),dT,by simp[be,ho],λj Rn=>?_⟩
     show(out.set ((k:Int)).toNat _)[j]? =_
     rw[aoF,List.getElem?_set_ne (by omega)];exact hj j (by omega)
    .have dj:=aq hjo;simp only[dj,apd,if_true]at hb;obtain rfl:=aqn (aoB hb);exact⟨k+1,aL (by omega),dT,ho,λj Rn=>hj j (by omega)⟩
   .simp only[aq h,aoC,if_false]at hb;cases hb
end L.P.Q
namespace L.P.Q
theorem AD{J R:Type}(j:J)(k:J->Option R):bx (aa (ao4 j)) k=k j:=rfl
theorem wE{J R:Type}(r:R)(k:J->Option R):bx (aa (aoV r)) k=aa r:=rfl
theorem K7{α:Type}{l:List α}{i:Int}(h:¬(0<=i/\i<l.length)):idx l i=ae:=by
 cases hx:idx l i with
 |none=>rfl
 |some x=>
  obtain⟨g,_⟩:=(ee (Q:=λy=>y=x)).1 ⟨x,hx,rfl⟩;exact absurd g h
theorem Nf{l:List Bool}{a:Nat}{z:Int}(ha:a<l.length){X:Type}(f:List Bool->Option X):
 ((idx l (a:Int)).bind λ_=>(idx (be l (a:Int) af) z).bind λ_=>f (be (be l (a:Int) af) z af))=((idx l z).bind λ_=>(idx (be l z af) (a:Int)).bind λ_=>f (be (be l z af) (a:Int) af)):=by
 by_cases hz:0<=z/\z<l.length
 .obtain⟨t,rfl⟩:∃t:Nat,z=t:=⟨z.toNat,by omega⟩
  have ht:t<l.length:=by omega
  rw[aD ha,aD ht,aD (show t<(be l (a:Int) af).length by simp[be];exact ht),aD (show a<(be l (t:Int) af).length by simp[be];exact ha)];simp only[aoy];refine aw f ?_;unfold be;rw[aoF,aoF];by_cases e:a=t
  .subst e;rfl
  .exact List.set_comm _ _ e
 .rw[aD ha,K7 hz,K7 (show¬(0<=z/\z<(be l (a:Int) af).length) by simp only[be,ap6];exact hz)];rfl
theorem Jk(code:List Ty)(hl:code.length<=1000):M.eF aG code=(M.hZ aG code).bind λj3=>(fo j3 (0:Int) (code.length:Int)).bind λxO=>aa xO:=by
 unfold M.eF M.hZ;rw[aL (by omega)]
 have Be:pw ((code.length+1:Nat):Int) ag=aa (aoE (code.length+1) ag):=by
  unfold pw;rw[aj (by omega),aoF]
 have e1:idx (aoE (code.length+1) ag) 0=aa ag:=by rw[apr];rfl
 rw[Be,aoy,aoy,e1,aoy,aoy];refine aw (λo=>Option.bind o λj3=>(fo j3 (0:Int) (code.length:Int)).bind λxO=>aa xO) ?_
 symm
 refine pR (λs:Int×List Bool=>∃k:Nat,s.1=k/\k<=code.length/\s.2.length=code.length+1) ?_ ?_ aG _ ⟨0,rfl,aoR _,by simp[be]⟩
 .rintro⟨_,l⟩ ⟨k,rfl,hk,vx⟩
  dsimp only at vx⊢;by_cases h:(k:Int)<(code.length:Int)
  .have dT:k<code.length:=by omega
   have i1:=aD dT;have i2:=o7 (l:=l) (t:=k) (by omega);generalize code[k]=n at i1;simp only[ao h,if_true,i1,i2,aoy,gM,AA]
   cases gb l k with
   |false=>simp only[apd,if_true]
   |true=>
    simp only[aoX,aoC,if_false];rw[aL (by omega)];have i3:=o7 (l:=l) (t:=k+1) (by omega);by_cases hj:50<=(n.1:Int)/\(n.1:Int)<=53
    .have dj:=ao hj;simp only[dj,if_true];by_cases nJ:(n.1:Int)=51
     .have d51:=ao nJ;simp only[d51,aoX,aoC,if_false,aoy]
      cases idx l n.2<;>rfl
     .have d51:=aq nJ;simp only[d51,apd,if_true];have:=Nf (l:=l) (a:=k+1) (z:=n.2) (by omega) (λo=>aa (ao4 (((k+1:Nat):Int),o):(Int×List Bool)⊕List Bool));have h2:=this.symm;simp only[i3,aoy]at h2⊢
      cases hz:idx l n.2 with
      |none=>
       rw[hz]at h2
       cases Eg:idx (be l ((k+1:Nat):Int) af) n.2 with
       |none=>rfl
       |some x=>rw[Eg]at h2;cases h2
      |some y=>
       rw[hz]at h2;simp only[aoy]at h2⊢
       cases Eg:idx (be l n.2 af) ((k+1:Nat):Int)with
       |none=>
        rw[Eg]at h2
        cases hz3:idx (be l ((k+1:Nat):Int) af) n.2 with
        |none=>rfl
        |some x=>rw[hz3]at h2;cases h2
       |some x=>
        rw[Eg]at h2
        cases hz3:idx (be l ((k+1:Nat):Int) af) n.2 with
        |none=>rw[hz3]at h2;cases h2
        |some w=>rw[hz3]at h2;exact h2
    .have dj:=aq hj
     have nJ:¬(n.1:Int)=51:=λe=>hj ⟨by rw[e];decide,by rw[e];decide⟩
     have d51:=aq nJ;simp only[dj,d51,apd,if_true,aoC,if_false,aoy,i3]
  .simp only[aq h,aoC,if_false]
 .rintro⟨_,l⟩ s' ⟨k,rfl,hk,vx⟩ hb
  dsimp only at vx hb;by_cases h:(k:Int)<(code.length:Int)
  .have dT:k<code.length:=by omega
   have i1:=aD dT;have i2:=o7 (l:=l) (t:=k) (by omega);generalize code[k]=n at i1;simp only[ao h,if_true,i1,i2,aoy,gM]at hb;obtain⟨l',h1,hb⟩:=ao6.1 hb;obtain rfl:=aqn (aoB hb);refine⟨k+1,aL (by omega),dT,?_⟩
   show l'.length=_
   revert h1
   cases gb l k with
   |false=>
    simp only[apd,if_true];intro h1;obtain rfl:=aoB h1;exact vx
   |true=>
    simp only[aoX,aoC,if_false];intro h1;obtain⟨l2,h2,h1⟩:=ao6.1 h1
    have Rt:l2.length=code.length+1:=by
     by_cases nJ:(n.1:Int)=51
     .simp only[ao nJ,aoX,aoC,if_false]at h2;obtain rfl:=aoB h2;exact vx
     .simp only[aq nJ,apd,if_true]at h2;obtain⟨_,_,h2⟩:=ao6.1 h2;obtain rfl:=aoB h2;simp[be,vx]
    by_cases hj:50<=(n.1:Int)/\(n.1:Int)<=53
    .simp only[ao hj,if_true]at h1;obtain⟨_,_,h1⟩:=ao6.1 h1;obtain rfl:=aoB h1;simp[be,Rt]
    .simp only[aq hj,aoC,if_false]at h1;obtain rfl:=aoB h1;exact Rt
  .simp only[aq h,aoC,if_false]at hb;cases hb
theorem contains_iff{K:List Bool}(hl:K.length<=1000):Wp (M.cE aG K ag) λb=>(b=af↔∃i,i<K.length/\gb K i=ag):=by
 unfold M.cE M.fZ
 refine Wp.seq (λr:Int=>0<=r↔∃i,i<K.length/\gb K i=ag) ?_ λr hr=> .some (by rw[<-hr,ax])
 refine Wp.loop (λs:Int=>∃i:Nat,s=i/\i<=K.length/\∀j,j<i->gb K j=af) (λs=>(K.length-s).toNat) ⟨0,rfl,aoR _,λj h=>by omega⟩ (by unfold aG;omega) ?_
 rintro _ ⟨i,rfl,hi,hn⟩
 refine Wp.dec (λh=>?_) λh=> .some ⟨λh=>absurd h (by decide),λ⟨j,hj,hg⟩=>?_⟩
 .have gh:i<K.length:=by omega
  rw[o7 gh];simp only[aoy]
  refine Wp.dec (λh1=> .some ⟨λ_=>⟨i,gh,h1.symm⟩,λ_=>Int.natCast_nonneg i⟩) λh1=> .some ?_
  rw[aL (by omega)];refine⟨⟨i+1,rfl,gh,λj hj=>?_⟩,by simp only;omega⟩
  rcases aph j i with g|g
  .exact hn j g
  .have:j=i:=by omega
   subst this
   cases hg:gb K j with
   |true=>rfl
   |false=>exact absurd hg.symm h1
 .have:=hn j (by omega);rw[hg]at this;cases this
theorem Jl{K:List Bool}:∀{j:Nat},(∀i,i<j->gb K i=af)->ct K j=j
 |0,_=>rfl
 |j+1,h=>by
  rw[ct,aj (h j (Nat.lt_succ_self j)),Jl λi hi=>h i (by omega)]
theorem QU{α:Type}{g:Nat->α}{K:List Bool}:∀{j:Nat},(∀i,i<j->gb K i=af)->kp g K j=(ap1 j).map g
 |0,_=>rfl
 |j+1,h=>by
  rw[kp,aj (h j (Nat.lt_succ_self j)),QU λi hi=>h i (by omega),List.range_succ,apj];rfl
def JOK(code:List Ty)(K:List Bool):Prop:=∀(i:Nat)n,code[i]? =aa n->gb K i=af->mh n->∃t:Nat,(n.2:Int)=t/\t<=code.length
theorem TV{code:List Ty}{K:List Bool}(h:∀i,i<code.length->gb K i=af)(hj:JOK code K):rem code K=code:=by
 unfold rem;rw[QU h];apply List.ext_getElem (by simp);intro i h1 h2;have hi:i<code.length:=h2;have hge:=aoA hi;rw[apB,apB,List.getElem_range]
 have Hk:code.getD i ((0,0):Int×Int)=code[i]:=by simp only[apb,hi,aoA,ao8]
 rw[Hk];generalize code[i]=n at hge;unfold rj;by_cases XL:mh n
 .rw[aj XL];obtain⟨t,ht,Hi⟩:=hj i n hge (h i hi) XL;rw[ht,aoF,Jl λj hj=>h j (by omega),<-ht]
 .rw[ai XL]
noncomputable def U1(s4:List aA.den)(y5:List Bool):Option (List Bool):=
 (Loop (S:=Int×List Bool) (X:=List Bool) (λs7=>
(if(decide (s7.1<(s4.length:Int)))=af then
((idx s4 s7.1).bind λx9=>
((if(decide (x9.1=(51:Int)))=af then
some (decide (x9.2=(aoz.wrap (s7.1+(1:Int)))))
else
some ag):Option (Bool)).bind λsx=>
(if sx=af then
(idx s7.2 s7.1).bind λnT=>
some (be s7.2 s7.1 ag)
else
some s7.2):Option (List Bool)).bind λj8=>
some (ao4 (aoz.wrap (s7.1+(1:Int)),j8))
else
some (aoV s7.2))) aG ((0:Int),y5):Option (List Bool))
theorem TW{code:List Ty}{l:List Bool}(hle:code.length<=1000)(hrl:l.length=code.length+1):Wp (U1 code (l.take code.length)) (KL code l):=by
 unfold U1;refine Wp.loop (λs:Int×List Bool=>∃i:Nat,s.1=i/\i<=code.length/\s.2.length=code.length/\(∀(j:Nat)n,j<i->code[j]? =aa n->(gb s.2 j=af↔gb l j=af/\¬nP n j))/\∀j,i<=j->j<code.length->gb s.2 j=gb l j) (λs=>(code.length-s.1).toNat) ⟨0,rfl,aoR _,by simp;omega,λj n h=>by omega,λj _ hj=>?_⟩ (by unfold aG;simp only;omega) ?_
 .show gb (l.take code.length) j=gb l j
  unfold gb;rw[apb,apb,List.getElem?_take_of_lt hj]
 rintro⟨_,K⟩ ⟨i,rfl,hi,Ry,hd,hr⟩
 dsimp only at Ry hd hr⊢
 refine Wp.dec (λh=>?_) λh=> .some ⟨Ry,λj n hn=>hd j n ?_ hn⟩
 case refine_2=>
  have:=(aoI.1 hn).1;omega
 have gh:i<code.length:=by omega
 have hge:=aoA gh;rw[aD gh];generalize code[i]=n at hge⊢;simp only[aoy]
 refine Wp.seq (λo=>o.length=code.length/\(gb o i=af↔gb l i=af/\¬nP n i)/\∀j,j≠i->gb o j=gb K j) ?_ λo ho=> .some ?_
 .refine Wp.seq (λb=>b=decide (nP n i)) ?_ λb hb=>?_
  .rw[aL (by omega)]
   refine Wp.dec (λh1=> .some ?_) λh1=> .some ?_
   .unfold nP
    by_cases h2:(n.2:Int)=((i+1:Nat):Int)
    .simp[h1,h2]
    .simp[h1,h2]
   .unfold nP;simp[h1]
  .subst hb
   refine Wp.dec (λh1=>?_) λh1=> .some ⟨Ry,?_,λ_ _=>rfl⟩
   .rw[o7 (by omega)];simp only[aoy];refine .some ⟨by simp[be,Ry],?_,λj hj=>?_⟩
    .show gb (K.set i ag) i=af↔_
     rw[se (by omega),aj rfl];simp[h1]
    .show gb (K.set i ag) j=gb K j
     rw[se (by omega),ai hj]
   .rw[hr i (aoJ _) gh];simp[h1]
 .obtain⟨o1,o2,o3⟩:=ho;rw[aL (by omega)];refine⟨⟨i+1,rfl,gh,o1,λj m hj hm=>?_,λj hj Nu=>?_⟩,by simp only;omega⟩
  .by_cases e:j=i
   .subst e;rw[hge]at hm;obtain rfl:=aoB hm;exact o2
   .show gb o j=af↔_
    rw[o3 j e];exact hd j m (by omega) hm
  .show gb o j=gb l j
   rw[o3 j (by omega)];exact hr j (by omega) Nu
theorem QV{code:List Ty}{F:List Int}(f:Fits code F)(hw:∀n∈code,WF aA n):∃l K,M.hZ aG code=aa l/\code.length<=l.length/\K.length=code.length/\(∀(i:Nat)n,code[i]? =aa n->(gb K i=af↔gb l i=af/\¬nP n i))/\JOK code K/\
 Ay code=aa (if ct K code.length=code.length then .inr code else .inl (rem code K)):=by
 have hle:=f.le;obtain⟨y,hy,l0,r,rfl⟩:=wC f;have hb:=Jk code (by omega);rw[hy]at hb;obtain⟨l,hl,hb⟩:=ao6.1 hb.symm;obtain⟨c,hc,hb⟩:=ao6.1 hb;obtain rfl:=aoB hb;obtain⟨⟨_,_,h1⟩,h2⟩:=(wp_cut (Q:=λy=>y=l0.take code.length)).1 ⟨_,hc,rfl⟩
 have vx:code.length<=l.length:=by omega
 rw[aoF]at h2;have h2:l.take code.length=l0.take code.length:=h2
 have VG:∀i,i<code.length->gb l i=gb l0 i:=by
  intro i hi;have e:=aw (λx=>apb x i ag) h2;simp only[apb,List.getElem?_take_of_lt hi]at e;exact e
 obtain⟨K,hK,k⟩:=TW (by omega) r.len
 have jok:JOK code K:=by
  intro i n hn hk hj;obtain⟨s,_⟩:=f.at hn (r.sound i ((k.ok i n hn).1 hk).1)
  rcases s with⟨c1,t,c2,c3,c4,c5⟩|⟨c1,c2,c3,t,c4,c5,c6,c7⟩|⟨c1,c2,_⟩
  .exact⟨t,c2,c4⟩
  .exact⟨t,c4,c6⟩
  .exact(oe hj).elim (λe=>absurd e c1) (λe=>absurd e c2)
 refine⟨l,K,hl,vx,k.len,λi n hn=>?_,jok,?_⟩
 .rw[VG i (aoI.1 hn).1];exact k.ok i n hn
 .apply Wp.eq;unfold Ay;rw[hy,aoy];refine Wp.IA (show _=aa K from hK) ?_
  refine Wp.seq _ (contains_iff (by rw[k.len];omega)) λb hb=>?_
  rw[k.len]at hb
  refine Wp.ite (λh=>?_) λh=> .some ?_
  .have hx:=hb.1 h;rw[ai (by have:=K4 hx;omega)]
   refine Wp.seq _ (sA (by omega) k.len jok) λz hz=> .some ?_
   rw[hz]
  .rw[aj (Jl λi hi=>?_)]
   cases hg:gb K i with
   |true=>rfl
   |false=>exact absurd (hb.2 ⟨i,hi,hg⟩) h
theorem Ng{code:List Ty}{l K:List Bool}(hle:code.length<=1000)(hl:M.hZ aG code=aa l)(vx:code.length<=l.length)(Ry:K.length=code.length)(hk:∀(i:Nat)n,code[i]? =aa n->(gb K i=af↔gb l i=af/\¬nP n i))(jok:JOK code K):M.po aG code=aa (rem code K):=by
 apply Wp.eq;unfold M.po;rw[hl,aoy]
 refine Wp.seq (λj=>j.1.length=code.length/\(∀t:Nat,t<code.length->j.1[t]? =aa (((ct K t:Nat):Int)))/\j.2=kp (λi=>code.getD i ((0,0):Int×Int)) K code.length) ?_ λj Tk=>?_
 .refine Wp.loop (λs:Int×List Int×List Ty=>∃i:Nat,s.1=i/\i<=code.length/\s.2.1.length=i/\(∀t:Nat,t<i->s.2.1[t]? =aa (((ct K t:Nat):Int)))/\s.2.2=kp (λi=>code.getD i ((0,0):Int×Int)) K i) (λs=>(code.length-s.1).toNat) ⟨0,rfl,aoR _,rfl,λt h=>by omega,rfl⟩ (by unfold aG;simp only;omega) ?_
  rintro⟨_,ps,_⟩ ⟨i,rfl,hi,pU,hp,rfl⟩
  dsimp only at pU hp⊢
  refine Wp.dec (λh=>?_) λh=> .some ?_
  .have gh:i<code.length:=by omega
   have Hk:code.getD i ((0,0):Int×Int)=code[i]:=by simp only[apb,gh,aoA,ao8]
   have Ei:=lG (λi=>code.getD i ((0,0):Int×Int)) K i;have AN:=yb K i;have NM:=hk i _ (aoA gh);rw[bF (by simp;omega),aoy,o7 (by omega),aoy,aL (by omega)];have hni:=aD gh;generalize code[i]=n at hni Hk NM;simp only[hni,aoy]
   have e6:((if gb l i=af then(if(!decide ((n.1:Int)=(51:Int)))=af then aa af else aa (!decide ((n.2:Int)=((i+1:Nat):Int))))else aa ag):Option Bool)=aa (gb K i):=by
    cases VG:gb l i with
    |false=>
     rw[ai (by simp)]
     cases hgk:gb K i with
     |false=>rfl
     |true=>have:=(NM.1 hgk).1;rw[VG]at this;cases this
    |true=>
     rw[aj rfl];by_cases nJ:(n.1:Int)=51
     .rw[ai (by rw[ao nJ];decide)];refine aw aa ?_
      by_cases hn:(n.2:Int)=((i+1:Nat):Int)
      .rw[ao hn]
       cases hgk:gb K i with
       |false=>rfl
       |true=>exact absurd ⟨nJ,hn⟩ (NM.1 hgk).2
      .rw[aq hn];exact(NM.2 ⟨VG,λe=>hn e.2⟩).symm
     .rw[aj (by rw[aq nJ];decide)];exact aw aa (NM.2 ⟨VG,λe=>nJ e.1⟩).symm
   rw[e6,aoy]
   have Uc:∀t:Nat,t<i+1->(ps++[((kp (λi=>code.getD i ((0,0):Int×Int)) K i).length:Int)])[t]? =aa (((ct K t:Nat):Int)):=by
    intro t ht
    rcases aph t i with g|g
    .rw[apc (by omega)];exact hp t g
    .have:t=i:=by omega
     subst this;rw[apk (by omega),pU,Nat.sub_self,Ei];rfl
   by_cases hg:gb K i=af
   .rw[aj hg,bF (by rw[Ei];simp;omega),aoy,aoy];refine .some ⟨⟨i+1,rfl,gh,by simp[pU],Uc,?_⟩,by simp only;omega⟩
    show _=kp (λi=>code.getD i ((0,0):Int×Int)) K i++_
    rw[aj hg];exact aw (λx=>kp (λi=>code.getD i ((0,0):Int×Int)) K i++[x]) Hk.symm
   .rw[ai hg,aoy];refine .some ⟨⟨i+1,rfl,gh,by simp[pU],Uc,?_⟩,by simp only;omega⟩
    show _=kp (λi=>code.getD i ((0,0):Int×Int)) K i++_
    rw[ai hg,apq]
  .obtain rfl:i=code.length:=by omega
   exact⟨pU,hp,rfl⟩
 .obtain⟨ps,res⟩:=j;obtain⟨p1,p2,rfl⟩:=Tk;dsimp only at p1 p2⊢;have AN:=yb K code.length;have Ei:=lG (λi=>code.getD i ((0,0):Int×Int)) K code.length;rw[bF (by simp;omega),aoy]
  have Uc:∀t:Nat,t<=code.length->idx (ps++[((kp (λi=>code.getD i ((0,0):Int×Int)) K code.length).length:Int)]) (t:Int)=aa (((ct K t:Nat):Int)):=by
   intro t ht
   have hlen:t<(ps++[((kp (λi=>code.getD i ((0,0):Int×Int)) K code.length).length:Int)]).length:=by simp;omega
   rw[aD hlen]
   have e:(ps++[((kp (λi=>code.getD i ((0,0):Int×Int)) K code.length).length:Int)])[t]? =aa (((ct K t:Nat):Int)):=by
    rcases aph t code.length with g|g
    .rw[apc (by omega)];exact p2 t g
    .have:t=code.length:=by omega
     subst this;rw[apk (by omega),p1,Nat.sub_self,Ei];rfl
   rw[aoA hlen]at e;exact e
  unfold rem
  refine Av (by omega) (λq hq l vx TR=>?_) λl vx=>?_
  .have hq2:q<l.length:=by omega
   have hqc:q<ct K code.length:=by omega
   obtain⟨i,i1,i2,i3⟩:=Ax K _ hqc
   have Hk:code.getD i ((0,0):Int×Int)=code[i]:=by simp only[apb,i1,aoA,ao8]
   have hx:(kp (λi=>code.getD i ((0,0):Int×Int)) K code.length)[q]=code[i]:=by
    have:=xB (λi=>code.getD i ((0,0):Int×Int)) K i2 code.length i1;rw[i3,aoA hq,Hk]at this;exact aoB this
   have hge:=aoA i1;rw[hx]at TR⊢;generalize code[i]=x at TR hge⊢;dsimp only;rw[aD hq2,TR];simp only[aoy,AA]
   refine Wp.dec (λ_=>?_) λh=>by omega
   refine Wp.seq (λo=>o=l.set q (rj K x)) ?_ λo ho=> .some ?_
   .refine Wp.dec (λAM=>?_) λAM=> .some ?_
    .obtain⟨t,t1,t2⟩:=jok i x hge i2 AM;rw[show(x.2:Int)=t from t1,Uc t t2];simp only[aoy];refine .some ?_;unfold rj;rw[aj (show mh x from AM),t1];simp[be]
    .rw[Jh AM,<-TR];simp
   .rw[ho,aL (by omega)]
  .dsimp only
   exact Wp.dec (λh=>by omega) λ_=> .some rfl
theorem G4{code:List Ty}(hl:code.length<=1000)(hw:∀n∈code,WF aA n):M.fQ aG code=M.cv aG code:=by
 unfold M.fQ M.cv;obtain⟨b,hb,AZ⟩:=AB code;rw[rp hl,D7 hl,aoy,aoy,Az,hb,aoy,aoy]
 cases b with
 |false=>
  simp only[apd,if_true,wE]
 |true=>
  simp only[aoX,aoC,if_false,AD];have hF:=AZ.1 rfl
  have GY:sd code code:=⟨hF,aoJ _,hw,λ_ _ _ h=>h⟩
  show _=Loop Ay aG code
  refine pR (λs:List Ty=>sd code s) ?_ ?_ aG code GY
  .intro s hs;obtain⟨F,f⟩:=hs.fits;obtain⟨l,K,h1,h2,h3,h4,h5,h6⟩:=QV f hs.wf;have iP:s.length<=1000:=Nat.le_trans hs.le hl;rw[h6,Ng iP h1 h2 h3 h4 h5,aoy]
   have hlen:(rem s K).length=ct K s.length:=by unfold rem;rw[ao5,lG]
   by_cases c:ct K s.length=s.length
   .rw[aj c,aj (ao (by omega))]
    have jJ:∀i,i<s.length->gb K i=af:=by
     intro i hi
     cases hg:gb K i with
     |true=>rfl
     |false=>
      have:=K4 (K:=K) (j:=s.length) ⟨i,hi,hg⟩;omega
    rw[TV jJ h5]
   .rw[ai c,ai (by rw[ax];omega)]
  .intro s s' hs hb;obtain⟨F,f⟩:=hs.fits;obtain⟨r,hr,h⟩:=G1 f hs.wf;rw[hb]at hr;obtain rfl:=aoB hr
   rcases h with⟨y,e,h1,h2⟩|e
   .obtain rfl:=aqn e;exact hs.trans h1
   .cases e
end L.P.Q
namespace L.P.Q
def TX:Ty×Int×Bool:=(((0,0):Int×Int),0,ag)
def WU(r:Ty×Int×Bool):Ty×Int×Bool:=if r.2.2=af then r else TX
theorem QW{J R:Type}{m:Option (J⊕R)}{k k':J->Option R}(f:R->R)(hk:∀j,m=aa (.inl j)->k j=(k' j).map f)(hr:∀r,m=aa (.inr r)->f r=r):bx m k=(bx m k').map f:=by
 cases m with
 |none=>rfl
 |some x=>cases x with
  |inl j=>exact hk j rfl
  |inr r=>rw[wE,wE,Option.map_some,hr r rfl]
theorem D8(N:Nat)(n:Ty):M.lQ N n=M.dh N n:=by
 unfold M.lQ M.dh
 have e:decide ((n.2:Int)<=127)=decide ((n.2:Int)<128):=by
  rw[decide_eq_decide];generalize(n.2:Int)=z;exact Int.le_iff_lt_add_one
 rw[e]
theorem Nh(N:Nat)(v:Vl):M.vg N v=M.dP N v:=rfl
def yw(l:List Ty):(List Vl)⊕(Ty×Int×Bool):=if l.all (λx=>(pX x).isSome)=af then .inl (l.map λx=>(pX x).getD z3)else .inr TX
theorem Ni{l:List Ty}(hl:l.length<=1000):Loop (S:=Int×List aC.den) (X:=(List aC.den)⊕(aA.den×Int×Bool)) (λs7=>(if(decide (s7.1<(l.length:Int)))=af then(idx l s7.1).bind λx8=>(M.dh aG x8).bind λy9=>(if(!y9.2)=af then aa (aoV (aoV (((0:Int),(0:Int)),(0:Int),ag)))else(bR s7.2 ([y9.1]:List aC.den)).bind λsE=>aa (ao4 (aoz.wrap (s7.1+(1:Int)),sE)))else aa (aoV (ao4 s7.2)))) aG ((0:Int),([]:List aC.den))=aa (yw l):=by
 apply Wp.eq;refine Wp.loop (λs:Int×List Vl=>∃j:Nat,s.1=j/\j<=l.length/\s.2=(l.take j).map (λx=>(pX x).getD z3)/\∀x∈l.take j,(pX x).isSome=af) (λs=>(l.length-s.1).toNat) ⟨0,rfl,aoR _,rfl,λx h=>by simp at h⟩ (by unfold aG;simp only;omega) ?_
 rintro⟨_,_⟩ ⟨j,rfl,hj,rfl,hs⟩
 dsimp only
 refine Wp.dec (λh=>?_) λh=> .some ?_
 .have yk:j<l.length:=by omega
  have hm:=aoG yk;have ht:=apf yk;rw[aD yk,aoy,o6,aoy];generalize l[j]=x at hm ht
  cases hx:pX x with
  |none=>
   simp only[apd,if_true];refine .some ?_
   show _=yw l
   unfold yw;rw[ai]
   .rfl
   .rw[aqf];intro g;have:=g x hm;rw[hx]at this;cases this
  |some v=>
   simp only[aoX,aoC,if_false];rw[bF (by simp;omega),aoy,aL (by omega)];refine .some ⟨⟨j+1,rfl,yk,?_,λy hy=>?_⟩,by simp only;omega⟩
   .rw[ht,apj];simp[hx]
   .rw[ht]at hy
    rcases ao7.1 hy with hy|hy
    .exact hs y hy
    .obtain rfl:=aoY.1 hy;rw[hx];rfl
 .have:j=l.length:=by omega
  subst this
  show _=yw l
  unfold yw;rw[ao3]at hs⊢;rw[aj (aqf.2 hs)]
theorem QX{code:List Ty}{i k:Nat}(hk:k<=i)(hi:i<=code.length)(hl:code.length<=1000):Loop (S:=Int×List aC.den) (X:=(List aC.den)⊕(aA.den×Int×Bool)) (λs7=>(if(decide (s7.1<(i:Int)))=af then(idx code s7.1).bind λx8=>(M.lQ aG x8).bind λy9=>(if(!y9.2)=af then aa (aoV (aoV (((0:Int),(0:Int)),(0:Int),ag)))else(bR s7.2 ([y9.1]:List aC.den)).bind λsE=>aa (ao4 (aoz.wrap (s7.1+(1:Int)),sE)))else aa (aoV (ao4 s7.2)))) aG (((i-k:Nat):Int),([]:List aC.den))=aa (yw ((code.take i).drop (i-k))):=by
 apply Wp.eq
 have AN:((code.take i).drop (i-k)).length=k:=by simp;omega
 have Xo:∀j(h:j<((code.take i).drop (i-k)).length),idx code ((i-k+j:Nat):Int)=aa (((code.take i).drop (i-k))[j]):=by
  intro j h;rw[List.getElem_drop,List.getElem_take];exact aD (by omega)
 generalize(code.take i).drop (i-k)=l at AN Xo⊢;refine Wp.loop (λs:Int×List Vl=>∃j:Nat,s.1=((i-k+j:Nat):Int)/\j<=l.length/\s.2=(l.take j).map (λx=>(pX x).getD z3)/\∀x∈l.take j,(pX x).isSome=af) (λs=>(i-s.1).toNat) ⟨0,rfl,aoR _,rfl,λx h=>by simp at h⟩ (by unfold aG;simp only;omega) ?_
 rintro⟨_,_⟩ ⟨j,rfl,hj,rfl,hs⟩
 dsimp only
 refine Wp.dec (λh=>?_) λh=> .some ?_
 .have yk:j<l.length:=by omega
  have hm:=aoG yk;have ht:=apf yk;rw[Xo j yk,aoy,D8,o6,aoy];generalize l[j]=x at hm ht
  cases hx:pX x with
  |none=>
   simp only[apd,if_true];refine .some ?_
   show _=yw l
   unfold yw;rw[ai]
   .rfl
   .rw[aqf];intro g;have:=g x hm;rw[hx]at this;cases this
  |some v=>
   simp only[aoX,aoC,if_false];rw[bF (by simp;omega),aoy,aL (by omega)];refine .some ⟨⟨j+1,rfl,yk,?_,λy hy=>?_⟩,by simp only;omega⟩
   .rw[ht,apj];simp[hx]
   .rw[ht]at hy
    rcases ao7.1 hy with hy|hy
    .exact hs y hy
    .obtain rfl:=aoY.1 hy;rw[hx];rfl
 .have:j=l.length:=by omega
  subst this
  show _=yw l
  unfold yw;rw[ao3]at hs⊢;rw[aj (aqf.2 hs)]
def inJ(code:List Ty)(a i:Int):Prop:=∃m∈code,mh m/\a<m.2/\(m.2:Int)<=i
theorem CF(code:List Ty)(hl:code.length<=1000)(a i:Int)(t:Int->Option Bool)(ht:∀k(hk:k<code.length),t (k:Int)=aa (decide (mh code[k]/\a<code[k].2/\(code[k].2:Int)<=i))):∃b:Bool,(b=af↔inJ code a i)/\
 Loop (S:=Int) (X:=(Unit)⊕(aA.den×Int×Bool)) (λnW=>(if(decide (nW<(code.length:Int)))=af then(t nW).bind λAQ=>(if AQ=af then aa (aoV (aoV (((0:Int),(0:Int)),(0:Int),ag)))else aa (ao4 (aoz.wrap (nW+(1:Int)))))else aa (aoV (ao4 ())))) aG (0:Int)=aa (if b=af then .inr TX else .inl ()):=by
 have key:Wp (Loop (S:=Int) (X:=(Unit)⊕(aA.den×Int×Bool)) (λnW=>(if(decide (nW<(code.length:Int)))=af then(t nW).bind λAQ=>(if AQ=af then aa (aoV (aoV (((0:Int),(0:Int)),(0:Int),ag)))else aa (ao4 (aoz.wrap (nW+(1:Int)))))else aa (aoV (ao4 ())))) aG (0:Int)) λx=>∃b:Bool,(b=af↔inJ code a i)/\x=if b=af then .inr TX else .inl ():=by
  refine Wp.loop (λs:Int=>∃k:Nat,s=k/\k<=code.length/\∀j(hj:j<code.length),j<k->¬(mh code[j]/\a<code[j].2/\(code[j].2:Int)<=i)) (λs=>(code.length-s).toNat) ⟨0,rfl,aoR _,λj _ h=>by omega⟩ (by unfold aG;omega) ?_
  rintro _ ⟨k,rfl,hk,hn⟩
  refine Wp.dec (λh=>?_) λh=> .some ⟨ag,?_,rfl⟩
  .have dT:k<code.length:=by omega
   rw[ht k dT,aoy];by_cases c:mh code[k]/\a<code[k].2/\(code[k].2:Int)<=i
   .rw[aj (ao c)];exact .some ⟨af,⟨λ_=>⟨_,aoG dT,c⟩,λ_=>rfl⟩,rfl⟩
   .rw[ai (by rw[ax];exact c),aL (by omega)];refine .some ⟨⟨k+1,rfl,dT,λj hj Rn=>?_⟩,by simp only;omega⟩
    rcases aph j k with g|g
    .exact hn j hj g
    .have:j=k:=by omega
     subst this;exact c
  .constructor
   .intro e;cases e
   .rintro⟨m,hm,c⟩
    obtain⟨j,hj,rfl⟩:=aoS hm;exact absurd c (hn j hj (by omega))
 obtain⟨x,e,b,hb,rfl⟩:=key;exact⟨b,hb,e⟩
theorem aaT:TE e0:=λt h=>by cases h
theorem Nj{code:List Ty}{i:Nat}(hi:i<code.length)(hl:code.length<=1000)(hw:∀n∈code,WF aA n):M.fF aG code (i:Int)=(M.mq aG code (i:Int)).map WU:=by
 unfold M.fF M.mq;have hn:=hw _ (aoG hi);have hni:=aD hi;generalize code[i]=n at hn hni;simp only[hni,aoy,gM,AA,eJ,uw];by_cases hj:50<=(n.1:Int)/\(n.1:Int)<=53
 .simp only[ao hj,if_true];rfl
 simp only[aq hj,aoC,if_false];have DI:=kE n.1
 have e1:((if(decide (ar n.1<(1:Int)))=af then aa af else aa (decide ((i:Int)<ar n.1))):Option Bool)=aa (decide (ar n.1<1\/(i:Int)<ar n.1)):=by
  rw[aK,jD,Bool.decide_or]
 rw[e1,aoy,aoy];by_cases hc:ar n.1<1\/(i:Int)<ar n.1
 .simp only[ao hc,if_true];rfl
 simp only[aq hc,aoC,if_false]
 obtain⟨k,hk⟩:∃k:Nat,ar n.1=k:=⟨(ar n.1).toNat,by omega⟩
 rw[hk]at hc DI⊢
 have NM:k<=i:=by omega
 have w1:aoz.wrap ((i:Int)-(k:Int))=((i-k:Nat):Int):=by rw[aE (by omega) (by omega)];omega
 rw[w1,rU (i-k) i rfl rfl (by omega) (by omega),aoy,Ni (by simp;omega),QX NM (by omega) hl]
 refine QW WU (λvs Xp=>?_) λr hr=>?_
 .have LN:vs.length<=100000:=by
   unfold yw at Xp;split at Xp
   .obtain rfl:=aqn (aoB Xp);simp;omega
   .cases Xp
  obtain⟨b,hb,j1⟩:=CF code hl ((i-k:Nat):Int) (i:Int) (λnW=>(idx code nW).bind λnK=>((if decide (50<=(nK.1:Int)/\(nK.1:Int)<=53)=af then(if(decide (((i-k:Nat):Int)<nK.2))=af then aa (decide (nK.2<=(i:Int)))else aa ag)else aa ag):Option (Bool))) (λq hq=>by
   rw[aD hq,aoy];generalize code[q]=x;by_cases g1:50<=(x.1:Int)/\(x.1:Int)<=53
   .rw[aj (ao g1)];by_cases g2:((i-k:Nat):Int)<x.2
    .rw[aj (ao g2)];refine aw aa ?_;rw[decide_eq_decide];exact⟨λg=>⟨g1,g2,g⟩,λg=>g.2.2⟩
    .rw[ai (by rw[ax];exact g2)];exact aw aa (aq λg=>g2 g.2.1).symm
   .rw[ai (by rw[ax];exact g1)]
    exact aw aa (aq λg=>g1 g.1).symm)
  obtain⟨b',rB,j2⟩:=CF code hl ((i-k:Nat):Int) (i:Int) (λnW=>((idx code nW).bind λqE=>(if decide (50<=(qE.1:Int)/\(qE.1:Int)<=53)=af then(idx code nW).bind λzM=>(if(decide (((i-k:Nat):Int)<zM.2))=af then(idx code nW).bind λyJ=>aa (decide (yJ.2<=(i:Int)))else aa ag)else aa ag):Option (Bool))) (λq hq=>by
   simp only[aD hq,aoy];generalize code[q]=x;by_cases g1:50<=(x.1:Int)/\(x.1:Int)<=53
   .rw[aj (ao g1)];by_cases g2:((i-k:Nat):Int)<x.2
    .rw[aj (ao g2)];refine aw aa ?_;rw[decide_eq_decide];exact⟨λg=>⟨g1,g2,g⟩,λg=>g.2.2⟩
    .rw[ai (by rw[ax];exact g2)];exact aw aa (aq λg=>g2 g.2.1).symm
   .rw[ai (by rw[ax];exact g1)]
    exact aw aa (aq λg=>g1 g.1).symm)
  have CK:b=b':=by
   cases b with
   |true=>exact(rB.2 (hb.1 rfl)).symm
   |false=>cases b' with
    |true=>exact hb.2 (rB.1 rfl)
    |false=>rfl
  subst CK;refine(aw (λo=>bx o _) ((pR (λ_=>True) (λs _=>?_) (λ_ _ _ _=>trivial) aG 0 trivial).trans j1)).trans ?_
  .by_cases h:s<(code.length:Int)
   .rw[aj (ao h),aj (ao h)];exact(apv _ _ _).symm
   .rw[ai (by rw[ax];exact h),ai (by rw[ax];exact h)]
  rw[j2]
  cases b with
  |true=>rfl
  |false=>
   simp only[aoC,if_false,AD]
   show((M.cr aG n vs e0).bind _)=(((M.kD aG n vs e0).bind _).map WU)
   rw[<-Jg xZ aaT hn LN,UX xZ hn LN,aoy,aoy,Nh]
   obtain⟨w,hw⟩:∃w,M.dP aG (qK e0 n vs).1=aa w:=by
    unfold M.dP
    repeat' split
    all_goals exact⟨_,rfl⟩
   rw[hw,aoy,aoy];by_cases h0:((qK e0 n vs).2:Int)=0
   .rw[ai (by rw[ao h0];decide),ao h0];rfl
   .rw[aj (by rw[aq h0];decide),aq h0];rfl
 .unfold yw at hr;split at hr
  .cases hr
  .obtain rfl:=Sum.inr.inj (aoB hr);rfl
noncomputable def ux(code:List Ty)(s1:Int)(kk:Int)(m:Ty):Option (List Ty):=
(fo code (0:Int) (aoz.wrap (s1-kk))).bind λl4=>
(bR ([]:List aA.den) l4).bind λl5=>
(bR l5 ([m]:List aA.den)).bind λl6=>
(fo code (aoz.wrap (s1+(1:Int))) (code.length:Int)).bind λl7=>
(bR l6 l7).bind λl8=>
(Loop (S:=Int×List aA.den) (X:=List aA.den) (λpb=>
(if(decide (pb.1<(pb.2.length:Int)))=af then
(((idx pb.2 pb.1).bind λnK=>
(M.iI aG nK.1).bind λlz=>
(if lz=af then
(idx pb.2 pb.1).bind λub=>
some (decide (s1<ub.2))
else
some ag):Option (Bool)).bind λsD=>
(if sD=af then
(idx pb.2 pb.1).bind λzM=>
(idx pb.2 pb.1).bind λyJ=>
some (be pb.2 pb.1 (yJ.1,aoz.wrap (zM.2-kk)))
else
some pb.2):Option (List aA.den)).bind λsK=>
some (ao4 (aoz.wrap (pb.1+(1:Int)),sK))
else
some (aoV pb.2))) aG ((0:Int),l8):Option (List aA.den))
theorem Nk(code:List Ty)(s1 kk:Int)(m:Ty):M.cJ aG code s1 kk m=ux code s1 kk m:=by
 unfold M.cJ ux;refine aw _ (funext λl4=>?_);refine aw _ (funext λl5=>?_);refine aw _ (funext λl6=>?_);refine aw _ (funext λl7=>?_);refine aw _ (funext λl8=>?_);refine pR (λs:Int×List Ty=>s.2.length=l8.length) ?_ ?_ aG (0,l8) rfl
 .rintro⟨q,l⟩ hl
  dsimp only at hl⊢;rw[hl];by_cases h:q<(l8.length:Int)
  .simp only[ao h,if_true]
   cases hx:idx l q with
   |none=>rfl
   |some x=>
    simp only[aoy,gM,AA]
  .simp only[aq h,aoC,if_false]
 .rintro⟨q,l⟩ s' hl hb
  dsimp only at hl hb;by_cases h:q<(l.length:Int)
  .rw[aj (ao h)]at hb;obtain⟨l',h1,hb⟩:=ao6.1 hb;obtain rfl:=aqn (aoB hb);obtain⟨c,_,h1⟩:=ao6.1 h1
   show l'.length=_
   cases c with
   |true=>
    rw[aj rfl]at h1;obtain⟨_,_,h1⟩:=ao6.1 h1;obtain⟨_,_,h1⟩:=ao6.1 h1;obtain rfl:=aoB h1;simp[be,hl]
   |false=>
    rw[ai (by decide)]at h1;obtain rfl:=aoB h1;exact hl
  .rw[ai (by rw[ax];exact h)]at hb;cases hb
noncomputable def AE(s4:List Ty):Option (List Ty⊕List Ty):=
bx (J:=List aA.den) (R:=(List aA.den)⊕(List aA.den)) (Loop (S:=Int×List aA.den) (X:=(List aA.den)⊕((List aA.den)⊕(List aA.den))) (λs6=>
(if(decide (s6.1<(s4.length:Int)))=af then
(M.fF aG s6.2 s6.1).bind λy7=>
(if y7.2.2=af then
(M.cJ aG s6.2 s6.1 y7.2.1 y7.1).bind λy8=>
some (aoV (aoV (ao4 y8)))
else
some (ao4 (aoz.wrap (s6.1+(1:Int)),s6.2)))
else
some (aoV (ao4 s6.2)))) aG ((0:Int),s4)) λj5=>
some (aoV j5)
def aaU(r:List Ty×Bool):List Ty⊕List Ty:=if r.2=af then .inl r.1 else .inr r.1
def aaV(r:List Ty×Bool):(List Ty)⊕((List Ty)⊕(List Ty)):=if r.2=af then .inr (.inl r.1)else .inl r.1
noncomputable def G5(code:List Ty)(s1:Int):Option (Int⊕(List Ty×Bool)):=
(if(decide (s1<(code.length:Int)))=af then bx (J:=Unit) (R:=(Int)⊕((List aA.den)×Bool)) ((M.mq aG code s1).bind λy3=>(if(!y3.2.2)=af then aa (ao4 ())else(ux code s1 y3.2.1 y3.1).bind λj9=>aa (aoV (aoV (j9,af))))) λj2=>aa (ao4 (aoz.wrap (s1+(1:Int))))else aa (aoV (code,ag)))
theorem TY(code:List Ty):M.n4 aG code=Loop (G5 code) aG 0:=by
 unfold M.n4;refine pR (λ_=>True) (λs _=>?_) (λ_ _ _ _=>trivial) aG 0 trivial;unfold G5 ux;simp only[apv]
theorem TZ(o:Option (List Ty×Bool)):bx (J:=List Ty) (R:=List Ty⊕List Ty) (o.map aaV) (λj5=>aa (.inr j5))=o.map aaU:=by
 cases o with
 |none=>rfl
 |some x=>
  obtain⟨y,b⟩:=x
  cases b<;>rfl
theorem Jm{code:List Ty}(hl:code.length<=1000)(hw:∀n∈code,WF aA n):AE code=(M.n4 aG code).map aaU:=by
 unfold AE;rw[TY,<-TZ];refine aw (λo=>bx o _) ?_;refine CE (body:=G5 code) (λs=>(s,code)) aaV (λs=>∃k:Nat,s=k/\k<=code.length) ?_ ?_ aG 0 ⟨0,rfl,aoR _⟩
 .rintro _ ⟨k,rfl,hk⟩
  unfold G5;dsimp only;by_cases h:(k:Int)<(code.length:Int)
  .rw[aj (ao h),aj (ao h),Nj (by omega) hl hw]
   cases M.mq aG code (k:Int)with
   |none=>rfl
   |some r=>
    obtain⟨m,kk,b⟩:=r
    cases b with
    |false=>rfl
    |true=>
     simp only[Option.map_some,aoy,WU,if_true,aoX,aoC,if_false];rw[Nk]
     cases ux code (k:Int) kk m<;>rfl
  .rw[ai (by rw[ax];exact h),ai (by rw[ax];exact h)];rfl
 .rintro _ s' ⟨k,rfl,hk⟩ hb
  unfold G5 at hb;by_cases h:(k:Int)<(code.length:Int)
  .rw[aj (ao h)]at hb;revert hb
   cases M.mq aG code (k:Int)with
   |none=>intro hb;cases hb
   |some r=>
    obtain⟨m,kk,b⟩:=r
    cases b with
    |false=>
     intro hb;obtain rfl:=aqn (aoB hb);exact⟨k+1,aL (by omega),by omega⟩
    |true=>
     simp only[aoy,aoX,aoC,if_false]
     cases ux code (k:Int) kk m with
     |none=>intro hb;cases hb
     |some y=>intro hb;cases hb
  .rw[ai (by rw[ax];exact h)]at hb;cases hb
theorem QY{s:List Ty}(hs:∃F,Fits s F)(hw:∀n∈s,WF aA n)(iP:s.length<=1000):Wp (AE s) λx=>∀y,x= .inl y->sd s y/\y.length<s.length:=by
 have sq:sd s s:=⟨hs,aoJ _,hw,λ_ _ _ h=>h⟩
 unfold AE;refine Wp.join (Wp.loop (λt:Int×List Ty=>∃i:Nat,t.1=i/\i<=s.length/\t.2=s) (λt=>(s.length-t.1).toNat) ⟨0,rfl,aoR _,rfl⟩ (by unfold aG;simp only;omega) ?_)
 rintro⟨_,s⟩ ⟨i,rfl,hi,rfl⟩
 dsimp only at hi iP hs⊢
 refine Wp.dec (λh=>?_) λh=> .some (.some λy e=>by cases e)
 have gh:i<s.length:=by omega
 obtain⟨r,hr,Tt⟩:=KZ gh iP sq.wf;rw[hr];simp only[aoy]
 refine Wp.ite (λh1=>?_) λh1=> .some ?_
 .obtain⟨k,v,e1,e2,hf⟩:=Tt h1
  have XX:¬mh (pY v):=by
   obtain⟨n,vs,hn,_,_,LN,_,Ee⟩:=hf.ex;have:=(KV (args:=vs) xZ (sq.wf n (apW hn)) (by have:=hf.ki;omega)).ok (by rw[Ee]);rw[Ee]at this;exact(tI (D5 this).1).1
  rw[e1,e2]
  refine Wp.seq _ (K1 gh hf.ki iP sq.wf XX) λy hy=> .some λz e=>?_
  obtain rfl:=aqn e;obtain⟨F,f⟩:=hs;rw[hy];refine⟨CD f gh hf sq.wf,?_⟩;have:=Aw (m:=pY v) gh hf.ki;have:=hf.k1;omega
 .rw[aL (by omega)];exact⟨⟨i+1,rfl,gh,rfl⟩,by simp only;omega⟩
noncomputable def xC(s3:(List Ty)×Bool):Option (((List Ty)×Bool)⊕List Ty):=
(if s3.2=af then
(M.n4 aG s3.1).bind λy4=>
some (ao4 (y4.1,y4.2))
else
some (aoV s3.1))
theorem Jn:∀(m:Nat)(c:List Ty)(N N':Nat),(∃F,Fits c F)->(∀n∈c,WF aA n)->c.length<=1000->c.length<=m->m+1<N->m+2<N'->Loop AE N c=Loop xC N' (c,af):=by
 intro m
 induction m with
 |zero=>
  intro c N N' hf hw hl hc h1 h2;obtain⟨F,f⟩:=hf;have:=f.pos;omega
 |succ m ih=>
  intro c N N' hf hw hl hc h1 h2
  obtain⟨N,rfl⟩:∃k,N=k+1:=⟨N-1,by omega⟩
  obtain⟨N',rfl⟩:∃k,N'=k+2:=⟨N'-2,by omega⟩
  obtain⟨x,hx,Lp⟩:=QY hf hw hl;have hb:=Jm hl hw;rw[hx]at hb;obtain⟨r,hr,hrx⟩:=Option.map_eq_some_iff.1 hb.symm;obtain⟨y,b⟩:=r
  have e1:xC (c,af)=aa (.inl (y,b)):=by
   unfold xC;rw[aj rfl,hr];rfl
  unfold Loop;rw[hx,e1,<-hrx]
  cases b with
  |true=>
   have AS:x= .inl y:=hrx.symm;obtain⟨g1,g2⟩:=Lp y AS
   show Loop AE N y=Loop xC (N'+1) (y,af)
   exact ih y N (N'+1) g1.fits g1.wf (by omega) (by omega) (by omega) (by omega)
  |false=>
   show aa y=Loop xC (N'+1) (y,ag)
   unfold Loop;rfl
theorem Nl{code:List Ty}(hl:code.length<=1000)(hw:∀n∈code,WF aA n):M.iO aG code=M.cZ aG code:=by
 unfold M.iO M.cZ;obtain⟨b,hb,AZ⟩:=AB code;rw[rp hl,D7 hl,aoy,aoy,Az,hb,aoy,aoy]
 cases b with
 |false=>simp only[apd,if_true,wE]
 |true=>
  simp only[aoX,aoC,if_false,AD]
  show Loop xC aG (code,af)=Loop AE aG code
  exact(Jn 1000 code aG aG (AZ.1 rfl) hw hl hl (by unfold aG;omega) (by unfold aG;omega)).symm
theorem Bv{code:List Ty}(hl:code.length<=1000)(hw:∀n∈code,WF aA n):∃x y z,M.cZ aG code=aa x/\M.dy aG x=aa y/\M.cv aG y=aa z/\M.jQ aG code=aa z/\M.nw aG code=aa z/\z.length<=1000:=by
 obtain⟨x,hx,h1⟩:=TQ hl hw
 obtain⟨He,hxw⟩:x.length<=1000/\∀n∈x,WF aA n:=by
  rcases h1 with⟨_,rfl⟩|⟨_,h,_⟩
  .exact⟨hl,hw⟩
  .exact⟨Nat.le_trans h.le hl,h.wf⟩
 obtain⟨y,hy,h2⟩:=Nc He hxw
 obtain⟨NH,hyw⟩:y.length<=1000/\∀n∈y,WF aA n:=by
  rcases h2 with⟨_,rfl⟩|⟨⟨F,f⟩,Rt,h⟩
  .exact⟨He,hxw⟩
  .have:=GZ f Rt h;exact⟨Nat.le_trans this.le He,this.wf⟩
 obtain⟨z,hz,h3⟩:=Nd NH hyw
 have hzl:z.length<=1000:=by
  rcases h3 with⟨_,rfl⟩|⟨_,h,_⟩
  .exact NH
  .exact Nat.le_trans h.le NH
 refine⟨x,y,z,hx,hy,hz,?_,?_,hzl⟩
 .unfold M.jQ;rw[hx,aoy,hy,aoy,hz];rfl
 .unfold M.nw;rw[Nl hl hw,hx,aoy,G3 He,hy,aoy,G4 NH hyw,hz];rfl
end L.P.Q
end Go.Proofs.YtfjgcenlllgonaaGreatDoor
