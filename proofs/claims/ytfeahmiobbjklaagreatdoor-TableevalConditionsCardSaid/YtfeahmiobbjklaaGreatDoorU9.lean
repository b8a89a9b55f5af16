/- Joined texts: TF TG TH TJ TT TU TV TW TX TY TZ TQ TR RY RZ PV PT PT2. -/
import Derived.Test.YtfeahmiobbjklaaGreatDoorU8
import Derived.Test.YtfeahmiobbjklaaGreatDoorU1
set_option linter.defProp false
open _root_.Bool renaming false->ag,true->af,eq_iff_iff->ag2,false_eq_true->ags,and_eq_true->ahn
open _root_.Option renaming some->aa,bind_some->ago,none->ae
open _root_.Classical renaming propDecidable->ahG
open _root_.Int renaming eq_ofNat_of_zero_le->aha,toNat_natCast->agE,le_refl->ahp,reduceEq->ahu,fdiv_eq_ediv_of_nonneg->ahT,tdiv->agC,tdiv_eq_ediv_of_nonneg->agG,tmod->agD
open _root_.Go.IntKind renaming i64->agp,bits->ahL,u64->agr
open _root_.List renaming mem_append->agV,mem_singleton->agQ,range->agw,replicate->agv,take_append_getElem->ag5,pairwise_cons->agN,getElem_mem->agy,append_assoc->ahg,getElem?_eq_getElem->agx,getElem_append_left->ag4,length_take->ahv
open _root_.Nat renaming eq_of_testBit_eq->ahy,mul_comm->agO,le_refl->agt,le_trans->agR,mul_le_mul_right->agA,beq->agu,div_div_eq_div_mul->ahI,div_lt_iff_lt_mul->agS,pow_add->ahN
namespace Go.Proofs.YtfeahmiobbjklaaGreatDoor
open Go Go.RowKit
set_option maxRecDepth 100000
set_option linter.unusedSimpArgs false
set_option linter.unusedVariables false
set_option linter.defProp false
namespace L
def IK(a:Int):Nat:=min a.toNat 8
def Em(a:Int):IK a<=8:=Nat.min_le_right _ _
def KJ(a:Int):M.gQ aR a=aa (IK a:Int):=by
 grind [M.gQ,IK]
def HR(a:Int):M.pN aR a=aa (IK a:Int):=by
 grind [M.pN,IK]
def size_eq{n:Nat}(hn:n<=8):M.ra aR (n:Int)=aa ((2 ^ n:Nat):Int):=by
 unfold M.ra;refine Wp.eq ?_
 refine Wp.count (λs=>s.2) n (λk s=>s.1=((2 ^ k:Nat):Int)) (by omega) rfl rfl λk s hk hs hJ=>?_
 obtain⟨x,kk⟩:=s;dsimp only at hs hJ⊢;subst hs hJ;refine .dec (λh=> .some ⟨by omega,aL (by omega),?_⟩) (λh=> .some ?_)
 .have h1:2 ^ k<=2 ^ 8:=Nat.pow_le_pow_right (by omega) (by omega)
  show agp.wrap (((2 ^ k:Nat):Int)*2)=((2 ^ (k+1):Nat):Int)
  have e:((2 ^ k:Nat):Int)*2=((2 ^ (k+1):Nat):Int):=by rw[Nat.pow_succ];simp
  rw[e,wrap_i64 (by grind)]
 .have:k=n:=by omega
  subst this;rfl
def r9(l:List Int)(k:Nat):List Bool:=(agw k).map λx:Nat=>decide ((x:Int)∈l)
def Ng{α:Type}{k x:Nat}{f:Nat->α}(h:x<k):idx ((agw k).map f) (x:Int)=aa (f x):=by
 rw[aM (by simpa using h)];simp
def zK{α:Type}{k x:Nat}{f:Nat->α}{Q:α->Prop}(h:x<k)(hq:Q (f x)):Wp (idx ((agw k).map f) (x:Int)) Q:=⟨_,Ng h,hq⟩
def sa{α:Type}(k:Nat)(f:Nat->α):(((agw k).map f).length:Int)=(k:Int):=by simp
def En{l:List Int}(hl:l.length<=1000000){n:Nat}(hn:n<=8):M.np aR l (n:Int)=aa (r9 l (2 ^ n)):=by
 have h8:=r8 hn;unfold M.np;rw[size_eq hn,ago];generalize 2 ^ n=K at*;refine Wp.eq (.bind (rc.2 ⟨by omega,?_⟩))
 refine Wp.count (λs=>s.1) l.length (λk s=>s.2=r9 (l.take k) K) (by omega) rfl ?_ λk s hk hs hJ=>?_
 .show agv _ _=_
  unfold r9;apply List.ext_getElem (by simp)
  grind
 .obtain⟨kk,c⟩:=s;dsimp only at hs hJ⊢;subst hs hJ;refine .dec (λh=>?_) (λh=> .some ?_)
  .have bi:k<l.length:=by omega
   have hlen:((r9 (l.take k) K).length:Int)=(K:Int):=sa _ _
   have Mn:∀y:Int,y∈l.take (k+1)↔y∈l.take k\/y=l[k]:=λy=>by rw[<-ag5 bi,agV,agQ]
   refine Wp.seq (λj=>j=r9 (l.take (k+1)) K) ?_ λj hj=> .some ⟨bi,aL (by omega),hj⟩
   refine Wp.seq (λj=>j=af↔0<=l[k]/\l[k]<(K:Int)) (.bind (.idx k rfl bi (.dec (λh0=> .bind (.idx k rfl bi (.some ?_))) (λh0=> .some (by grind))))) λj hj=>?_
   .grind
   refine .ite (λL1=> .bind (.idx k rfl bi ?_)) (λTC=> .some ?_)
   .obtain⟨x,hx⟩:=aha (hj.1 L1).1
    have Gw:x<K:=by have:=(hj.1 L1).2;omega
    rw[hx];refine .bind (zK Gw (.some ?_))
    grind [r9,bG,k6]
   .unfold r9
    refine List.map_congr_left λy hy=>decide_eq_decide.2 ?_
    grind
  .have:k=l.length:=by omega
   subst this
   show r9 (l.take l.length) K=r9 l K
   grind
def KL{m:Nat}(hm:m<256):M.rb aR (m:Int)=aa (kl (m:Int)):=by
 have h:((agw 256).all λm=>decide (M.rb aR ((m:Nat):Int)=aa (kl ((m:Nat):Int))))=af:=by kernel_rfl
 grind
def Nh:∀{m n:Nat},n<=8->m<2 ^ n->∃c:Nat,c<=n/\kl (m:Int)=(c:Int):=by
 intro m n hn hm
 have h:((agw 9).all λn=>(agw (2 ^ n)).all λm=>(agw (n+1)).any λc=>decide (kl ((m:Nat):Int)=(c:Int)))=af:=by kernel_rfl
 have h1:=List.all_eq_true.1 (List.all_eq_true.1 h n (List.mem_range.2 (by omega))) m (List.mem_range.2 hm)
 grind
def rl{m b x:Nat}(hm:m<256)(hx:x<256):M.jh aR (pI m b) (x:Int)=aa (decide (x&&& m=b)):=by
 unfold M.jh;rw[KD (by omega) (by omega)]
 congr 1
 grind
def fE(k:Nat)(mem cov:Nat->Bool)(m b:Nat):Bool:=(agw k).any λx=>decide (x&&& m=b)&&mem x&& !cov x
def KM{n:Nat}(hn:n<=8){mem cov:Nat->Bool}{m b:Nat}(hm:m<256):M.pO aR (pI m b) ((agw (2 ^ n)).map mem) ((agw (2 ^ n)).map cov)=aa (fE (2 ^ n) mem cov m b):=by
 have h8:=r8 hn;unfold M.pO;refine Wp.eq ?_
 refine Wp.count (λs=>s) (2 ^ n) (λk _=>∀x,x<k->(decide (x&&& m=b)&&mem x&& !cov x)=ag) (by omega) rfl (λx hx=>absurd hx (by omega)) λk s hk hs hJ=>?_
 subst hs;rw[sa];refine .dec (λh=>?_) (λh=> .some ?_)
 .have bi:k<2 ^ n:=by omega
  refine Wp.seq (λj=>j=(decide (k&&& m=b)&&mem k&& !cov k)) (.aW (rl hm (by omega)) (.ite (λh1=> .bind (zK bi (.ite (λh2=> .bind (zK bi (.some ?_))) (λh2=> .some ?_)))) (λh1=> .some ?_))) λj hj=> .ite (λh1=> .some ?_) (λh1=> .some ⟨bi,aL (by omega),λx hx=>?_⟩)
  .grind
  .grind
  .simp[h1]
  .show af=fE _ _ _ _ _
   grind [fE]
  grind
 .show ag=fE _ _ _ _ _
  grind [fE]
noncomputable def KN(n:Nat)(S:Nat->Prop)(m b:Nat):Bool:= @decide (∀x,x<2 ^ n->x&&& m=b->S x) (ahG _)
theorem tA{n:Nat}{S:Nat->Prop}{m b:Nat}:KN n S m b=af↔∀x,x<2 ^ n->x&&& m=b->S x:= @decide_eq_true_iff _ (ahG _)
def sb{n:Nat}(hn:n<=8){l:List Int}{m b:Nat}(hm:m<256):M.jq aR (pI m b) (r9 l (2 ^ n))=aa (KN n (λx=>(x:Int)∈l) m b):=by
 have h8:=r8 hn;unfold M.jq;refine Wp.eq ?_
 refine Wp.count (λs=>s) (2 ^ n) (λk _=>∀x:Nat,x<k->x&&& m=b->(x:Int)∈l) (by omega) rfl (λx hx=>absurd hx (by omega)) λk s hk hs hJ=>?_
 subst hs;rw[show((r9 l (2 ^ n)).length:Int)=((2 ^ n:Nat):Int)from sa _ _];refine .dec (λh=>?_) (λh=> .some ?_)
 .have bi:k<2 ^ n:=by omega
  refine Wp.seq (λj=>j=af↔k&&& m=b/\¬(k:Int)∈l) (.aW (rl hm (by omega)) (.dec (λh1=> .bind (zK bi (.some ?_))) (λh1=> .some (by grind)))) λj hj=> .ite (λh1=> .some ?_) (λh1=> .some ⟨bi,aL (by omega),λx hx he=>?_⟩)
  .grind
  .show ag=KN _ _ _ _
   grind [tA]
  grind
 .have:k=2 ^ n:=by omega
  subst this;exact(tA.2 hJ).symm
theorem BH{n:Nat}{S:Nat->Prop}{m b:Nat}(hm:m<2 ^ n)(hb:b&&& m=b):KN n S m b=af↔rk n S m b:=by
 rw[tA];exact⟨λh=>⟨hm,hb,h⟩,λh=>h.2.2⟩
theorem Ni{m b j:Nat}(h:b&&& m=b):ga b (2 ^ j)&&& ga m (2 ^ j)=ga b (2 ^ j):=by
 grind [iQ,dw]
theorem Nj{m j:Nat}:m&&& 2 ^ j=0↔m.testBit j=ag:=by
 constructor
 .intro h;have:=av (λx=>x.testBit j) h
  grind
 .intro h;apply ahy;grind
def KO{n:Nat}(hn:n<=8){l:List Int}{m b:Nat}(hm:m<2 ^ n)(hb:b&&& m=b):Wp (M.pP aR (pI m b) (r9 l (2 ^ n))) λr=>r=af↔El n (λx=>(x:Int)∈l) m b:=by
 have h8:=r8 hn;have RL:b<2 ^ n:=Nat.lt_of_le_of_lt (by rw[<-hb];exact Nat.and_le_right) hm;unfold M.pP;refine .aW (sb hn (by omega)) ?_;have hi:=BH (S:=λx=>(x:Int)∈l) hm hb
 cases hv:KN n (λx=>(x:Int)∈l) m b with
 |false=>
  refine .some ⟨λh=>(by cases h),λh=>?_⟩;rw[hv]at hi;exact absurd (hi.2 h.1) (by simp)
 |true=>
  rw[hv]at hi;have hI:=hi.1 rfl
  refine Wp.ite (λh=>absurd h (by simp)) λ_=>?_
  refine Wp.loop (λs=>∃j:Nat,j<=n/\s=((2 ^ j:Nat):Int)/\∀i,i<j->m.testBit i=af->¬rk n (λx=>(x:Int)∈l) (ga m (2 ^ i)) (ga b (2 ^ i))) (λs=>1000-s.toNat) ⟨0,Nat.zero_le _,rfl,λi hi=>absurd hi (by omega)⟩ (by unfold aR;omega) λs hs=>?_
  obtain⟨j,hj,rfl,hJ⟩:=hs;rw[show((r9 l (2 ^ n)).length:Int)=((2 ^ n:Nat):Int)from sa _ _];refine .dec (λh=>?_) (λh=> .some ?_)
  .have bi:2 ^ j<2 ^ n:=by omega
   have V0:j<n:=(by grind)
   have e0:aF .and .i64 (pI m b).1 ((2 ^ j:Nat):Int)=((m&&& 2 ^ j:Nat):Int):=KD (by omega) (by omega);have e1:aF .andNot .i64 (pI m b).1 ((2 ^ j:Nat):Int)=(ga m (2 ^ j):Nat):=HP (by omega) (by omega);have e2:aF .andNot .i64 (pI m b).2 ((2 ^ j:Nat):Int)=(ga b (2 ^ j):Nat):=HP (by omega) (by omega);have OI:=KE m (2 ^ j)
   refine Wp.seq (λq=>q=af↔m.testBit j=af/\rk n (λx=>(x:Int)∈l) (ga m (2 ^ j)) (ga b (2 ^ j))) ?_ λq hq=> .ite (λh1=> .some ⟨λh=>(by cases h),λh=>absurd (hq.1 h1).2 (h.2 j V0 (hq.1 h1).1)⟩) (λh1=> .some ?_)
   .rw[e0,e1,e2];refine .o9 (λh1=> .aW (sb (m:=ga m (2 ^ j)) (b:=ga b (2 ^ j)) hn (by omega)) (.some ?_)) (λh1=> .some ⟨λh=>(by cases h),λh=>?_⟩)
    all_goals grind [Nj,BH,Ni]
   .have e:((2 ^ j:Nat):Int)*2=((2 ^ (j+1):Nat):Int):=by rw[Nat.pow_succ];simp
    have QX:2 ^ (j+1)=2*2 ^ j:=by rw[Nat.pow_succ,agO]
    have hp:=Nat.two_pow_pos j
    show FF _ _ _ _ (.inl (agp.wrap (((2 ^ j:Nat):Int)*2)))
    rw[e,wrap_i64 (by omega)];refine⟨⟨j+1,V0,rfl,λi jJ=>?_⟩,by grind⟩
    grind
  .have hge:2 ^ n<=2 ^ j:=by omega
   have:j=n:=by
    have:=(Nat.pow_le_pow_iff_right (a:=2) (by omega)).1 hge;omega
   subst this;exact⟨λ_=>⟨hI,hJ⟩,λ_=>rfl⟩
end L
namespace L
theorem BI(a b:Int):dY ay a b=decide (a=b):=rfl
def KP(l:List (Int×Bool))(k:Int)(v:Bool)(x:Int):bH ay (nI ay l k v) x=if x=k then aa v else bH ay l x:=by
 induction l with
 |nil=>
  show(if dY ay k x=af then aa v else ae)=if x=k then aa v else ae
  grind [BI]
 |cons p l ih=>
  grind [nI,BI,bH]
theorem HS{l:List (Int×Bool)}{x:Int}(h:∀p∈l,p.1≠x):bH ay l x=ae:=by
 induction l with
 |nil=>rfl
 |cons p l ih=>
  grind [bH,BI]
abbrev DI(l:List (Int×Bool)):Prop:=l.Pairwise λp q=>p.1≠q.1
def Nk(l:List (Int×Bool))(k:Int):(o5 ay l k).Sublist l:=by
 induction l with
 |nil=>exact .slnil
 |cons p l ih=>
  grind [o5]
def KQ{l:List (Int×Bool)}(hd:DI l)(k x:Int):bH ay (o5 ay l k) x=if x=k then ae else bH ay l x:=by
 induction l with
 |nil=>show ae=if x=k then ae else ae;split<;>rfl
 |cons p l ih=>
  obtain⟨h1,h2⟩:=agN.1 hd;unfold o5;by_cases h:p.1=k
  .rw[aj (by rw[BI];grind)];by_cases hx:x=k
   .grind [HS]
   .rw[ai hx]
    show _=if dY ay p.1 x=af then aa p.2 else bH ay l x
    grind [BI]
  grind [BI,bH]
def DI.put{l:List (Int×Bool)}(hd:DI l)(k:Int)(v:Bool):DI (nI ay l k v):=by
 have hm:∀{l:List (Int×Bool)}{q:Int×Bool},q∈nI ay l k v->q.1=k\/q∈l:=by
  intro l
  induction l with
  |nil=>intro q hq;exact .inl (by rw[agQ.1 hq])
  |cons p l ih=>
   grind [nI,BI]
 induction l with
 |nil=>exact List.pairwise_singleton _ _
 |cons p l ih=>
  obtain⟨h1,h2⟩:=agN.1 hd;unfold nI;split
  .simp_all
  .rename_i e;rw[BI,aw]at e
   grind [agN]
def Bs(m:Nat):List (Nat×Nat):=((agw (m+1)).filter λb=>decide (b&&& m=b)).map λb=>(m,b)
noncomputable def Ms(n c:Nat):List (Nat×Nat):=(agw (2 ^ n)).flatMap λm:Nat=>if kl (m:Int)=(c:Int)then Bs m else[]
noncomputable def Pt(n:Nat):List (Nat×Nat):=(agw (n+1)).flatMap (Ms n)
theorem Eo{m:Nat}{p:Nat×Nat}:p∈Bs m↔p.1=m/\p.2&&& p.1=p.2:=by
 unfold Bs;rw[List.mem_map];constructor
 .grind
 grind [Nat.and_le_right]
theorem zL{n c:Nat}{p:Nat×Nat}:p∈Ms n c↔p.1<2 ^ n/\kl (p.1:Int)=(c:Int)/\p.2&&& p.1=p.2:=by
 grind [Ms,Eo]
theorem rm{n:Nat}(hn:n<=8){p:Nat×Nat}:p∈Pt n↔p.1<2 ^ n/\p.2&&& p.1=p.2:=by
 unfold Pt;rw[List.mem_flatMap];constructor
 .grind [zL]
 .rintro⟨h1,h3⟩
  obtain⟨c,hc,h2⟩:=Nh hn h1;exact⟨c,List.mem_range.2 (by omega),zL.2 ⟨h1,h2,h3⟩⟩
def tB(n:Nat):(Pt n).Pairwise λp q=>rz (pI p.1 p.2) (pI q.1 q.2):=by
 unfold Pt;refine List.pairwise_flatMap.2 ⟨λc _=>?_,List.pairwise_lt_range.imp λ{c d}hcd x hx y hy=>?_⟩
 .unfold Ms;refine List.pairwise_flatMap.2 ⟨λm _=>?_,List.pairwise_lt_range.imp λ{m m'}hm x hx y hy=>?_⟩
  .split
   .unfold Bs;refine List.pairwise_map.2 ((List.pairwise_lt_range.filter _).imp λ{a b}h=>?_);refine .inr ⟨rfl, .inr ⟨rfl,?_⟩⟩
    grind
   .exact .nil
  .split at hx
   .split at hy
    .rename_i h1 h2;obtain⟨e1,_⟩:=Eo.1 hx;obtain⟨e2,_⟩:=Eo.1 hy;subst e1 e2;refine .inr ⟨h1.trans h2.symm, .inl ?_⟩
     grind
    .simp at hy
   .simp at hx
 .obtain⟨_,h1,_⟩:=zL.1 hx;obtain⟨_,h2,_⟩:=zL.1 hy;refine .inl ?_
  grind
noncomputable def w9(n:Nat)(S:Nat->Prop)(p:Nat×Nat):Bool:= @decide (El n S p.1 p.2) (ahG _)
theorem sc{n:Nat}{S:Nat->Prop}{p:Nat×Nat}:w9 n S p=af↔El n S p.1 p.2:= @decide_eq_true_iff _ (ahG _)
def fT(k:Nat)(mem:Nat->Bool):(Nat->Bool)->List (Nat×Nat)->List (Int×Int)
 |_,[]=>[]
 |cov,p::l=>if fE k mem cov p.1 p.2=af then pI p.1 p.2::fT k mem (λx=>cov x||decide (x&&& p.1=p.2)) l else fT k mem cov l
theorem mS{k:Nat}{mem cov:Nat->Bool}{p:Nat×Nat}{l:List (Nat×Nat)}:fT k mem cov (p::l)=if fE k mem cov p.1 p.2=af then pI p.1 p.2::fT k mem (λx=>cov x||decide (x&&& p.1=p.2)) l else fT k mem cov l:=rfl
noncomputable def HT(n:Nat)(S:Nat->Prop)(mem:Nat->Bool):List (Int×Int):=fT (2 ^ n) mem (λ_=>ag) ((Pt n).filter (w9 n S))
theorem oH{k:Nat}{mem:Nat->Bool}:∀{l:List (Nat×Nat)}{cov cov':Nat->Bool},(∀x,x<k->mem x=af->cov x=cov' x)->fT k mem cov l=fT k mem cov' l
 |[],_,_,_=>rfl
 |p::l,cov,cov',h=>by
  have e:fE k mem cov p.1 p.2=fE k mem cov' p.1 p.2:=by
   unfold fE;rw[ag2,List.any_eq_true,List.any_eq_true];constructor
   .grind
   .grind
  unfold fT;rw[e,oH (cov:=cov) (cov':=cov') h,oH (cov:=λx=>cov x||decide (x&&& p.1=p.2)) (cov':=λx=>cov' x||decide (x&&& p.1=p.2)) λx hx hm=>by rw[h x hx hm]]
end L
namespace L
def dR(l:List Int)(x:Nat):Bool:=decide ((x:Int)∈l)
def BJ{m b x:Nat}(hm:m<256)(hx:x<256):M.gA aR (pI m b) (x:Int)=aa (decide (x&&& m=b)):=by
 unfold M.gA;rw[KD (by omega) (by omega)]
 congr 1
 grind
def KR{l:List Int}(hl:l.length<=1000000)(a:Int):M.iK aR l a=aa (HT (IK a) (λx=>(x:Int)∈l) (dR l)):=by
 have hn:=Em a;generalize YT:IK a=n at hn;have h8:=r8 hn;have qA:=Nat.two_pow_pos n;unfold M.iK;rw[KJ,ago,YT,oG (by omega),ago];refine Wp.eq (Wp.seq (λj=>DI j.1/\(∀x:Nat,x<2 ^ n->((bH ay j.1 (x:Int)).getD ag=af↔(x:Int)∈l))/\km j.2/\∀p,In j.2 p↔∃x:Nat,x<2 ^ n/\(x:Int)∈l/\p=pI (2 ^ n-1) x) ?_ λj hj=>?_)
 .refine Wp.count (λs=>s.1) l.length (λk s=>DI s.2.1/\(∀x:Nat,x<2 ^ n->((bH ay s.2.1 (x:Int)).getD ag=af↔(x:Int)∈l.take k))/\km s.2.2/\∀p,In s.2.2 p↔∃x:Nat,x<2 ^ n/\(x:Int)∈l.take k/\p=pI (2 ^ n-1) x) (by omega) rfl ⟨.nil,λx hx=>by simp[bH], .nil,λp=>by simp[In,bH]⟩ λk s hk hs hJ=>?_
  obtain⟨kk,mis,im⟩:=s;obtain⟨g1,g2,g3,g4⟩:=hJ;dsimp only at hs g1 g2 g3 g4⊢;subst hs;refine .dec (λh=>?_) (λh=> .some ?_)
  .have bi:k<l.length:=by omega
   have Mn:∀y:Int,y∈l.take (k+1)↔y∈l.take k\/y=l[k]:=λy=>by rw[<-ag5 bi,agV,agQ]
   refine Wp.seq (λs=>DI s.1/\(∀x:Nat,x<2 ^ n->((bH ay s.1 (x:Int)).getD ag=af↔(x:Int)∈l.take (k+1)))/\km s.2/\∀p,In s.2 p↔∃x:Nat,x<2 ^ n/\(x:Int)∈l.take (k+1)/\p=pI (2 ^ n-1) x) (.bind (.idx k rfl bi ?_)) λj hj=> .some ⟨bi,aL (by omega),hj⟩
   refine Wp.seq (λj=>j=af↔0<=l[k]/\l[k]<((2 ^ n:Nat):Int)) (.dec (λh0=> .some ?_) (λh0=> .some (by grind))) λj hj=> .ite (λL1=> .some ?_) (λTC=> .some ?_)
   .grind
   .obtain⟨x,hx⟩:=aha (hj.1 L1).1
    have Gw:x<2 ^ n:=by have:=(hj.1 L1).2;rw[hx]at this;exact_mod_cast this
    have hw:agp.wrap (((2 ^ n:Nat):Int)-1)=((2 ^ n-1:Nat):Int):=by
     rw[show((2 ^ n:Nat):Int)-1=((2 ^ n-1:Nat):Int) by omega,wrap_i64 (by omega)]
    rw[hw,hx];refine⟨g1.put _ _,λy hy=>?_,g3.put _,λp=>?_⟩
    .show(bH ay (nI ay mis (x:Int) af) (y:Int)).getD ag=af↔_
     rw[KP,Mn,hx]
     grind
    .refine(zG g3 (p:=pI (2 ^ n-1) x)).trans ?_
     grind
   grind
  .have:k=l.length:=by omega
   subst this;rw[List.take_length]at g2 g4;exact⟨g1,g2,g3,g4⟩
 .obtain⟨adI,im⟩:=j;obtain⟨j1,j2,j3,j4⟩:=hj;dsimp only at j1 j2 j3 j4⊢
  refine Wp.seq (Ej n λx=>(x:Int)∈l) (YP n hn (λx=>(x:Int)∈l) im j3 j4) λms LY=>Wp.seq (KI n (λx=>(x:Int)∈l) ms) (HQ n hn _ ms LY) λr hr=>?_
  obtain⟨ms',pr⟩:=r;obtain⟨-,Rg,hr3⟩:=hr;dsimp only at Rg hr3⊢
  have hpr:pr=((Pt n).filter (w9 n λx=>(x:Int)∈l)).map λp=>pI p.1 p.2:=by
   refine tZ Rg (List.pairwise_map.2 ((tB n).filter _)) λp=>(hr3 p).trans ?_
   rw[List.mem_map];constructor
   .rintro⟨m,b,rfl,h⟩
    exact⟨(m,b),List.mem_filter.2 ⟨(rm hn).2 ⟨h.1.1,h.1.2.1⟩,sc.2 h⟩,rfl⟩
   .grind [sc]
  subst hpr;unfold HT
  have hQ:∀p∈(Pt n).filter (w9 n λx=>(x:Int)∈l),p.1<2 ^ n:=λp hp=>((rm hn).1 (List.mem_filter.1 hp).1).1
  have hQl:((Pt n).filter (w9 n λx=>(x:Int)∈l)).length<=65536:=by
   have:=qs (A:=((Pt n).filter (w9 n λx=>(x:Int)∈l)).map λp=>p.1*256+p.2) (B:=agw 65536) ?_ λx hx=>?_
   .grind
   .rw[List.Nodup,List.pairwise_map];refine List.Pairwise.imp_of_mem (λ{p q}hp hq bi e=>?_) ((tB n).filter _);have h1:=(rm hn).1 (List.mem_filter.1 hp).1;have h2:=(rm hn).1 (List.mem_filter.1 hq).1
    have h3:p.2<=p.1:=by rw[<-h1.2];exact Nat.and_le_right
    have h4:q.2<=q.1:=by rw[<-h2.2];exact Nat.and_le_right
    have h5:p.1=q.1/\p.2=q.2:=by omega
    grind [rz.irrefl]
   .grind [rm,Nat.and_le_right]
  generalize(Pt n).filter (w9 n λx=>(x:Int)∈l)=Q at hQ hQl⊢
  refine Wp.count (λs=>s.1) Q.length (λk s=>∃cov:Nat->Bool,DI s.2.1/\(∀x:Nat,x<2 ^ n->(bH ay s.2.1 (x:Int)).getD ag=(dR l x&& !cov x))/\s.2.2++fT (2 ^ n) (dR l) cov (Q.drop k)=fT (2 ^ n) (dR l) (λ_=>ag) Q/\s.2.2.length<=k) (by omega) rfl ⟨λ_=>ag,j1,λx hx=>by grind [dR],rfl,agt _⟩ λk s hk hs hJ=>?_
  obtain⟨kk,mis,res⟩:=s;obtain⟨cov,g1,g2,g3,g4⟩:=hJ;dsimp only at hs g1 g2 g3 g4⊢;subst hs;rw[List.length_map];refine .dec (λh=>?_) (λh=> .some ?_)
  .have bi:k<Q.length:=by omega
   have hm:=hQ _ (agy bi);rw[List.drop_eq_getElem_cons bi]at g3
   refine Wp.seq (λs=>∃cov:Nat->Bool,DI s.1/\(∀x:Nat,x<2 ^ n->(bH ay s.1 (x:Int)).getD ag=(dR l x&& !cov x))/\s.2++fT (2 ^ n) (dR l) cov (Q.drop (k+1))=fT (2 ^ n) (dR l) (λ_=>ag) Q/\s.2.length<=k+1) ?_ λj hj=> .some ⟨bi,aL (by omega),hj⟩
   refine Wp.seq (λs=>∃cov:Nat->Bool,DI s.1/\(∀x:Nat,x<2 ^ n->(bH ay s.1 (x:Int)).getD ag=(dR l x&& !cov x))/\s.2++fT (2 ^ n) (dR l) cov (Q.drop (k+1))=fT (2 ^ n) (dR l) (λ_=>ag) Q/\s.2.length<=k+1) (.bind (.idx k rfl (by simpa using bi) ?_)) λj hj=> .some hj
   rw[List.getElem_map];generalize hp:Q[k]=p at hm g3
   refine Wp.seq (λs=>DI s.2/\(∀x:Nat,x<2 ^ n->(bH ay s.2 (x:Int)).getD ag=(dR l x&& !(cov x||decide (x&&& p.1=p.2))))/\s.1=fE (2 ^ n) (dR l) cov p.1 p.2) ?_ λt ht=>?_
   .refine Wp.count (λs=>s.2.1) (2 ^ n) (λj s=>DI s.2.2/\(∀x:Nat,x<2 ^ n->(bH ay s.2.2 (x:Int)).getD ag=(dR l x&& !(cov x||(decide (x<j)&&decide (x&&& p.1=p.2)))))/\(s.1=af↔∃x,x<j/\(decide (x&&& p.1=p.2)&&dR l x&& !cov x)=af)) (by omega) rfl (by grind) λj s hj hs hJ=>?_
    obtain⟨u,jj,mi⟩:=s;obtain⟨f1,f2,f3⟩:=hJ;dsimp only at hs f1 f2 f3⊢;subst hs;refine .dec (λh=>?_) (λh=> .some ?_)
    .have DK:j<2 ^ n:=by omega
     have TD:=f2 j DK
     have hjj:decide (j<j)=ag:=by simp
     rw[hjj,Bool.false_and,Bool.or_false]at TD
     refine Wp.seq (λs=>DI s.2/\(∀x:Nat,x<2 ^ n->(bH ay s.2 (x:Int)).getD ag=(dR l x&& !(cov x||(decide (x<j+1)&&decide (x&&& p.1=p.2)))))/\(s.1=af↔∃x,x<j+1/\(decide (x&&& p.1=p.2)&&dR l x&& !cov x)=af)) ?_ λq hq=> .some ⟨DK,aL (by omega),hq⟩
     refine Wp.seq (λt=>t=(decide (j&&& p.1=p.2)&&dR l j&& !cov j)) ?_ λt ht=>?_
     .refine .ite (λh1=> .aW (BJ (by omega) (by omega)) (.some ?_)) (λh1=> .some ?_)
      all_goals grind
     .subst ht
      have hex:(∃x,x<j+1/\(decide (x&&& p.1=p.2)&&dR l x&& !cov x)=af)↔(∃x,x<j/\(decide (x&&& p.1=p.2)&&dR l x&& !cov x)=af)\/(decide (j&&& p.1=p.2)&&dR l j&& !cov j)=af:=by
       constructor
       .grind
       .rintro(⟨x,h1,h2⟩|h)
        all_goals grind
      refine .ite (λht=> .some ⟨List.Pairwise.sublist (Nk _ _) f1,λx hx=>?_,⟨λ_=>hex.2 (.inr ht),λ_=>rfl⟩⟩) (λht=> .some ⟨f1,λx hx=>?_,(by simp_all)⟩)
      .show(bH ay (o5 ay mi (j:Int)) (x:Int)).getD ag=_
       rw[KQ f1];by_cases e:x=j
       .grind
       .have e1:¬(x:Int)=j:=λg=>e (by grind)
        rw[ai e1,f2 x hx];have:decide (x<j+1)=decide (x<j):=decide_eq_decide.2 (by omega);rw[this]
      .show(bH ay mi (x:Int)).getD ag=_
       rw[f2 x hx];by_cases e:x=j
       .subst e
        cases h1:decide (x&&& p.1=p.2)<;>cases h2:dR l x<;>cases h3:cov x<;>simp_all
       .have:decide (x<j+1)=decide (x<j):=decide_eq_decide.2 (by omega);rw[this]
    .have:j=2 ^ n:=by omega
     subst this;refine⟨f1,(by simp_all),?_⟩;unfold fE;rw[ag2,f3,List.any_eq_true]
     grind
   .obtain⟨f1,f2,f3⟩:=ht;rw[mS,<-f3]at g3;refine .ite (λh1=> .bind (.wM (by simp;omega) (.some ⟨λx=>cov x||decide (x&&& p.1=p.2),f1,f2,?_,by simp;omega⟩))) (λh1=> .some ⟨λx=>cov x||decide (x&&& p.1=p.2),f1,f2,?_,by grind⟩)
    .grind
    .rw[ai h1]at g3;rw[<-g3]
     congr 1
     grind [oH,fE]
  .have:k=Q.length:=by omega
   subst this;rw[List.drop_length]at g3
   show res=_
   rw[<-g3];simp[fT]
end L
namespace L
def Tr(n:Nat)(l:List Int)(Q:List (Nat×Nat))(s s':(Nat->Bool)×List (Int×Int)):Prop:=
 ∀R:List (Nat×Nat),s.2++fT (2 ^ n) (dR l) s.1 ((Q++R).filter (w9 n λx=>(x:Int)∈l))=s'.2++fT (2 ^ n) (dR l) s'.1 (R.filter (w9 n λx=>(x:Int)∈l))
theorem Tr.nil{n:Nat}{l:List Int}(s:(Nat->Bool)×List (Int×Int)):Tr n l [] s s:=λ_=>rfl
def Tr.trans{n:Nat}{l:List Int}{Q Q':List (Nat×Nat)}{s s' s'':(Nat->Bool)×List (Int×Int)}(h:Tr n l Q s s')(g:Tr n l Q' s' s''):Tr n l (Q++Q') s s'':=λR=>by
 rw[ahg,h,g]
theorem Tr.skip{n:Nat}{l:List Int}{p:Nat×Nat}{s:(Nat->Bool)×List (Int×Int)}(h:fE (2 ^ n) (dR l) s.1 p.1 p.2=ag\/¬El n (λx=>(x:Int)∈l) p.1 p.2):Tr n l [p] s s:=λR=>by
 grind [mS,sc]
def Tr.take{n:Nat}{l:List Int}{p:Nat×Nat}{s:(Nat->Bool)×List (Int×Int)}(h:fE (2 ^ n) (dR l) s.1 p.1 p.2=af)(hp:El n (λx=>(x:Int)∈l) p.1 p.2):Tr n l [p] s (λx=>s.1 x||decide (x&&& p.1=p.2),s.2++[pI p.1 p.2]):=λR=>by
 grind [sc,mS]
def qt{α:Type}(f:Nat->List α)(k:Nat):(agw (k+1)).flatMap f=(agw k).flatMap f++f k:=by
 rw[List.range_succ,List.flatMap_append];simp
def uz(m k:Nat):((agw (k+1)).filter λb=>decide (b&&& m=b)).map (λb=>(m,b))=((agw k).filter λb=>decide (b&&& m=b)).map (λb=>(m,b))++(if k&&& m=k then[(m,k)]else[]):=by
 grind [kj]
def Nl{l:List Int}(hl:l.length<=1000000)(a:Int):M.mo aR l a=aa (HT (IK a) (λx=>(x:Int)∈l) (dR l)):=by
 have hn:=Em a;generalize YT:IK a=n at hn;have h8:=r8 hn;have qA:=Nat.two_pow_pos n;unfold M.mo;rw[HR,ago,YT,En hl hn,ago];have hlen:((r9 l (2 ^ n)).length:Int)=((2 ^ n:Nat):Int):=sa _ _;rw[hlen]
 have sR:agv (((2 ^ n:Nat):Int)).toNat ag=(agw (2 ^ n)).map λ_=>ag:=by
  rw[agE];apply List.ext_getElem (by simp);intro i h1 h2;simp
 refine Wp.eq (.bind (rc.2 ⟨by grind,?_⟩));rw[sR]
 refine Wp.count (λs=>s.1) (n+1) (λc s=>∃cov:Nat->Bool,s.2.1=(agw (2 ^ n)).map cov/\Tr n l ((agw c).flatMap (Ms n)) (λ_=>ag,[]) (cov,s.2.2)/\s.2.2.length<=c*65536) (by omega) rfl ⟨λ_=>ag,rfl,Tr.nil _,Nat.zero_le _⟩ λc s hc hs hJ=>?_
 obtain⟨cc,TE,res⟩:=s;obtain⟨cov,rfl,hT,TF⟩:=hJ;dsimp only at hs hT TF⊢;subst hs;refine .dec (λh=>?_) (λh=> .some ?_)
 .have hcn:c<=n:=by omega
  refine Wp.seq (λj=>∃cov':Nat->Bool,j.1=(agw (2 ^ n)).map cov'/\Tr n l (Ms n c) (cov,res) (cov',j.2)/\j.2.length<=c*65536+65536) ?_ λj hj=>?_
  .refine Wp.count (λs=>s.1) (2 ^ n) (λm s=>∃cov':Nat->Bool,s.2.1=(agw (2 ^ n)).map cov'/\Tr n l ((agw m).flatMap λm:Nat=>if kl (m:Int)=(c:Int)then Bs m else[]) (cov,res) (cov',s.2.2)/\s.2.2.length<=c*65536+m*256) (by omega) rfl ⟨cov,rfl,Tr.nil _,agR TF (by omega)⟩ λm s hm hs hJ=>?_
   obtain⟨mm,TE,rs⟩:=s;obtain⟨cv,rfl,YU,KS⟩:=hJ;dsimp only at hs YU KS⊢;subst hs;refine .dec (λh=>?_) (λh=> .some ?_)
   .have LS:m<2 ^ n:=by exact_mod_cast h
    refine Wp.seq (λj=>∃cov':Nat->Bool,j.1=(agw (2 ^ n)).map cov'/\Tr n l (if kl (m:Int)=(c:Int)then Bs m else[]) (cv,rs) (cov',j.2)/\j.2.length<=c*65536+m*256+256) ?_ λj hj=>?_
    .refine Wp.seq (λj=>∃cov':Nat->Bool,j.1=(agw (2 ^ n)).map cov'/\Tr n l (if kl (m:Int)=(c:Int)then Bs m else[]) (cv,rs) (cov',j.2)/\j.2.length<=c*65536+m*256+256) (.aW (KL (by omega)) ?_) λj hj=> .some hj
     refine .o9 (λh1=> .some ⟨cv,rfl,by rw[ai h1];exact Tr.nil _,agR KS (by omega)⟩) (λh1=>?_);rw[aj h1]
     refine Wp.count (λs=>s.1) (m+1) (λb s=>∃cov':Nat->Bool,s.2.1=(agw (2 ^ n)).map cov'/\Tr n l (((agw b).filter λb=>decide (b&&& m=b)).map λb=>(m,b)) (cv,rs) (cov',s.2.2)/\s.2.2.length<=c*65536+m*256+b) (by omega) rfl ⟨cv,rfl,Tr.nil _,agR KS (by omega)⟩ λb s hb hs hJ=>?_
     obtain⟨bb,TE,rt⟩:=s;obtain⟨cw,rfl,UZ,TG⟩:=hJ;dsimp only at hs UZ TG⊢;subst hs;refine .dec (λh=>?_) (λh=> .some ?_)
     .have hbm:b<=m:=by omega
      refine Wp.seq (λj=>∃cov':Nat->Bool,j.1=(agw (2 ^ n)).map cov'/\Tr n l (((agw (b+1)).filter λb=>decide (b&&& m=b)).map λb=>(m,b)) (cv,rs) (cov',j.2)/\j.2.length<=c*65536+m*256+(b+1)) ?_ λj hj=> .some ⟨by omega,aL (by omega),hj⟩
      refine Wp.seq (λj=>∃cov':Nat->Bool,j.1=(agw (2 ^ n)).map cov'/\Tr n l (((agw (b+1)).filter λb=>decide (b&&& m=b)).map λb=>(m,b)) (cv,rs) (cov',j.2)/\j.2.length<=c*65536+m*256+(b+1)) ?_ λj hj=> .some hj
      rw[KD (show b<9223372036854775808 by omega) (show m<9223372036854775808 by omega),uz]
      have aay:(b&&& m=b->fE (2 ^ n) (dR l) cw m b=ag\/¬El n (λx=>(x:Int)∈l) m b)->Tr n l (((agw b).filter λb=>decide (b&&& m=b)).map (λb=>(m,b))++(if b&&& m=b then[(m,b)]else[])) (cv,rs) (cw,rt):=λh=>by
       refine UZ.trans ?_
       grind [Tr.skip,Tr.nil]
      refine Wp.seq (λj=>j=af↔(b&&& m=b->fE (2 ^ n) (dR l) cw m b=ag\/¬El n (λx=>(x:Int)∈l) m b)) ?_ λj hj=>?_
      .refine .o9 (λh2=> .some (by grind)) (λh2=> .aW (KM hn (by omega)) ?_)
       have h2:b&&& m=b:=by exact_mod_cast h2
       cases hf:fE (2 ^ n) (λx=>decide ((x:Int)∈l)) cw m b with
       |false=>exact .ite (λ_=> .some ⟨λ_ _=> .inl hf,λ_=>rfl⟩) (λh=>absurd rfl h)
       |true=>
        refine .ite (λh=>absurd h (by simp)) (λ_=>Wp.seq (λr=>r=af↔El n (λx=>(x:Int)∈l) m b) (KO hn LS h2) λr hr=> .some ?_)
        grind [fE,dR]
      .refine .ite (λL1=> .some (by grind)) (λTC=>?_)
       have HO:=λh=>TC (hj.2 h)
       have h2:b&&& m=b:=(by grind)
       have yF:fE (2 ^ n) (dR l) cw m b=af:=by
        cases e:fE (2 ^ n) (dR l) cw m b with
        |true=>rfl
        |false=>grind
       have GR:El n (λx=>(x:Int)∈l) m b:=(by grind)
       refine Wp.seq (λj=>j=(agw (2 ^ n)).map λx=>cw x||decide (x&&& m=b)) ?_ λj hj=>?_
       .refine Wp.count (λs=>s.1) (2 ^ n) (λk s=>s.2=(agw (2 ^ n)).map λx=>cw x||(decide (x<k)&&decide (x&&& m=b))) (by omega) rfl (by simp) λk s hk hs hJ=>?_
        obtain⟨kk,cc⟩:=s;dsimp only at hs hJ⊢;subst hs hJ;refine .dec (λh=>?_) (λh=> .some ?_)
        .have L2:k<2 ^ n:=by exact_mod_cast h
         have BK:∀v:Bool,v=(cw k||decide (k&&& m=b))->bG ((agw (2 ^ n)).map λx=>cw x||(decide (x<k)&&decide (x&&& m=b))) (k:Int) v=(agw (2 ^ n)).map λx=>cw x||(decide (x<k+1)&&decide (x&&& m=b)):=λv hv=>by
          unfold bG;rw[agE,k6]
          grind
         refine Wp.seq (λj=>j=(agw (2 ^ n)).map λx=>cw x||(decide (x<k+1)&&decide (x&&& m=b))) (.bind (zK L2 ?_)) λj hj=> .some ⟨L2,aL (by omega),hj⟩
         refine .ite (λh1=> .bind (zK L2 (.some (BK _ ?_)))) (λh1=> .aW (rl (by omega) (by omega)) (.bind (zK L2 (.some (BK _ ?_)))))
         all_goals grind
        .have:k=2 ^ n:=by have:¬k<2 ^ n:=λg=>h (by grind);omega
         subst this
         refine List.map_congr_left λx hx=>?_
         grind
       .refine .bind (.wM (by grind) (.some ⟨_,hj,?_,by simp;omega⟩));refine UZ.trans ?_;rw[aj h2];exact Tr.take (s:=(cw,rt)) yF GR
     .have:b=m+1:=by omega
      subst this;exact⟨cw,rfl,UZ,agR TG (by omega)⟩
    .obtain⟨cov',h1,h2,h3⟩:=hj;refine .some ⟨LS,aL (by omega),cov',h1,?_,agR h3 (by omega)⟩;rw[qt];exact YU.trans h2
   .have:m=2 ^ n:=by have:¬m<2 ^ n:=λg=>h (by grind);omega
    subst this;have:2 ^ n*256<=256*256:=agA _ h8;exact⟨cv,rfl,YU,agR KS (by omega)⟩
  .obtain⟨cov',h1,h2,h3⟩:=hj;refine .some ⟨by omega,aL (by omega),cov',h1,?_,agR h3 (by omega)⟩;rw[qt];exact hT.trans h2
 .have:c=n+1:=by omega
  subst this;have:=hT [];simp only[List.append_nil,List.nil_append,List.filter_nil,fT]at this
  show res=_
  rw[<-this];rfl
end L
namespace L
abbrev TH:Type:=aH.den
abbrev Nn:Type:=aU.den
end L
namespace L
end L
namespace L
def Oj(r:Ty)(d:Int):Prop:=VR r/\(r.1:Int)<=d/\d<(r.2:Int)
instance(r:Ty)(d:Int):Decidable (Oj r d):=by unfold Oj;infer_instance
theorem Qm(r:Ty)(d:Int):M.bM aR r d=aa (decide (Oj r d)):=by
 obtain⟨(r1:Int),(r2:Int)⟩:=r;apply Wp.eq;unfold M.bM;simp only[Qg,W_,aq,au,reduceCtorEq];unfold Oj
 grind
def v8{α:Type}{l:List α}{i:Int}(h0:0<=i)(h1:i<(l.length:Int)):∃x,idx l i=aa x/\x∈l:=by
 obtain⟨k,rfl⟩:=aha h0
 have hk:k<l.length:=by omega
 exact⟨_,aM hk,agy hk⟩
def fo{α:Type}(l:List α)(i:Int)(y:α):(bG l i y).length=l.length:=by unfold bG;simp
def ids(P:Nat->Bool)(k:Nat):List Int:=((agw k).filter P).map λi:Nat=>(i:Int)
theorem mr(P:Nat->Bool)(k:Nat):ids P (k+1)=ids P k++(if P k=af then[(k:Int)]else[]):=by
 unfold ids;rw[List.range_succ,List.filter_append,List.map_append]
 grind
theorem uV{P:Nat->Bool}{k:Nat}{j:Int}:j∈ids P k↔∃i:Nat,i<k/\P i=af/\j=(i:Int):=by
 grind [ids]
def oI(P:Nat->Bool)(k:Nat):(ids P k).length<=k:=by
 grind [ids]
def ix(l:List Int)(n:Int):Int:=gC (λx=>decide (x=n)) l
theorem Qn{l:List Int}{n:Int}:0<=ix l n↔n∈l:=by
 grind [ix,tY]
def BL(P:Nat->Bool)(n:Nat):∀m,∃t,ids P (n+m)=ids P n++t
 |0=>⟨[],by simp⟩
 |m+1=>by
  obtain⟨t,ht⟩:=BL P n m
  grind [mr]
theorem Qo{P:Nat->Bool}{n k:Nat}(hk:k<n)(h:P k=af):ix (ids P n) (k:Int)=((ids P k).length:Int):=by
 obtain⟨t,ht⟩:=BL P (k+1) (n-(k+1));rw[show k+1+(n-(k+1))=n by omega,mr,aj h,ahg]at ht;unfold ix
 refine zA (k:=(ids P k).length) (by rw[ht];simp) ?_ λj hj N1=>?_
 .grind
 grind [uV,agy]
def Ep(rules:List my)(L:List Int):Nat->Nat->Int
 |0,_=> -1
 |f+1,i=>match rules[i]? with
  |none=> -1
  |some r=>if 0<=(r.2.2.1:Int)/\(r.2.2.1:Int)<(i:Int)then(if 0<=ix L r.2.2.1 then ix L r.2.2.1 else Ep rules L f (r.2.2.1:Int).toNat)else-1
def yg(rules:List my)(L:List Int):∀f f' i,i<f->i<f'->Ep rules L f i=Ep rules L f' i
 |0,_,_,h,_=>absurd h (Nat.not_lt_zero _)
 |_+1,0,_,_,h=>absurd h (Nat.not_lt_zero _)
 |f+1,f'+1,i,h,h'=>by
  unfold Ep
  cases rules[i]? with
  |none=>rfl
  |some r=>
   dsimp only
   obtain⟨(p:Int),Qp⟩:∃p:Int,p=r.2.2.1:=⟨_,rfl⟩
   simp only[<-Qp];by_cases hp:0<=p/\p<(i:Int)
   .rw[aj hp,aj hp];by_cases h0:0<=ix L p
    .grind
    .rw[ai h0,ai h0];exact yg rules L f f' _ (by omega) (by omega)
   grind
def tC(rules:List my)(L:List Int)(i:Nat):Int:=Ep rules L (i+1) i
def FK{rules:List my}{L:List Int}{i:Nat}(hi:i<rules.length):tC rules L i=if 0<=(rules[i].2.2.1:Int)/\(rules[i].2.2.1:Int)<(i:Int)then(if 0<=ix L rules[i].2.2.1 then ix L rules[i].2.2.1 else tC rules L (rules[i].2.2.1:Int).toNat)else-1:=by
 show Ep rules L (i+1) i=_
 unfold Ep;rw[agx hi];dsimp only
 obtain⟨(p:Int),Qp⟩:∃p:Int,p=rules[i].2.2.1:=⟨_,rfl⟩
 simp only[<-Qp];by_cases hp:0<=p/\p<(i:Int)
 .rw[aj hp,aj hp];by_cases h0:0<=ix L p
  .grind
  .rw[ai h0,ai h0];exact yg rules L _ _ _ (by omega) (by omega)
 grind
def KT(r:Ty)(d:Int):M.eM aR r d=aa (decide (Oj r d)):=by
 obtain⟨(r1:Int),(r2:Int)⟩:=r;apply Wp.eq;unfold M.eM;simp only[Ts,W_,aq,au,reduceCtorEq];unfold Oj
 grind
def Er(l:List Int)(n:Int)(hl:l.length<=100000):M.pL aR l n=aa (ix l n):=by
 unfold M.pL ix;refine zB (by unfold maxLen;omega) (λk h=>?_) ?_
 .grind [aM]
 grind
def BM(x:Rf)(L:List Int)(hL:L.length<=100000)(i:Nat)(hi:i<x.2.2.2.2.length)(jJ:i<=100000):M.oC aR x L (i:Int)=aa (tC x.2.2.2.2 L i):=by
 obtain⟨rules,hr⟩:∃r:List my,r=x.2.2.2.2:=⟨_,rfl⟩
 apply Wp.eq;unfold M.oC;rw[<-hr]at hi⊢;rw[aM hi,ago];refine Wp.loop (λs=>∃j:Nat,∃hj:j<rules.length,s=((j:Int),rules[j].2.2.1)/\tC rules L i=tC rules L j/\j<=i) (λs=>s.1.toNat) ⟨i,hi,rfl,rfl,agt _⟩ (by unfold aR;grind) ?_
 rintro s ⟨j,hj,rfl,hp,hji⟩
 dsimp only
 obtain⟨(p:Int),Qp⟩:∃p:Int,p=rules[j].2.2.1:=⟨_,rfl⟩
 rw[hp,FK hj,<-Qp]
 refine Wp.seq (λb=>b=decide (0<=p/\p<(j:Int))) ?_ λb hb=>?_
 .refine Wp.dec (λh=> .some ?_) λh=> .some ?_
  all_goals grind
 .subst hb
  refine Wp.dec (λh=>?_) λh=> .some ?_
  .rw[aj h,Er _ _ hL,ago]
   refine Wp.dec (λg=> .some ?_) λg=>?_
   .show ix L p=_
    rw[aj g]
   .obtain⟨q,rfl⟩:=aha h.1
    have hq:q<j:=by omega
    have U0:q<rules.length:=by omega
    rw[aM U0,ago];refine .some ⟨⟨q,U0,rfl,?_,by omega⟩,by grind⟩
    grind
  .show(-1:Int)=_
   rw[ai h]
def kp(rules:List my)(Pr:my->Bool)(i:Nat):Bool:=match rules[i]? with
 |some r=>Pr r
 |none=>ag
def Ol{rules:List my}{Pr:my->Bool}{i:Nat}(h:i<rules.length):kp rules Pr i=Pr rules[i]:=by
 grind [kp]
def BN(a d:Int)(r:my):Bool:=decide ((r.2.1:Int)=a/\Oj r.2.2.2.2.1 d)
def iY(rules:List my)(a d:Int):List Int:=ids (kp rules (BN a d)) rules.length
theorem Qq{r:my}{a d:Int}{β:Type}{k:Bool->Option β}:(((if(decide (r.2.1=a))=af then(aa (decide (Oj r.2.2.2.2.1 d)):Option Bool)else aa ag):Option Bool).bind k)=k (BN a d r):=by
 grind [BN]
def TJ(a d:Int)(r:my):M.ee aR r a d=aa (BN a d r,a,d):=by
 grind [M.ee,Qm,Qq]
def jI(P:Nat->Bool)(n:Nat):List Nat:=(agw n).filter P
def HU(P:Nat->Bool)(k:Nat):jI P (k+1)=jI P k++(if P k=af then[k]else[]):=kj k P
def KU(P:Nat->Bool)(k:Nat):(jI P k).length=(ids P k).length:=by unfold ids jI;simp
def iU(rules:List my)(a d:Int):List Int:=(jI (kp rules (BN a d)) rules.length).map (tC rules (iY rules a d))
def lv(rules:List my)(a d:Int):List Int:=(jI (kp rules (BN a d)) rules.length).map λi=>match rules[i]? with
 |some r=>r.2.2.2.1
 |none=>0
def KV{rules:List my}{a d:Int}(hl:rules.length<=100000):M.ef aR rules a d=aa (a,d,iY rules a d,iU rules a d):=by
 unfold M.ef;refine Wp.eq (wp_bind.2 (rc.2 ⟨by omega,?_⟩));rw[agE]
 obtain⟨P,hP⟩:∃P,P=kp rules (BN a d):=⟨_,rfl⟩
 obtain⟨L,hL⟩:∃L,L=iY rules a d:=⟨_,rfl⟩
 have hLd:L=ids P rules.length:=by rw[hL,hP];rfl
 refine Wp.count (λs=>s.1) rules.length (λk s=>s.2.1=a/\s.2.2.1=d/\s.2.2.2.1.length=rules.length/\(∀i:Nat,∀h:i<s.2.2.2.1.length,i<k->s.2.2.2.1[i]=if P i=af then ix L i else tC rules L i)/\s.2.2.2.2.1=ids P k/\s.2.2.2.2.2=(jI P k).map (tC rules L)) (by omega) rfl ⟨rfl,rfl,by simp,λi _ hi=>absurd hi (by omega),rfl,rfl⟩ λk s hk hs hJ=>?_
 obtain⟨i,a',d',Qr,li,pa⟩:=s;obtain⟨j1,j2,j3,j4,j5,j6⟩:=hJ;dsimp only at hs j1 j2 j3 j4 j5 j6;subst hs j1 j2 j5 j6
 refine Wp.dec (λbi=>?_) λhge=>?_
 .have bi:k<rules.length:=by dsimp only at bi;omega
  have L2:=oI P k;have LX:=KU P k;dsimp only
  refine Wp.seq (λj=>j.1=a'/\j.2.1=d'/\j.2.2.1.length=rules.length/\(∀i:Nat,∀h:i<j.2.2.1.length,i<k+1->j.2.2.1[i]=if P i=af then ix L i else tC rules L i)/\j.2.2.2.1=ids P (k+1)/\j.2.2.2.2=(jI P (k+1)).map (tC rules L)) ?_ λj hj=> .some ⟨bi,yc (m:=rules.length) (by omega) bi,hj⟩
  rw[aM bi,ago]
  obtain⟨(p:Int),Qp⟩:∃p:Int,p=rules[k].2.2.1:=⟨_,rfl⟩
  refine Wp.seq (λv=>v=tC rules L k) ?_ λv hv=>?_
  .rw[FK bi,<-Qp]
   refine Wp.seq (λj=>j=decide (0<=p/\p<(k:Int))) ?_ λj hj=>?_
   .refine Wp.dec (λh=> .some ?_) λh=> .some ?_
    all_goals grind
   .subst hj
    refine Wp.dec (λh=>?_) λh=> .some ?_
    .obtain⟨q,rfl⟩:=aha h.1
     have hq:q<k:=by omega
     have U0:q<Qr.length:=by omega
     rw[aM U0,ago];refine .some ?_
     grind [Qn,uV]
    grind
  .subst hv;rw[aM (show k<Qr.length by omega),ago,TJ,ago,mr,HU]
   have hPk:P k=BN a' d' rules[k]:=by rw[hP];exact Ol bi
   rw[hPk];dsimp only;by_cases hp:BN a' d' rules[k]=af
   .rw[aj hp,aj hp,aj hp,aM (show k<(bG Qr (k:Int) (tC rules L k)).length by rw[fo];omega),ago,fS (by simp;omega),ago,fS (by simp;omega),ago];refine .some ⟨rfl,rfl,by rw[fo,fo];exact j3,λi h hi=>?_,rfl,by simp⟩
    grind [bG,Qo]
   .rw[ai hp,ai hp,ai hp];refine .some ⟨rfl,rfl,by rw[fo];exact j3,λi h hi=>?_,by simp,by simp⟩
    grind [bG]
 .have hge:k=rules.length:=by dsimp only at hge;omega
  refine .some ?_;subst hge
  show _=_
  grind [iU]
def HV(x:Rf)(a d:Int)(hl:x.2.2.2.2.length<=100000):M.iJ aR x a d=aa (iY x.2.2.2.2 a d,iU x.2.2.2.2 a d,lv x.2.2.2.2 a d):=by
 unfold M.iJ;rw[KV hl,ago]
 obtain⟨rules,hr⟩:∃r:List my,r=x.2.2.2.2:=⟨_,rfl⟩
 rw[<-hr]at hl⊢
 obtain⟨P,hP⟩:∃P,P=kp rules (BN a d):=⟨_,rfl⟩
 have hi:iY rules a d=(jI P rules.length).map λi:Nat=>(i:Int):=by rw[hP];rfl
 have hNl:(jI P rules.length).length<=rules.length:=by unfold jI;exact(by grind)
 refine Wp.eq (Wp.seq (λj=>j=lv rules a d) ?_ λj hj=> .some (by rw[hj]));unfold lv;dsimp only;rw[hi,<-hP]
 have rQ:∀i∈jI P rules.length,i<rules.length:=λi hi=>List.mem_range.1 (List.mem_filter.1 hi).1
 refine Wp.count (λs=>s.1) (jI P rules.length).length (λk s=>s.2=((jI P rules.length).take k).map λi=>match rules[i]? with
  |some r=>r.2.2.2.1
  |none=>0) (by omega) rfl rfl λk s hk hs hJ=>?_
 obtain⟨kk,l⟩:=s;dsimp only at hs hJ⊢;subst hs hJ;rw[List.length_map]
 refine Wp.dec (λbi=>?_) λhge=>?_
 .have bi:k<(jI P rules.length).length:=by omega
  have hb:=rQ _ (agy bi);refine .bind (.idx k rfl (by simpa using bi) ?_);rw[List.getElem_map,aM hb,ago];refine .bind (.wM (by simp;omega) (.some ⟨bi,aL (by omega),?_⟩))
  grind [ag5]
 .have:k=(jI P rules.length).length:=by omega
  subst this;refine .some ?_
  show _=_
  grind
def xc(x:Rf)(a d:Int)(hl:x.2.2.2.2.length<=100000):M.nl aR x a d=aa (iY x.2.2.2.2 a d):=by
 unfold M.nl iY
 obtain⟨rules,hr⟩:∃r:List my,r=x.2.2.2.2:=⟨_,rfl⟩
 rw[<-hr]at hl⊢;refine Wp.eq (Wp.count (λs=>s.1) rules.length (λk s=>s.2=ids (kp rules (BN a d)) k) (by omega) rfl rfl λk s hk hs hJ=>?_);obtain⟨kk,l⟩:=s;dsimp only at hs hJ⊢;subst hs hJ
 refine Wp.dec (λbi=>?_) λhge=> .some ?_
 .have bi:k<rules.length:=by omega
  have L2:=oI (kp rules (BN a d)) k
  refine Wp.seq (λj=>j=ids (kp rules (BN a d)) (k+1)) ?_ λj hj=> .some ⟨bi,aL (by omega),hj⟩
  rw[mr,Ol bi]
  refine Wp.seq (λb=>b=BN a d rules[k]) (.bind (.idx k rfl bi ?_)) λb hb=>?_
  .unfold BN;by_cases h:(rules[k].2.1:Int)=a
   .rw[aj (by simpa using h),aM bi,ago,KT,ago];refine .some ?_;simp[h]
   .rw[ai (by simpa using h)];refine .some ?_;simp[h]
  .subst hb;refine .ite (λh=> .bind (.wM (by simp;omega) (.some ?_))) (λh=> .some ?_)
   all_goals grind
 .have:k=rules.length:=by omega
  subst this;rfl
def KW(x:Rf)(a d:Int)(hl:x.2.2.2.2.length<=100000):M.oD aR x a d=aa (iY x.2.2.2.2 a d,iU x.2.2.2.2 a d,lv x.2.2.2.2 a d):=by
 unfold M.oD;rw[xc x a d hl,ago]
 have TK:=λL(hL:L.length<=100000)i hi jJ=>BM x L hL i hi jJ
 obtain⟨rules,hr⟩:∃r:List my,r=x.2.2.2.2:=⟨_,rfl⟩
 rw[<-hr]at hl TK⊢
 obtain⟨P,hP⟩:∃P,P=kp rules (BN a d):=⟨_,rfl⟩
 obtain⟨L,hL⟩:∃L,L=iY rules a d:=⟨_,rfl⟩
 have hLl:L.length<=100000:=by rw[hL];exact agR (oI _ _) hl
 have hi:iY rules a d=(jI P rules.length).map λi:Nat=>(i:Int):=by rw[hP];rfl
 have hNl:(jI P rules.length).length<=rules.length:=by unfold jI;exact(by grind)
 have rQ:∀i∈jI P rules.length,i<rules.length:=λi hi=>List.mem_range.1 (List.mem_filter.1 hi).1
 refine Wp.eq (Wp.seq (λj=>j=(iU rules a d,lv rules a d)) ?_ λj hj=> .some (by rw[hj]));unfold iU lv;rw[<-hP,<-hL]
 have hLm:L=(jI P rules.length).map λi:Nat=>(i:Int):=hL.trans hi
 refine Wp.count (λs=>s.1) (jI P rules.length).length (λk s=>s.2.1=((jI P rules.length).take k).map (tC rules L)/\s.2.2=((jI P rules.length).take k).map λi=>match rules[i]? with
  |some r=>r.2.2.2.1
  |none=>0) (by omega) rfl ⟨rfl,rfl⟩ λk s hk hs hJ=>?_
 obtain⟨kk,l,m⟩:=s;obtain⟨e1,e2⟩:=hJ;dsimp only at hs e1 e2⊢;subst hs e1 e2
 have hlen:L.length=(jI P rules.length).length:=by rw[hLm];simp
 refine Wp.dec (λbi=>?_) λhge=>?_
 .have bi:k<(jI P rules.length).length:=by rw[<-hlen];omega
  have hb:=rQ _ (agy bi)
  have hx:L[k]'(by omega)=((jI P rules.length)[k]:Int):=by simp only[hLm,List.getElem_map]
  refine .bind (.idx k rfl (by omega) ?_);rw[hx,TK L hLl _ hb (by omega),ago];refine .bind (.wM (by simp;omega) (.bind (.idx k rfl (by omega) ?_)));rw[hx,aM hb,ago];refine .bind (.wM (by simp;omega) (.some ⟨bi,aL (by omega),?_,?_⟩))
  all_goals grind [ag5]
 .have:k=(jI P rules.length).length:=by rw[<-hlen]at hk⊢;omega
  subst this;refine .some ?_
  show(_,_)=(_,_)
  grind
end L
section
namespace L.S
def at'{α:Type}(d:α)(l:List α)(i:Int):α:=(l[i.toNat]?).getD d
theorem nr{α:Type}(d:α){l:List α}{i:Int}(h0:0<=i)(h:i<l.length):idx l i=aa (at' d l i):=by
 unfold idx at';rw[aj h0,agx (by omega)];rfl
structure V(p q:List Int):Prop where
 len:p.length=q.length
 n8:p.length<=8
 par:∀i:Nat,i<p.length->-1<=at' 0 p i/\at' 0 p i<i
def zM(N:Nat)(p q:List Int):M.mh N p q=M.cP N p q:=by
 unfold M.mh M.cP
 congr 3
 funext s
 congr 1
 cases hp:idx p s<;>cases hq:idx q s<;>rfl
def BO{N:Nat}(p q:List Int)(hN:10<=N):∃e,M.cP N p q=aa e/\(e=0->V p q):=by
 unfold M.cP;by_cases h1:(p.length:Int)=q.length
 .rw[ai (by simpa using h1)];by_cases h2:8<(p.length:Int)
  .simp_all
  .rw[ai (by simpa using h2)];refine tq (I:=λs:Int=>0<=s/\s<=p.length/\∀i:Nat,(i:Int)<s->-1<=at' 0 p i/\at' 0 p i<i) (μ:=λs=>(p.length-s).toNat) (Q:=λe=>e=0->V p q) ?_ N 0 (by grind) (by omega)
   rintro s ⟨h3,h4,h5⟩
   by_cases h6:s<(p.length:Int)
   .rw[aj (by simpa using h6),nr 0 h3 h6,nr 0 h3 (by omega)];simp only[ago];by_cases h7:at' 0 p s< -1
    .rw[aj (by simpa using h7)];exact .inr ⟨9,rfl,by omega⟩
    .rw[ai (by simpa using h7)];by_cases h8:s<=at' 0 p s
     .grind
     .simp only[ago,h8,decide_false,ags,if_false]
      have fin:(∃s',(aa (Sum.inl (agp.wrap (s+1))):Option (Int⊕Int))=aa (.inl s')/\(0<=s'/\s'<=p.length/\∀i:Nat,(i:Int)<s'->-1<=at' 0 p i/\at' 0 p i<i)/\((p.length:Int)-s').toNat<((p.length:Int)-s).toNat):=by
       rw[aE (by omega) (by omega)];refine⟨s+1,rfl,⟨by omega,by omega,λi hi=>?_⟩,by omega⟩;by_cases e:(i:Int)<s
       .exact h5 i e
       .have:(i:Int)=s:=by omega
        rw[this];omega
      by_cases h9:at' 0 q s<0
      .simp only[h9,decide_true,if_true,ago];exact .inr ⟨3,rfl,by omega⟩
      .simp only[h9,decide_false,ags,if_false,ago];by_cases h10:9<at' 0 q s
       .grind
       .simp only[h10,decide_false,ags,if_false];exact .inl fin
   .rw[ai (by simpa using h6)];exact .inr ⟨0,rfl,λ_=>⟨by omega,by omega,λi hi=>h5 i (by omega)⟩⟩
 simp_all
def ch(p:List Int)(i:Int):List Int:=((agw p.length).filter λj:Nat=>decide (at' 0 p (j:Int)=i)).map (λj:Nat=>(j:Int))
def Qs{p:List Int}{i c:Int}:c∈ch p i↔0<=c/\c<p.length/\at' 0 p c=i:=by
 unfold ch;simp only[List.mem_map,List.mem_filter,List.mem_range,aw]
 grind [aha]
def KX(p:List Int)(i:Int):(ch p i).length<=p.length:=by
 unfold ch;rw[List.length_map];have:=List.length_filter_le (λj:Nat=>decide (at' 0 p (j:Int)=i)) (agw p.length);simpa using this
def ua{N:Nat}{p:List Int}(i:Int)(hn:p.length<=8)(hN:10<=N):M.dm N p i=aa (ch p i):=by
 unfold M.dm;refine uT (λk:Nat=>((k:Int),(((agw k).filter λj:Nat=>decide (at' 0 p (j:Int)=i)).map (λj:Nat=>(j:Int)):List Int))) p.length _ rfl ?_ ?_ (by omega)
 .intro k hk
  have hw:agp.wrap ((k:Int)+1)=((k+1:Nat):Int):=by rw[aE]<;>omega
  simp only;rw[aj (by simp;omega),nr 0 (by omega) (by omega),ago,hw,kj];by_cases h:at' 0 p (k:Int)=i
  .rw[aj (by simpa using h),fS,ago,aj (by simpa using h)]
   .simp
   .simp only[List.length_map,List.length_cons,List.length_nil];have:=List.length_filter_le (λj:Nat=>decide (at' 0 p (j:Int)=i)) (agw k);simp at this;omega
  .rw[ai (by simpa using h),ai (by simpa using h)];simp
 .simp only;rw[ai (by simp)];rfl
def zN(N:Nat)(p:List Int)(i:Int):M.pM N p i=M.dm N p i:=rfl
def step(o:Int->Int)(q:List Int)(b:List Int)(c:Int):List Int:=
 if o c= -1 then b else
 match b with
 |[]=>[c]
 |x::r=>if at' 0 q x<at' 0 q c then[c]else if at' 0 q c=at' 0 q x then(x::r)++[c]else x::r
def pb(o:Int->Int)(q:List Int)(l:List Int):List Int:=l.foldl (step o q) []
structure Inv(o:Int->Int)(q:List Int)(l b:List Int):Prop where
 sub:b.Sublist l
 live:∀c,c∈b->o c≠-1
 max:∀d,d∈l->o d≠-1->b≠[]/\∀c,c∈b->at' 0 q d<=at' 0 q c
 all:∀d,d∈l->o d≠-1->(∀c,c∈b->at' 0 q d=at' 0 q c)->d∈b
def zO{α:Type}{d a:α}{l:List α}:at' d (a::l) 0=a:=rfl
def vW{o:Int->Int}{q l b:List Int}{c:Int}(h:Inv o q l b):Inv o q (l++[c]) (step o q b c):=by
 obtain⟨h1,h2,h3,h4⟩:=h
 have vh:∀x∈b,∀y∈b,at' 0 q x=at' 0 q y:=(by grind)
 unfold step;by_cases hd:o c= -1
 .rw[aj hd];refine⟨h1.trans (List.sublist_append_left _ _),h2,λd hm hl=>?_,λd hm hl=>?_⟩
  .rcases agV.1 hm with hm|hm
   .exact h3 d hm hl
   .rw[agQ.1 hm]at hl;exact absurd hd hl
  .rcases agV.1 hm with hm|hm
   .exact h4 d hm hl
   .rw[agQ.1 hm]at hl;exact absurd hd hl
 .rw[ai hd]
  cases b with
  |nil=>
   have Om:∀d,d∈l->¬o d≠-1:=λd hm hl=>(h3 d hm hl).1 rfl
   refine⟨(List.sublist_append_right _ _),?_,λd hm hl=>⟨by simp,?_⟩,λd hm hl hh=>?_⟩
   .intro x hx;rw[agQ.1 hx];exact hd
   .intro x hx;rw[agQ.1 hx]
    rcases agV.1 hm with hm|hm
    .exact absurd hl (Om d hm)
    .rw[agQ.1 hm];exact ahp _
   .rcases agV.1 hm with hm|hm
    .exact absurd hl (Om d hm)
    .exact hm
  |cons a b=>
   simp only;by_cases bi:at' 0 q a<at' 0 q c
   .rw[aj bi];refine⟨(List.sublist_append_right _ _),?_,λd hm hl=>⟨by simp,?_⟩,λd hm hl hh=>?_⟩
    all_goals grind
   .rw[ai bi];by_cases he:at' 0 q c=at' 0 q a
    .rw[aj he];refine⟨(by grind),?_,λd hm hl=>⟨by simp,?_⟩,λd hm hl hh=>?_⟩
     .intro x hx
      rcases agV.1 hx with hx|hx
      .exact h2 x hx
      .rw[agQ.1 hx];exact hd
     .intro x hx
      have Mg:at' 0 q x=at' 0 q a:=by
       rcases agV.1 hx with hx|hx
       .grind
       .grind
      grind
     .rcases agV.1 hm with hm|hm
      .exact List.mem_append_left _ (h4 d hm hl λx hx=>hh x (List.mem_append_left _ hx))
      .exact List.mem_append_right _ hm
    .rw[ai he];refine⟨h1.trans (List.sublist_append_left _ _),h2,λd hm hl=>⟨by simp,?_⟩,λd hm hl hh=>?_⟩
     all_goals grind
def BP{o:Int->Int}{q:List Int}:∀(m l b:List Int),Inv o q l b->Inv o q (l++m) (m.foldl (step o q) b)
 |[],l,b,h=>by simpa using h
 |c::m,l,b,h=>by
  have:=BP m (l++[c]) _ (vW (c:=c) h)
  grind
def pS(o:Int->Int)(q l:List Int):Inv o q l (pb o q l):=by
 have:=BP (o:=o) (q:=q) l [] [] ⟨List.Sublist.refl _,by simp,by simp,by simp⟩;rw[List.nil_append]at this;exact this
def rn{o o':Int->Int}{q:List Int}:∀(l b:List Int),(∀c,c∈l->o c=o' c)->l.foldl (step o q) b=l.foldl (step o' q) b
 |[],_,_=>rfl
 |c::l,b,h=>by
  have:step o q b c=step o' q b c:=by unfold step;rw[h c (by simp)]
  rw[List.foldl_cons,List.foldl_cons,this]
  exact rn l _ λd hd=>h d (by simp[hd])
def uA(o:Int->Int)(b:List Int):Int:=if(b.length:Int)=0 then-1 else if(b.length:Int)=1 then o (at' 0 b 0)else-2
def out(p q:List Int)(a:List Bool):Nat->Int->Int
 |0,_=> -1
 |k+1,i=>
  let c:=uA (out p q a k) (pb (out p q a k) q (ch p i))
  if c= -1/\at' ag a i=af then i else c
def cout(p q:List Int)(a:List Bool)(k:Nat)(i:Int):Int:=uA (out p q a k) (pb (out p q a k) q (ch p i))
def sd(p q:List Int)(a:List Bool)(k:Nat)(i:Int):out p q a (k+1) i=if cout p q a k i= -1/\at' ag a i=af then i else cout p q a k i:=rfl
def pT{p q:List Int}(hv:V p q){i c:Int}(h:c∈ch p i):i<c/\0<=c/\c<8/\c<p.length:=by
 obtain⟨h1,h2,h3⟩:=Qs.1 h;have:=hv.n8;obtain⟨j,rfl⟩:=aha h1;have:=(hv.par j (by omega)).2;omega
def wa{o o':Int->Int}{b:List Int}(h:∀c,c∈b->o c=o' c):uA o b=uA o' b:=by
 cases b with
 |nil=>rfl
 |cons x b=>unfold uA;rw[zO,h x (by simp)]
def wb{p q:List Int}{a:List Bool}{k k':Nat}{i:Int}(h:∀c,c∈ch p i->out p q a k c=out p q a k' c):cout p q a k i=cout p q a k' i:=by
 unfold cout;have:pb (out p q a k) q (ch p i)=pb (out p q a k') q (ch p i):=rn _ _ h;rw[this]
 exact wa λc hc=>h c ((pS _ _ _).sub.subset hc)
def wc{p q:List Int}(hv:V p q)(a:List Bool):∀(k:Nat)(i:Int),8<k+i->out p q a k i=out p q a (k+1) i\/8<=i
 |0,i,h=> .inr (by omega)
 |k+1,i,h=>by
  by_cases h8:8<=i
  .exact .inr h8
  .left
   rw[sd,sd p q a (k+1),wb (k:=k) (k':=k+1)];intro c hc;have:=pT hv hc;exact(wc hv a k c (by omega)).resolve_right (by omega)
def O(p q:List Int)(a:List Bool)(i:Int):Int:=out p q a 16 i
def C(p q:List Int)(a:List Bool)(i:Int):Int:=uA (O p q a) (pb (O p q a) q (ch p i))
def On{p q:List Int}(hv:V p q)(a:List Bool):∀(d k:Nat)(i:Int),8<k+i->i<8->d+k=16->out p q a k i=O p q a i
 |0,k,i,_,_,hd=>by
  obtain rfl:k=16:=by omega
  rfl
 |d+1,k,i,h,h8,hd=>by
  rw[(wc hv a k i h).resolve_right (by omega)];exact On hv a d (k+1) i (by omega) h8 (by omega)
def TL{p q:List Int}(hv:V p q)(a:List Bool){k:Nat}{i:Int}(h:7<k+i)(hk:k<=16):cout p q a k i=C p q a i:=by
 show _=cout p q a 16 i
 refine wb λc hc=>?_
 have:=pT hv hc;exact On hv a (16-k) k c (by omega) (by omega) (by omega)
def YV{p q:List Int}(hv:V p q)(a:List Bool){i:Int}(h0: -1<=i):O p q a i=if C p q a i= -1/\at' ag a i=af then i else C p q a i:=by
 unfold O;rw[sd,TL hv a (by omega) (by omega)]
def yh{q b:List Int}{c y:Int}{o:Int->Int}(hy:o c=y)(hb:∀x,x∈b->0<=x/\x<q.length)(hl:b.length<=8)(hc:0<=c/\c<q.length):
 (if(decide (y=(-1:Int)))=af then
some b
else
(((if(decide ((0:Int)<(b.length:Int)))=af then
(idx q c).bind λx8=>
(idx b (0:Int)).bind λx9=>
(idx q x9).bind λTM=>
some (decide (TM<x8))
else
some ag):Option (Bool)).bind λj7=>
(if j7=af then
(gK b (0:Int) (0:Int)).bind λl11=>
some l11
else
some b):Option (List Int)).bind λj6=>
((if(decide ((j6.length:Int)=(0:Int)))=af then
some af
else
(idx q c).bind λTO=>
(idx j6 (0:Int)).bind λYW=>
(idx q YW).bind λYX=>
some (decide (TO=YX))):Option (Bool)).bind λU1=>
(if U1=af then
(cr j6 ([c]:List Int)).bind λYY=>
some YY
else
some j6))=aa (step o q b c):=by
 subst hy;unfold step;by_cases h:o c= -1
 .simp only[h,decide_true,if_true]
 .simp only[h,decide_false,ags,if_false];rw[nr 0 hc.1 hc.2]
  cases b with
  |nil=>simp[cr]
  |cons x r=>
   have hx:=hb x (by simp)
   have h0:(0:Int)<((x::r).length:Int):=by simp only[List.length_cons];omega
   have h1:¬((x::r).length:Int)=0:=by omega
   simp only[h0,decide_true,if_true,ago,r7,nr 0 hx.1 hx.2]
   grind [gK,r7,S.nr,fS]
def KY{q b:List Int}{c y:Int}{o:Int->Int}(hy:o c=y)(hb:∀x,x∈b->0<=x/\x<q.length)(hl:b.length<=8)(hc:0<=c/\c<q.length):
 (if(decide (y=(-1:Int)))=af then
some b
else
(((if(decide ((0:Int)<(b.length:Int)))=af then
(idx q c).bind λx8=>
(idx b (0:Int)).bind λx9=>
(idx q x9).bind λTM=>
some (decide (TM<x8))
else
some ag):Option (Bool)).bind λj7=>
(if j7=af then
some ([]:List Int)
else
some b):Option (List Int)).bind λj6=>
((if(decide ((j6.length:Int)=(0:Int)))=af then
some af
else
(idx q c).bind λTO=>
(idx j6 (0:Int)).bind λYW=>
(idx q YW).bind λYX=>
some (decide (TO=YX))):Option (Bool)).bind λU1=>
(if U1=af then
(cr j6 ([c]:List Int)).bind λYY=>
some YY
else
some j6))=aa (step o q b c):=by
 rw[<-yh hy hb hl hc];rfl
theorem se{l:List Int}{o:Int->Int}{q:List Int}{k:Nat}:((l.take k).foldl (step o q) []).Sublist l:=(pS o q (l.take k)).sub.trans (List.take_sublist _ _)
def No{N:Nat}{p q r:List Int}(hv:V p q)(hr:r.length=p.length)(i:Int)(hN:20<=N):M.dA N (p,(q,r)) i=aa (pb (at' 0 r) q (ch p i)):=by
 have h8:=hv.n8;have hl:=KX p i;unfold M.dA;simp only;rw[ua i h8 (by omega),ago];refine uT (λk:Nat=>((k:Int),((ch p i).take k).foldl (step (at' 0 r) q) [])) (ch p i).length _ rfl ?_ ?_ (by omega)
 .intro k hk
  have hw:agp.wrap ((k:Int)+1)=((k+1:Nat):Int):=by rw[aE]<;>omega
  have hc:=pT hv (agy hk);have hq:=hv.len;simp only;rw[aj (by simp;omega),aM hk,ago,nr 0 hc.2.1 (by omega),ago,hw];have hb:=yh (q:=q) (b:=((ch p i).take k).foldl (step (at' 0 r) q) []) (c:=(ch p i)[k]) (o:=at' 0 r) rfl (λx hx=>by have:=pT hv (se.subset hx);omega) (by grind [S.se]) ⟨hc.2.1,by omega⟩
  grind [List.take_succ_eq_append_getElem]
 .simp only;rw[ai (by simp),List.take_length];rfl
def Np{p q:List Int}(hv:V p q){o:Int->Int}{i c:Int}(h:c∈pb o q (ch p i)):i<c/\0<=c/\c<8/\c<p.length:=pT hv ((pS o q _).sub.subset h)
def qP{N:Nat}{p q r:List Int}(hv:V p q)(hr:r.length=p.length)(i:Int)(hN:20<=N):M.bN N (p,(q,r)) i=aa (uA (at' 0 r) (pb (at' 0 r) q (ch p i))):=by
 unfold M.bN uA;rw[No hv hr i hN,ago]
 cases hb:pb (at' 0 r) q (ch p i)with
 |nil=>simp
 |cons x b=>
  have hx:=Np hv (o:=at' 0 r) (i:=i) (c:=x) (by rw[hb];simp)
  have h1:¬((x::b).length:Int)=0:=by simp;omega
  simp only[h1,decide_false,ags,if_false,r7,ago,zO,nr 0 hx.2.1 (show x<(r.length:Int) by omega)];by_cases h2:((x::b).length:Int)=1
  .simp only[h2,decide_true,if_true]
  .simp only[h2,decide_false,ags,if_false]
def FL{p q r:List Int}(hv:V p q){a:List Bool}{i:Int}(h:∀c,i<c->0<=c->c<p.length->at' 0 r c=O p q a c):uA (at' 0 r) (pb (at' 0 r) q (ch p i))=C p q a i:=by
 unfold C
 have h':∀c,c∈ch p i->at' 0 r c=O p q a c:=λc hc=>by
  have:=pT hv hc;exact h c this.1 this.2.1 this.2.2.2
 have:pb (at' 0 r) q (ch p i)=pb (O p q a) q (ch p i):=rn _ _ h';rw[this]
 exact wa λc hc=>h' c ((pS _ _ _).sub.subset hc)
def outs(p q:List Int)(a:List Bool)(k:Nat):List Int:=(agw p.length).map λj=>if p.length<=j+k then O p q a (j:Int)else 0
theorem KZ{n:Nat}{f:Nat->Int}{c:Int}(h0:0<=c)(h:c<n):at' 0 ((agw n).map f) c=f c.toNat:=by
 grind [S.at']
def BQ{N:Nat}{p q:List Int}{a:List Bool}(hv:V p q)(ha:a.length=p.length)(hN:20<=N):M.dQ N p q a=aa (outs p q a p.length):=by
 have h8:=hv.n8;unfold M.dQ
 have h0:og (p.length:Int) (0:Int)=aa (agv p.length 0):=by
  unfold og;rw[aj (by omega)];simp
 rw[h0,ago];refine uT (λk:Nat=>((p.length:Int)-1-(k:Int),outs p q a k)) p.length _ ?_ ?_ ?_ (by omega)
 .rw[aE (by omega) (by omega)]
  have:outs p q a 0=agv p.length 0:=by
   unfold outs
   refine List.ext_getElem (by simp) λj h1 h2=>?_
   simp at h2;rw[List.getElem_map,List.getElem_range,List.getElem_replicate,ai (by omega)]
  grind
 .intro k hk
  have hlen:(outs p q a k).length=p.length:=by simp[outs]
  have hO:=YV hv a (i:=(p.length:Int)-1-(k:Int)) (by omega);generalize hi:(p.length:Int)-1-(k:Int)=i at*
  have hc:uA (at' 0 (outs p q a k)) (pb (at' 0 (outs p q a k)) q (ch p i))=C p q a i:=FL hv λc h1 h2 h3=>by
   unfold outs;rw[KZ h2 h3,aj (by omega),Int.toNat_of_nonneg h2]
  simp only;rw[aj (by simp;omega),qP hv hlen i hN,ago,hc,nr 0 (by omega) (by omega),ago]
  have BK:∀v,bG (bG (outs p q a k) i v) i (O p q a i)=outs p q a (k+1)/\(v=O p q a i->bG (outs p q a k) i v=outs p q a (k+1)):=by
   intro v
   have e:bG (outs p q a k) i (O p q a i)=outs p q a (k+1):=by
    unfold bG outs;rw[k6]
    refine List.map_congr_left λj hj=>?_
    have:=List.mem_range.1 hj;by_cases h:j=i.toNat
    .rw[aj h,aj (by omega),h,Int.toNat_of_nonneg (by omega)]
    .rw[ai h];by_cases h':p.length<=j+k
     .rw[aj h',aj (by omega)]
     .rw[ai h',ai (by omega)]
   refine⟨?_,λh=>h▸e⟩;unfold bG at e⊢;rw[List.set_set];exact e
  grind [idx,bG,S.at',aE]
 .simp only;rw[ai (by simp;omega)]
def Nq{p q:List Int}{a:List Bool}{c:Int}(h0:0<=c)(h:c<p.length):at' 0 (outs p q a p.length) c=O p q a c:=by
 grind [S.outs,S.KZ]
def K0{p q:List Int}{a:List Bool}{k:Nat}:(outs p q a k).length=p.length:=by simp[outs]
def Oo(e:Int)(y:Bool){α:Type}(k:Bool->Option α):((if(!decide (e=(0:Int)))=af then aa af else aa y:Option Bool).bind k)=k (!decide (e=0)||y):=by
 cases decide (e=0)<;>rfl
def zP{N:Nat}(hN:20<=N)(p q:List Int)(a:List Bool):(M.cH N p q a=aa (-1)/\M.ki N p q a=aa (-1))\/
 (V p q/\a.length=p.length/\M.cH N p q a=aa (C p q a (-1))/\M.ki N p q a=M.mj N p q a (-1)):=by
 obtain⟨e,he,hv⟩:=BO (N:=N) p q (by omega);unfold M.cH M.ki;rw[zM,he];simp only[ago];rw[Oo,Oo];by_cases h:(!decide (e=0)||(!decide ((a.length:Int)=(p.length:Int))))=af
 .left
  rw[aj h,aj h];exact⟨rfl,rfl⟩
 .right
  have h1:e=0:=by simp at h;exact h.1
  have h2:a.length=p.length:=by simp at h;omega
  have hv:=hv h1;rw[ai h,ai h,BQ hv h2 hN];simp only[ago];rw[qP hv K0 (-1) hN];refine⟨hv,h2,?_,?_⟩
  .exact av aa (FL hv λc _ h0 h=>Nq h0 h)
  .cases M.mj N p q a (-1)<;>rfl
section
variable {p q:List Int} {a:List Bool} (hv:V p q) (ha:a.length=p.length)
include hv ha
def TP{N:Nat}{o:Int->Int}{i:Int}(hN:20<=N)(ho:∀c,c∈ch p i->M.du aR N p q a c=aa (o c)):M.oF aR (N+1) p q a i=aa (pb o q (ch p i)):=by
 have h8:=hv.n8;have hl:=KX p i;unfold M.oF;rw[zN,ua i h8 (by unfold aR;omega),ago];refine uT (λk:Nat=>((k:Int),((ch p i).take k).foldl (step o q) [])) (ch p i).length _ rfl ?_ ?_ (by unfold aR;omega)
 .intro k hk
  have hw:agp.wrap ((k:Int)+1)=((k+1:Nat):Int):=by rw[aE]<;>omega
  have hc:=pT hv (agy hk);have hq:=hv.len;simp only;rw[aj (by simp;omega),aM hk,ago,ho _ (agy hk),ago,hw];have hb:=KY (q:=q) (b:=((ch p i).take k).foldl (step o q) []) (c:=(ch p i)[k]) (o:=o) rfl (λx hx=>by have:=pT hv (se.subset hx);omega) (by grind [S.se]) ⟨hc.2.1,by omega⟩;simp only[ago]
  grind [List.take_succ_eq_append_getElem]
 .simp only;rw[ai (by simp),List.take_length];rfl
def yi{N:Nat}{o:Int->Int}{i:Int}(hN:20<=N)(ho:∀c,c∈ch p i->M.du aR N p q a c=aa (o c))(lD:∀c,c∈ch p i->M.du aR (N+1) p q a c=aa (o c)):M.fR aR (N+2) p q a i=aa (uA o (pb o q (ch p i))):=by
 unfold M.fR;rw[TP hv ha hN ho,ago];unfold uA
 cases hb:pb o q (ch p i)with
 |nil=>simp
 |cons x b=>
  have hx:=(pS o q (ch p i)).sub.subset (show x∈pb o q (ch p i) by rw[hb];simp)
  have h1:¬((x::b).length:Int)=0:=by simp only[List.length_cons];omega
  simp only[h1,decide_false,ags,if_false,r7,ago,zO];by_cases h2:1<((x::b).length:Int)
  .simp only[h2,decide_true,if_true];rw[ai (by omega)]
  .simp only[h2,decide_false,ags,if_false];rw[lD x hx,aj (by simp only[List.length_cons]at h1 h2⊢;omega)];rfl
def we:∀(k N:Nat)(i:Int),8<k+i->0<=i->i<p.length->3*k+30<=N->M.du aR N p q a i=aa (out p q a k i)
 |0,N,i,h,_,h2,_=>by have:=hv.n8;omega
 |k+1,N,i,h,h0,h2,hN=>by
  obtain⟨N,rfl⟩:∃n,N=n+3:=⟨N-3,by omega⟩
  unfold M.du;rw[yi hv ha (o:=out p q a k) (by omega) (λc hc=>?_) (λc hc=>?_),ago,sd]
  .grind [S.cout,S.nr]
  .have:=pT hv hc;exact we k N c (by omega) (by omega) (by omega) (by omega)
  .have:=pT hv hc;exact we k (N+1) c (by omega) (by omega) (by omega) (by omega)
theorem YZ{N:Nat}{i:Int}(h0:0<=i)(h:i<p.length)(hN:90<=N):M.du aR N p q a i=aa (O p q a i):=we hv ha 16 N i (by omega) h0 h (by omega)
def zQ{N:Nat}{i:Int}(hN:100<=N):M.fR aR N p q a i=aa (C p q a i):=by
 obtain⟨N,rfl⟩:∃n,N=n+2:=⟨N-2,by omega⟩
 refine yi hv ha (by omega) (λc hc=>?_) λc hc=>?_
 all_goals
  have:=pT hv hc
  grind [S.YZ]
end
def Qt(p q:List Int)(a:List Bool):M.cH aR p q a=M.ki aR p q a:=by
 rcases zP (N:=aR) (by unfold aR;omega) p q a with⟨h1,h2⟩|⟨hv,ha,h1,h2⟩
 .rw[h1,h2]
 .rw[h1,h2];exact(zQ hv ha (N:=aR) (by unfold aR;omega)).symm
end L.S
end
namespace L
def Pl(n:Nat)(v:Int):Prop:=v= -1\/v= -2\/0<=v/\v<(n:Int)
def BR(p:List Int)(i:Int)(hl:p.length<=8):Wp (M.dm aR p i) λr=>r.length<=p.length/\∀x∈r,(0:Int)<=x/\x<(p.length:Int):=by
 unfold M.dm
 refine Wp.count (λs=>s.1) p.length (λk s=>s.2.length<=k/\∀x∈s.2,(0:Int)<=x/\x<(p.length:Int)) (by omega) rfl (by grind) λk s hk hs hJ=>?_
 obtain⟨c,l⟩:=s;obtain⟨j1,j2⟩:=hJ;dsimp only at hs j1 j2;subst hs
 refine Wp.dec (λbi=>?_) λhge=> .some ⟨by grind,j2⟩
 have bi:k<p.length:=by dsimp only at bi;omega
 dsimp only
 refine Wp.seq (λj=>j.length<=k+1/\∀x∈j,(0:Int)<=x/\x<(p.length:Int)) ?_ λj hj=> .some ⟨bi,yc (m:=p.length) (by omega) bi,hj⟩
 rw[aM bi,ago]
 refine Wp.dec (λ_=>?_) λ_=> .some ⟨by omega,j2⟩
 rw[fS (by simp;omega),ago];refine .some ⟨by simp;omega,λx hx=>?_⟩
 grind
def Nr{p q r:List Int}(i:Int)(hl:p.length<=8)(hq:q.length=p.length)(hr:r.length=p.length):Wp (M.dA aR (p,(q,r)) i) λb=>∀x∈b,(0:Int)<=x/\x<(p.length:Int):=by
 unfold M.dA
 refine Wp.seq _ (BR p i hl) λy hy=>?_
 obtain⟨y1,y2⟩:=hy
 refine Wp.count (λs=>s.1) y.length (λk s=>s.2.length<=k/\∀x∈s.2,(0:Int)<=x/\x<(p.length:Int)) (by omega) rfl (by grind) λk s hk hs hJ=>?_
 obtain⟨c,l⟩:=s;obtain⟨j1,j2⟩:=hJ;dsimp only at hs j1 j2;subst hs
 refine Wp.dec (λbi=>?_) λhge=> .some j2
 have bi:k<y.length:=by dsimp only at bi;omega
 dsimp only
 refine Wp.seq (λj=>j.length<=k+1/\∀x∈j,(0:Int)<=x/\x<(p.length:Int)) ?_ λj hj=> .some ⟨bi,yc (m:=y.length) (by omega) bi,hj⟩
 have hv:=y2 _ (agy bi);rw[aM bi,ago];generalize y[k]=v at hv⊢
 have at_:∀{l:List Int}{u:Int},l.length=p.length->(0:Int)<=u/\u<(p.length:Int)->∃z,idx l u=aa z:=λ{l u}h h'=>by
  obtain⟨z,hz,_⟩:=v8 (l:=l) (i:=u) h'.1 (by omega)
  grind
 obtain⟨z1,e1⟩:=at_ hr hv;obtain⟨z2,e2⟩:=at_ hq hv
 have hd:∀{l:List Int},0<l.length->(∀x∈l,(0:Int)<=x/\x<(p.length:Int))->∃u z,idx l (0:Int)=aa u/\idx q u=aa z:=λ{l}h h'=>by
  obtain⟨u,hu,hm⟩:=v8 (l:=l) (i:=0) (ahp _) (by omega)
  grind
 rw[e1,ago]
 refine Wp.dec (λ_=> .some ⟨by omega,j2⟩) λ_=>?_
 refine Wp.seq (λj=>j.length<=k/\∀x∈j,(0:Int)<=x/\x<(p.length:Int)) ?_ λl6 h6=>?_
 .refine Wp.seq (λ_=>True) ?_ λj7 _=>?_
  .refine Wp.dec (λh=>?_) λ_=> .some trivial
   obtain⟨u,z,hu,hz⟩:=hd (l:=l) (by omega) j2;rw[e2,ago,hu,ago,hz];exact .some trivial
  .refine Wp.ite (λ_=>?_) λ_=> .some ⟨j1,j2⟩
   rw[FG (l:=l) (i:=0) (j:=0) 0 0 rfl rfl (agt _) (Nat.zero_le _),ago];exact .some ⟨by simp,by simp⟩
 .obtain⟨g1,g2⟩:=h6
  refine Wp.seq (λ_=>True) ?_ λU1 _=>?_
  .refine Wp.dec (λ_=> .some trivial) λh=>?_
   obtain⟨u,z,hu,hz⟩:=hd (l:=l6) (by omega) g2;rw[e2,ago,hu,ago,hz];exact .some trivial
  .refine Wp.ite (λ_=>?_) λ_=> .some ⟨by omega,g2⟩
   rw[fS (by simp;omega),ago];refine .some ⟨by simp;omega,λx hx=>?_⟩
   grind
theorem FM{p q r:List Int}(i:Int)(hl:p.length<=8)(hq:q.length=p.length)(hr:r.length=p.length)(hp:∀x∈r,Pl p.length x):Wp (M.bN aR (p,(q,r)) i) (Pl p.length):=by
 unfold M.bN
 refine Wp.seq _ (Nr i hl hq hr) λb hb=>?_
 refine Wp.dec (λ_=> .some (.inl rfl)) λh0=>?_
 refine Wp.dec (λh1=>?_) λ_=> .some (.inr (.inl rfl))
 obtain⟨u,hu,hm⟩:=v8 (l:=b) (i:=0) (ahp _) (by omega);have:=hb u hm;obtain⟨z,hz,hzm⟩:=v8 (l:=r) (i:=u) this.1 (by omega);rw[hu,ago];dsimp only;rw[hz,ago];exact .some (hp z hzm)
theorem BS{α:Type}{l:List α}{i:Int}{y x:α}(h:x∈bG l i y):x∈l\/x=y:=by
 grind [bG]
theorem Ns{p q:List Int}{a:List Bool}(hl:p.length<=8)(hq:q.length=p.length)(ha:a.length=p.length):Wp (M.dQ aR p q a) λr=>r.length=p.length/\∀x∈r,Pl p.length x:=by
 unfold M.dQ;rw[wp_bind];refine rc.2 ⟨by omega,?_⟩;rw[agE]
 have hw:∀n:Nat,n<=8->agp.wrap ((n:Int)-1)=(n:Int)-1:=λn h=>aE (by omega) (by omega)
 refine Wp.loop (λs=>(∃k:Nat,s.1=(k:Int)-1/\k<=p.length)/\s.2.length=p.length/\∀x∈s.2,Pl p.length x) (λs=>(s.1+1).toNat) ⟨⟨p.length,hw _ hl,agt _⟩,by simp,λx hx=>?_⟩ ?_ ?_
 .rw[List.mem_replicate]at hx;exact .inr (.inr ⟨by omega,by omega⟩)
 .grind [aR]
 .rintro⟨c,l⟩ ⟨⟨k,hk,L2⟩,j1,j2⟩
  dsimp only at hk j1 j2;subst hk
  refine Wp.dec (λbi=>?_) λhge=> .some ⟨j1,j2⟩
  obtain⟨m,rfl⟩:∃m,k=m+1:=⟨k-1,by grind⟩
  have hm:(((m+1:Nat):Int)-1)=(m:Int):=by omega
  rw[hm]
  have LS:m<p.length:=by omega
  dsimp only
  refine Wp.seq (λj=>j.length=p.length/\∀x∈j,Pl p.length x) ?_ λj hj=> .some ⟨⟨⟨m,by rw[hw _ (by omega)],by omega⟩,hj⟩,by grind⟩
  refine Wp.seq _ (FM (m:Int) hl hq j1 j2) λv hv=>?_
  have s1:(bG l (m:Int) v).length=p.length:=by rw[fo];exact j1
  have s2:∀x∈bG l (m:Int) v,Pl p.length x:=λx hx=>by
   grind [BS]
  rw[aM (show m<l.length by omega),ago]
  refine Wp.seq (λ_=>True) ?_ λj6 _=>?_
  .rw[aM (by grind),ago]
   refine Wp.dec (λ_=>?_) λ_=> .some trivial
   rw[aM (show m<a.length by omega),ago];exact .some trivial
  .refine Wp.ite (λ_=>?_) λ_=> .some ⟨s1,s2⟩
   rw[aM (by grind),ago];refine .some ⟨by rw[fo];exact s1,λx hx=>?_⟩
   rcases BS hx with h|rfl
   .exact s2 x h
   .exact .inr (.inr ⟨by omega,by omega⟩)
def HW(p q:List Int)(a:List Bool)(hp:p.length<=100000):Wp (M.cH aR p q a) (Pl p.length):=by
 unfold M.cH
 have hV:Wp (M.cP aR p q) λc=>c=0->p.length<=8/\q.length=p.length:=by
  unfold M.cP
  refine Wp.o9 (λ_=> .some λh=>by cases h) λh1=>?_
  refine Wp.dec (λ_=> .some λh=>by cases h) λh2=>?_
  have hq:q.length=p.length:=by omega
  refine Wp.count (λs=>s) p.length (λ_ _=>True) (by omega) rfl trivial λk s hk hs _=>?_
  obtain rfl:s=_:=hs
  refine Wp.dec (λbi=>?_) λhge=> .some λ_=>⟨by omega,hq⟩
  have bi:k<p.length:=by omega
  rw[aM bi,ago]
  refine Wp.seq (λ_=>True) (Wp.dec (λ_=> .some trivial) λ_=> .some trivial) λj3 _=>?_
  refine Wp.ite (λ_=> .some λh=>by cases h) λ_=>?_
  refine Wp.seq (λ_=>True) ?_ λj4 _=>?_
  .rw[aM (show k<q.length by omega),ago]
   exact Wp.dec (λ_=> .some trivial) λ_=> .some trivial
  .exact Wp.ite (λ_=> .some λh=>by cases h) λ_=> .some ⟨bi,yc (m:=p.length) (by omega) bi,trivial⟩
 refine Wp.seq (λj=>j=ag->p.length<=8/\q.length=p.length/\a.length=p.length) ?_ λj hj=>?_
 .refine Wp.seq _ hV λc hc=>?_
  refine Wp.o9 (λ_=> .some λh=>by cases h) λh=> .some λg=>?_
  grind
 .cases j with
  |true=>rw[aj rfl];exact .some (.inl rfl)
  |false=>
   grind [Wp.seq,Ns,FM]
abbrev kE:Type:=List az.den
theorem K2(a b:kE)(hl:a.length<=100000):M.bq aR a b=aa (decide (a=b)):=by
 unfold M.bq;refine Wp.eq (Wp.o9 (λh=> .some ?_) λh=>?_)
 .grind
 .have h:a.length=b.length:=by omega
  refine Wp.count (λs=>s) a.length (λk _=>∀i,∀h1:i<a.length,∀h2:i<b.length,i<k->a[i]=b[i]) (by omega) rfl (λi _ _ hi=>absurd hi (by omega)) λk s hk hs hJ=>?_
  subst hs;refine .dec (λbi=>?_) (λhge=> .some ?_)
  .have bi:k<a.length:=by omega
   refine .bind (.idx k rfl bi (.bind (.idx k rfl (by omega) (.ite (λh1=> .some ?_) (λh1=> .some ⟨bi,aL (by omega),λi C7 GD hi=>?_⟩)))))
   .have h1:nz az a[k] (b[k]'(by omega))=ag:=by simpa using h1
    have h1:=sD.1 h1;exact(ao λe=>h1 (by simp only[e])).symm
   grind [uF]
  .have:k=a.length:=by omega
   subst this;exact(an (List.ext_getElem h λi h1 h2=>hJ i h1 h2 h1)).symm
theorem Nt(a b:kE)(hl:a.length<=100000):M.q9 aR a b=aa (decide (a=b)):=by
 unfold M.q9;refine Wp.eq (Wp.o9 (λh=> .some ?_) λh=>?_)
 .grind
 .have h:a.length=b.length:=by omega
  refine Wp.count (λs=>s) a.length (λk _=>∀i,∀h1:i<a.length,∀h2:i<b.length,i<k->a[i]=b[i]) (by omega) rfl (λi _ _ hi=>absurd hi (by omega)) λk s hk hs hJ=>?_
  subst hs
  refine Wp.seq (λj=>j=decide (k<a.length)) (.dec (λh1=> .some ?_) (λh1=> .some ?_)) λj hj=>?_
  .grind
  .grind
  .subst hj;refine .dec (λbi=>?_) (λhge=> .some ?_)
   .refine .bind (.idx k rfl bi (.bind (.idx k rfl (by omega) (.ite (λh1=> .some ?_) (λh1=> .some ⟨bi,aL (by omega),λi C7 GD hi=>?_⟩)))))
    .have h1:nz az a[k] (b[k]'(by omega))=ag:=by simpa using h1
     have h1:=sD.1 h1;exact(ao λe=>h1 (by simp only[e])).symm
    grind [uF]
   .have:k=a.length:=by omega
    subst this;exact(an (List.ext_getElem h λi h1 h2=>hJ i h1 h2 h1)).symm
def iy(g:kE)(C:List kE):Int:=gC (λx=>decide (x=g)) C
def HX(C:List kE)(g:kE)(hC:C.length<=100000)(hl:∀x∈C,x.length<=100000):M.dP aR C g=aa (iy g C):=by
 unfold M.dP iy;refine zB (by unfold maxLen;omega) (λk h=>?_) ?_
 .grind [aM,K2]
 grind
def BT(C:List kE)(g:kE)(hC:C.length<=100000)(hl:∀x∈C,x.length<=100000):M.oE aR C g=aa (iy g C):=by
 unfold M.oE iy;refine zB (by unfold maxLen;omega) (λk h=>?_) ?_
 .grind [aM,Nt]
 grind
theorem wg{g:kE}{C X:List kE}(h:0<=iy g C):iy g (C++X)=iy g C:=by
 grind [iy,gC]
theorem wh{g:kE}{C:List kE}(h:¬0<=iy g C):iy g (C++[g])=(C.length:Int):=by
 refine zA (by simp) (by simp) λj hj N1=>?_
 rw[ag4 hj]
 exact ao λe=>h (tY.2 (by grind))
def gd(rules:List my)(i:Nat):kE:=match rules[i]? with
 |some r=>r.2.2.2.2.2.1
 |none=>[]
def ek(rules:List my)(s:List kE×List Int)(i:Nat):List kE×List Int:=if(gd rules i).length=0 then s else if 0<=iy (gd rules i) s.1 then s else(s.1++[gd rules i],s.2++[(i:Int)])
def ji(rules:List my)(C:List kE)(i:Nat):Int:=if(gd rules i).length=0 then-1 else iy (gd rules i) C
theorem tD(rules:List my)(T:List Nat):∀s:List kE×List Int,∃X,(T.foldl (ek rules) s).1=s.1++X/\(T.foldl (ek rules) s).1.length<=s.1.length+T.length:=by
 induction T with
 |nil=>simp_all
 |cons i T ih=>
  intro s;obtain⟨X,hX,hl⟩:=ih (ek rules s i)
  grind [ek]
theorem HY(rules:List my)(s:List kE×List Int)(i:Nat)(h:(gd rules i).length≠0):0<=iy (gd rules i) (ek rules s i).1:=by
 grind [ek,wh]
def Es(rules:List my)(s:List kE×List Int)(T:List Nat)(i:Nat)(h:(gd rules i).length≠0->0<=iy (gd rules i) s.1):ji rules (T.foldl (ek rules) s).1 i=ji rules s.1 i:=by
 grind [ji,tD,wg]
def yj(rules:List my)(T:List Nat):∀s:List kE×List Int,∀i∈T,(gd rules i).length≠0->0<=iy (gd rules i) (T.foldl (ek rules) s).1:=by
 induction T with
 |nil=>grind
 |cons j T ih=>
  grind [tD,wg,HY]
def HZ(rules:List my)(T:List Nat):∀s:List kE×List Int,∀x∈(T.foldl (ek rules) s).1,x∈s.1\/∃i,x=gd rules i:=by
 induction T with
 |nil=>grind
 |cons j T ih=>
  intro s x hx
  grind [ek]
end L
namespace L
def bt(c b:Int):Bool:=decide (aF .and .i64 (bx .i64 c b) 1=1)
def flag(c b:Int):Bool:=if b<0 then af else bt c b
def K3{c b:Int}(h:0<=b):ur .i64 c b=aa (bx .i64 c b):=by unfold ur;grind
noncomputable def BU(p q:List Int)(a:List Bool):Int:=(M.cH aR p q a).getD 0
def wi(p q:List Int)(a:List Bool)(hp:p.length<=100000):M.cH aR p q a=aa (BU p q a)/\Pl p.length (BU p q a):=(HW p q a hp).getD 0
def Oq(T:List Int)(s:Int):Int:=if 0<=s then(T[s.toNat]?).getD 0 else s
noncomputable def oc(T p q B:List Int)(c:Int):Int:=Oq T (BU p q (B.map (flag c)))
theorem zR{T:List Int}{s:Int}(h0:0<=s)(h1:s<(T.length:Int)):idx T s=aa (Oq T s):=by
 grind [aM,Oq]
def Ia{T p q B:List Int}{n:Nat}(hn:n<=8)(hT:T.length<=100000)(hp:p.length=T.length)(hB:B.length=T.length):M.b8 aR T p q B (n:Int)=aa ((agw (2 ^ n)).map λc:Nat=>oc T p q B (c:Int)):=by
 have h8:=r8 hn;unfold M.b8;rw[oG (by omega),ago]
 have TQ:((2 ^ n:Nat):Int)<=4294967296:=by have:((2 ^ n:Nat):Int)<=256:=by exact_mod_cast h8
                                           exact Int.le_trans this (by decide)
 refine Wp.eq (.bind (rc.2 ⟨⟨Int.natCast_nonneg _,TQ⟩, .bind (rc.2 ⟨by omega,?_⟩)⟩));rw[agE,agE];generalize hK:2 ^ n=K at*
 have sR:∀{α:Type}(m:Nat)(z:α),agv m z=(agw m).map λ_=>z:=λm z=>by
  apply List.ext_getElem (by simp)
  grind
 refine Wp.count (λs=>s.1) K (λc s=>s.2.1=((agw K).map λj:Nat=>if j<c then oc T p q B (j:Int)else 0)/\s.2.2.length=T.length) (by omega) rfl ⟨by rw[sR];simp,by simp⟩ λc s hc hs hJ=>?_
 obtain⟨cc,out,fl⟩:=s;obtain⟨rfl,R4⟩:=hJ;dsimp only at hs R4⊢;subst hs;rw[List.length_replicate];refine .dec (λh=>?_) (λh=> .some ?_)
 .have bi:c<K:=by omega
  refine Wp.seq (λs=>s.1=((agw K).map λj:Nat=>if j<c+1 then oc T p q B (j:Int)else 0)/\s.2.length=T.length) ?_ λj hj=> .some ⟨bi,aL (by omega),hj⟩
  refine Wp.seq (λs=>s.1=((agw K).map λj:Nat=>if j<c+1 then oc T p q B (j:Int)else 0)/\s.2.length=T.length) ?_ λj hj=> .some hj
  refine Wp.seq (λf=>f=B.map (flag (c:Int))) ?_ λf hf=>?_
  .refine Wp.count (λs=>s.1) B.length (λk s=>s.2.length=B.length/\∀i,∀h:i<s.2.length,∀h2:i<B.length,i<k->s.2[i]=flag (c:Int) B[i]) (by omega) rfl (by grind) λk s hk hs hJ=>?_
   obtain⟨kk,f⟩:=s;obtain⟨g1,g2⟩:=hJ;dsimp only at hs g1 g2⊢;subst hs;refine .dec (λh=>?_) (λh=> .some ?_)
   .have L2:k<B.length:=by omega
    have BK:∀v:Bool,v=flag (c:Int) B[k]->(bG f (k:Int) v).length=B.length/\∀i,∀h:i<(bG f (k:Int) v).length,∀h2:i<B.length,i<k+1->(bG f (k:Int) v)[i]=flag (c:Int) B[i]:=λv hv=>by
     grind [bG]
    refine Wp.seq (λs=>s.length=B.length/\∀i,∀h:i<s.length,∀h2:i<B.length,i<k+1->s[i]=flag (c:Int) B[i]) (.bind (.idx k rfl L2 ?_)) λj hj=> .some ⟨L2,aL (by omega),hj⟩
    refine .dec (λh=> .bind (.idx k rfl (by omega) (.some (BK _ ?_)))) (λh=> .aW (K3 (by omega)) (.bind (.idx k rfl (by omega) (.some (BK _ ?_)))))
    .unfold flag;rw[aj h]
    .unfold flag;rw[ai h];rfl
   .have:k=B.length:=by omega
    subst this
    refine List.ext_getElem (by grind) λi h1 h2=>?_
    grind
  .subst hf;obtain⟨hs,hr⟩:=wi p q (B.map (flag (c:Int))) (by omega);refine .aW hs ?_
   have BK:∀v:Int,v=oc T p q B (c:Int)->bG ((agw K).map λj:Nat=>if j<c then oc T p q B (j:Int)else 0) (c:Int) v=((agw K).map λj:Nat=>if j<c+1 then oc T p q B (j:Int)else 0):=λv hv=>by
    grind [bG,k6]
   have Nu:oc T p q B (c:Int)=Oq T (BU p q (B.map (flag (c:Int)))):=rfl;generalize BU p q (B.map (flag (c:Int)))=v at hr Nu⊢;unfold Pl at hr
   refine Wp.seq (λj=>j=af↔0<=v) (.dec (λh=> .some ?_) (λh=> .some (by grind))) λj hj=> .ite (λh=>?_) (λh=>?_)
   .grind
   .have hv:=hj.1 h;refine .aW (zR hv (by omega)) (.bind (zK bi (.some (by grind))))
   .have hv:¬0<=v:=λg=>h (hj.2 g)
    refine .bind (zK bi (.some ⟨BK _ (by rw[Nu];unfold Oq;rw[ai hv]),by grind⟩))
 .have:c=K:=by omega
  subst this
  refine List.map_congr_left λy hy=>?_
  grind
noncomputable def mn(l:List Int)(n:Nat):List (Int×Int):=HT (IK (n:Int)) (λx=>(x:Int)∈l) (dR l)
def rp{k:Nat}{mem:Nat->Bool}:∀{l:List (Nat×Nat)}{cov:Nat->Bool},(fT k mem cov l).length<=l.length
 |[],_=>agt _
 |p::l,cov=>by
  rw[mS];split
  .have:=rp (k:=k) (mem:=mem) (l:=l) (cov:=λx=>cov x||decide (x&&& p.1=p.2))
   grind
  .have:=rp (k:=k) (mem:=mem) (l:=l) (cov:=cov)
   grind
theorem Et(l:List Int)(n:Nat):(mn l n).length<=65536:=by
 have hn:=Em (n:Int);have h8:=r8 hn;unfold mn HT;refine agR rp ?_;generalize IK (n:Int)=n at*
 have:=qs (A:=((Pt n).filter (w9 n λx=>(x:Int)∈l)).map λp=>p.1*256+p.2) (B:=agw 65536) ?_ λx hx=>?_
 .grind
 .rw[List.Nodup,List.pairwise_map];refine List.Pairwise.imp_of_mem (λ{p q}hp hq bi e=>?_) ((tB n).filter _)
  grind [rm,rz.irrefl,Nat.and_le_right]
 grind [rm,Nat.and_le_right]
def wN(O:List Int)(v:Int):List Int:=ids (λk=>decide (O[k]? =aa v)) O.length
noncomputable def eP(O:List Int)(n:Nat)(v:Int):List TH:=if(wN O v).length=0 then[]else(mn (wN O v) n).map λp=>(p,v)
def wj(O:List Int)(n:Nat)(v:Int):(eP O n v).length<=65536:=by
 grind [eP,Et]
def Ib{O T:List Int}{n:Nat}(hO:O.length<=100000)(hT:T.length<=1000):M.fP aR O T (n:Int)=aa (([-2,-1]++T).flatMap (eP O n)):=by
 unfold M.fP;refine Wp.eq (.bind (.wM (by simp;omega) ?_))
 have hL:([(-2:Int),-1]++T).length<=1002:=by simp;omega
 generalize([(-2:Int),-1]++T)=L at hL⊢
 refine Wp.count (λs=>s.1) L.length (λk s=>s.2=(L.take k).flatMap (eP O n)/\s.2.length<=k*65536) (by omega) rfl ⟨rfl,agt _⟩ λk s hk hs hJ=>?_
 obtain⟨kk,acc⟩:=s;obtain⟨g1,g2⟩:=hJ;dsimp only at hs g1 g2⊢;subst hs;refine .dec (λh=>?_) (λh=> .some ?_)
 .have bi:k<L.length:=by omega
  have dB:(L.take (k+1)).flatMap (eP O n)=(L.take k).flatMap (eP O n)++eP O n L[k]:=by
   rw[<-ag5 bi,List.flatMap_append];simp
  have TF:=wj O n L[k]
  refine Wp.seq (λs=>s=acc++eP O n L[k]) ?_ λj hj=> .some ⟨bi,aL (by omega),by rw[dB,<-g1];exact hj,by grind⟩
  refine Wp.seq (λs=>s=acc++eP O n L[k]) (.bind (.idx k rfl bi ?_)) λj hj=> .some hj
  refine Wp.seq (λj=>j=wN O L[k]) ?_ λj hj=>?_
  .refine Wp.count (λs=>s.1) O.length (λi s=>s.2=ids (λz=>decide (O[z]? =aa L[k])) i) (by omega) rfl rfl λi s hi hs hJ=>?_
   obtain⟨ii,l⟩:=s;dsimp only at hs hJ⊢;subst hs hJ;refine .dec (λh=>?_) (λh=> .some ?_)
   .have rA:i<O.length:=by omega
    have hl:=oI (λz=>decide (O[z]? =aa L[k])) i
    refine Wp.seq (λs=>s=ids (λz=>decide (O[z]? =aa L[k])) (i+1)) (.bind (.idx i rfl rA ?_)) λj hj=> .some ⟨rA,aL (by omega),hj⟩
    rw[mr,agx rA];refine .dec (λh=> .bind (.wM (by simp;omega) (.some ?_))) (λh=> .some ?_)
    all_goals grind
   .have:i=O.length:=by omega
    subst this;rfl
  .subst hj;have vq:=oI (λz=>decide (O[z]? =aa L[k])) O.length;refine .dec (λh=> .some ?_) (λh=> .aW (KR (l:=wN O L[k]) (by unfold wN;omega) (n:Int)) ?_)
   .grind [eP]
   .have dJ:¬(wN O L[k]).length=0:=λg=>h (by rw[g];rfl)
    have hr:eP O n L[k]=(mn (wN O L[k]) n).map λp=>(p,L[k]):=by unfold eP;rw[ai dJ]
    have LS:=Et (wN O L[k]) n;rw[hr]
    show Wp (Loop _ aR _) _
    change Wp (Loop (S:=Int×List aH.den) (X:=List aH.den) (λTR=>
     (if(decide (TR.1<((mn (wN O L[k]) n).length:Int)))=af then
     (idx (mn (wN O L[k]) n) TR.1).bind λTO=>
     (cr TR.2 ([(TO,L[k])]:List aH.den)).bind λl14=>
     some (Sum.inl (agp.wrap (TR.1+(1:Int)),l14))
     else
     some (Sum.inr TR.2))) aR ((0:Int),acc)) _
    generalize mn (wN O L[k]) n=ps at LS⊢
    refine Wp.count (λs=>s.1) ps.length (λi s=>s.2=acc++(ps.take i).map λp=>(p,L[k])) (by omega) rfl (by simp) λi s hi hs hJ=>?_
    obtain⟨ii,l⟩:=s;dsimp only at hs hJ⊢;subst hs hJ;refine .dec (λh=>?_) (λh=> .some ?_)
    .have rA:i<ps.length:=by omega
     refine .bind (.idx i rfl rA (.bind (.wM (by simp;omega) (.some ⟨rA,aL (by omega),?_⟩))))
     grind [ag5]
    .have:i=ps.length:=by omega
     subst this
     show acc++_=_
     grind
 .have:k=L.length:=by omega
  subst this;rw[List.take_length]at g1;exact g1
end L
namespace L
def TN(rules:List my)(a d:Int):List Nat:=jI (kp rules (BN a d)) rules.length
def CS(rules:List my)(a d:Int):List kE×List Int:=(TN rules a d).foldl (ek rules) ([],[])
def BB(rules:List my)(a d:Int):List Int:=(TN rules a d).map (ji rules (CS rules a d).1)
noncomputable def OO(rules:List my)(a d:Int):List Int:=(agw (2 ^ (CS rules a d).1.length)).map λc:Nat=>oc (iY rules a d) (iU rules a d) (lv rules a d) (BB rules a d) (c:Int)
noncomputable def RR(rules:List my)(a d:Int):List TH:=([-2,-1]++iY rules a d).flatMap (eP (OO rules a d) (CS rules a d).1.length)
def K4{rules:List my}{a d:Int}:∀i∈TN rules a d,i<rules.length:=λi hi=>List.mem_range.1 (List.mem_filter.1 hi).1
def sf(rules:List my)(a d:Int):iY rules a d=(TN rules a d).map λi:Nat=>(i:Int):=rfl
structure Fit(rules:List my)(a d:Int):Prop where
 len:rules.length<=60
 g:∀r∈rules,r.2.2.2.2.2.1.length<=100000
 t8:(TN rules a d).length<=8
theorem Fit.gd{rules:List my}{a d:Int}(h:Fit rules a d)(i:Nat):(gd rules i).length<=100000:=by
 unfold L.gd
 cases e:rules[i]? with
 |none=>simp
 |some r=>exact h.g r (List.mem_of_getElem? e)
def Fit.conds{rules:List my}{a d:Int}(h:Fit rules a d)(T:List Nat):∀x∈(T.foldl (ek rules) ([],[])).1,x.length<=100000:=λx hx=>by
 rcases HZ rules T _ x hx with g|⟨i,rfl⟩
 .simp at g
 .exact h.gd i
def Fit.Qu{rules:List my}{a d:Int}(h:Fit rules a d)(k:Nat):(((TN rules a d).take k).foldl (ek rules) ([],[])).1.length<=8:=by
 grind [tD,Fit.t8]
def Fit.n8{rules:List my}{a d:Int}(h:Fit rules a d):(CS rules a d).1.length<=8:=by
 have:=h.Qu (TN rules a d).length;rw[List.take_length]at this;exact this
def FN(rules:List my)(T:List Nat):∀s:List kE×List Int,(T.foldl (ek rules) s).2.length<=s.2.length+T.length:=by
 induction T with
 |nil=>intro s;simp
 |cons i T ih=>
  grind [ek]
def K5(x:kE)(hl:x.length<=100000):M.br aR x=aa x:=by
 unfold M.br;rw[fS (by simp;omega)];simp only[List.nil_append,ago]
 cases x with
 |nil=>grind [DO]
 |cons a x=>rfl
def fold_succ{rules:List my}{T:List Nat}{k:Nat}(h:k<T.length)(s:List kE×List Int):(T.take (k+1)).foldl (ek rules) s=ek rules ((T.take k).foldl (ek rules) s) T[k]:=by
 grind [ag5]
def K6{rules:List my}{i:Nat}(h:i<rules.length):gd rules i=rules[i].2.2.2.2.2.1:=by grind [gd]
def Nv{rules:List my}{a d:Int}(h:Fit rules a d):M.b8 aR (iY rules a d) (iU rules a d) (lv rules a d) (BB rules a d) ((CS rules a d).1.length:Int)=aa (OO rules a d):=by
 have hl:(iY rules a d).length=(TN rules a d).length:=by rw[sf];simp
 exact Ia h.n8 (by have:=h.t8;omega) (by rw[hl];unfold iU TN;simp) (by rw[hl];unfold BB;simp)
def TS{rules:List my}{a d:Int}(h:Fit rules a d):M.fP aR (OO rules a d) (iY rules a d) ((CS rules a d).1.length:Int)=aa (RR rules a d):=by
 have hl:(iY rules a d).length=(TN rules a d).length:=by rw[sf];simp
 have h8:=r8 h.n8;exact Ib (by unfold OO;simp;omega) (by have:=h.t8;omega)
def Ic{l:Lw}{x:Rf}{a1 a2 a3:Int}(hv:M.jX aR l=aa ((0:Int),((0:Int),((0:Int),(0:Int)))))(h1:0<=a1)(C7:a1<(l.2.2.length:Int))(hx:idx l.2.2 a1=aa x)(h2:0<=a2)(GD:a2<(x.2.2.2.1.length:Int))(h3:0<=a3)(h3':a3<=109572)
 (hf:Fit x.2.2.2.2 a2 a3):M.ir aR l a1 a2 a3=aa (a2,(0:Int),(CS x.2.2.2.2 a2 a3).1,(CS x.2.2.2.2 a2 a3).2,RR x.2.2.2.2 a2 a3):=by
 unfold M.ir;rw[hv,ago];refine Wp.eq (.ite (λh=>?_) λ_=>?_)
 .rw[uF.2 rfl]at h;cases h
 refine Wp.seq (λj=>j=ag) (.dec (λh=>absurd h1 (by omega)) λ_=> .some (ao (by omega))) λj hj=>?_
 subst hj
 refine .ite (λh=>(by cases h)) λ_=> .aW hx ?_
 refine Wp.seq (λj=>j=ag) (.dec (λh=>absurd h2 (by omega)) λ_=> .some (ao (by omega))) λj hj=>?_
 subst hj
 refine .ite (λh=>(by cases h)) λ_=>?_
 refine Wp.seq (λj=>j=ag) (.dec (λh=>absurd h3 (by omega)) λ_=> .some (ao (by omega))) λj hj=>?_
 subst hj
 refine .ite (λh=>(by cases h)) λ_=> .aW (HV x a2 a3 (by have:=hf.len;omega)) ?_
 have U2:=K4 (rules:=x.2.2.2.2) (a:=a2) (d:=a3);have Qv:=Nv hf;have TT:=TS hf;have TU:CS x.2.2.2.2 a2 a3=(TN x.2.2.2.2 a2 a3).foldl (ek x.2.2.2.2) ([],[]):=rfl;have hBB:BB x.2.2.2.2 a2 a3=(TN x.2.2.2.2 a2 a3).map (ji x.2.2.2.2 (CS x.2.2.2.2 a2 a3).1):=rfl;have Ie:=sf x.2.2.2.2 a2 a3
 have rA:(iY x.2.2.2.2 a2 a3).length=(TN x.2.2.2.2 a2 a3).length:=by rw[Ie];simp
 have Pz:=hf.Qu;have OI:=hf.conds;have Px:=hf.gd;have ht8:=hf.t8;have TF:=hf.len;generalize x.2.2.2.2=rules at*;dsimp only;refine .bind (rc.2 ⟨by omega,?_⟩);rw[rA]
 refine Wp.seq (λj=>j=(a2,BB rules a2 a3,(CS rules a2 a3).1,(CS rules a2 a3).2)) ?_ λj hj=>?_
 .refine Wp.count (λs=>s.1) (TN rules a2 a3).length (λk s=>s.2.1=a2/\(s.2.2.2.1,s.2.2.2.2)=((TN rules a2 a3).take k).foldl (ek rules) ([],[])/\s.2.2.1.length=(TN rules a2 a3).length/\∀i,∀h:i<s.2.2.1.length,∀h2:i<(TN rules a2 a3).length,i<k->s.2.2.1[i]=ji rules s.2.2.2.1 (TN rules a2 a3)[i]) (by omega) rfl (by grind) λk s hk hs hJ=>?_
  obtain⟨kk,a',bits,C,O⟩:=s;obtain⟨g1,g2,g3,g4⟩:=hJ;dsimp only at hs g1 g2 g3 g4⊢;subst hs g1;refine .dec (λh=>?_) (λh=> .some ?_)
  .have bi:k<(TN rules a' a3).length:=by omega
   have hb:=U2 _ (agy bi)
   have CQ:idx (iY rules a' a3) (k:Int)=aa (((TN rules a' a3)[k]:Nat):Int):=by rw[Ie,aM (by simpa using bi)];simp
   have TV:C.length<=8:=by have:=Pz k;rw[<-g2]at this;exact this
   have TW:O.length<=8:=by have:=FN rules ((TN rules a' a3).take k) ([],[]);rw[<-g2]at this;simp only[List.length_nil,ahv]at this;omega
   have Y0:∀y∈C,y.length<=100000:=(by grind)
   have fg:=yj rules ((TN rules a' a3).take k) ([],[]);rw[<-g2]at fg
   have dB:∀(s':List kE×List Int)(v:Int),s'=ek rules (C,O) (TN rules a' a3)[k]->v=ji rules s'.1 (TN rules a' a3)[k]->∀wk:List Int,wk.length=bits.length->(∀i,∀h:i<wk.length,∀h2:i<bits.length,wk[i]=if k=i then v else bits[i])->
    (a'=a'/\(s'.1,s'.2)=((TN rules a' a3).take (k+1)).foldl (ek rules) ([],[])/\wk.length=(TN rules a' a3).length/\∀i,∀h:i<wk.length,∀h2:i<(TN rules a' a3).length,i<k+1->wk[i]=ji rules s'.1 (TN rules a' a3)[i]):=λs' v hs' dX wk hbl hbv=>by
    refine⟨rfl,by rw[fold_succ bi,<-g2,<-hs'],by omega,λi h h2 hi=>?_⟩;rw[hbv i h (by omega)];by_cases e:k=i
    .grind
    .rw[ai e,g4 i (by omega) h2 (by omega),hs']
     have:=Es rules (C,O) [(TN rules a' a3)[k]] (TN rules a' a3)[i] λdJ=>fg _ (List.mem_take_iff_getElem.2 ⟨i,by omega,rfl⟩) dJ
     exact this.symm
   have Ot:∀v:Int,(bG bits (k:Int) v).length=bits.length/\∀i,∀h:i<(bG bits (k:Int) v).length,∀h2:i<bits.length,(bG bits (k:Int) v)[i]=if k=i then v else bits[i]:=λv=>⟨fo _ _ _,λi h h2=>by simp only[bG,agE,List.getElem_set]⟩
   have Ou:∀v w:Int,(bG (bG bits (k:Int) w) (k:Int) v).length=bits.length/\∀i,∀h:i<(bG (bG bits (k:Int) w) (k:Int) v).length,∀h2:i<bits.length,(bG (bG bits (k:Int) w) (k:Int) v)[i]=if k=i then v else bits[i]:=λv w=>⟨by rw[fo,fo],λi h h2=>by
    simp only[bG,agE,List.getElem_set]
    grind⟩
   refine Wp.seq (λj=>j.1=a'/\(j.2.2.1,j.2.2.2)=((TN rules a' a3).take (k+1)).foldl (ek rules) ([],[])/\j.2.1.length=(TN rules a' a3).length/\∀i,∀h:i<j.2.1.length,∀h2:i<(TN rules a' a3).length,i<k+1->j.2.1[i]=ji rules j.2.2.1 (TN rules a' a3)[i]) (.aW CQ (.bind (.idx k rfl (by omega) (.aW (aM hb) ?_)))) λj hj=> .some ⟨bi,aL (by omega),hj⟩
   have Pq:=K6 hb;rw[<-Pq];have TX:=Px (TN rules a' a3)[k];refine .dec (λh=> .some ?_) (λh=> .aW (HX C _ (by omega) Y0) ?_)
   .have h0:(gd rules (TN rules a' a3)[k]).length=0:=by exact_mod_cast h
    exact dB (C,O) (-1) (by unfold ek;rw[aj h0]) (by unfold ji;rw[aj h0]) _ (Ot (-1)).1 (Ot (-1)).2
   .have h0:¬(gd rules (TN rules a' a3)[k]).length=0:=λg=>h (by rw[g];rfl)
    refine Wp.seq (λj=>j.2.1=a'/\(j.2.2.1,j.2.2.2)=ek rules (C,O) (TN rules a' a3)[k]/\j.1=ji rules j.2.2.1 (TN rules a' a3)[k]) (.dec (λhn=> .aW (K5 _ TX) (.bind (.wM (by simp;omega) (.bind (.wM (by simp;omega) (.some ⟨rfl,?_,?_⟩)))))) (λhn=> .some ⟨rfl,?_,?_⟩)) λj hj=> .bind (.idx k rfl (by grind) (.some ?_))
    .grind [ek]
    .grind [ji,wh]
    .grind [ek]
    .unfold ji;rw[ai h0]
    .obtain⟨j1,j2,j3⟩:=hj;have:=dB (j.2.2.1,j.2.2.2) j.1 j2 j3 _ (Ou j.1 (-1)).1 (Ou j.1 (-1)).2
     grind
  .have:k=(TN rules a' a3).length:=by omega
   subst this;rw[List.take_length]at g2
   have e1:C=(CS rules a' a3).1:=by rw[TU,<-g2]
   have e2:O=(CS rules a' a3).2:=by rw[TU,<-g2]
   show(a',bits,C,O)=_
   grind [List.ext_getElem,List.length_map]
 .subst hj;exact .aW Qv (.aW TT (.some rfl))
end L
namespace L
def BV{α:Type}(P:Nat->Bool)(f:Int->List α):∀m,(ids P m).flatMap f=(agw m).flatMap λi:Nat=>if P i=af then f (i:Int)else[]
 |0=>rfl
 |m+1=>by
  rw[mr,qt,List.flatMap_append,BV P f m]
  grind
def Eu{α β:Type}{l:List α}{f g:α->List β}(h:∀x∈l,f x=g x):l.flatMap f=l.flatMap g:=by
 induction l<;>grind
def BW{O:List Int}{n:Nat}{v:Int}(h:v∉O):eP O n v=[]:=by
 unfold eP;rw[aj];unfold wN;refine List.length_eq_zero_iff.2 (List.eq_nil_iff_forall_not_mem.2 λj hj=>?_)
 grind [uV]
def Qw{rules:List my}{a d:Int}(h:Fit rules a d){v:Int}(hv:v∈OO rules a d):v= -1\/v= -2\/v∈iY rules a d:=by
 obtain⟨c,_,rfl⟩:=List.mem_map.1 hv
 have hl:(iY rules a d).length=(TN rules a d).length:=by rw[sf];simp
 have hp:(iU rules a d).length=(iY rules a d).length:=by rw[hl];unfold iU TN;simp
 obtain⟨_,hr⟩:=wi (iU rules a d) (lv rules a d) ((BB rules a d).map (flag (c:Int))) (by have:=h.t8;omega);unfold oc;generalize BU (iU rules a d) (lv rules a d) ((BB rules a d).map (flag (c:Int)))=s at hr;unfold Pl at hr
 rcases hr with rfl|rfl|⟨h0,h1⟩
 .exact .inl rfl
 .exact .inr (.inl rfl)
 .refine .inr (.inr ?_);obtain⟨x,hx,hm⟩:=v8 (l:=iY rules a d) h0 (by omega)
  grind [zR]
def K7{rules:List my}{a d:Int}(h:Fit rules a d):(agw (rules.length+2)).flatMap (λk:Nat=>eP (OO rules a d) (CS rules a d).1.length ((k:Int)-2))=RR rules a d:=by
 unfold RR;generalize hn:(CS rules a d).1.length=n;rw[Nat.add_comm,List.range_add,List.flatMap_append,List.flatMap_append]
 congr 1
 rw[List.flatMap_map];unfold iY;rw[BV]
 refine Eu λi hi=>?_
 have e:((2+i:Nat):Int)-2=(i:Int):=by omega
 rw[e];split
 .rfl
 .rename_i g
  refine BW λhm=>?_
  rcases Qw h hm with h1|h1|h1
  .omega
  .omega
  .obtain⟨j,hj,hp,e⟩:=uV.1 h1
   grind
def K8{l:Lw}{x:Rf}{a1 a2 a3:Int}(hx:idx l.2.2 a1=aa x)(hf:Fit x.2.2.2.2 a2 a3):M.kM aR l a1 a2 a3=aa (a2,(CS x.2.2.2.2 a2 a3).1,(CS x.2.2.2.2 a2 a3).2,RR x.2.2.2.2 a2 a3):=by
 unfold M.kM;rw[hx,ago,KW x a2 a3 (by have:=hf.len;omega),ago];have U2:=K4 (rules:=x.2.2.2.2) (a:=a2) (d:=a3);have TU:CS x.2.2.2.2 a2 a3=(TN x.2.2.2.2 a2 a3).foldl (ek x.2.2.2.2) ([],[]):=rfl;have hBB:BB x.2.2.2.2 a2 a3=(TN x.2.2.2.2 a2 a3).map (ji x.2.2.2.2 (CS x.2.2.2.2 a2 a3).1):=rfl
 have hOO:OO x.2.2.2.2 a2 a3=(agw (2 ^ (CS x.2.2.2.2 a2 a3).1.length)).map λc:Nat=>oc (iY x.2.2.2.2 a2 a3) (iU x.2.2.2.2 a2 a3) (lv x.2.2.2.2 a2 a3) (BB x.2.2.2.2 a2 a3) (c:Int):=rfl
 have Ie:=sf x.2.2.2.2 a2 a3
 have rA:(iY x.2.2.2.2 a2 a3).length=(TN x.2.2.2.2 a2 a3).length:=by rw[Ie];simp
 have vq:(iU x.2.2.2.2 a2 a3).length=(TN x.2.2.2.2 a2 a3).length:=by unfold iU TN;simp
 have Pz:=hf.Qu;have hn8:=hf.n8;have OI:=hf.conds;have Px:=hf.gd;have ht8:=hf.t8;have TF:=hf.len;have hRR:=K7 hf;generalize x.2.2.2.2=rules at*;dsimp only;refine Wp.eq (Wp.seq (λj=>j=(a2,(CS rules a2 a3).1,(CS rules a2 a3).2)) ?_ λj hj=>?_)
 .rw[rA]
  refine Wp.count (λs=>s.1) (TN rules a2 a3).length (λk s=>s.2.1=a2/\(s.2.2.1,s.2.2.2)=((TN rules a2 a3).take k).foldl (ek rules) ([],[])) (by omega) rfl ⟨rfl,rfl⟩ λk s hk hs hJ=>?_
  obtain⟨kk,a',C,O⟩:=s;obtain⟨g1,g2⟩:=hJ;dsimp only at hs g1 g2⊢;subst hs g1;refine .dec (λh=>?_) (λh=> .some ?_)
  .have bi:k<(TN rules a' a3).length:=by omega
   have hb:=U2 _ (agy bi)
   have CQ:idx (iY rules a' a3) (k:Int)=aa (((TN rules a' a3)[k]:Nat):Int):=by rw[Ie,aM (by simpa using bi)];simp
   have TV:C.length<=8:=by have:=Pz k;rw[<-g2]at this;exact this
   have TW:O.length<=8:=by have:=FN rules ((TN rules a' a3).take k) ([],[]);rw[<-g2]at this;simp only[List.length_nil,ahv]at this;omega
   have Y0:∀y∈C,y.length<=100000:=(by grind)
   refine Wp.seq (λj=>j.1=a'/\(j.2.1,j.2.2)=((TN rules a' a3).take (k+1)).foldl (ek rules) ([],[])) (.aW CQ (.aW (aM hb) ?_)) λj hj=> .some ⟨bi,aL (by omega),hj⟩
   have Pq:=K6 hb;rw[<-Pq,fold_succ bi,<-g2];have TX:=Px (TN rules a' a3)[k]
   refine Wp.seq (λj=>j=af↔(gd rules (TN rules a' a3)[k]).length≠0/\¬0<=iy (gd rules (TN rules a' a3)[k]) C) (.dec (λh=> .aW (BT C _ (by omega) Y0) (.some ?_)) (λh=> .some (by grind))) λj hj=> .ite (λh=>?_) (λh=> .some ⟨rfl,?_⟩)
   .grind
   .obtain⟨h0,h1⟩:=hj.1 h;refine .bind (.wM (by simp;omega) (.bind (.wM (by simp;omega) (.aW CQ (.bind (.wM (by simp;omega) (.some ⟨rfl,?_⟩)))))))
    grind [ek]
   grind [ek]
  .have:k=(TN rules a' a3).length:=by omega
   subst this;rw[List.take_length]at g2
   show(a',C,O)=_
   grind
 subst hj;dsimp only;have TY:=OI (TN rules a2 a3);rw[<-TU]at TY;have h8:=r8 hn8
 refine Wp.seq (λj=>j=OO rules a2 a3) ?_ λj hj=>?_
 .rw[hOO];generalize hn:(CS rules a2 a3).1.length=n at*
  refine Wp.count (λs=>s.1) (2 ^ n) (λk s=>s.2=(agw k).map λc:Nat=>oc (iY rules a2 a3) (iU rules a2 a3) (lv rules a2 a3) (BB rules a2 a3) (c:Int)) (by omega) rfl rfl λk s hk hs hJ=>?_
  obtain⟨kk,O⟩:=s;dsimp only at hs hJ⊢;subst hs hJ;refine .aW (oG (by omega)) (.dec (λh=>?_) (λh=> .some ?_))
  .have bi:k<2 ^ n:=by exact_mod_cast h
   refine Wp.seq (λj=>j=(agw (k+1)).map λc:Nat=>oc (iY rules a2 a3) (iU rules a2 a3) (lv rules a2 a3) (BB rules a2 a3) (c:Int)) ?_ λj hj=> .some ⟨bi,aL (by omega),hj⟩
   rw[rA]
   refine Wp.seq (λj=>j=(BB rules a2 a3).map (flag (k:Int))) ?_ λj hj=>?_
   .rw[hBB]
    refine Wp.count (λs=>s.1) (TN rules a2 a3).length (λi s=>s.2=(((TN rules a2 a3).take i).map (ji rules (CS rules a2 a3).1)).map (flag (k:Int))) (by omega) rfl rfl λi s hi hs hJ=>?_
    obtain⟨ii,F⟩:=s;dsimp only at hs hJ⊢;subst hs hJ;refine .dec (λh=>?_) (λh=> .some ?_)
    .have Hv:i<(TN rules a2 a3).length:=by omega
     have hb:=U2 _ (agy Hv)
     have CQ:idx (iY rules a2 a3) (i:Int)=aa (((TN rules a2 a3)[i]:Nat):Int):=by rw[Ie,aM (by grind)];simp
     refine Wp.seq (λs=>s=(((TN rules a2 a3).take (i+1)).map (ji rules (CS rules a2 a3).1)).map (flag (k:Int))) (.aW CQ (.aW (aM hb) ?_)) λj hj=> .some ⟨Hv,aL (by omega),hj⟩
     rw[<-K6 hb]
     have Ov:∀v:Bool,v=flag (k:Int) (ji rules (CS rules a2 a3).1 (TN rules a2 a3)[i])->(((TN rules a2 a3).take i).map (ji rules (CS rules a2 a3).1)).map (flag (k:Int))++[v]=(((TN rules a2 a3).take (i+1)).map (ji rules (CS rules a2 a3).1)).map (flag (k:Int)):=λv hv=>by
      grind [ag5]
     refine .dec (λh=> .bind (.wM (by simp;omega) (.some (Ov _ ?_)))) (λh=> .aW (BT _ _ (by omega) TY) ?_)
     .grind [ji,flag]
     .have h0:¬(gd rules (TN rules a2 a3)[i]).length=0:=λg=>h (by rw[g];rfl)
      have hc:0<=iy (gd rules (TN rules a2 a3)[i]) (CS rules a2 a3).1:=by
       rw[TU];exact yj rules _ _ _ (agy Hv) h0
      refine .aW (K3 hc) (.bind (.wM (by simp;omega) (.some (Ov _ ?_))));unfold ji flag;rw[ai h0,ai (by omega)];rfl
    .have:i=(TN rules a2 a3).length:=by omega
     subst this
     show _=_
     grind
   .subst hj;obtain⟨hs,hr⟩:=wi (iU rules a2 a3) (lv rules a2 a3) ((BB rules a2 a3).map (flag (k:Int))) (by omega);rw[S.Qt]at hs;refine .aW hs ?_;have Nu:oc (iY rules a2 a3) (iU rules a2 a3) (lv rules a2 a3) (BB rules a2 a3) (k:Int)=Oq (iY rules a2 a3) (BU (iU rules a2 a3) (lv rules a2 a3) ((BB rules a2 a3).map (flag (k:Int)))):=rfl;rw[List.range_succ,List.map_append];generalize BU (iU rules a2 a3) (lv rules a2 a3) ((BB rules a2 a3).map (flag (k:Int)))=v at hr Nu⊢;unfold Pl at hr
    refine Wp.seq (λj=>j=Oq (iY rules a2 a3) v) (.dec (λh=> .aW (zR h (by omega)) (.some rfl)) (λh=> .some ?_)) λj hj=> .bind (.wM (by simp;omega) (.some ?_))
    all_goals grind [Oq]
  .have:k=2 ^ n:=by have:¬k<2 ^ n:=λg=>h (by grind);omega
   subst this;rfl
 subst hj;rw[<-hRR]
 have hOl:(OO rules a2 a3).length<=256:=by rw[hOO];simp;omega
 generalize hn:(CS rules a2 a3).1.length=n at*
 refine Wp.seq (λj=>j=(a2,(CS rules a2 a3).1,(CS rules a2 a3).2,(agw (rules.length+2)).flatMap λk:Nat=>eP (OO rules a2 a3) n ((k:Int)-2))) ?_ λj hj=> .some (by rw[hj])
 generalize OO rules a2 a3=O at hOl⊢;generalize(CS rules a2 a3).1=C at*;generalize(CS rules a2 a3).2=W at*
 refine Wp.count (λs=>s.1+2) (rules.length+2) (λk s=>s.2.1=a2/\s.2.2.1=C/\s.2.2.2.1=W/\s.2.2.2.2=((agw k).flatMap λk:Nat=>eP O n ((k:Int)-2))/\s.2.2.2.2.length<=k*65536) (by omega) rfl ⟨rfl,rfl,rfl,rfl,agt _⟩ λk s hk hs hJ=>?_
 obtain⟨v,a',C',W',acc⟩:=s;obtain⟨g1,g2,g3,g4,g5⟩:=hJ;dsimp only at hs g1 g2 g3 g4 g5⊢
 obtain rfl:v=(k:Int)-2:=by omega
 subst g1 g2 g3;refine .dec (λh=>?_) (λh=> .some ?_)
 .have bi:k<rules.length+2:=by omega
  have KS:=wj O n ((k:Int)-2)
  have hw:agp.wrap ((k:Int)-2+1)+2=((k+1:Nat):Int):=by rw[aE (by omega) (by omega)];omega
  refine Wp.seq (λs=>s=(a',C',W',acc++eP O n ((k:Int)-2))) ?_ λj hj=> .some ⟨bi,hw,by rw[hj],by rw[hj],by rw[hj],by rw[hj,qt,<-g4],by grind⟩
  refine Wp.seq (λs=>s=(a',C',W',acc++eP O n ((k:Int)-2))) ?_ λj hj=> .some (by rw[hj])
  refine Wp.seq (λj=>j=wN O ((k:Int)-2)) ?_ λj hj=>?_
  .refine Wp.count (λs=>s.1) O.length (λi s=>s.2=ids (λz=>decide (O[z]? =aa ((k:Int)-2))) i) (by omega) rfl rfl λi s hi hs hJ=>?_
   obtain⟨ii,l⟩:=s;dsimp only at hs hJ⊢;subst hs hJ;refine .dec (λh=>?_) (λh=> .some ?_)
   .have rA:i<O.length:=by omega
    have hl:=oI (λz=>decide (O[z]? =aa ((k:Int)-2))) i
    refine Wp.seq (λs=>s=ids (λz=>decide (O[z]? =aa ((k:Int)-2))) (i+1)) (.bind (.idx i rfl rA ?_)) λj hj=> .some ⟨rA,aL (by omega),hj⟩
    rw[mr,agx rA];refine .dec (λh=> .bind (.wM (by simp;omega) (.some ?_))) (λh=> .some ?_)
    all_goals grind
   .have:i=O.length:=by omega
    subst this;rfl
  .subst hj;have vq:=oI (λz=>decide (O[z]? =aa ((k:Int)-2))) O.length;refine .dec (λh=> .some ?_) (λh=> .aW (Nl (l:=wN O ((k:Int)-2)) (by unfold wN;omega) (n:Int)) ?_)
   .grind [eP]
   .have dJ:¬(wN O ((k:Int)-2)).length=0:=λg=>h (by rw[g];rfl)
    have hr:eP O n ((k:Int)-2)=(mn (wN O ((k:Int)-2)) n).map λp=>(p,(k:Int)-2):=by unfold eP;rw[ai dJ]
    have LS:=Et (wN O ((k:Int)-2)) n;rw[hr];have hmn:HT (IK (n:Int)) (λx=>(x:Int)∈wN O ((k:Int)-2)) (dR (wN O ((k:Int)-2)))=mn (wN O ((k:Int)-2)) n:=rfl;rw[hmn];generalize mn (wN O ((k:Int)-2)) n=ps at LS⊢
    refine Wp.count (λs=>s.1) ps.length (λi s=>s.2=(a',C',W',acc++(ps.take i).map λp=>(p,(k:Int)-2))) (by omega) rfl (by simp) λi s hi hs hJ=>?_
    obtain⟨ii,Sd,C'',W'',l⟩:=s;cases hJ;dsimp only at hs⊢;subst hs;refine .dec (λh=>?_) (λh=> .some ?_)
    .have rA:i<ps.length:=by omega
     refine .bind (.idx i rfl rA (.bind (.wM (by simp;omega) (.some ⟨rA,aL (by omega),?_⟩))))
     grind [ag5]
    .have:i=ps.length:=by omega
     subst this
     show(_,_,_,acc++_)=_
     grind
 .have:k=rules.length+2:=by omega
  subst this
  show(a',C',W',acc)=_
  rw[g4]
end L
namespace L
abbrev two:List bo.den:=[((⟨#[115]⟩:ByteArray),((-1:Int),(([((⟨#[120]⟩:ByteArray),((1:Int),(0:Int)))]:List bI.den),(([((⟨#[100]⟩:ByteArray),((2:Int),(0:Int)))]:List bI.den),([((⟨#[97]⟩:ByteArray),((0:Int),((-1:Int),((0:Int),(((0:Int),(109573:Int)),(([]:List az.den),(([((2:Int),(1:Int))]:List az.den),ByteArray.empty))))))),((⟨#[98]⟩:ByteArray),((0:Int),((0:Int),((0:Int),(((0:Int),(109573:Int)),(([((7:Int),(0:Int))]:List az.den),(([((2:Int),(2:Int))]:List az.den),ByteArray.empty)))))))]:List dD.den)))))]
end L
namespace L
end L
namespace L
end L
namespace L.P
abbrev Vl:Type:=aA.den
abbrev Ty:Type:=az.den
def aJ{α:Type}{c:Prop}[Decidable c]{a b:α}:(if c then aa a else aa b)=aa (if c then a else b):=by split<;>rfl
def jz(a b:Bool):(if a=af then af else b)=(a||b):=by cases a<;>rfl
def gT(a b:Bool):(if a=af then b else ag)=(a&&b):=by cases a<;>rfl
def be(k e n:Int):Prop:=
 (k=1/\e=0/\0<=n/\n<=1)\/(k=2/\e=0/\-1000000000000<=n/\n<=1000000000000)\/(k=3/\e=0/\-1000000000000000<=n/\n<=1000000000000000)\/
 (k=4/\e=0/\-1000000000<=n/\n<=1000000000)\/(k=5/\e=0/\0<=n/\n<=109572)\/(k=6/\0<=e/\e<=7/\0<=n/\n<=15)
instance(k e n:Int):Decidable (be k e n):=by unfold be;infer_instance
theorem cy(N:Nat)(v:Vl):M.cC N v=aa (decide (be v.1 v.2.1 v.2.2)):=by
 revert v;rintro⟨(k:Int),(e:Int),(n:Int)⟩
 unfold M.cC;simp only[aJ,ago,jz,gT];refine av aa ?_;by_cases h1:k=1
 .subst h1;rw[ag2];simp[be];grind
 by_cases h2:k=2
 .grind [P.be]
 by_cases h3:k=3
 .grind [P.be]
 by_cases h4:k=4
 .grind [P.be]
 by_cases h5:k=5
 .grind [P.be]
 by_cases h6:k=6
 .subst h6;rw[ag2];simp[be];grind
 simp[be,h1,h2,h3,h4,h5,h6]
def ub(k e n a b:Int):Prop:=be k e n/\k=a/\e=b
instance(k e n a b:Int):Decidable (ub k e n a b):=by unfold ub;infer_instance
abbrev K9(v:Vl)(t:Ty):Prop:=ub v.1 v.2.1 v.2.2 t.1 t.2
theorem rq(N:Nat)(v:Vl)(t:Ty):M.jQ N v t=aa (decide (K9 v t)):=by
 unfold M.jQ;rw[cy];simp only[aJ,ago,gT]
 grind [P.ub]
def uB(op k e:Int):Prop:=e=0/\(if op=36 then k=2\/k=3 else if op=39 then 2<=k/\k<=5 else k=1)
instance(op k e:Int):Decidable (uB op k e):=by unfold uB;infer_instance
abbrev Nw(op:Int)(t:Ty):Prop:=uB op t.1 t.2
theorem eo(N:Nat)(k:Int):M.fB N k=aa (decide (2<=k/\k<=4)):=by
 unfold M.fB;simp only[aJ,ago,jz];refine av aa ?_
 grind
def n9(N:Nat)(op:Int)(t:Ty):M.eH N op t=aa (decide (Nw op t)):=by
 unfold M.eH;rw[eo];simp only[aJ,ago,jz,gT];refine av aa ?_;obtain⟨(k:Int),(e:Int)⟩:=t;rw[ag2]
 show _↔decide (uB op k e)=af
 unfold uB
 grind
def fold(op acc n:Int)(first:Bool):Int:=
 if op=36 then acc+n else if op=37 then acc*n else if op=38 then(if acc<n then n else acc)else(if first=af\/acc<n then n else acc)
def kq(op:Int)(t:Ty)(j:Nat):List (List Vl)->Bool->Int->Int⊕Int
 |[],_,acc=> .inl acc
 |l::ms,first,acc=>match l[j]? with
  |none=> .inr 6
  |some v=>if(v.1:Int)=0 then .inr 6 else if K9 v t then
    (if be t.1 0 (fold op acc v.2.2 first)then kq op t j ms ag (fold op acc v.2.2 first)else .inr 3)else .inr 8
def pU(op:Int):Int:=if op=37 then 1 else 0
def La(op:Int)(t:Ty)(j:Nat)(ms:List (List Vl)):Vl×Int:=
 if op=39/\ms=[]then((0,0,0),6)else match kq op t j ms af (pU op)with
  | .inl a=>((t.1,0,a),0)
  | .inr c=>((0,0,0),c)
def FO(op:Int)(t:Ty)(first:Bool)(acc:Int):Prop:=(op=39/\first=af/\acc=0)\/be t.1 0 acc
def FP{op:Int}{t:Ty}(lH:op=36\/op=37\/op=38\/op=39)(ht:Nw op t):FO op t af (pU op):=by
 obtain⟨(k:Int),(e:Int)⟩:=t
 obtain⟨h0,h1⟩:=(show uB op k e from ht)
 show(op=39/\af=af/\pU op=0)\/be k 0 (pU op)
 grind [P.be,P.pU]
def pV{N:Nat}(hN:100001<=N){op:Int}(lH:op=36\/op=37\/op=38\/op=39){j:Nat}{env:bl.den}(hj:j<env.2.2.2.2.1.length)(hm:env.2.2.2.1.length<=100)(ht:Nw op env.2.2.2.2.1[j]):
 M.ew N (op,(j:Int)) env=aa (La op env.2.2.2.2.1[j] j env.2.2.2.1):=by
 obtain⟨d,ip,df,ms,ts,tb⟩:=env;simp only at hj hm ht⊢;apply Wp.eq;unfold M.ew;simp only;rw[aM hj];simp only[ago];generalize ts[j]=t at ht⊢;have Q0:(t.2:Int)=0:=(show uB op t.1 t.2 from ht).1
 have e1:(if decide (op=37)=af then aa (t.1,t.2,(1:Int))else aa (t.1,t.2,(0:Int)):Option Vl)=aa (t.1,t.2,pU op):=by
  unfold pU;by_cases h:op=37<;>simp[h]
 rw[e1];simp only[ago,aJ,gT];unfold La
 refine Wp.ite (λh=>?_) λh=>?_
 .have:op=39/\ms=[]:=by simpa using h
  rw[aj this];exact .some rfl
 .have L3:¬(op=39/\ms=[]):=by simpa using h
  rw[ai L3]
  refine Wp.join (Wp.loop (λs:Int×Vl=>∃k:Nat,∃acc:Int,s=((k:Int),(t.1,t.2,acc))/\k<=ms.length/\FO op t (decide (k=0)) acc/\kq op t j (ms.drop k) (decide (k=0)) acc=kq op t j ms af (pU op)) (λs=>(ms.length-s.1).toNat)
   ⟨0,pU op,rfl,Nat.zero_le _,FP lH ht,rfl⟩ (by grind) ?_)
  rintro _ ⟨k,acc,rfl,hk,If,hf⟩
  simp only
  refine Wp.dec (λh=>?_) λh=> .some (.some ?_)
  case refine_2=>
   grind [P.kq]
  have gD:k<ms.length:=by omega
  have hd:ms.drop k=ms[k]::ms.drop (k+1):=List.drop_eq_getElem_cons gD;rw[hd]at hf;rw[aM gD];simp only[ago];rw[kq]at hf;by_cases hl:j<ms[k].length
  .rw[agx hl]at hf;simp only at hf;rw[aM hl];simp only[ago,aJ,jz,rq,cy];generalize ms[k][j]=v at hf⊢;by_cases hv:(v.1:Int)=0
   .rw[aj hv]at hf;rw[aj (by simp[hv])];refine .some ?_
    show _=_
    rw[<-hf]
   .rw[ai hv]at hf;rw[ai (by grind)];by_cases hh:K9 v t
    .rw[aj hh]at hf;rw[ai (by simp[hh])]
     obtain⟨hp,Kb,OJ⟩:=(show ub _ _ _ _ _ from hh)
     refine Wp.join ?_
     have key:∀a,fold op acc v.2.2 (decide (k=0))=a->be t.1 0 a->FF (λs:Int×Vl=>∃k:Nat,∃acc:Int,s=((k:Int),(t.1,t.2,acc))/\k<=ms.length/\FO op t (decide (k=0)) acc/\kq op t j (ms.drop k) (decide (k=0)) acc=kq op t j ms af (pU op)) (λs=>(ms.length-s.1).toNat) ((k:Int),(t.1,t.2,acc)) (tX (λj4=>aa (j4,(0:Int))) λx=>x=match kq op t j ms af (pU op)with
      | .inl a=>((t.1,0,a),0)
      | .inr c=>((0,0,0),c)) (.inl (agp.wrap ((k:Int)+1),(t.1,t.2,a))):=by
      intro a ha hpa;subst ha;rw[aj hpa]at hf;rw[aL (by omega)];refine⟨⟨k+1,_,rfl,gD, .inr hpa,?_⟩,by grind⟩;rw[show decide (k+1=0)=ag by simp];exact hf
     rcases lH with rfl|rfl|rfl|rfl
     all_goals simp only[decide_true,decide_false,if_true,if_false,ahu,ags,Bool.not_true,Bool.not_false]
     .have TZ:be t.1 0 acc:=by
       rcases If with h|h
       .grind
       .exact h
      have L4:fold 36 acc v.2.2 (decide (k=0))=acc+v.2.2:=by simp[fold]
      have hw:agp.wrap (acc+v.2.2)=acc+v.2.2:=by
       revert TZ hp;generalize(v.2.2:Int)=n;generalize(v.1:Int)=vk;generalize(v.2.1:Int)=ve;generalize(t.1:Int)=tk;intro h1 h2;unfold be at h1 h2;dsimp only[ay,Row.den]at*;exact aE (by omega) (by omega)
      rw[hw];rw[L4]at hf;by_cases vq:be t.1 0 (acc+v.2.2)
      .rw[ai (by grind)];exact .some (.some (key _ L4 vq))
      .rw[aj (by grind)];rw[ai vq]at hf;refine .some ?_
       show _=_
       rw[<-hf]
     .have hb:(0<=(v.2.2:Int)/\(v.2.2:Int)<=1)/\0<=acc/\acc<=1/\(t.1:Int)=1:=by
       have h1:=(show uB 37 t.1 t.2 from ht).2
       have h2:be t.1 0 acc:=by
        rcases If with h|h
        .grind
        .exact h
       rw[Kb]at hp;revert h1 h2 hp;generalize(v.2.2:Int)=n;generalize(v.2.1:Int)=ve;generalize(t.1:Int)=tk;intro h3 h1 h2;unfold be at h2 h3;simp at h1;dsimp only[ay,Row.den]at*;omega
      obtain⟨⟨b1,b2⟩,b3,b4,b5⟩:=hb
      have L4:fold 37 acc v.2.2 (decide (k=0))=(if v.2.2<acc then v.2.2 else acc:Int):=by
       have Y1:(v.2.2:Int)=0\/(v.2.2:Int)=1:=by revert b1 b2;generalize(v.2.2:Int)=n;intro b1 b2;dsimp only[ay,Row.den]at*;omega
       have Y2:acc=0\/acc=1:=by omega
       rcases Y1 with e1|e1<;>rcases Y2 with e2|e2<;>simp[fold,e1,e2]
      refine .some (.some (key _ L4 ?_));refine .inl ⟨b5,rfl,?_⟩
      grind
     .have L4:fold 38 acc v.2.2 (decide (k=0))=(if acc<v.2.2 then v.2.2 else acc:Int):=by simp[fold]
      have h2:be t.1 0 acc:=by
       rcases If with h|h
       .grind
       .exact h
      refine .some (.some (key _ L4 ?_))
      grind
     .have h3:be t.1 0 v.2.2:=by rw[Kb,OJ,Q0]at hp;exact hp
      by_cases hc:((k:Int)=0)\/acc<v.2.2
      .have L4:fold 39 acc v.2.2 (decide (k=0))=v.2.2:=by
        have:k=0\/acc<v.2.2:=hc.imp (λh=>by omega) id;simp[fold,this]
       rw[aj (by simpa using hc)]
       have hv3:v=(t.1,t.2,v.2.2):=by rw[<-Kb,<-OJ]
       rw[hv3];exact .some (.some (key _ L4 h3))
      .have L4:fold 39 acc v.2.2 (decide (k=0))=acc:=by
        have:¬(k=0\/acc<v.2.2):=(by grind)
        simp[fold,this]
       rw[ai (by simpa using hc)];refine .some (.some (key _ L4 ?_))
       rcases If with h|h
       all_goals grind
    .rw[ai hh]at hf;rw[aj (by simp[hh])];refine .some ?_
     show _=_
     rw[<-hf]
  .rw[List.getElem?_eq_none (by omega)]at hf;rw[aj (by simp;omega)];refine .some ?_
   show _=_
   rw[<-hf]
end L.P
namespace L.P
theorem iZ{n:Int}(h0:0<=n)(h1:n<18446744073709551616):agr.wrap n=n:=by
 simp[IntKind.wrap,ahL,IntKind.signed];omega
theorem iR(n:Int):agr.wrap n=n%18446744073709551616:=by
 simp[IntKind.wrap,ahL,IntKind.signed]
def k7(n:Int):0<=agr.wrap n/\agr.wrap n<18446744073709551616:=by rw[iR];omega
def FQ(a:Int):bx .u64 a 32=a/4294967296:=by
 unfold bx;rw[show min (32:Int).toNat agr.bits=32 from rfl];exact ahT _ (by decide)
def T4(a:Int):bx .u64 a 16=a/65536:=by
 unfold bx;rw[show min (16:Int).toNat agr.bits=16 from rfl];exact ahT _ (by decide)
def Y3(a:Int):bx .u64 a 8=a/256:=by
 unfold bx;rw[show min (8:Int).toNat agr.bits=8 from rfl];exact ahT _ (by decide)
def zS:ByteArray:=(⟨#[0,1,2,2,3,3,3,3,4,4,4,4,4,4,4,4,5,5,5,5,5,5,5,5,5,5,5,5,5,5,5,5,6,6,6,6,6,6,6,6,6,6,6,6,6,6,6,6,6,6,6,6,6,6,6,6,6,6,6,6,6,6,6,6,7,7,7,7,7,7,7,7,7,7,7,7,7,7,7,7,7,7,7,7,7,7,7,7,7,7,7,7,7,7,7,7,7,7,7,7,7,7,7,7,7,7,7,7,7,7,7,7,7,7,7,7,7,7,7,7,7,7,7,7,7,7,7,7,8,8,8,8,8,8,8,8,8,8,8,8,8,8,8,8,8,8,8,8,8,8,8,8,8,8,8,8,8,8,8,8,8,8,8,8,8,8,8,8,8,8,8,8,8,8,8,8,8,8,8,8,8,8,8,8,8,8,8,8,8,8,8,8,8,8,8,8,8,8,8,8,8,8,8,8,8,8,8,8,8,8,8,8,8,8,8,8,8,8,8,8,8,8,8,8,8,8,8,8,8,8,8,8,8,8,8,8,8,8,8,8,8,8,8,8,8,8,8,8,8,8,8,8,8,8,8,8]⟩:ByteArray)
def Ow(n:Nat):Bool:=match oQ zS n with
 |some k=>decide (0<=k)&&decide (k<=8)&&decide (n<2 ^ k.toNat)&&(agu n 0||(decide (1<=k)&&decide (2 ^ (k.toNat-1)<=n)))
 |none=>ag
def Nx:(agw 256).all Ow=af:=by kernel_rfl
def zw{n:Nat}(h:n<256):∃k:Nat,oQ zS n=aa (k:Int)/\k<=8/\n<2 ^ k/\(n≠0->1<=k/\2 ^ (k-1)<=n):=by
 have:=List.all_eq_true.1 Nx n (List.mem_range.2 h);unfold Ow at this;split at this
 case h_2=>cases this
 rename_i k hk;simp only[ahn,Bool.or_eq_true,aw,Nat.beq_eq]at this;obtain⟨⟨⟨h1,h2⟩,h3⟩,h4⟩:=this;refine⟨k.toNat,by rw[hk,Int.toNat_of_nonneg h1],by omega,h3,λhn=>?_⟩
 rcases h4 with h4|h4
 .exact absurd h4 hn
 .exact⟨by omega,h4.2⟩
def Qx{m b k:Nat}(h:m/2 ^ b<2 ^ k):m<2 ^ (b+k):=by
 rw[agS (Nat.two_pow_pos b)]at h;rw[ahN,agO];exact h
def Qy{m b k:Nat}(hk:1<=k)(h:2 ^ (k-1)<=m/2 ^ b):2 ^ (b+k-1)<=m:=by
 rw[Nat.le_div_iff_mul_le (Nat.two_pow_pos b)]at h;rw[show b+k-1=k-1+b by omega,ahN];exact h
def BX{N m:Nat}(hm:m<18446744073709551616):∃L:Nat,M.jm N m=aa (L:Int)/\L<=64/\m<2 ^ L/\(m≠0->1<=L/\2 ^ (L-1)<=m):=by
 have fin:∀(b q:Nat)(w:Int),q=m/2 ^ b->w=b->b<=56->q<256->(m≠0->q≠0)->∃L:Nat,((oQ zS (IntKind.u8.wrap (q:Int))).bind λx4=>aa (agp.wrap (w+agp.wrap x4)))=aa (L:Int)/\L<=64/\m<2 ^ L/\(m≠0->1<=L/\2 ^ (L-1)<=m):=by
  intro b q w hq hw hb h1 h2;subst hq;subst hw;obtain⟨k,g1,g2,g3,g4⟩:=zw h1
  have hu:IntKind.u8.wrap ((m/2 ^ b:Nat):Int)=((m/2 ^ b:Nat):Int):=by
   simp only[IntKind.wrap,ahL,IntKind.signed];generalize m/2 ^ b=q at h1⊢;simp;omega
  refine⟨b+k,?_,by omega,Qx g3,λdJ=>?_⟩
  .rw[hu,g1,ago,vX (by omega),<-Int.natCast_add,vX (by omega)]
  .obtain⟨g5,g6⟩:=g4 (h2 dJ);exact⟨by omega,Qy g5 g6⟩
 have e32:((m:Int)/4294967296)=((m/2 ^ 32:Nat):Int):=by rw[show(2 ^ 32:Nat)=4294967296 from rfl];omega
 have d48:m/2 ^ 32/2 ^ 16=m/2 ^ 48:=by rw[ahI,<-ahN]
 have d40:m/2 ^ 32/2 ^ 8=m/2 ^ 40:=by rw[ahI,<-ahN]
 have d56:m/2 ^ 48/2 ^ 8=m/2 ^ 56:=by rw[ahI,<-ahN]
 have d24:m/2 ^ 16/2 ^ 8=m/2 ^ 24:=by rw[ahI,<-ahN]
 have Y4:∀q:Nat,((q:Int)/65536)=((q/2 ^ 16:Nat):Int):=λq=>by rw[show(2 ^ 16:Nat)=65536 from rfl];omega
 have c8:∀q:Nat,((q:Int)/256)=((q/2 ^ 8:Nat):Int):=λq=>by rw[show(2 ^ 8:Nat)=256 from rfl];omega
 unfold M.jm;rw[show(⟨#[0,1,2,2,3,3,3,3,4,4,4,4,4,4,4,4,5,5,5,5,5,5,5,5,5,5,5,5,5,5,5,5,6,6,6,6,6,6,6,6,6,6,6,6,6,6,6,6,6,6,6,6,6,6,6,6,6,6,6,6,6,6,6,6,7,7,7,7,7,7,7,7,7,7,7,7,7,7,7,7,7,7,7,7,7,7,7,7,7,7,7,7,7,7,7,7,7,7,7,7,7,7,7,7,7,7,7,7,7,7,7,7,7,7,7,7,7,7,7,7,7,7,7,7,7,7,7,7,8,8,8,8,8,8,8,8,8,8,8,8,8,8,8,8,8,8,8,8,8,8,8,8,8,8,8,8,8,8,8,8,8,8,8,8,8,8,8,8,8,8,8,8,8,8,8,8,8,8,8,8,8,8,8,8,8,8,8,8,8,8,8,8,8,8,8,8,8,8,8,8,8,8,8,8,8,8,8,8,8,8,8,8,8,8,8,8,8,8,8,8,8,8,8,8,8,8,8,8,8,8,8,8,8,8,8,8,8,8,8,8,8,8,8,8,8,8,8,8,8,8,8,8,8,8,8,8]⟩:ByteArray)=zS from rfl];simp only[FQ,T4,Y3,e32,Y4,c8];by_cases h1:4294967296<=m
 .have a1:decide ((4294967296:Int)<=(m:Int))=af:=by simp;omega
  simp only[a1,if_true,ago,Y4,d48];by_cases h2:65536<=m/2 ^ 32
  .have a2:decide ((65536:Int)<=((m/2 ^ 32:Nat):Int))=af:=by simp;omega
   simp only[a2,if_true,ago,c8,d56];by_cases h3:256<=m/2 ^ 48
   .have a3:decide ((256:Int)<=((m/2 ^ 48:Nat):Int))=af:=by simp;omega
    simp only[a3,if_true,ago];exact fin 56 _ _ rfl (by kernel_rfl) (by omega) (by omega) (by omega)
   .have a3:decide ((256:Int)<=((m/2 ^ 48:Nat):Int))=ag:=by simp;omega
    simp only[a3,ags,if_false,ago];exact fin 48 _ _ rfl (by kernel_rfl) (by omega) (by omega) (by omega)
  .have a2:decide ((65536:Int)<=((m/2 ^ 32:Nat):Int))=ag:=by simp;omega
   simp only[a2,ags,if_false,ago,c8,d40];by_cases h3:256<=m/2 ^ 32
   .have a3:decide ((256:Int)<=((m/2 ^ 32:Nat):Int))=af:=by simp;omega
    simp only[a3,if_true,ago];exact fin 40 _ _ rfl (by kernel_rfl) (by omega) (by omega) (by omega)
   .have a3:decide ((256:Int)<=((m/2 ^ 32:Nat):Int))=ag:=by simp;omega
    simp only[a3,ags,if_false,ago];exact fin 32 _ _ rfl (by kernel_rfl) (by omega) (by omega) (by omega)
 .have a1:decide ((4294967296:Int)<=(m:Int))=ag:=by simp;omega
  simp only[a1,ags,if_false,ago,Y4];by_cases h2:65536<=m
  .have a2:decide ((65536:Int)<=(m:Int))=af:=by simp;omega
   simp only[a2,if_true,ago,c8,d24];by_cases h3:256<=m/2 ^ 16
   .have a3:decide ((256:Int)<=((m/2 ^ 16:Nat):Int))=af:=by simp;omega
    simp only[a3,if_true,ago];exact fin 24 _ _ rfl (by kernel_rfl) (by omega) (by omega) (by omega)
   .have a3:decide ((256:Int)<=((m/2 ^ 16:Nat):Int))=ag:=by simp;omega
    simp only[a3,ags,if_false,ago];exact fin 16 _ _ rfl (by kernel_rfl) (by omega) (by omega) (by omega)
  .have a2:decide ((65536:Int)<=(m:Int))=ag:=by simp;omega
   simp only[a2,ags,if_false,ago,c8];by_cases h3:256<=m
   .have a3:decide ((256:Int)<=(m:Int))=af:=by simp;omega
    simp only[a3,if_true,ago];exact fin 8 _ _ rfl (by kernel_rfl) (by omega) (by omega) (by omega)
   .have a3:decide ((256:Int)<=(m:Int))=ag:=by simp;omega
    simp only[a3,ags,if_false,ago];exact fin 0 m _ (by simp) (by kernel_rfl) (by omega) (by omega) (λh=>h)
def T5(rh:Int)(h:0<=rh):(if rh<4294967296 then(4294967296-rh).toNat else 4294967297)<aR:=by
 unfold aR
 split<;>omega
def Ig{hi lo y:Int}(h0:0<=hi)(h1:hi<y)(h2:y<18446744073709551616):∃r,M.cG aR hi lo y=aa r:=by
 have key:Wp (M.cG aR hi lo y) λ_=>True:=by
  unfold M.cG;rw[ai (by simp;omega),ai (by simp;omega)]
  refine Wp.dec (λ_=>?_) λdJ=>?_
  .unfold kB ph;rw[ai (by omega),ai (by omega)];exact .some trivial
  .obtain⟨m,rfl⟩:∃m:Nat,y=m:=⟨y.toNat,by omega⟩
   obtain⟨L,g1,g2,g3,g4⟩:=BX (N:=aR) (m:=m) (by omega);obtain⟨g4,g5⟩:=g4 (by omega);unfold M.dG;rw[g1]
   have hL:agr.wrap (agp.wrap ((64:Int)-(L:Int)))=((64-L:Nat):Int):=by
    rw[aE (by omega) (by omega),iZ (by omega) (by omega)];omega
   have Y5:agr.wrap ((64:Int)-((64-L:Nat):Int))=(L:Int):=by rw[iZ (by omega) (by omega)];omega
   simp only[ago,hL,Y5]
   have gE:∀a:Int,qC .u64 a ((64-L:Nat):Int)=aa (sI .u64 a ((64-L:Nat):Int)):=λa=>ai (by omega)
   have Y6:∀a:Int,ur .u64 a (L:Int)=aa (bx .u64 a (L:Int)):=λa=>ai (by omega)
   have Qz:∀a:Int,ur .u64 a ((64-L:Nat):Int)=aa (bx .u64 a ((64-L:Nat):Int)):=λa=>ai (by omega)
   simp only[gE,Y6,Qz,ago,FQ]
   have hy:9223372036854775808<=sI .u64 (m:Int) ((64-L:Nat):Int)/\sI .u64 (m:Int) ((64-L:Nat):Int)<18446744073709551616:=by
    unfold sI;rw[show min (((64-L:Nat):Int).toNat) agr.bits=64-L by simp[ahL]]
    have e1:m*2 ^ (64-L)<2 ^ 64:=by
     calc m*2 ^ (64-L)<2 ^ L*2 ^ (64-L):=Nat.mul_lt_mul_of_pos_right g3 (Nat.two_pow_pos _)
      _=2 ^ 64:=by rw[<-ahN];congr 1;omega
    have e2:2 ^ 63<=m*2 ^ (64-L):=by
     calc 2 ^ 63=2 ^ (L-1)*2 ^ (64-L):=by rw[<-ahN];congr 1;omega
      _<=m*2 ^ (64-L):=agA _ g5
    have e3:((m:Int)*2 ^ (64-L))=((m*2 ^ (64-L):Nat):Int):=by simp
    rw[e3,iZ (by omega) (by omega)];omega
   generalize sI .u64 (m:Int) ((64-L:Nat):Int)=x4 at hy⊢
   have hyn:0<x4/4294967296/\x4/4294967296<4294967296:=by omega
   generalize x4/4294967296=yn at hyn⊢
   have quo:∀a:Int,kB a yn=aa (agC a yn):=λa=>ai (by omega)
   simp only[quo,ago]
   have inv:∀rh:Int,0<=rh->rh<18446744073709551616->¬4294967296<=agr.wrap (rh+yn)->(if agr.wrap (rh+yn)<4294967296 then(4294967296-agr.wrap (rh+yn)).toNat else 4294967297)<(if rh<4294967296 then(4294967296-rh).toNat else 4294967297):=by
    intro rh i1 i2 hc;rw[aj (by omega)];by_cases hr:rh<4294967296
    .rw[aj hr];have:agr.wrap (rh+yn)=rh+yn:=iZ (by omega) (by omega);rw[this]at hc⊢;omega
    .rw[ai hr];have:=k7 (rh+yn);omega
   simp only[aJ,jz,ago]
   refine Wp.seq (λ_=>True) (Wp.seq (λ_=>True) (Wp.loop (λs:Int×Int=>0<=s.2/\s.2<18446744073709551616) (λs=>if s.2<4294967296 then(4294967296-s.2).toNat else 4294967297) (k7 _) (T5 _ (k7 _).1) ?_) λ_ _=> .some trivial) λj9 _=>?_
   .rintro⟨q,rh⟩ ⟨i1,i2⟩
    refine .some ?_;split
    .split
     .trivial
     .rename_i hc;exact⟨k7 _,inv rh i1 i2 (by simpa using hc)⟩
    .trivial
   refine Wp.seq (λ_=>True) (Wp.seq (λ_=>True) (Wp.loop (λs:Int×Int=>0<=s.1/\s.1<18446744073709551616) (λs=>if s.1<4294967296 then(4294967296-s.1).toNat else 4294967297) (k7 _) (T5 _ (k7 _).1) ?_) λ_ _=> .some trivial) λj14 _=> .some trivial
   .rintro⟨rh,q⟩ ⟨i1,i2⟩
    refine .some ?_;split
    .split
     .trivial
     .rename_i hc;exact⟨k7 _,inv rh i1 i2 (by simpa using hc)⟩
    .trivial
 obtain⟨x,hx,_⟩:=key;exact⟨x,hx⟩
def lW(N:Nat)(m:Int):M.dW N m=aa (decide (0<=m)&&decide (m<=5)):=by
 unfold M.dW;simp only[aJ,ago,gT]
def qu(N:Nat)(n l:Int):M.dc N n l=aa (decide (l<n)||decide (n<agp.wrap (0-l))):=by
 unfold M.dc;simp only[aJ,ago,jz]
theorem iS(N:Nat){n:Int}(h: -4611686018427387904<=n/\n<=4611686018427387904):M.cY N n=aa (if n<0 then-n else n):=by
 unfold M.cY;simp only[aJ];refine av aa ?_;by_cases hn:n<0
 .rw[aj (by simpa using hn),aj hn,iR n,iR];omega
 .rw[ai (by simpa using hn),ai hn,iZ (by omega) (by omega)]
end L.P
namespace L.P
def Cd(c:Int):Prop:=c=0\/c=3\/c=12
def zT{c:Prop}[Decidable c]{x y:Int×Int}(hx:Cd x.2)(hy:Cd y.2):Cd (if c then x else y).2:=by
 split
 .exact hx
 .exact hy
def IL(x:Int):Cd (x,(0:Int)).2:= .inl rfl
def Cd3(x:Int):Cd (x,(3:Int)).2:= .inr (.inl rfl)
def kr{n l:Int}(hl:0<=l/\l<=9000000000000000000)(h:¬(decide (l<n)||decide (n<agp.wrap (0-l)))=af): -l<=n/\n<=l:=by
 rw[aE (by omega) (by omega)]at h;simp at h;omega
def Ox(N:Nat)(a b c:Int)(d:Bool)(e:Int):Wp (M.cD N a b c d e) λ_=>True:=by
 unfold M.cD;simp only[aJ,ago];exact .some trivial
def yk(N:Nat)(a:Int)(b:Bool):Wp (M.gn N a b) λ_=>True:=by
 unfold M.gn;simp only[aJ];exact .some trivial
def mT(N:Nat){a b m:Int}(hm:0<=m/\m<=5):Wp (M.de N a b m) λr=>Cd r.2:=by
 unfold M.de;rw[lW];simp only[ago,qu];rw[ai (by simp;omega)]
 refine Wp.dec (λ_=> .some (by simp[Cd])) λhb=>?_
 simp only[aJ,ago,jz]
 refine Wp.ite (λ_=> .some (by simp[Cd])) λhc=>?_
 rw[Bool.or_eq_true,not_or]at hc;have ha:=kr (by omega) hc.1;have qR:=kr (by omega) hc.2;rw[iS N ha,iS N qR];simp only[ago]
 have dJ:(if b<0 then-b else b)≠0:=by split<;>omega
 rw[show∀x,kB x (if b<0 then-b else b)=aa (agC x (if b<0 then-b else b))from λx=>ai dJ,show∀x,ph x (if b<0 then-b else b)=aa (agD x (if b<0 then-b else b))from λx=>ai dJ];simp only[ago]
 exact Wp.seq _ (Ox ..) λx _=>Wp.seq _ (yk ..) λy _=> .some (by simp[Cd])
def si(N:Nat)(a b:Int):Wp (M.cX N a b) λr=>(0<=r.1/\r.1<18446744073709551616)/\0<=r.2/\r.2<18446744073709551616:=by
 unfold M.cX;exact .some ⟨k7 _,k7 _⟩
def wm{hi lo y:Int}(h0:0<=hi)(h1:hi<y)(h2:y<18446744073709551616):Wp (M.cG aR hi lo y) λ_=>True:=by
 obtain⟨r,hr⟩:=Ig (lo:=lo) h0 h1 h2;exact⟨r,hr,trivial⟩
def Ih{a b c m:Int}(hm:0<=m/\m<=5):Wp (M.jR aR a b c m) λr=>Cd r.2:=by
 unfold M.jR;rw[lW];simp only[ago,qu];rw[ai (by simp;omega)]
 refine Wp.dec (λ_=> .some (by simp[Cd])) λhb=>?_
 simp only[aJ,ago,jz]
 refine Wp.ite (λ_=> .some (by simp[Cd])) λhc=>?_
 simp only[Bool.or_eq_true,not_or]at hc;have ha:=kr (n:=a) (l:=1000000000000000) (by omega) (by simpa using hc.1);have qR:=kr (n:=b) (l:=1000000000) (by omega) (by simpa using hc.2.1);have UW:=kr (n:=c) (l:=1000000000) (by omega) (by simpa using hc.2.2);rw[iS _ (n:=a) (by omega),iS _ (n:=b) (by omega)];simp only[ago]
 refine Wp.seq _ (si ..) λr hr=>?_
 rw[iS _ (n:=c) (by omega)];simp only[ago]
 refine Wp.dec (λ_=> .some (by simp[Cd])) λhd=>?_
 have bi:(if c<0 then-c else c)<18446744073709551616:=by split<;>omega
 refine Wp.seq _ (wm hr.1.1 (by omega) bi) λq _=>?_
 refine Wp.dec (λ_=> .some (by simp[Cd])) λ_=>?_
 refine Wp.seq _ (Ox ..) λx _=>?_
 refine Wp.dec (λ_=> .some (by simp[Cd])) λ_=>?_
 exact Wp.seq _ (yk ..) λy _=> .some (by simp[Cd])
def wo{a b m:Int}(hm:0<=m/\m<=5):Wp (M.dH aR a b m) λr=>Cd r.2:=by
 unfold M.dH;rw[lW];simp only[ago,qu];rw[ai (by simp;omega)]
 refine Wp.dec (λ_=> .some (by simp[Cd])) λhb=>?_
 simp only[aJ,ago,jz]
 refine Wp.ite (λ_=> .some (by simp[Cd])) λhc=>?_
 refine Wp.seq _ (mT _ hm) λr hr=>?_
 refine .some ?_;split
 .exact hr
 .split<;>simp[Cd]
def yl(N:Nat)(m:Int):M.ik N m=aa (decide (0<=m)&&decide (m<=5)):=lW N m
def wq(N:Nat)(n l:Int):M.fW N n l=aa (decide (l<n)||decide (n<agp.wrap (0-l))):=qu N n l
def FR{a b m:Int}(hm:0<=m/\m<=5):Wp (M.jS aR a b m) λr=>Cd r.2:=by
 unfold M.jS;rw[yl];simp only[ago,wq];rw[ai (by simp;omega)];simp only[aJ,ago,jz]
 refine Wp.ite (λ_=> .some (by simp[Cd])) λhc=>?_
 refine Wp.seq _ (mT _ hm) λr hr=>?_
 refine .some ?_;split
 .exact hr
 .split<;>simp[Cd]
def Ii{a b m:Int}(hm:0<=m/\m<=5):Wp (M.kL aR a b m) λr=>Cd r.2:=by
 unfold M.kL
 exact Wp.seq _ (Ih hm) λr hr=> .some hr
def BY(N:Nat)(a b c:Int)(d:Bool)(e:Int):Wp (M.gG N a b c d e) λ_=>True:=by
 unfold M.gG;simp only[aJ,ago];exact .some trivial
def zU{a b m:Int}(hm:0<=m/\m<=5):Wp (M.fN aR a b m) λr=>Cd r.2:=by
 unfold M.fN;rw[yl];simp only[ago,wq];rw[ai (by simp;omega)]
 refine Wp.dec (λ_=> .some (by simp[Cd])) λhb=>?_
 simp only[aJ,ago,jz]
 refine Wp.ite (λ_=> .some (by simp[Cd])) λhc=>?_
 refine Wp.seq _ (si ..) λr hr=>?_
 refine Wp.dec (λ_=> .some (by simp[Cd])) λhd=>?_
 refine Wp.seq _ (wm hr.1.1 (by omega) (k7 _).2) λq _=>?_
 refine Wp.dec (λ_=> .some (by simp[Cd])) λ_=>?_
 refine Wp.seq _ (Wp.bind (Wp.mono (BY ..) λx _=>?_)) λj7(_:True)=>?_
 .exact .some trivial
 .exact .some (by split<;>simp[Cd])
def uc(N:Nat)(r:az.den)(d:Int):Wp (M.bM N r d) λ_=>True:=by
 unfold M.bM M.dq;simp only[aJ,ago];exact .some trivial
def uC(a b:Int):Wp (M.dz aR a b) λ_=>True:=by
 unfold M.dz;simp only[aJ,ago]
 refine Wp.seq _ (si ..) λr hr=>?_
 refine Wp.dec (λ_=> .some trivial) λhd=>?_
 refine Wp.seq _ (wm hr.1.1 (by omega) (by omega)) λq _=>?_
 exact .some trivial
def BZ(N:Nat){a b m:Int}(hm:0<=m/\m<=5):Wp (M.eJ N a b m) λr=>Cd r.2:=by
 unfold M.eJ;simp only[aJ,ago]
 refine Wp.ite (λ_=> .some (by simp[Cd])) λhc=>?_
 refine Wp.seq _ (mT _ hm) λr hr=>?_
 exact .some (zT hr (zT (Cd3 _) (IL _)))
def ud{t:bD.den}{d k m:Int}(hm:0<=m/\m<=5)(hk:t.2.1=((3,0):Int×Int))(hv:t.2.2.1=((4,0):Int×Int))(hl:t.2.2.2.length<=9223372036854775807):Wp (M.eK aR t d k m) λr=>Cd r.2:=by
 unfold M.eK;simp only[aJ,ago,jz];rw[ai (by simp;omega),ai (by rw[hk,hv];simp[nz])]
 refine Wp.ite (λ_=> .some (by simp[Cd])) λhc=>?_
 refine Wp.join (Wp.loop (λs:Int×Int×Int=>∃i:Nat,s.2.2=i/\i<=t.2.2.2.length) (λs=>(t.2.2.2.length-s.2.2).toNat) ⟨0,rfl,Nat.zero_le _⟩ (by simp only;unfold aR;omega) ?_)
 rintro⟨s1,s2,s3⟩ ⟨i,hi,rA⟩
 simp only at hi;subst hi
 refine Wp.dec (λh=>?_) λh=> .some ?_
 .have jJ:i<t.2.2.2.length:=by simp only at h;omega
  refine Wp.join ?_;simp only;rw[aM jJ];simp only[ago]
  refine Wp.seq (λ_=>True) ?_ λj8 _=>?_
  .refine Wp.seq _ (uc ..) λy _=>?_
   exact .some trivial
  have nxt:∀a b:Int,tX (λj6:Int×Int=>aa (Sum.inl (j6.1,j6.2,agp.wrap ((i:Int)+1)))) (FF (λs:Int×Int×Int=>∃i:Nat,s.2.2=i/\i<=t.2.2.2.length) (λs=>(t.2.2.2.length-s.2.2).toNat) (s1,s2,(i:Int)) (tX (λj4:Int×Int=>(M.eJ aR j4.1 j4.2 m).bind λT6=>aa (T6.1,T6.2)) λr:Int×Int=>Cd r.2)) (.inl (a,b)):=by
   intro a b;refine .some ?_;rw[aL (by omega)];exact⟨⟨i+1,rfl,jJ⟩,by simp only;omega⟩
  refine Wp.ite (λ_=> .some (nxt _ _)) λ_=>?_
  refine Wp.seq _ (uC ..) λy _=>?_
  refine .some ?_;split
  .show Cd _
   simp[Cd]
  .exact nxt _ _
 .show Wp _ _
  exact Wp.seq _ (BZ _ hm) λr hr=> .some hr
def Lb(l:List iE.den)(a b:Int)(hl:l.length<=9223372036854775807):Wp (M.bP aR l a b) λr=>r.2.1=af->0<=r.1/\r.1<l.length:=by
 unfold M.bP;refine Wp.loop (λs:Int×Int×Int=>∃i:Nat,s.1=i/\i<=l.length) (λs=>(l.length-s.1).toNat) ⟨0,rfl,Nat.zero_le _⟩ (by simp only;unfold aR;omega) ?_
 rintro⟨s1,s2,s3⟩ ⟨i,hi,rA⟩
 simp only at hi;subst hi
 refine Wp.dec (λh=>?_) λh=> .some λh=>by cases h
 have jJ:i<l.length:=by simp only at h;omega
 simp only;rw[aM jJ];simp only[ago]
 refine Wp.seq (λ_=>True) ?_ λy _=>?_
 .unfold M.eI
  refine Wp.seq (λ_=>True) (Wp.seq _ (uc ..) λy _=>?_) λj _=> .some trivial
  simp only[aJ];exact .some trivial
 .refine Wp.ite (λ_=> .some λ_=>⟨by simp only;omega,by simp only;omega⟩) λ_=> .some ?_
  rw[aL (by omega)];exact⟨⟨i+1,rfl,jJ⟩,by simp only;omega⟩
def ym(t:bD.den)(a b:Int)(hl:t.2.2.2.length<=9223372036854775807):Wp (M.iF aR t a b) λr=>r.2=af->0<=r.1/\r.1<t.2.2.2.length:=by
 unfold M.iF
 exact Wp.seq _ (Lb _ a b hl) λr hr=> .some hr
def qv(N:Nat)(d:Int):M.gp N d=aa (decide (0<=d)&&decide (d<=109572)):=by
 unfold M.gp;simp only[aJ,ago,gT]
def ku(N:Nat)(y m:Int):Wp (M.cJ N y m) λr=>0<=r/\r<=31:=by
 unfold M.cJ M.lb;simp only[aJ,ago,jz,gT]
 refine Wp.ite (λ_=> .some (by omega)) λhc=>?_
 refine Wp.ite (λ_=> .some (by omega)) λ_=>?_
 have hm:1<=m/\m<=12:=by simp at hc;omega
 rw[aE (by omega) (by omega)]
 have:m=1\/m=2\/m=3\/m=4\/m=5\/m=6\/m=7\/m=8\/m=9\/m=10\/m=11\/m=12:=by omega
 rcases this with rfl|rfl|rfl|rfl|rfl|rfl|rfl|rfl|rfl|rfl|rfl|rfl<;>exact⟨_,rfl,by decide⟩
def oJ(N:Nat)(y:Int):Wp (M.di N y) λ_=>True:=by
 unfold M.di M.ij;simp only[ago];exact .some trivial
def pW(d:Int):Wp (M.dj aR d) λ_=>True:=by
 unfold M.dj;rw[qv];simp only[ago]
 refine Wp.ite (λ_=> .some trivial) λhv=>?_
 have hd:0<=d/\d<=109572:=by simpa using hv
 have h0:agC d 366=d/366:=agG hd.1;have hw:agp.wrap (d/366)=d/366:=aE (by omega) (by omega);have Y7:agp.wrap (1900+d/366)=1900+d/366:=aE (by omega) (by omega);rw[h0,hw,Y7]
 refine Wp.seq (λ_=>True) (Wp.loop (λy:Int=>1900<=y/\y<=2199) (λy=>(2199-y).toNat) (by omega) (by unfold aR;omega) ?_) λy _=>?_
 .rintro y ⟨h1,h2⟩
  by_cases hy:y=2199
  .subst hy
   have e:M.di aR (agp.wrap ((2199:Int)+1))=aa 109573:=by show(_:Option Int)=_;kernel_rfl
   rw[e];simp only[ago];rw[ai (by simp;omega)];exact .some trivial
  .refine Wp.seq _ (oJ ..) λz _=>?_
   refine Wp.dec (λ_=> .some ?_) λ_=> .some trivial
   rw[aE (by omega) (by omega)];exact⟨by omega,by simp only;omega⟩
 .refine Wp.seq _ (oJ ..) λz _=>?_
  refine Wp.loop (λs:Int×Int=>∃i:Nat,s.2=i/\i<=12) (λs=>(12-s.2).toNat) ⟨0,rfl,by omega⟩ (by simp only;unfold aR;omega) ?_
  rintro⟨a,b⟩ ⟨i,hi,rA⟩
  simp only at hi;subst hi
  refine Wp.dec (λh=>?_) λ_=> .some trivial
  refine Wp.seq _ (ku ..) λw _=>?_
  refine Wp.dec (λ_=> .some trivial) λ_=> .some ?_
  simp only at h⊢;rw[aL (by omega)];exact⟨⟨i+1,rfl,by omega⟩,by simp only;omega⟩
def Ev(y m d:Int):Wp (M.iH aR y m d) λr=>Cd r.2:=by
 unfold M.iH
 refine Wp.seq (λj=>j=ag->1<=m/\m<=12) ?_ λj hj=>?_
 .refine Wp.dec (λ_=> .some (λh=>by cases h)) λ_=>Wp.dec (λ_=> .some (λh=>by cases h)) λ_=>Wp.dec (λ_=> .some (λh=>by cases h)) λh1=>Wp.dec (λ_=> .some (λh=>by cases h)) λh2=>Wp.dec (λ_=> .some (λh=>by cases h)) λ_=>?_
  exact Wp.seq _ (ku ..) λw _=> .some λ_=>⟨by omega,by omega⟩
 .refine Wp.ite (λ_=> .some (by simp[Cd])) λhc=>?_
  have hm:=hj (by simpa using hc)
  refine Wp.seq _ (oJ ..) λz _=>?_
  refine Wp.seq (λ_=>True) (Wp.loop (λs:Int×Int=>∃i:Nat,s.2=i/\i<=12) (λs=>(13-s.2).toNat) ⟨0,rfl,by omega⟩ (by simp only;unfold aR;omega) ?_) λw _=> .some (by simp[Cd])
  rintro⟨a,b⟩ ⟨i,hi,rA⟩
  simp only at hi;subst hi
  refine Wp.dec (λh=>?_) λ_=> .some trivial
  refine Wp.seq _ (ku ..) λw _=> .some ?_
  simp only at h⊢;rw[aE (n:=m-1) (by omega) (by omega)]at h;rw[aL (by omega)];exact⟨⟨i+1,rfl,by omega⟩,by simp only;omega⟩
def oK(d n:Int):Wp (M.cE aR d n) λr=>Cd r.2:=by
 unfold M.cE;rw[qv];simp only[aJ,ago,jz]
 refine Wp.ite (λ_=> .some (by simp[Cd])) λhc=>?_
 refine Wp.seq _ (pW ..) λy _=>?_
 refine Wp.ite (λ_=> .some (by simp[Cd])) λ_=>?_
 refine Wp.seq _ (ku ..) λw _=>?_
 exact Wp.seq _ (Ev ..) λr hr=> .some hr
def o3(a b:Int):Wp (M.dl aR a b) λ_=>True:=by
 unfold M.dl;rw[qv,qv];simp only[aJ,ago,jz]
 refine Wp.ite (λ_=> .some trivial) λ_=>?_
 refine Wp.seq _ (pW ..) λy _=>Wp.seq _ (pW ..) λz _=>?_
 refine Wp.seq (λ_=>True) (Wp.seq _ (oK ..) λr _=>?_) λj _=> .some trivial
 exact .some trivial
end L.P
end Go.Proofs.YtfeahmiobbjklaaGreatDoor
