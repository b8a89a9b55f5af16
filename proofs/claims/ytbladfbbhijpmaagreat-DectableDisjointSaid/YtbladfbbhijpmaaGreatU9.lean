/- Joined texts: TF TG TH TJ TT TU TV TW TX TY TZ TQ TR P31. -/
import Derived.Test.YtbladfbbhijpmaaGreatU8
import Derived.Test.YtbladfbbhijpmaaGreatU7
import Derived.Test.YtbladfbbhijpmaaGreatU1
open _root_.Bool renaming false->Yy,true->Yx,and_eq_true->Xz,false_eq_true->W0
open _root_.Classical renaming propDecidable->Xr,not_not->Yc
open _root_.Int renaming eq_ofNat_of_zero_le->WR,toNat_natCast->WN
open _root_.Go.IntKind renaming i64->WG
open _root_.List renaming mem_append->WQ,mem_range->Xc,mem_singleton->WO,range->WM,replicate->Xb,take_append_getElem->Xf,take_length->W3,mem_cons->WS,mem_cons_of_mem->Xk,mem_cons_self->Xx,mem_filter->Xi,pairwise_cons->Xe,drop_eq_getElem_cons->Xm,getElem_mem->WW,length_map->XQ,append_assoc->W7,filter_cons->Yk,map_append->XP,cons_append->Ye,take_append_drop->XW,getElem?_eq_getElem->WJ,length_filter_le->XX,foldl_cons->XO,length_cons->WX,length_append->WZ,length_take->XE
open _root_.Nat renaming eq_of_testBit_eq->X0,lt_succ_iff_lt_or_eq->WU,le_refl->WH,le_trans->Xa,mul_le_mul_right->W1
open _root_.Option renaming bind_some->WE,none->Yw
open _root_.Option.some renaming inj->WD
open _root_.ByteArray renaming empty->Yn
open _root_.Prod.mk renaming injEq->XF
namespace Go.Proofs.YtbladfbbhijpmaaGreat
open Go Go.RowKit
set_option maxRecDepth 100000
set_option linter.unusedSimpArgs false
set_option linter.unusedVariables false
set_option linter.defProp false
namespace L
def zA(a:Int):Nat:=min a.toNat 8
theorem u7(a:Int):zA a<=8:=Nat.min_le_right _ _
theorem xg(a:Int):M.dq br a=some (zA a:Int):=by
 unfold M.dq zA
 congr 1
 split<;>split<;>omega
theorem CC(a:Int):M.lv br a=some (zA a:Int):=by
 unfold M.lv zA;simp only[YI];split
 .congr 1;omega
 .split<;>(congr 1;omega)
theorem size_eq{n:Nat}(hn:n<=8):M.mY br (n:Int)=some ((2 ^ n:Nat):Int):=by
 unfold M.mY;refine Wp.eq ?_
 refine Wp.count (λs=>s.2) n (λk s=>s.1=((2 ^ k:Nat):Int)) (by omega) rfl rfl λk s hk hs hJ=>?_
 obtain⟨x,kk⟩:=s;dsimp only at hs hJ⊢;subst hs hJ;refine .dec (λh=> .some ⟨by omega,aH (by omega),?_⟩) (λh=> .some ?_)
 .have h1:2 ^ k<=2 ^ 8:=Nat.pow_le_pow_right (by omega) (by omega)
  show WG.wrap (((2 ^ k:Nat):Int)*2)=((2 ^ (k+1):Nat):Int)
  have e:((2 ^ k:Nat):Int)*2=((2 ^ (k+1):Nat):Int):=by rw[Nat.pow_succ];simp
  rw[e,wrap_i64 (by rw[Nat.pow_succ];omega)]
 .have:k=n:=by omega
  subst this;rfl
def nV(l:List Int)(k:Nat):List Bool:=(WM k).map λx:Nat=>decide ((x:Int)∈l)
theorem HK{α:Type}{k x:Nat}{f:Nat->α}(h:x<k):idx ((WM k).map f) (x:Int)=some (f x):=by
 rw[aB (by simpa using h)];simp
theorem u9{α:Type}{k x:Nat}{f:Nat->α}{Q:α->Prop}(h:x<k)(hq:Q (f x)):Wp (idx ((WM k).map f) (x:Int)) Q:=⟨_,HK h,hq⟩
theorem nW{α:Type}(k:Nat)(f:Nat->α):(((WM k).map f).length:Int)=(k:Int):=by simp
theorem zB{l:List Int}(hl:l.length<=1000000){n:Nat}(hn:n<=8):M.ju br l (n:Int)=some (nV l (2 ^ n)):=by
 have h8:=ni hn;unfold M.ju;rw[size_eq hn,WE];generalize 2 ^ n=K at*;refine Wp.eq (.bind (kA.2 ⟨by omega,?_⟩))
 refine Wp.count (λs=>s.1) l.length (λk s=>s.2=nV (l.take k) K) (by omega) rfl ?_ λk s hk hs hJ=>?_
 .show Xb _ _=_
  unfold nV;apply List.ext_getElem (by simp);intro i h1 h2;simp
 .obtain⟨kk,c⟩:=s;dsimp only at hs hJ⊢;subst hs hJ;refine .dec (λh=>?_) (λh=> .some ?_)
  .have av:k<l.length:=by omega
   have hlen:((nV (l.take k) K).length:Int)=(K:Int):=nW _ _
   have Br:∀y:Int,y∈l.take (k+1)↔y∈l.take k\/y=l[k]:=λy=>by rw[<-Xf av,WQ,WO]
   refine Wp.seq (λj=>j=nV (l.take (k+1)) K) ?_ λj hj=> .some ⟨av,aH (by omega),hj⟩
   refine Wp.seq (λj=>j=Yx↔0<=l[k]/\l[k]<(K:Int)) (.bind (.idx k rfl av (.dec (λh0=> .bind (.idx k rfl av (.some ?_))) (λh0=> .some ⟨λh=>(by cases h),λh=>absurd h.1 h0⟩)))) λj hj=>?_
   .rw[hlen,YI];exact⟨λh=>⟨h0,h⟩,λh=>h.2⟩
   refine .ite (λFu=> .bind (.idx k rfl av ?_)) (λJ6=> .some ?_)
   .obtain⟨x,hx⟩:=WR (hj.1 Fu).1
    have xL:x<K:=by have:=(hj.1 Fu).2;omega
    rw[hx];refine .bind (u9 xL (.some ?_));unfold nV be;rw[WN,gz]
    refine List.map_congr_left λy hy=>?_
    by_cases e:y=x
    .subst e;simp[Br,hx]
    .rw[YA e];refine decide_eq_decide.2 ?_;rw[Br,hx];exact⟨.inl,λh=>h.resolve_right λh=>e (by omega)⟩
   .unfold nV
    refine List.map_congr_left λy hy=>decide_eq_decide.2 ?_
    rw[Br];refine⟨.inl,λh=>h.resolve_right λh=>J6 (hj.2 ?_)⟩;have:=Xc.1 hy;omega
  .have:k=l.length:=by omega
   subst this
   show nV (l.take l.length) K=nV l K
   rw[W3]
theorem Fv{m:Nat}(hm:m<256):M.mZ br (m:Int)=some (dK (m:Int)):=by
 have h:((WM 256).all λm=>decide (M.mZ br ((m:Nat):Int)=some (dK ((m:Nat):Int))))=Yx:=by kernel_rfl
 exact YC (List.all_eq_true.1 h m (Xc.2 hm))
theorem HL:∀{m n:Nat},n<=8->m<2 ^ n->∃c:Nat,c<=n/\dK (m:Int)=(c:Int):=by
 intro m n hn hm
 have h:((WM 9).all λn=>(WM (2 ^ n)).all λm=>(WM (n+1)).any λc=>decide (dK ((m:Nat):Int)=(c:Int)))=Yx:=by kernel_rfl
 have h1:=List.all_eq_true.1 (List.all_eq_true.1 h n (Xc.2 (by omega))) m (Xc.2 hm);obtain⟨c,hc,h2⟩:=List.any_eq_true.1 h1;exact⟨c,by have:=Xc.1 hc;omega,YC h2⟩
theorem nk{m b x:Nat}(hm:m<256)(hx:x<256):M.fh br (pI m b) (x:Int)=some (decide (x&&& m=b)):=by
 unfold M.fh;rw[Fl (by omega) (by omega)]
 congr 1
 exact decide_eq_decide.2 (by show((x&&& m:Nat):Int)=(b:Int)↔_;omega)
def di(k:Nat)(mem cov:Nat->Bool)(m b:Nat):Bool:=(WM k).any λx=>decide (x&&& m=b)&&mem x&& !cov x
theorem Fw{n:Nat}(hn:n<=8){mem cov:Nat->Bool}{m b:Nat}(hm:m<256):M.lz br (pI m b) ((WM (2 ^ n)).map mem) ((WM (2 ^ n)).map cov)=some (di (2 ^ n) mem cov m b):=by
 have h8:=ni hn;unfold M.lz;refine Wp.eq ?_
 refine Wp.count (λs=>s) (2 ^ n) (λk _=>∀x,x<k->(decide (x&&& m=b)&&mem x&& !cov x)=Yy) (by omega) rfl (λx hx=>absurd hx (by omega)) λk s hk hs hJ=>?_
 subst hs;rw[nW];refine .dec (λh=>?_) (λh=> .some ?_)
 .have av:k<2 ^ n:=by omega
  refine Wp.seq (λj=>j=(decide (k&&& m=b)&&mem k&& !cov k)) (.ba (nk hm (by omega)) (.ite (λh1=> .bind (u9 av (.ite (λh2=> .bind (u9 av (.some ?_))) (λh2=> .some ?_)))) (λh1=> .some ?_))) λj hj=> .ite (λh1=> .some ?_) (λh1=> .some ⟨av,aH (by omega),λx hx=>?_⟩)
  .rw[h1,h2];rfl
  .rw[h1];simp[h2]
  .simp[h1]
  .show Yx=di _ _ _ _ _
   unfold di;exact(List.any_eq_true.2 ⟨k,Xc.2 av,by rw[<-hj];exact h1⟩).symm
  .rcases WU.1 hx with hx|rfl
   .exact hJ x hx
   .rw[<-hj];simpa using h1
 .show Yy=di _ _ _ _ _
  unfold di;refine(List.any_eq_false.2 λx hx=>?_).symm;rw[hJ x (by have:=Xc.1 hx;omega)];simp
noncomputable def Fx(n:Nat)(S:Nat->Prop)(m b:Nat):Bool:= @decide (∀x,x<2 ^ n->x&&& m=b->S x) (Xr _)
theorem o4{n:Nat}{S:Nat->Prop}{m b:Nat}:Fx n S m b=Yx↔∀x,x<2 ^ n->x&&& m=b->S x:= @decide_eq_true_iff _ (Xr _)
theorem nX{n:Nat}(hn:n<=8){l:List Int}{m b:Nat}(hm:m<256):M.fk br (pI m b) (nV l (2 ^ n))=some (Fx n (λx=>(x:Int)∈l) m b):=by
 have h8:=ni hn;unfold M.fk;refine Wp.eq ?_
 refine Wp.count (λs=>s) (2 ^ n) (λk _=>∀x:Nat,x<k->x&&& m=b->(x:Int)∈l) (by omega) rfl (λx hx=>absurd hx (by omega)) λk s hk hs hJ=>?_
 subst hs;rw[show((nV l (2 ^ n)).length:Int)=((2 ^ n:Nat):Int)from nW _ _];refine .dec (λh=>?_) (λh=> .some ?_)
 .have av:k<2 ^ n:=by omega
  refine Wp.seq (λj=>j=Yx↔k&&& m=b/\¬(k:Int)∈l) (.ba (nk hm (by omega)) (.dec (λh1=> .bind (u9 av (.some ?_))) (λh1=> .some ⟨λh=>(by cases h),λh=>absurd h.1 h1⟩))) λj hj=> .ite (λh1=> .some ?_) (λh1=> .some ⟨av,aH (by omega),λx hx he=>?_⟩)
  .rw[Bool.not_eq_true',decide_eq_false_iff_not];exact⟨λh=>⟨h1,h⟩,λh=>h.2⟩
  .show Yy=Fx _ _ _ _
   refine(Bool.eq_false_iff.2 λg=>?_).symm;exact(hj.1 h1).2 (o4.1 g k av (hj.1 h1).1)
  .rcases WU.1 hx with hx|rfl
   .exact hJ x hx he
   .exact Classical.byContradiction λg=>h1 (hj.2 ⟨he,g⟩)
 .have:k=2 ^ n:=by omega
  subst this;exact(o4.2 hJ).symm
theorem xh{n:Nat}{S:Nat->Prop}{m b:Nat}(hm:m<2 ^ n)(hb:b&&& m=b):Fx n S m b=Yx↔nh n S m b:=by
 rw[o4];exact⟨λh=>⟨hm,hb,h⟩,λh=>h.2.2⟩
theorem HM{m b j:Nat}(h:b&&& m=b):dO b (2 ^ j)&&& dO m (2 ^ j)=dO b (2 ^ j):=by
 rw[dX];intro i;rw[bB,bB];have:=dX.1 h i;intro h2;simp only[Xz]at h2⊢;exact⟨this h2.1,h2.2⟩
theorem AH{m j:Nat}:m&&& 2 ^ j=0↔m.testBit j=Yy:=by
 constructor
 .intro h;have:=YH (λx=>x.testBit j) h;simpa[Nat.testBit_and,de]using this
 .intro h;apply X0;intro i;rw[Nat.testBit_and,de,Nat.zero_testBit];by_cases e:j=i
  .subst e;simp[h]
  .simp[e]
theorem Fy{n:Nat}(hn:n<=8){l:List Int}{m b:Nat}(hm:m<2 ^ n)(hb:b&&& m=b):Wp (M.lA br (pI m b) (nV l (2 ^ n))) λr=>r=Yx↔zy n (λx=>(x:Int)∈l) m b:=by
 have h8:=ni hn;have Lg:b<2 ^ n:=Nat.lt_of_le_of_lt (by rw[<-hb];exact Nat.and_le_right) hm;unfold M.lA;refine .ba (nX hn (by omega)) ?_;have hi:=xh (S:=λx=>(x:Int)∈l) hm hb
 cases hv:Fx n (λx=>(x:Int)∈l) m b with
 |false=>
  refine .some ⟨λh=>(by cases h),λh=>?_⟩;rw[hv]at hi;exact absurd (hi.2 h.1) (by simp)
 |true=>
  rw[hv]at hi;have hI:=hi.1 rfl
  refine Wp.ite (λh=>absurd h (by simp)) λ_=>?_
  refine Wp.loop (λs=>∃j:Nat,j<=n/\s=((2 ^ j:Nat):Int)/\∀i,i<j->m.testBit i=Yx->¬nh n (λx=>(x:Int)∈l) (dO m (2 ^ i)) (dO b (2 ^ i))) (λs=>1000-s.toNat) ⟨0,Nat.zero_le _,rfl,λi hi=>absurd hi (by omega)⟩ (by unfold br;omega) λs hs=>?_
  obtain⟨j,hj,rfl,hJ⟩:=hs;rw[show((nV l (2 ^ n)).length:Int)=((2 ^ n:Nat):Int)from nW _ _];refine .dec (λh=>?_) (λh=> .some ?_)
  .have av:2 ^ j<2 ^ n:=by omega
   have OK:j<n:=(Nat.pow_lt_pow_iff_right (by omega)).1 av;have e0:al .and .i64 (pI m b).1 ((2 ^ j:Nat):Int)=((m&&& 2 ^ j:Nat):Int):=Fl (by omega) (by omega);have e1:al .andNot .i64 (pI m b).1 ((2 ^ j:Nat):Int)=(dO m (2 ^ j):Nat):=CA (by omega) (by omega);have e2:al .andNot .i64 (pI m b).2 ((2 ^ j:Nat):Int)=(dO b (2 ^ j):Nat):=CA (by omega) (by omega);have Gy:=Fm m (2 ^ j)
   refine Wp.seq (λq=>q=Yx↔m.testBit j=Yx/\nh n (λx=>(x:Int)∈l) (dO m (2 ^ j)) (dO b (2 ^ j))) ?_ λq hq=> .ite (λh1=> .some ⟨λh=>(by cases h),λh=>absurd (hq.1 h1).2 (h.2 j OK (hq.1 h1).1)⟩) (λh1=> .some ?_)
   .rw[e0,e1,e2];refine .ri (λh1=> .ba (nX (m:=dO m (2 ^ j)) (b:=dO b (2 ^ j)) hn (by omega)) (.some ?_)) (λh1=> .some ⟨λh=>(by cases h),λh=>?_⟩)
    .have C1:m.testBit j=Yx:=by
      cases e:m.testBit j with
      |true=>rfl
      |false=>exact absurd (by rw[AH.2 e];rfl) h1
     rw[xh (by omega) (HM hb)];exact⟨λh=>⟨C1,h⟩,λh=>h.2⟩
    .have h1:m&&& 2 ^ j=0:=by exact_mod_cast h1
     rw[AH.1 h1]at h;cases h.1
   .have e:((2 ^ j:Nat):Int)*2=((2 ^ (j+1):Nat):Int):=by rw[Nat.pow_succ];simp
    have Ko:2 ^ (j+1)=2*2 ^ j:=by rw[Nat.pow_succ,Nat.mul_comm]
    have hp:=Nat.two_pow_pos j
    show EW _ _ _ _ (.inl (WG.wrap (((2 ^ j:Nat):Int)*2)))
    rw[e,wrap_i64 (by omega)];refine⟨⟨j+1,OK,rfl,λi gC=>?_⟩,by show 1000-(((2 ^ (j+1):Nat):Int)).toNat<1000-(((2 ^ j:Nat):Int)).toNat;omega⟩
    rcases WU.1 gC with gC|rfl
    .exact hJ i gC
    .exact λh3 h4=>h1 (hq.2 ⟨h3,h4⟩)
  .have hge:2 ^ n<=2 ^ j:=by omega
   have:j=n:=by
    have:=(Nat.pow_le_pow_iff_right (a:=2) (by omega)).1 hge;omega
   subst this;exact⟨λ_=>⟨hI,hJ⟩,λ_=>rfl⟩
end L
namespace L
theorem pO(a b:Int):bN ae a b=decide (a=b):=rfl
theorem Fz(l:List (Int×Bool))(k:Int)(v:Bool)(x:Int):aT ae (jD ae l k v) x=if x=k then some v else aT ae l x:=by
 induction l with
 |nil=>
  show(if bN ae k x=Yx then some v else Yw)=if x=k then some v else Yw
  simp only[pO,YI];by_cases h:x=k
  .rw[YB h,YB h.symm]
  .rw[YA h,YA (Ne.symm h)]
 |cons p l ih=>
  unfold jD;by_cases h:p.1=k
  .rw[YB (by rw[pO];exact YD h)];unfold aT;simp only[pO,YI];by_cases hx:x=k
   .rw[YB hx,YB (by rw[hx];exact h)]
   .have g:¬p.1=x:=by rw[h];exact Ne.symm hx
    rw[YA hx,YA g,YA g]
  .rw[YA (by rw[pO];simpa using h)];unfold aT;rw[ih];simp only[pO,YI];by_cases hx:x=k
   .rw[YB hx,YA (by rw[hx];exact h),YB hx]
   .rw[YA hx,YA hx]
theorem CD{l:List (Int×Bool)}{x:Int}(h:∀p∈l,p.1≠x):aT ae l x=Yw:=by
 induction l with
 |nil=>rfl
 |cons p l ih=>
  unfold aT;rw[YA (by rw[pO];simpa using h p Xx)]
  exact ih λq hq=>h q (Xk _ hq)
abbrev DI(l:List (Int×Bool)):Prop:=l.Pairwise λp q=>p.1≠q.1
theorem HN(l:List (Int×Bool))(k:Int):(kN ae l k).Sublist l:=by
 induction l with
 |nil=>exact .slnil
 |cons p l ih=>
  unfold kN;split
  .exact .cons _ (List.Sublist.refl _)
  .exact ih.cons_cons _
theorem FA{l:List (Int×Bool)}(hd:DI l)(k x:Int):aT ae (kN ae l k) x=if x=k then Yw else aT ae l x:=by
 induction l with
 |nil=>show Yw=if x=k then Yw else Yw;split<;>rfl
 |cons p l ih=>
  obtain⟨h1,h2⟩:=Xe.1 hd;unfold kN;by_cases h:p.1=k
  .rw[YB (by rw[pO];exact YD h)];by_cases hx:x=k
   .rw[YB hx]
    exact CD λq hq=>by rw[hx,<-h];exact(h1 q hq).symm
   .rw[YA hx]
    show _=if bN ae p.1 x=Yx then some p.2 else aT ae l x
    rw[YA (by rw[pO,h];simpa using Ne.symm hx)]
  .rw[YA (by rw[pO];simpa using h)];unfold aT;rw[ih h2];simp only[pO,YI];by_cases hx:x=k
   .rw[YB hx,YA (by rw[hx];exact h),YB hx]
   .rw[YA hx,YA hx]
theorem DI.put{l:List (Int×Bool)}(hd:DI l)(k:Int)(v:Bool):DI (jD ae l k v):=by
 have hm:∀{l:List (Int×Bool)}{q:Int×Bool},q∈jD ae l k v->q.1=k\/q∈l:=by
  intro l
  induction l with
  |nil=>intro q hq;exact .inl (by rw[WO.1 hq])
  |cons p l ih=>
   intro q hq;unfold jD at hq;split at hq
   .rename_i e;rw[pO,YI]at e
    rcases WS.1 hq with rfl|hq
    .exact .inl e
    .exact .inr (Xk _ hq)
   .rcases WS.1 hq with rfl|hq
    .exact .inr Xx
    .exact(ih hq).imp id (Xk _)
 induction l with
 |nil=>exact List.pairwise_singleton _ _
 |cons p l ih=>
  obtain⟨h1,h2⟩:=Xe.1 hd;unfold jD;split
  .exact Xe.2 ⟨h1,h2⟩
  .rename_i e;rw[pO,YI]at e;refine Xe.2 ⟨λq hq=>?_,ih h2⟩
   rcases hm hq with g|g
   .rw[g];exact e
   .exact h1 q g
def Bs(m:Nat):List (Nat×Nat):=((WM (m+1)).filter λb=>decide (b&&& m=b)).map λb=>(m,b)
noncomputable def Ms(n c:Nat):List (Nat×Nat):=(WM (2 ^ n)).flatMap λm:Nat=>if dK (m:Int)=(c:Int)then Bs m else[]
noncomputable def Pt(n:Nat):List (Nat×Nat):=(WM (n+1)).flatMap (Ms n)
theorem va{m:Nat}{p:Nat×Nat}:p∈Bs m↔p.1=m/\p.2&&& p.1=p.2:=by
 unfold Bs;rw[List.mem_map];constructor
 .rintro⟨b,hb,rfl⟩
  exact⟨rfl,YC (Xi.1 hb).2⟩
 .rintro⟨rfl,h⟩
  refine⟨p.2,Xi.2 ⟨Xc.2 ?_,YD h⟩,rfl⟩
  have:p.2<=p.1:=by rw[<-h];exact Nat.and_le_right
  omega
theorem vb{n c:Nat}{p:Nat×Nat}:p∈Ms n c↔p.1<2 ^ n/\dK (p.1:Int)=(c:Int)/\p.2&&& p.1=p.2:=by
 unfold Ms;rw[List.mem_flatMap];constructor
 .rintro⟨m,hm,hp⟩
  split at hp
  .obtain⟨h1,h2⟩:=va.1 hp;subst h1;exact⟨Xc.1 hm,by assumption,h2⟩
  .simp at hp
 .rintro⟨h1,h2,h3⟩
  exact⟨p.1,Xc.2 h1,by rw[YB h2];exact va.2 ⟨rfl,h3⟩⟩
theorem lG{n:Nat}(hn:n<=8){p:Nat×Nat}:p∈Pt n↔p.1<2 ^ n/\p.2&&& p.1=p.2:=by
 unfold Pt;rw[List.mem_flatMap];constructor
 .rintro⟨c,hc,hp⟩
  obtain⟨h1,_,h3⟩:=vb.1 hp;exact⟨h1,h3⟩
 .rintro⟨h1,h3⟩
  obtain⟨c,hc,h2⟩:=HL hn h1;exact⟨c,Xc.2 (by omega),vb.2 ⟨h1,h2,h3⟩⟩
theorem o5(n:Nat):(Pt n).Pairwise λp q=>kU (pI p.1 p.2) (pI q.1 q.2):=by
 unfold Pt;refine List.pairwise_flatMap.2 ⟨λc _=>?_,List.pairwise_lt_range.imp λ{c d}Ws x hx y hy=>?_⟩
 .unfold Ms;refine List.pairwise_flatMap.2 ⟨λm _=>?_,List.pairwise_lt_range.imp λ{m m'}hm x hx y hy=>?_⟩
  .split
   .unfold Bs;refine List.pairwise_map.2 ((List.pairwise_lt_range.filter _).imp λ{a b}h=>?_);refine .inr ⟨rfl, .inr ⟨rfl,?_⟩⟩
    show(a:Int)<b
    omega
   .exact .nil
  .split at hx
   .split at hy
    .rename_i h1 h2;obtain⟨e1,_⟩:=va.1 hx;obtain⟨e2,_⟩:=va.1 hy;subst e1 e2;refine .inr ⟨h1.trans h2.symm, .inl ?_⟩
     show(x.1:Int)<y.1
     omega
    .simp at hy
   .simp at hx
 .obtain⟨_,h1,_⟩:=vb.1 hx;obtain⟨_,h2,_⟩:=vb.1 hy;refine .inl ?_
  show dK (x.1:Int)<dK (y.1:Int)
  omega
noncomputable def r9(n:Nat)(S:Nat->Prop)(p:Nat×Nat):Bool:= @decide (zy n S p.1 p.2) (Xr _)
theorem nY{n:Nat}{S:Nat->Prop}{p:Nat×Nat}:r9 n S p=Yx↔zy n S p.1 p.2:= @decide_eq_true_iff _ (Xr _)
def dL(k:Nat)(mem:Nat->Bool):(Nat->Bool)->List (Nat×Nat)->List (Int×Int)
 |_,[]=>[]
 |cov,p::l=>if di k mem cov p.1 p.2=Yx then pI p.1 p.2::dL k mem (λx=>cov x||decide (x&&& p.1=p.2)) l else dL k mem cov l
theorem ji{k:Nat}{mem cov:Nat->Bool}{p:Nat×Nat}{l:List (Nat×Nat)}:dL k mem cov (p::l)=if di k mem cov p.1 p.2=Yx then pI p.1 p.2::dL k mem (λx=>cov x||decide (x&&& p.1=p.2)) l else dL k mem cov l:=rfl
noncomputable def CE(n:Nat)(S:Nat->Prop)(mem:Nat->Bool):List (Int×Int):=dL (2 ^ n) mem (λ_=>Yy) ((Pt n).filter (r9 n S))
theorem kD{k:Nat}{mem:Nat->Bool}:∀{l:List (Nat×Nat)}{cov cov':Nat->Bool},(∀x,x<k->mem x=Yx->cov x=cov' x)->dL k mem cov l=dL k mem cov' l
 |[],_,_,_=>rfl
 |p::l,cov,cov',h=>by
  have e:di k mem cov p.1 p.2=di k mem cov' p.1 p.2:=by
   unfold di;rw[Bool.eq_iff_iff,List.any_eq_true,List.any_eq_true];constructor
   .rintro⟨x,hx,h2⟩
    have:mem x=Yx:=by simp only[Xz]at h2;exact h2.1.2
    exact⟨x,hx,by rw[<-h x (Xc.1 hx) this];exact h2⟩
   .rintro⟨x,hx,h2⟩
    have:mem x=Yx:=by simp only[Xz]at h2;exact h2.1.2
    exact⟨x,hx,by rw[h x (Xc.1 hx) this];exact h2⟩
  unfold dL;rw[e,kD (cov:=cov) (cov':=cov') h,kD (cov:=λx=>cov x||decide (x&&& p.1=p.2)) (cov':=λx=>cov' x||decide (x&&& p.1=p.2)) λx hx hm=>by rw[h x hx hm]]
end L
namespace L
def cL(l:List Int)(x:Nat):Bool:=decide ((x:Int)∈l)
theorem xi{m b x:Nat}(hm:m<256)(hx:x<256):M.cy br (pI m b) (x:Int)=some (decide (x&&& m=b)):=by
 unfold M.cy;rw[Fl (by omega) (by omega)]
 congr 1
 exact decide_eq_decide.2 (by show((x&&& m:Nat):Int)=(b:Int)↔_;omega)
theorem FB{l:List Int}(hl:l.length<=1000000)(a:Int):M.eW br l a=some (CE (zA a) (λx=>(x:Int)∈l) (cL l)):=by
 have hn:=u7 a;generalize Q1:zA a=n at hn;have h8:=ni hn;have nv:=Nat.two_pow_pos n;unfold M.eW;rw[xg,WE,Q1,iq (by omega),WE];refine Wp.eq (Wp.seq (λj=>DI j.1/\(∀x:Nat,x<2 ^ n->((aT ae j.1 (x:Int)).getD Yy=Yx↔(x:Int)∈l))/\fX j.2/\∀p,In j.2 p↔∃x:Nat,x<2 ^ n/\(x:Int)∈l/\p=pI (2 ^ n-1) x) ?_ λj hj=>?_)
 .refine Wp.count (λs=>s.1) l.length (λk s=>DI s.2.1/\(∀x:Nat,x<2 ^ n->((aT ae s.2.1 (x:Int)).getD Yy=Yx↔(x:Int)∈l.take k))/\fX s.2.2/\∀p,In s.2.2 p↔∃x:Nat,x<2 ^ n/\(x:Int)∈l.take k/\p=pI (2 ^ n-1) x) (by omega) rfl ⟨.nil,λx hx=>by simp[aT], .nil,λp=>by simp[In,aT]⟩ λk s hk hs hJ=>?_
  obtain⟨kk,Q2,im⟩:=s;obtain⟨g1,g2,g3,g4⟩:=hJ;dsimp only at hs g1 g2 g3 g4⊢;subst hs;refine .dec (λh=>?_) (λh=> .some ?_)
  .have av:k<l.length:=by omega
   have Br:∀y:Int,y∈l.take (k+1)↔y∈l.take k\/y=l[k]:=λy=>by rw[<-Xf av,WQ,WO]
   refine Wp.seq (λs=>DI s.1/\(∀x:Nat,x<2 ^ n->((aT ae s.1 (x:Int)).getD Yy=Yx↔(x:Int)∈l.take (k+1)))/\fX s.2/\∀p,In s.2 p↔∃x:Nat,x<2 ^ n/\(x:Int)∈l.take (k+1)/\p=pI (2 ^ n-1) x) (.bind (.idx k rfl av ?_)) λj hj=> .some ⟨av,aH (by omega),hj⟩
   refine Wp.seq (λj=>j=Yx↔0<=l[k]/\l[k]<((2 ^ n:Nat):Int)) (.dec (λh0=> .some ?_) (λh0=> .some ⟨λh=>(by cases h),λh=>absurd h.1 h0⟩)) λj hj=> .ite (λFu=> .some ?_) (λJ6=> .some ?_)
   .rw[YI];exact⟨λh=>⟨h0,h⟩,λh=>h.2⟩
   .obtain⟨x,hx⟩:=WR (hj.1 Fu).1
    have xL:x<2 ^ n:=by have:=(hj.1 Fu).2;rw[hx]at this;exact_mod_cast this
    have hw:WG.wrap (((2 ^ n:Nat):Int)-1)=((2 ^ n-1:Nat):Int):=by
     rw[show((2 ^ n:Nat):Int)-1=((2 ^ n-1:Nat):Int) by omega,wrap_i64 (by omega)]
    rw[hw,hx];refine⟨g1.put _ _,λy hy=>?_,g3.put _,λp=>?_⟩
    .show(aT ae (jD ae Q2 (x:Int) Yx) (y:Int)).getD Yy=Yx↔_
     rw[Fz,Br,hx];by_cases e:(y:Int)=x
     .rw[YB e];simp[e]
     .rw[YA e,g2 y hy];simp[e]
    .refine(uX g3 (p:=pI (2 ^ n-1) x)).trans ?_;rw[g4];constructor
     .rintro(e|⟨y,h1,h2,h3⟩)
      .exact⟨x,xL,(Br _).2 (.inr hx.symm),e⟩
      .exact⟨y,h1,(Br _).2 (.inl h2),h3⟩
     .rintro⟨y,h1,h2,h3⟩
      rcases(Br _).1 h2 with h2|h2
      .exact .inr ⟨y,h1,h2,h3⟩
      .have:y=x:=by rw[hx]at h2;exact_mod_cast h2
       subst this;exact .inl h3
   .have MT:∀y:Nat,y<2 ^ n->(y:Int)≠l[k]:=λy hy e=>J6 (hj.2 ⟨by omega,by rw[<-e];exact_mod_cast hy⟩)
    refine⟨g1,λy hy=>?_,g3,λp=>?_⟩
    .rw[Br];exact(g2 y hy).trans ⟨.inl,λh=>h.resolve_right (MT y hy)⟩
    .rw[show In (Q2,im).2 p↔_ from g4 p];constructor
     .rintro⟨y,h1,h2,h3⟩;exact⟨y,h1,(Br _).2 (.inl h2),h3⟩
     .rintro⟨y,h1,h2,h3⟩;exact⟨y,h1,((Br _).1 h2).resolve_right (MT y h1),h3⟩
  .have:k=l.length:=by omega
   subst this;rw[W3]at g2 g4;exact⟨g1,g2,g3,g4⟩
 .obtain⟨Vo,im⟩:=j;obtain⟨j1,j2,j3,j4⟩:=hj;dsimp only at j1 j2 j3 j4⊢
  refine Wp.seq (zx n λx=>(x:Int)∈l) (QY n hn (λx=>(x:Int)∈l) im j3 j4) λms Jo=>Wp.seq (Ft n (λx=>(x:Int)∈l) ms) (CB n hn _ ms Jo) λr hr=>?_
  obtain⟨Wt,pr⟩:=r;obtain⟨-,Sf,Sg⟩:=hr;dsimp only at Sf Sg⊢
  have Vp:pr=((Pt n).filter (r9 n λx=>(x:Int)∈l)).map λp=>pI p.1 p.2:=by
   refine pA Sf (List.pairwise_map.2 ((o5 n).filter _)) λp=>(Sg p).trans ?_
   rw[List.mem_map];constructor
   .rintro⟨m,b,rfl,h⟩
    exact⟨(m,b),Xi.2 ⟨(lG hn).2 ⟨h.1.1,h.1.2.1⟩,nY.2 h⟩,rfl⟩
   .rintro⟨q,hq,rfl⟩
    exact⟨q.1,q.2,rfl,nY.1 (Xi.1 hq).2⟩
  subst Vp;unfold CE
  have hQ:∀p∈(Pt n).filter (r9 n λx=>(x:Int)∈l),p.1<2 ^ n:=λp hp=>((lG hn).1 (Xi.1 hp).1).1
  have Vq:((Pt n).filter (r9 n λx=>(x:Int)∈l)).length<=65536:=by
   have:=mh (A:=((Pt n).filter (r9 n λx=>(x:Int)∈l)).map λp=>p.1*256+p.2) (B:=WM 65536) ?_ λx hx=>?_
   .simpa using this
   .rw[List.Nodup,List.pairwise_map];refine List.Pairwise.imp_of_mem (λ{p q}hp hq av e=>?_) ((o5 n).filter _);have h1:=(lG hn).1 (Xi.1 hp).1;have h2:=(lG hn).1 (Xi.1 hq).1
    have h3:p.2<=p.1:=by rw[<-h1.2];exact Nat.and_le_right
    have h4:q.2<=q.1:=by rw[<-h2.2];exact Nat.and_le_right
    have h5:p.1=q.1/\p.2=q.2:=by omega
    rw[h5.1,h5.2]at av;exact kU.irrefl _ av
   .obtain⟨p,hp,rfl⟩:=List.mem_map.1 hx;have h1:=(lG hn).1 (Xi.1 hp).1
    have h3:p.2<=p.1:=by rw[<-h1.2];exact Nat.and_le_right
    exact Xc.2 (by omega)
  generalize(Pt n).filter (r9 n λx=>(x:Int)∈l)=Q at hQ Vq⊢
  refine Wp.count (λs=>s.1) Q.length (λk s=>∃cov:Nat->Bool,DI s.2.1/\(∀x:Nat,x<2 ^ n->(aT ae s.2.1 (x:Int)).getD Yy=(cL l x&& !cov x))/\s.2.2++dL (2 ^ n) (cL l) cov (Q.drop k)=dL (2 ^ n) (cL l) (λ_=>Yy) Q/\s.2.2.length<=k) (by omega) rfl ⟨λ_=>Yy,j1,λx hx=>by rw[Bool.eq_iff_iff,j2 x hx];simp[cL],rfl,WH _⟩ λk s hk hs hJ=>?_
  obtain⟨kk,Q2,KF⟩:=s;obtain⟨cov,g1,g2,g3,g4⟩:=hJ;dsimp only at hs g1 g2 g3 g4⊢;subst hs;rw[XQ];refine .dec (λh=>?_) (λh=> .some ?_)
  .have av:k<Q.length:=by omega
   have hm:=hQ _ (WW av);rw[Xm av]at g3
   refine Wp.seq (λs=>∃cov:Nat->Bool,DI s.1/\(∀x:Nat,x<2 ^ n->(aT ae s.1 (x:Int)).getD Yy=(cL l x&& !cov x))/\s.2++dL (2 ^ n) (cL l) cov (Q.drop (k+1))=dL (2 ^ n) (cL l) (λ_=>Yy) Q/\s.2.length<=k+1) ?_ λj hj=> .some ⟨av,aH (by omega),hj⟩
   refine Wp.seq (λs=>∃cov:Nat->Bool,DI s.1/\(∀x:Nat,x<2 ^ n->(aT ae s.1 (x:Int)).getD Yy=(cL l x&& !cov x))/\s.2++dL (2 ^ n) (cL l) cov (Q.drop (k+1))=dL (2 ^ n) (cL l) (λ_=>Yy) Q/\s.2.length<=k+1) (.bind (.idx k rfl (by simpa using av) ?_)) λj hj=> .some hj
   rw[List.getElem_map];generalize hp:Q[k]=p at hm g3
   refine Wp.seq (λs=>DI s.2/\(∀x:Nat,x<2 ^ n->(aT ae s.2 (x:Int)).getD Yy=(cL l x&& !(cov x||decide (x&&& p.1=p.2))))/\s.1=di (2 ^ n) (cL l) cov p.1 p.2) ?_ λt ht=>?_
   .refine Wp.count (λs=>s.2.1) (2 ^ n) (λj s=>DI s.2.2/\(∀x:Nat,x<2 ^ n->(aT ae s.2.2 (x:Int)).getD Yy=(cL l x&& !(cov x||(decide (x<j)&&decide (x&&& p.1=p.2)))))/\(s.1=Yx↔∃x,x<j/\(decide (x&&& p.1=p.2)&&cL l x&& !cov x)=Yx)) (by omega) rfl ⟨g1,λx hx=>by rw[g2 x hx];simp,by simp⟩ λj s hj hs hJ=>?_
    obtain⟨u,jj,mi⟩:=s;obtain⟨f1,f2,f3⟩:=hJ;dsimp only at hs f1 f2 f3⊢;subst hs;refine .dec (λh=>?_) (λh=> .some ?_)
    .have yB:j<2 ^ n:=by omega
     have xj:=f2 j yB
     have Vr:decide (j<j)=Yy:=by simp
     rw[Vr,Bool.false_and,Bool.or_false]at xj
     refine Wp.seq (λs=>DI s.2/\(∀x:Nat,x<2 ^ n->(aT ae s.2 (x:Int)).getD Yy=(cL l x&& !(cov x||(decide (x<j+1)&&decide (x&&& p.1=p.2)))))/\(s.1=Yx↔∃x,x<j+1/\(decide (x&&& p.1=p.2)&&cL l x&& !cov x)=Yx)) ?_ λq hq=> .some ⟨yB,aH (by omega),hq⟩
     refine Wp.seq (λt=>t=(decide (j&&& p.1=p.2)&&cL l j&& !cov j)) ?_ λt ht=>?_
     .refine .ite (λh1=> .ba (xi (by omega) (by omega)) (.some ?_)) (λh1=> .some ?_)
      .rw[h1]at xj;rw[Bool.and_assoc,<-xj,Bool.and_true]
      .have h1:(aT ae mi (j:Int)).getD Yy=Yy:=by simpa using h1
       rw[h1]at xj;rw[Bool.and_assoc,<-xj,Bool.and_false]
     .subst ht
      have hex:(∃x,x<j+1/\(decide (x&&& p.1=p.2)&&cL l x&& !cov x)=Yx)↔(∃x,x<j/\(decide (x&&& p.1=p.2)&&cL l x&& !cov x)=Yx)\/(decide (j&&& p.1=p.2)&&cL l j&& !cov j)=Yx:=by
       constructor
       .rintro⟨x,h1,h2⟩
        rcases WU.1 h1 with h1|rfl
        .exact .inl ⟨x,h1,h2⟩
        .exact .inr h2
       .rintro(⟨x,h1,h2⟩|h)
        .exact⟨x,by omega,h2⟩
        .exact⟨j,by omega,h⟩
      refine .ite (λht=> .some ⟨List.Pairwise.sublist (HN _ _) f1,λx hx=>?_,⟨λ_=>hex.2 (.inr ht),λ_=>rfl⟩⟩) (λht=> .some ⟨f1,λx hx=>?_,f3.trans (by rw[hex];exact⟨.inl,λh=>h.resolve_right ht⟩)⟩)
      .show(aT ae (kN ae mi (j:Int)) (x:Int)).getD Yy=_
       rw[FA f1];by_cases e:x=j
       .subst e;simp only[Xz,YI]at ht;simp[ht.1.1]
       .have e1:¬(x:Int)=j:=λg=>e (by exact_mod_cast g)
        rw[YA e1,f2 x hx];have:decide (x<j+1)=decide (x<j):=decide_eq_decide.2 (by omega);rw[this]
      .show(aT ae mi (x:Int)).getD Yy=_
       rw[f2 x hx];by_cases e:x=j
       .subst e
        cases h1:decide (x&&& p.1=p.2)<;>cases h2:cL l x<;>cases h3:cov x<;>simp_all
       .have:decide (x<j+1)=decide (x<j):=decide_eq_decide.2 (by omega);rw[this]
    .have:j=2 ^ n:=by omega
     subst this;refine⟨f1,λx hx=>by rw[f2 x hx,YD hx,Bool.true_and],?_⟩;unfold di;rw[Bool.eq_iff_iff,f3,List.any_eq_true];exact⟨λ⟨x,h1,h2⟩=>⟨x,Xc.2 h1,h2⟩,λ⟨x,h1,h2⟩=>⟨x,Xc.1 h1,h2⟩⟩
   .obtain⟨f1,f2,f3⟩:=ht;rw[ji,<-f3]at g3;refine .ite (λh1=> .bind (.pu (by simp;omega) (.some ⟨λx=>cov x||decide (x&&& p.1=p.2),f1,f2,?_,by simp;omega⟩))) (λh1=> .some ⟨λx=>cov x||decide (x&&& p.1=p.2),f1,f2,?_,by show KF.length<=k+1;omega⟩)
    .rw[YB h1]at g3;rw[<-g3];simp
    .rw[YA h1]at g3;rw[<-g3]
     congr 1
     refine kD λx hx DQ=>?_
     have hf:di (2 ^ n) (cL l) cov p.1 p.2=Yy:=by rw[<-f3];simpa using h1
     unfold di at hf;have:=List.any_eq_false.1 hf x (Xc.2 hx);rw[DQ]at this
     cases h2:decide (x&&& p.1=p.2)<;>cases h3:cov x<;>simp_all
  .have:k=Q.length:=by omega
   subst this;rw[List.drop_length]at g3
   show KF=_
   rw[<-g3];simp[dL]
end L
namespace L
def Tr(n:Nat)(l:List Int)(Q:List (Nat×Nat))(s s':(Nat->Bool)×List (Int×Int)):Prop:=
 ∀R:List (Nat×Nat),s.2++dL (2 ^ n) (cL l) s.1 ((Q++R).filter (r9 n λx=>(x:Int)∈l))=s'.2++dL (2 ^ n) (cL l) s'.1 (R.filter (r9 n λx=>(x:Int)∈l))
theorem Tr.nil{n:Nat}{l:List Int}(s:(Nat->Bool)×List (Int×Int)):Tr n l [] s s:=λ_=>rfl
theorem Tr.trans{n:Nat}{l:List Int}{Q Q':List (Nat×Nat)}{s s' Si:(Nat->Bool)×List (Int×Int)}(h:Tr n l Q s s')(g:Tr n l Q' s' Si):Tr n l (Q++Q') s Si:=λR=>by
 rw[W7,h,g]
theorem Tr.skip{n:Nat}{l:List Int}{p:Nat×Nat}{s:(Nat->Bool)×List (Int×Int)}(h:di (2 ^ n) (cL l) s.1 p.1 p.2=Yy\/¬zy n (λx=>(x:Int)∈l) p.1 p.2):Tr n l [p] s s:=λR=>by
 congr 1
 rw[List.singleton_append,Yk];split
 .rename_i hp;rw[ji]
  rcases h with h|h
  .rw[h];rfl
  .exact absurd (nY.1 hp) h
 .rfl
theorem Tr.take{n:Nat}{l:List Int}{p:Nat×Nat}{s:(Nat->Bool)×List (Int×Int)}(h:di (2 ^ n) (cL l) s.1 p.1 p.2=Yx)(hp:zy n (λx=>(x:Int)∈l) p.1 p.2):Tr n l [p] s (λx=>s.1 x||decide (x&&& p.1=p.2),s.2++[pI p.1 p.2]):=λR=>by
 rw[List.singleton_append,Yk,YB (nY.2 hp),ji,YB h,W7];rfl
theorem mj{α:Type}(f:Nat->List α)(k:Nat):(WM (k+1)).flatMap f=(WM k).flatMap f++f k:=by
 rw[List.range_succ,List.flatMap_append];simp
theorem pP(m k:Nat):((WM (k+1)).filter λb=>decide (b&&& m=b)).map (λb=>(m,b))=((WM k).filter λb=>decide (b&&& m=b)).map (λb=>(m,b))++(if k&&& m=k then[(m,k)]else[]):=by
 rw[fW,XP]
 congr 1
 by_cases h:k&&& m=k<;>simp[h]
theorem HO{l:List Int}(hl:l.length<=1000000)(a:Int):M.iN br l a=some (CE (zA a) (λx=>(x:Int)∈l) (cL l)):=by
 have hn:=u7 a;generalize Q1:zA a=n at hn;have h8:=ni hn;have nv:=Nat.two_pow_pos n;unfold M.iN;rw[CC,WE,Q1,zB hl hn,WE];have hlen:((nV l (2 ^ n)).length:Int)=((2 ^ n:Nat):Int):=nW _ _;rw[hlen]
 have nG:Xb (((2 ^ n:Nat):Int)).toNat Yy=(WM (2 ^ n)).map λ_=>Yy:=by
  rw[WN];apply List.ext_getElem (by simp);intro i h1 h2;simp
 refine Wp.eq (.bind (kA.2 ⟨by have:((2 ^ n:Nat):Int)<=256:=by exact_mod_cast h8
                               have h0:(0:Int)<=((2 ^ n:Nat):Int):=Int.natCast_nonneg _
                               omega,?_⟩))
 rw[nG]
 refine Wp.count (λs=>s.1) (n+1) (λc s=>∃cov:Nat->Bool,s.2.1=(WM (2 ^ n)).map cov/\Tr n l ((WM c).flatMap (Ms n)) (λ_=>Yy,[]) (cov,s.2.2)/\s.2.2.length<=c*65536) (by omega) rfl ⟨λ_=>Yy,rfl,Tr.nil _,Nat.zero_le _⟩ λc s hc hs hJ=>?_
 obtain⟨cc,MU,KF⟩:=s;obtain⟨cov,rfl,hT,MV⟩:=hJ;dsimp only at hs hT MV⊢;subst hs;refine .dec (λh=>?_) (λh=> .some ?_)
 .have Vi:c<=n:=by omega
  refine Wp.seq (λj=>∃cov':Nat->Bool,j.1=(WM (2 ^ n)).map cov'/\Tr n l (Ms n c) (cov,KF) (cov',j.2)/\j.2.length<=c*65536+65536) ?_ λj hj=>?_
  .refine Wp.count (λs=>s.1) (2 ^ n) (λm s=>∃cov':Nat->Bool,s.2.1=(WM (2 ^ n)).map cov'/\Tr n l ((WM m).flatMap λm:Nat=>if dK (m:Int)=(c:Int)then Bs m else[]) (cov,KF) (cov',s.2.2)/\s.2.2.length<=c*65536+m*256) (by omega) rfl ⟨cov,rfl,Tr.nil _,Xa MV (by omega)⟩ λm s hm hs hJ=>?_
   obtain⟨mm,MU,rs⟩:=s;obtain⟨cv,rfl,Q3,FC⟩:=hJ;dsimp only at hs Q3 FC⊢;subst hs;refine .dec (λh=>?_) (λh=> .some ?_)
   .have Ge:m<2 ^ n:=by exact_mod_cast h
    refine Wp.seq (λj=>∃cov':Nat->Bool,j.1=(WM (2 ^ n)).map cov'/\Tr n l (if dK (m:Int)=(c:Int)then Bs m else[]) (cv,rs) (cov',j.2)/\j.2.length<=c*65536+m*256+256) ?_ λj hj=>?_
    .refine Wp.seq (λj=>∃cov':Nat->Bool,j.1=(WM (2 ^ n)).map cov'/\Tr n l (if dK (m:Int)=(c:Int)then Bs m else[]) (cv,rs) (cov',j.2)/\j.2.length<=c*65536+m*256+256) (.ba (Fv (by omega)) ?_) λj hj=> .some hj
     refine .ri (λh1=> .some ⟨cv,rfl,by rw[YA h1];exact Tr.nil _,Xa FC (by omega)⟩) (λh1=>?_);rw[YB h1]
     refine Wp.count (λs=>s.1) (m+1) (λb s=>∃cov':Nat->Bool,s.2.1=(WM (2 ^ n)).map cov'/\Tr n l (((WM b).filter λb=>decide (b&&& m=b)).map λb=>(m,b)) (cv,rs) (cov',s.2.2)/\s.2.2.length<=c*65536+m*256+b) (by omega) rfl ⟨cv,rfl,Tr.nil _,Xa FC (by omega)⟩ λb s hb hs hJ=>?_
     obtain⟨bb,MU,rt⟩:=s;obtain⟨cw,rfl,NJ,J7⟩:=hJ;dsimp only at hs NJ J7⊢;subst hs;refine .dec (λh=>?_) (λh=> .some ?_)
     .have Wu:b<=m:=by omega
      refine Wp.seq (λj=>∃cov':Nat->Bool,j.1=(WM (2 ^ n)).map cov'/\Tr n l (((WM (b+1)).filter λb=>decide (b&&& m=b)).map λb=>(m,b)) (cv,rs) (cov',j.2)/\j.2.length<=c*65536+m*256+(b+1)) ?_ λj hj=> .some ⟨by omega,aH (by omega),hj⟩
      refine Wp.seq (λj=>∃cov':Nat->Bool,j.1=(WM (2 ^ n)).map cov'/\Tr n l (((WM (b+1)).filter λb=>decide (b&&& m=b)).map λb=>(m,b)) (cv,rs) (cov',j.2)/\j.2.length<=c*65536+m*256+(b+1)) ?_ λj hj=> .some hj
      rw[Fl (show b<9223372036854775808 by omega) (show m<9223372036854775808 by omega),pP]
      have MW:(b&&& m=b->di (2 ^ n) (cL l) cw m b=Yy\/¬zy n (λx=>(x:Int)∈l) m b)->Tr n l (((WM b).filter λb=>decide (b&&& m=b)).map (λb=>(m,b))++(if b&&& m=b then[(m,b)]else[])) (cv,rs) (cw,rt):=λh=>by
       refine NJ.trans ?_;split
       .rename_i e;exact Tr.skip (h e)
       .exact Tr.nil _
      refine Wp.seq (λj=>j=Yx↔(b&&& m=b->di (2 ^ n) (cL l) cw m b=Yy\/¬zy n (λx=>(x:Int)∈l) m b)) ?_ λj hj=>?_
      .refine .ri (λh2=> .some ⟨λ_ e=>absurd (by rw[e]) h2,λ_=>rfl⟩) (λh2=> .ba (Fw hn (by omega)) ?_)
       have h2:b&&& m=b:=by exact_mod_cast h2
       cases hf:di (2 ^ n) (λx=>decide ((x:Int)∈l)) cw m b with
       |false=>exact .ite (λ_=> .some ⟨λ_ _=> .inl hf,λ_=>rfl⟩) (λh=>absurd rfl h)
       |true=>
        refine .ite (λh=>absurd h (by simp)) (λ_=>Wp.seq (λr=>r=Yx↔zy n (λx=>(x:Int)∈l) m b) (Fy hn Ge h2) λr hr=> .some ?_)
        cases Sj:r with
        |true=>exact⟨λh=>(by cases h),λh=>by
          rcases h h2 with h|h
          .have ml:di (2 ^ n) (cL l) cw m b=Yx:=hf;rw[ml]at h;cases h
          .exact absurd (hr.1 Sj) h⟩
        |false=>exact⟨λ_ _=> .inr λh=>absurd (Sj.symm.trans (hr.2 h)) (by simp),λ_=>rfl⟩
      .refine .ite (λFu=> .some ⟨cw,rfl,MW (hj.1 Fu),Xa J7 (by omega)⟩) (λJ6=>?_)
       have Cv:=λh=>J6 (hj.2 h)
       have h2:b&&& m=b:=Classical.byContradiction λg=>Cv λe=>absurd e g
       have tP:di (2 ^ n) (cL l) cw m b=Yx:=by
        cases e:di (2 ^ n) (cL l) cw m b with
        |true=>rfl
        |false=>exact absurd (λ_=> .inl e) Cv
       have Bp:zy n (λx=>(x:Int)∈l) m b:=Classical.byContradiction λg=>Cv λ_=> .inr g
       refine Wp.seq (λj=>j=(WM (2 ^ n)).map λx=>cw x||decide (x&&& m=b)) ?_ λj hj=>?_
       .refine Wp.count (λs=>s.1) (2 ^ n) (λk s=>s.2=(WM (2 ^ n)).map λx=>cw x||(decide (x<k)&&decide (x&&& m=b))) (by omega) rfl (by simp) λk s hk hs hJ=>?_
        obtain⟨kk,cc⟩:=s;dsimp only at hs hJ⊢;subst hs hJ;refine .dec (λh=>?_) (λh=> .some ?_)
        .have Gr:k<2 ^ n:=by exact_mod_cast h
         have jT:∀v:Bool,v=(cw k||decide (k&&& m=b))->be ((WM (2 ^ n)).map λx=>cw x||(decide (x<k)&&decide (x&&& m=b))) (k:Int) v=(WM (2 ^ n)).map λx=>cw x||(decide (x<k+1)&&decide (x&&& m=b)):=λv hv=>by
          unfold be;rw[WN,gz]
          refine List.map_congr_left λy hy=>?_
          by_cases e:y=k
          .subst e;rw[YB rfl,hv];simp
          .rw[YA e];have:decide (y<k+1)=decide (y<k):=decide_eq_decide.2 (by omega);rw[this]
         refine Wp.seq (λj=>j=(WM (2 ^ n)).map λx=>cw x||(decide (x<k+1)&&decide (x&&& m=b))) (.bind (u9 Gr ?_)) λj hj=> .some ⟨Gr,aH (by omega),hj⟩
         refine .ite (λh1=> .bind (u9 Gr (.some (jT _ ?_)))) (λh1=> .ba (nk (by omega) (by omega)) (.bind (u9 Gr (.some (jT _ ?_)))))
         .have:cw k=Yx:=by simpa using h1
          rw[this];rfl
         .have:cw k=Yy:=by simpa using h1
          rw[this];rfl
        .have:k=2 ^ n:=by have:¬k<2 ^ n:=λg=>h (by exact_mod_cast g);omega
         subst this
         refine List.map_congr_left λx hx=>?_
         rw[YD (Xc.1 hx),Bool.true_and]
       .refine .bind (.pu (by have MX:c*65536<=8*65536:=W1 _ (by omega)
                              have:m*256<=256*256:=W1 _ (by omega)
                              simp;omega) (.some ⟨_,hj,?_,by simp;omega⟩))
        refine NJ.trans ?_;rw[YB h2];exact Tr.take (s:=(cw,rt)) tP Bp
     .have:b=m+1:=by omega
      subst this;exact⟨cw,rfl,NJ,Xa J7 (by omega)⟩
    .obtain⟨cov',h1,h2,h3⟩:=hj;refine .some ⟨Ge,aH (by omega),cov',h1,?_,Xa h3 (by omega)⟩;rw[mj];exact Q3.trans h2
   .have:m=2 ^ n:=by have:¬m<2 ^ n:=λg=>h (by exact_mod_cast g);omega
    subst this;have:2 ^ n*256<=256*256:=W1 _ h8;exact⟨cv,rfl,Q3,Xa FC (by omega)⟩
  .obtain⟨cov',h1,h2,h3⟩:=hj;refine .some ⟨by omega,aH (by omega),cov',h1,?_,Xa h3 (by omega)⟩;rw[mj];exact hT.trans h2
 .have:c=n+1:=by omega
  subst this;have:=hT [];simp only[List.append_nil,List.nil_append,List.filter_nil,dL]at this
  show KF=_
  rw[<-this];rfl
end L
namespace L
abbrev pQ:Type:=aj.den
abbrev FD:Type:=bJ.den
def Gs(x:Int)(r:pQ):Bool:=decide (al .and .i64 x r.1.1=r.1.2)
def jv(x:Int):List pQ->Int×Bool
 |[]=>(0,Yy)
 |r::l=>if Gs x r=Yx then(r.2,Yx)else jv x l
theorem tA{x:Int}{r:pQ}{l:List pQ}:jv x (r::l)=if Gs x r=Yx then(r.2,Yx)else jv x l:=rfl
theorem FE(r:pQ)(x:Int):M.cy br r.1 x=some (Gs x r):=rfl
theorem FF(t:FD)(x:Int)(hl:t.2.2.2.length<=9223372036854775807):M.c9 br t x=some (jv x t.2.2.2):=by
 unfold M.c9;refine Wp.eq (Wp.count (λs=>s) t.2.2.2.length (λk _=>jv x t.2.2.2=jv x (t.2.2.2.drop k)) hl rfl rfl λk s hk hs hJ=>?_);subst hs;refine .dec (λh=>?_) (λh=> .some ?_)
 .have av:k<t.2.2.2.length:=by omega
  rw[Xm av]at hJ;refine .bind (.idx k rfl av (.ba (FE _ x) (.ite (λh1=> .some ?_) (λh1=> .some ⟨av,aH (by omega),?_⟩))))
  .show _=jv x _
   rw[hJ];unfold jv;rw[YB h1]
  .show jv x _=_
   rw[hJ];conv=>lhs;unfold jv
   rw[YA h1]
 .have:k=t.2.2.2.length:=by omega
  subst this
  show _=jv x _
  rw[hJ,List.drop_length];rfl
def rP(x:Int)(l:List pQ):Int:=if(jv x l).2=Yx then(if l.any (λr=>Gs x r&& !decide (r.2=(jv x l).1))=Yx then 11 else 0)else 10
theorem CF{x:Int}{l:List pQ}(h:∀r∈l,Gs x r=Yy):jv x l=(0,Yy):=by
 induction l with
 |nil=>rfl
 |cons r l ih=>
  unfold jv;rw[YA (by rw[h r Xx];simp)]
  exact ih λq hq=>h q (Xk _ hq)
theorem FG{x:Int}{a l:List pQ}(h:∀r∈a,Gs x r=Yy):jv x (a++l)=jv x l:=by
 induction a with
 |nil=>rfl
 |cons r a ih=>
  rw[Ye,tA,YA (by rw[h r Xx];simp)]
  exact ih λq hq=>h q (Xk _ hq)
theorem FH(l:List pQ)(x:Int)(hl:l.length<=9223372036854775807):M.cB br l x=some (rP x l):=by
 unfold M.cB;refine Wp.eq (Wp.join ?_)
 have kP:∀{k:Nat}(hk:k<l.length){P:pQ->Prop},(∀r∈l.take k,P r)->P l[k]->∀r∈l.take (k+1),P r:=λ{k}hk{P}h h1 r hr=>by
  rw[<-Xf hk,WQ,WO]at hr
  rcases hr with hr|rfl
  .exact h r hr
  .exact h1
 refine Wp.count (λs=>s.2.2) l.length (λk s=>(s.1=Yy->∀r∈l.take k,Gs x r=Yy)/\(s.1=Yx->jv x l=(s.2.1,Yx)/\∀r∈l.take k,Gs x r=Yx->r.2=s.2.1)) hl rfl ⟨λ_ r hr=>by simp at hr,λh=>by cases h⟩ λk s hk hs hJ=>?_
 obtain⟨f,o,kk⟩:=s;obtain⟨g1,g2⟩:=hJ;dsimp only at hs g1 g2⊢;subst hs;refine .dec (λh=>?_) (λh=> .some ?_)
 .have av:k<l.length:=by omega
  refine .join (.bind (.idx k rfl av (.ba (FE _ x) (.ite (λh1=> .some ?_) (λh1=>?_)))))
  .have h1:Gs x l[k]=Yy:=by simpa using h1
   refine .some ⟨av,aH (by omega),λhf=>kP av (g1 hf) h1,λhf=>⟨(g2 hf).1,kP av (g2 hf).2 λh=>by rw[h1]at h;cases h⟩⟩
  .have h1:Gs x l[k]=Yx:=by simpa using h1
   cases f with
   |true=>
    obtain⟨h2,h3⟩:=g2 rfl;refine .bind (.some (.ite (λh4=> .some ?_) (λh4=> .some (.some ⟨av,aH (by omega),λh=>(by cases h),λ_=>?_⟩))))
    .show(11:Int)=rP x l
     unfold rP;rw[h2,YB rfl,YB];refine List.any_eq_true.2 ⟨l[k],WW av,?_⟩;rw[h1,Bool.true_and];exact h4
    .have h5:(l[k].2:Int)=o:=by simpa using h4
     exact⟨by rw[h2];exact YH (λz=>(z,Yx)) h5.symm,kP av (λr hr hm=>(h3 r hr hm).trans h5.symm) λ_=>rfl⟩
   |false=>
    have h2:=g1 rfl;refine .bind (.some (.ite (λh4=>(by cases h4)) (λh4=> .some (.some ⟨av,aH (by omega),λh=>(by cases h),λ_=>⟨?_,kP av (λr hr hm=>by rw[h2 r hr]at hm;cases hm) λ_=>rfl⟩⟩))));have h5:jv x l=jv x (l.drop k):=(YH (jv x) (XW k l).symm).trans (FG h2);rw[h5,Xm av,tA,YB h1]
 .have:k=l.length:=by omega
  subst this;rw[W3]at g1 g2
  show Wp _ _
  cases f with
  |true=>
   obtain⟨h2,h3⟩:=g2 rfl;refine .some ?_
   show(0:Int)=rP x l
   unfold rP;rw[h2,YB rfl,YA];intro h;obtain⟨r,hr,h4⟩:=List.any_eq_true.1 h;rw[Xz]at h4;have:=h3 r hr h4.1;simp[this]at h4
  |false=>
   refine .some ?_
   show(10:Int)=rP x l
   unfold rP;rw[CF (g1 rfl)];rfl
def NK(n:Nat)(p:Int×Int):Bool:=decide (0<=p.1)&&(decide (p.1<((2 ^ zA n:Nat):Int))&&(decide (0<=p.2)&&decide (al .and .i64 p.2 p.1=p.2)))
theorem zC(n:Nat)(p:aa.den):M.gy br p (n:Int)=some (NK n p):=by
 have hs:=iq (j:=zA n) (by have:=u7 n;omega);unfold M.gy NK;rw[xg];simp only[WE,hs];generalize((2 ^ zA n:Nat):Int)=K
 by_cases h1:(0:Int)<=p.1<;>by_cases h2:(p.1:Int)<K<;>by_cases h3:(0:Int)<=p.2<;>simp[h1,h2,h3]
def HP(t:FD):Int:=if 8<t.2.1.length then 4 else if t.2.2.2.all (λr=>NK t.2.1.length r.1)=Yx then((c7 (λk=>if rP (k:Int) t.2.2.2=0 then Yw else some (rP (k:Int) t.2.2.2)) (2 ^ t.2.1.length)).getD 0)else 3
theorem CG(t:FD)(hl:t.2.2.2.length<=9223372036854775807):M.cR br t=some (HP t):=by
 unfold M.cR HP;refine Wp.eq (.dec (λh=> .some ?_) (λh=>?_))
 .rw[YB (by omega)]
 rw[YA (by omega)]
 have hn:t.2.1.length<=8:=by omega
 have h8:=ni hn;refine .join (Wp.count (λs=>s) t.2.2.2.length (λk _=>∀r∈t.2.2.2.take k,NK t.2.1.length r.1=Yx) hl rfl (λr hr=>by simp at hr) λk s hk hs hJ=>?_);subst hs;refine .dec (λh=>?_) (λh=> .some ?_)
 .have av:k<t.2.2.2.length:=by omega
  refine .bind (.idx k rfl av (.ba (zC _ _) (.ite (λh1=> .some ?_) (λh1=> .some ⟨av,aH (by omega),λr hr=>?_⟩))))
  .show(3:Int)=_
   rw[YA];intro h;have:=List.all_eq_true.1 h _ (WW av);rw[this]at h1;cases h1
  .rw[<-Xf av,WQ,WO]at hr
   rcases hr with hr|rfl
   .exact hJ r hr
   .simpa using h1
 .have:k=t.2.2.2.length:=by omega
  subst this;rw[W3]at hJ
  show Wp _ _
  rw[YB (List.all_eq_true.2 hJ)];refine .ba (iq (by omega)) ?_;refine Wp.first (λs=>s) (2 ^ t.2.1.length) (λk=>if rP (k:Int) t.2.2.2=0 then Yw else some (rP (k:Int) t.2.2.2)) (by omega) rfl (λk s hk hs hJ=>?_) (λs hs hn=>?_)
  .subst hs;refine .dec (λ_=> .ba (FH _ _ hl) (.ri (λh1=> .some (.inr ⟨_,_,rfl,YA h1,λh=>?_⟩)) (λh1=> .some (.inl ⟨YB h1,_,rfl,aH (by omega)⟩)))) (λh=>absurd (by exact_mod_cast hk) h);rw[h];rfl
  .subst hs;refine .dec (λh=>absurd h (by omega)) (λ_=> .some ⟨_,rfl,?_⟩);rw[hn];rfl
end L
namespace L
theorem FI(hA:M.fF br=some Yx)(t:FD)(x:Int)(h0:0<=x)(h1:x<=255):M.cZ br t x=some Yx:=by
 unfold M.cZ;refine Wp.eq (Wp.seq (λj=>j=Yy->t.2.1.length<=8/\t.2.2.2.length<=300/\HP t=0) (.dec (λh=> .some λh=>(by cases h)) (λh=> .dec (λh2=> .some λh=>(by cases h)) (λh2=>?_))) λj hj=> .ite (λh=> .ba hA (.some rfl)) (λh=>?_))
 .refine .ba (CG t (by omega)) (.some λh3=>⟨by omega,by omega,by simpa using h3⟩)
 obtain⟨hn,hr,hv⟩:=hj (by simpa using h);have h8:=ni hn;have hp:=Nat.two_pow_pos t.2.1.length;obtain⟨y,rfl⟩:=WR h0;refine .ba (iq (by omega)) (.ba (x:=((y%2 ^ t.2.1.length:Nat):Int)) ?_ (.ba (FF t _ (by omega)) ?_))
 .rw[wrap_i64 (by omega)];unfold GD;rw[YA (by omega),Int.ofNat_tmod]
 have av:=Nat.mod_lt y hp;generalize y%2 ^ t.2.1.length=z at av
 have hc:rP (z:Int) t.2.2.2=0:=by
  unfold HP at hv;rw[YA (by omega)]at hv;split at hv
  .cases hf:c7 (λk=>if rP (k:Int) t.2.2.2=0 then Yw else some (rP (k:Int) t.2.2.2)) (2 ^ t.2.1.length)with
   |none=>
    have:=cq.1 hf z av;by_cases g:rP (z:Int) t.2.2.2=0
    .exact g
    .rw[YA g]at this;cases this
   |some e=>
    rw[hf]at hv;obtain⟨k,hk,h1,_⟩:=eM hf;have hv:e=0:=hv;split at h1
    .cases h1
    .rename_i g;rw[hv]at h1;exact absurd (WD h1) g
  .cases hv
 unfold rP at hc;split at hc
 case isFalse=>cases hc
 rename_i ho;split at hc
 .cases hc
 rename_i ha;refine .join (Wp.count (λs=>s) t.2.2.2.length (λ_ _=>True) (by omega) rfl trivial λk s hk hs hJ=>?_);subst hs;refine .dec (λh=>?_) (λh=> .some ?_)
 .have av:k<t.2.2.2.length:=by omega
  refine Wp.seq (λj=>j=Yy) (.bind (.idx k rfl av (.ba (FE _ _) (.ite (λh1=> .bind (.idx k rfl av (.some ?_))) (λh1=> .some rfl))))) λj hj=> .ite (λh=>by rw[hj]at h;cases h) (λ_=> .some ⟨av,aH (by omega),trivial⟩)
  refine Bool.eq_false_iff.2 λh2=>ha (List.any_eq_true.2 ⟨_,WW av,?_⟩)
  rw[h1,Bool.true_and];exact h2
 .show Wp _ _
  refine Wp.seq (λj=>j=Yx) (.ite (λ_=> .ba hA (.some rfl)) (λh=>absurd ho h)) λj hj=> .some hj
end L
namespace L
def ID(r:Ty)(d:Int):Prop:=VR r/\(r.1:Int)<=d/\d<(r.2:Int)
instance(r:Ty)(d:Int):Decidable (ID r d):=by unfold ID;infer_instance
theorem J8(r:Ty)(d:Int):M.dU br r d=some (decide (ID r d)):=by
 obtain⟨(r1:Int),(r2:Int)⟩:=r;apply Wp.eq;unfold M.dU;simp only[JX,W_,YF,YG,reduceCtorEq];unfold ID;dsimp only[ae,Row.den]
 by_cases h:VR ((r1,r2):Ty)<;>simp only[h,W_,YF,YG,reduceCtorEq]
 omega
theorem rq{α:Type}{l:List α}{i:Int}(h0:0<=i)(h1:i<(l.length:Int)):∃x,idx l i=some x/\x∈l:=by
 obtain⟨k,rfl⟩:=WR h0
 have hk:k<l.length:=by omega
 exact⟨_,aB hk,WW hk⟩
theorem bV{α:Type}(l:List α)(i:Int)(y:α):(be l i y).length=l.length:=by unfold be;simp
def ids(P:Nat->Bool)(k:Nat):List Int:=((WM k).filter P).map λi:Nat=>(i:Int)
theorem iO(P:Nat->Bool)(k:Nat):ids P (k+1)=ids P k++(if P k=Yx then[(k:Int)]else[]):=by
 unfold ids;rw[List.range_succ,List.filter_append,XP];by_cases h:P k=Yx
 .rw[YB h];simp[h]
 .rw[YA h];simp[h]
theorem nZ{P:Nat->Bool}{k:Nat}{j:Int}:j∈ids P k↔∃i:Nat,i<k/\P i=Yx/\j=(i:Int):=by
 unfold ids;simp only[List.mem_map,Xi,Xc];constructor
 .rintro⟨i,⟨h1,h2⟩,rfl⟩;exact⟨i,h1,h2,rfl⟩
 .rintro⟨i,h1,h2,rfl⟩;exact⟨i,⟨h1,h2⟩,rfl⟩
theorem kE(P:Nat->Bool)(k:Nat):(ids P k).length<=k:=by
 unfold ids;rw[XQ];exact Xa (XX ..) (by simp)
def ix(l:List Int)(n:Int):Int:=r7 (λx=>decide (x=n)) l
theorem FJ{l:List Int}{n:Int}:0<=ix l n↔n∈l:=by
 unfold ix;rw[lC];constructor
 .rintro⟨x,hx,h⟩
  exact(YC h)▸hx
 .exact λh=>⟨n,h,YD rfl⟩
theorem xk(P:Nat->Bool)(n:Nat):∀m,∃t,ids P (n+m)=ids P n++t
 |0=>⟨[],by simp⟩
 |m+1=>by
  obtain⟨t,ht⟩:=xk P n m;rw[<-Nat.add_assoc,iO,ht,W7];exact⟨_,rfl⟩
theorem J9{P:Nat->Bool}{n k:Nat}(hk:k<n)(h:P k=Yx):ix (ids P n) (k:Int)=((ids P k).length:Int):=by
 obtain⟨t,ht⟩:=xk P (k+1) (n-(k+1));rw[show k+1+(n-(k+1))=n by omega,iO,YB h,W7]at ht;unfold ix
 refine uO (k:=(ids P k).length) (by rw[ht];simp) ?_ λj hj Gh=>?_
 .rw[YI];simp only[ht];rw[List.getElem_append_right (WH _)];simp
 .apply YE;simp only[ht];rw[List.getElem_append_left hj];obtain⟨i,h1,_,h3⟩:=nZ.1 (WW hj);rw[h3];omega
def zD(rules:List gr)(L:List Int):Nat->Nat->Int
 |0,_=> -1
 |f+1,i=>match rules[i]? with
  |none=> -1
  |some r=>if 0<=(r.2.2.1:Int)/\(r.2.2.1:Int)<(i:Int)then(if 0<=ix L r.2.2.1 then ix L r.2.2.1 else zD rules L f (r.2.2.1:Int).toNat)else-1
theorem tB(rules:List gr)(L:List Int):∀f f' i,i<f->i<f'->zD rules L f i=zD rules L f' i
 |0,_,_,h,_=>absurd h (Nat.not_lt_zero _)
 |_+1,0,_,_,h=>absurd h (Nat.not_lt_zero _)
 |f+1,f'+1,i,h,h'=>by
  unfold zD
  cases rules[i]? with
  |none=>rfl
  |some r=>
   dsimp only
   obtain⟨(p:Int),Ka⟩:∃p:Int,p=r.2.2.1:=⟨_,rfl⟩
   simp only[<-Ka];by_cases hp:0<=p/\p<(i:Int)
   .rw[YB hp,YB hp];by_cases h0:0<=ix L p
    .rw[YB h0,YB h0]
    .rw[YA h0,YA h0];exact tB rules L f f' _ (by omega) (by omega)
   .rw[YA hp,YA hp]
def o6(rules:List gr)(L:List Int)(i:Nat):Int:=zD rules L (i+1) i
theorem AI{rules:List gr}{L:List Int}{i:Nat}(hi:i<rules.length):o6 rules L i=if 0<=(rules[i].2.2.1:Int)/\(rules[i].2.2.1:Int)<(i:Int)then(if 0<=ix L rules[i].2.2.1 then ix L rules[i].2.2.1 else o6 rules L (rules[i].2.2.1:Int).toNat)else-1:=by
 show zD rules L (i+1) i=_
 unfold zD;rw[WJ hi];dsimp only
 obtain⟨(p:Int),Ka⟩:∃p:Int,p=rules[i].2.2.1:=⟨_,rfl⟩
 simp only[<-Ka];by_cases hp:0<=p/\p<(i:Int)
 .rw[YB hp,YB hp];by_cases h0:0<=ix L p
  .rw[YB h0,YB h0]
  .rw[YA h0,YA h0];exact tB rules L _ _ _ (by omega) (by omega)
 .rw[YA hp,YA hp]
theorem FK(r:Ty)(d:Int):M.iK br r d=some (decide (ID r d)):=by
 obtain⟨(r1:Int),(r2:Int)⟩:=r;apply Wp.eq;unfold M.iK;simp only[MA,W_,YF,YG,reduceCtorEq];unfold ID;dsimp only[ae,Row.den]
 by_cases h:VR ((r1,r2):Ty)<;>simp only[h,W_,YF,YG,reduceCtorEq]
 omega
theorem zE(l:List Int)(n:Int)(hl:l.length<=100000):M.lr br l n=some (ix l n):=by
 unfold M.lr ix;refine uP (by unfold maxLen;omega) (λk h=>?_) ?_
 .rw[uM h,YB rfl,aB h,WE]
 .simp only[rj,decide_false,W0,if_false]
theorem xl(x:jV)(L:List Int)(hL:L.length<=100000)(i:Nat)(hi:i<x.2.2.2.2.length)(gC:i<=100000):M.kr br x L (i:Int)=some (o6 x.2.2.2.2 L i):=by
 obtain⟨rules,hr⟩:∃r:List gr,r=x.2.2.2.2:=⟨_,rfl⟩
 apply Wp.eq;unfold M.kr;rw[<-hr]at hi⊢;rw[aB hi,WE];refine Wp.loop (λs=>∃j:Nat,∃hj:j<rules.length,s=((j:Int),rules[j].2.2.1)/\o6 rules L i=o6 rules L j/\j<=i) (λs=>s.1.toNat) ⟨i,hi,rfl,rfl,WH _⟩ (by unfold br;dsimp only;omega) ?_
 rintro s ⟨j,hj,rfl,hp,RD⟩
 dsimp only
 obtain⟨(p:Int),Ka⟩:∃p:Int,p=rules[j].2.2.1:=⟨_,rfl⟩
 rw[hp,AI hj,<-Ka]
 refine Wp.seq (λb=>b=decide (0<=p/\p<(j:Int))) ?_ λb hb=>?_
 .refine Wp.dec (λh=> .some ?_) λh=> .some ?_
  .simp only[h,true_and]
  .rw[YE (λg=>h g.1)]
 .subst hb
  refine Wp.dec (λh=>?_) λh=> .some ?_
  .rw[YB h,zE _ _ hL,WE]
   refine Wp.dec (λg=> .some ?_) λg=>?_
   .show ix L p=_
    rw[YB g]
   .obtain⟨q,rfl⟩:=WR h.1
    have hq:q<j:=by omega
    have MY:q<rules.length:=by omega
    rw[aB MY,WE];refine .some ⟨⟨q,MY,rfl,?_,by omega⟩,by dsimp only;omega⟩;rw[YA g,WN]
  .show(-1:Int)=_
   rw[YA h]
def kp(rules:List gr)(Pr:gr->Bool)(i:Nat):Bool:=match rules[i]? with
 |some r=>Pr r
 |none=>Yy
theorem FL{rules:List gr}{Pr:gr->Bool}{i:Nat}(h:i<rules.length):kp rules Pr i=Pr rules[i]:=by
 unfold kp;rw[WJ h]
def vc(a d:Int)(r:gr):Bool:=decide ((r.2.1:Int)=a/\ID r.2.2.2.2.1 d)
def fe(rules:List gr)(a d:Int):List Int:=ids (kp rules (vc a d)) rules.length
theorem Kb{r:gr}{a d:Int}{β:Type}{k:Bool->Option β}:(((if(decide (r.2.1=a))=Yx then(some (decide (ID r.2.2.2.2.1 d)):Option Bool)else some Yy):Option Bool).bind k)=k (vc a d r):=by
 unfold vc;by_cases h:(r.2.1:Int)=a
 .rw[YB (by simpa using h),WE]
  congr 1
  simp[h]
 .rw[YA (by simpa using h),WE]
  congr 1
  simp[h]
theorem MZ(a d:Int)(r:gr):M.cX br r a d=some (vc a d r,a,d):=by
 unfold M.cX;simp only[J8,WE];exact Kb
def eP(P:Nat->Bool)(n:Nat):List Nat:=(WM n).filter P
theorem tC(P:Nat->Bool)(k:Nat):eP P (k+1)=eP P k++(if P k=Yx then[k]else[]):=fW k P
theorem FM(P:Nat->Bool)(k:Nat):(eP P k).length=(ids P k).length:=by unfold ids eP;simp
def fa(rules:List gr)(a d:Int):List Int:=(eP (kp rules (vc a d)) rules.length).map (o6 rules (fe rules a d))
def gO(rules:List gr)(a d:Int):List Int:=(eP (kp rules (vc a d)) rules.length).map λi=>match rules[i]? with
 |some r=>r.2.2.2.1
 |none=>0
theorem FN{rules:List gr}{a d:Int}(hl:rules.length<=100000):M.cY br rules a d=some (a,d,fe rules a d,fa rules a d):=by
 unfold M.cY;refine Wp.eq (wp_bind.2 (kA.2 ⟨by omega,?_⟩));rw[WN]
 obtain⟨P,hP⟩:∃P,P=kp rules (vc a d):=⟨_,rfl⟩
 obtain⟨L,hL⟩:∃L,L=fe rules a d:=⟨_,rfl⟩
 have NL:L=ids P rules.length:=by rw[hL,hP];rfl
 refine Wp.count (λs=>s.1) rules.length (λk s=>s.2.1=a/\s.2.2.1=d/\s.2.2.2.1.length=rules.length/\(∀i:Nat,∀h:i<s.2.2.2.1.length,i<k->s.2.2.2.1[i]=if P i=Yx then ix L i else o6 rules L i)/\s.2.2.2.2.1=ids P k/\s.2.2.2.2.2=(eP P k).map (o6 rules L)) (by omega) rfl ⟨rfl,rfl,by simp,λi _ hi=>absurd hi (by omega),rfl,rfl⟩ λk s hk hs hJ=>?_
 obtain⟨i,a',d',FO,li,pa⟩:=s;obtain⟨j1,j2,j3,j4,j5,j6⟩:=hJ;dsimp only at hs j1 j2 j3 j4 j5 j6;subst hs j1 j2 j5 j6
 refine Wp.dec (λav=>?_) λhge=>?_
 .have av:k<rules.length:=by dsimp only at av;omega
  have Gr:=kE P k;have Ha:=FM P k;dsimp only
  refine Wp.seq (λj=>j.1=a'/\j.2.1=d'/\j.2.2.1.length=rules.length/\(∀i:Nat,∀h:i<j.2.2.1.length,i<k+1->j.2.2.1[i]=if P i=Yx then ix L i else o6 rules L i)/\j.2.2.2.1=ids P (k+1)/\j.2.2.2.2=(eP P (k+1)).map (o6 rules L)) ?_ λj hj=> .some ⟨av,kM (m:=rules.length) (by omega) av,hj⟩
  rw[aB av,WE]
  obtain⟨(p:Int),Ka⟩:∃p:Int,p=rules[k].2.2.1:=⟨_,rfl⟩
  refine Wp.seq (λv=>v=o6 rules L k) ?_ λv hv=>?_
  .rw[AI av,<-Ka]
   refine Wp.seq (λj=>j=decide (0<=p/\p<(k:Int))) ?_ λj hj=>?_
   .refine Wp.dec (λh=> .some ?_) λh=> .some ?_
    .simp only[h,true_and]
    .rw[YE (λg=>h g.1)]
   .subst hj
    refine Wp.dec (λh=>?_) λh=> .some ?_
    .obtain⟨q,rfl⟩:=WR h.1
     have hq:q<k:=by omega
     have MY:q<FO.length:=by omega
     rw[aB MY,WE];refine .some ?_;rw[YB h,j4 q MY hq,WN];by_cases NM:P q=Yx
     .rw[YB NM,YB];rw[FJ,NL];exact nZ.2 ⟨q,by omega,NM,rfl⟩
     .rw[YA NM,YA];rw[FJ,NL];intro hm;obtain⟨q',_,h2,h3⟩:=nZ.1 hm
      obtain rfl:q=q':=by omega
      exact NM h2
    .rw[YA h]
  .subst hv;rw[aB (show k<FO.length by omega),WE,MZ,WE,iO,tC]
   have NN:P k=vc a' d' rules[k]:=by rw[hP];exact FL av
   rw[NN];dsimp only;by_cases hp:vc a' d' rules[k]=Yx
   .rw[YB hp,YB hp,YB hp,aB (show k<(be FO (k:Int) (o6 rules L k)).length by rw[bV];omega),WE,eY (by simp;omega),WE,eY (by simp;omega),WE];refine .some ⟨rfl,rfl,by rw[bV,bV];exact j3,λi h hi=>?_,rfl,by simp⟩
    have Q4:i<FO.length:=by rw[bV,bV]at h;exact h
    simp only[be,WN,List.getElem_set];by_cases e:k=i
    .subst e;rw[YB rfl,YB (NN.trans hp),NL,J9 av (NN.trans hp)]
    .rw[YA e,YA e];exact j4 i Q4 (by omega)
   .rw[YA hp,YA hp,YA hp];refine .some ⟨rfl,rfl,by rw[bV];exact j3,λi h hi=>?_,by simp,by simp⟩
    have Q4:i<FO.length:=by rw[bV]at h;exact h
    simp only[be,WN,List.getElem_set];by_cases e:k=i
    .subst e;rw[YB rfl,YA (λg=>hp (NN.symm.trans g))]
    .rw[YA e];exact j4 i Q4 (by omega)
 .have hge:k=rules.length:=by dsimp only at hge;omega
  refine .some ?_;subst hge
  show _=_
  unfold fa;rw[<-hP,<-hL,NL]
theorem CH(x:jV)(a d:Int)(hl:x.2.2.2.2.length<=100000):M.eV br x a d=some (fe x.2.2.2.2 a d,fa x.2.2.2.2 a d,gO x.2.2.2.2 a d):=by
 unfold M.eV;rw[FN hl,WE]
 obtain⟨rules,hr⟩:∃r:List gr,r=x.2.2.2.2:=⟨_,rfl⟩
 rw[<-hr]at hl⊢
 obtain⟨P,hP⟩:∃P,P=kp rules (vc a d):=⟨_,rfl⟩
 have hi:fe rules a d=(eP P rules.length).map λi:Nat=>(i:Int):=by rw[hP];rfl
 have Vs:(eP P rules.length).length<=rules.length:=by unfold eP;exact Xa (XX ..) (by simp)
 refine Wp.eq (Wp.seq (λj=>j=gO rules a d) ?_ λj hj=> .some (by rw[hj]));unfold gO;dsimp only;rw[hi,<-hP]
 have kP:∀i∈eP P rules.length,i<rules.length:=λi hi=>Xc.1 (Xi.1 hi).1
 refine Wp.count (λs=>s.1) (eP P rules.length).length (λk s=>s.2=((eP P rules.length).take k).map λi=>match rules[i]? with
  |some r=>r.2.2.2.1
  |none=>0) (by omega) rfl rfl λk s hk hs hJ=>?_
 obtain⟨kk,l⟩:=s;dsimp only at hs hJ⊢;subst hs hJ;rw[XQ]
 refine Wp.dec (λav=>?_) λhge=>?_
 .have av:k<(eP P rules.length).length:=by omega
  have hb:=kP _ (WW av);refine .bind (.idx k rfl (by simpa using av) ?_);rw[List.getElem_map,aB hb,WE];refine .bind (.pu (by simp;omega) (.some ⟨av,aH (by omega),?_⟩))
  show _=((eP P rules.length).take (k+1)).map _
  rw[<-Xf av,XP,List.map_singleton,WJ hb]
 .have:k=(eP P rules.length).length:=by omega
  subst this;refine .some ?_
  show _=_
  rw[W3]
theorem sa(x:jV)(a d:Int)(hl:x.2.2.2.2.length<=100000):M.jt br x a d=some (fe x.2.2.2.2 a d):=by
 unfold M.jt fe
 obtain⟨rules,hr⟩:∃r:List gr,r=x.2.2.2.2:=⟨_,rfl⟩
 rw[<-hr]at hl⊢;refine Wp.eq (Wp.count (λs=>s.1) rules.length (λk s=>s.2=ids (kp rules (vc a d)) k) (by omega) rfl rfl λk s hk hs hJ=>?_);obtain⟨kk,l⟩:=s;dsimp only at hs hJ⊢;subst hs hJ
 refine Wp.dec (λav=>?_) λhge=> .some ?_
 .have av:k<rules.length:=by omega
  have Gr:=kE (kp rules (vc a d)) k
  refine Wp.seq (λj=>j=ids (kp rules (vc a d)) (k+1)) ?_ λj hj=> .some ⟨av,aH (by omega),hj⟩
  rw[iO,FL av]
  refine Wp.seq (λb=>b=vc a d rules[k]) (.bind (.idx k rfl av ?_)) λb hb=>?_
  .unfold vc;by_cases h:(rules[k].2.1:Int)=a
   .rw[YB (by simpa using h),aB av,WE,FK,WE];refine .some ?_;simp[h]
   .rw[YA (by simpa using h)];refine .some ?_;simp[h]
  .subst hb;refine .ite (λh=> .bind (.pu (by simp;omega) (.some ?_))) (λh=> .some ?_)
   .rw[YB h]
   .rw[YA h,List.append_nil]
 .have:k=rules.length:=by omega
  subst this;rfl
theorem FP(x:jV)(a d:Int)(hl:x.2.2.2.2.length<=100000):M.ku br x a d=some (fe x.2.2.2.2 a d,fa x.2.2.2.2 a d,gO x.2.2.2.2 a d):=by
 unfold M.ku;rw[sa x a d hl,WE]
 have M0:=λL(hL:L.length<=100000)i hi gC=>xl x L hL i hi gC
 obtain⟨rules,hr⟩:∃r:List gr,r=x.2.2.2.2:=⟨_,rfl⟩
 rw[<-hr]at hl M0⊢
 obtain⟨P,hP⟩:∃P,P=kp rules (vc a d):=⟨_,rfl⟩
 obtain⟨L,hL⟩:∃L,L=fe rules a d:=⟨_,rfl⟩
 have Vt:L.length<=100000:=by rw[hL];exact Xa (kE _ _) hl
 have hi:fe rules a d=(eP P rules.length).map λi:Nat=>(i:Int):=by rw[hP];rfl
 have Vs:(eP P rules.length).length<=rules.length:=by unfold eP;exact Xa (XX ..) (by simp)
 have kP:∀i∈eP P rules.length,i<rules.length:=λi hi=>Xc.1 (Xi.1 hi).1
 refine Wp.eq (Wp.seq (λj=>j=(fa rules a d,gO rules a d)) ?_ λj hj=> .some (by rw[hj]));unfold fa gO;rw[<-hP,<-hL]
 have Sk:L=(eP P rules.length).map λi:Nat=>(i:Int):=hL.trans hi
 refine Wp.count (λs=>s.1) (eP P rules.length).length (λk s=>s.2.1=((eP P rules.length).take k).map (o6 rules L)/\s.2.2=((eP P rules.length).take k).map λi=>match rules[i]? with
  |some r=>r.2.2.2.1
  |none=>0) (by omega) rfl ⟨rfl,rfl⟩ λk s hk hs hJ=>?_
 obtain⟨kk,l,m⟩:=s;obtain⟨e1,e2⟩:=hJ;dsimp only at hs e1 e2⊢;subst hs e1 e2
 have hlen:L.length=(eP P rules.length).length:=by rw[Sk];simp
 refine Wp.dec (λav=>?_) λhge=>?_
 .have av:k<(eP P rules.length).length:=by rw[<-hlen];omega
  have hb:=kP _ (WW av)
  have hx:L[k]'(by omega)=((eP P rules.length)[k]:Int):=by simp only[Sk,List.getElem_map]
  refine .bind (.idx k rfl (by omega) ?_);rw[hx,M0 L Vt _ hb (by omega),WE];refine .bind (.pu (by simp;omega) (.bind (.idx k rfl (by omega) ?_)));rw[hx,aB hb,WE];refine .bind (.pu (by simp;omega) (.some ⟨av,aH (by omega),?_,?_⟩))
  .show _=((eP P rules.length).take (k+1)).map _
   rw[<-Xf av,XP,List.map_singleton]
  .show _=((eP P rules.length).take (k+1)).map _
   rw[<-Xf av,XP,List.map_singleton,WJ hb]
 .have:k=(eP P rules.length).length:=by rw[<-hlen]at hk⊢;omega
  subst this;refine .some ?_
  show(_,_)=(_,_)
  rw[W3]
end L
section
namespace L.S
def at'{α:Type}(d:α)(l:List α)(i:Int):α:=(l[i.toNat]?).getD d
theorem gV{α:Type}(d:α){l:List α}{i:Int}(h0:0<=i)(h:i<l.length):idx l i=some (at' d l i):=by
 unfold idx at';rw[YB h0,WJ (by omega)];rfl
structure V(p q:List Int):Prop where
 len:p.length=q.length
 n8:p.length<=8
 par:∀i:Nat,i<p.length->-1<=at' 0 p i/\at' 0 p i<i
theorem vd(N:Nat)(p q:List Int):M.iL N p q=M.bU N p q:=by
 unfold M.iL M.bU
 congr 3
 funext s
 congr 1
 cases hp:idx p s<;>cases hq:idx q s<;>rfl
theorem xm{N:Nat}(p q:List Int)(hN:10<=N):∃e,M.bU N p q=some e/\(e=0->V p q):=by
 unfold M.bU;by_cases h1:(p.length:Int)=q.length
 .rw[YA (by simpa using h1)];by_cases h2:8<(p.length:Int)
  .rw[YB (by simpa using h2)];exact⟨_,rfl,by omega⟩
  .rw[YA (by simpa using h2)];refine oW (I:=λs:Int=>0<=s/\s<=p.length/\∀i:Nat,(i:Int)<s->-1<=at' 0 p i/\at' 0 p i<i) (μ:=λs=>(p.length-s).toNat) (Q:=λe=>e=0->V p q) ?_ N 0 ⟨by omega,by omega,λi hi=>by omega⟩ (by omega)
   rintro s ⟨h3,h4,h5⟩
   by_cases h6:s<(p.length:Int)
   .rw[YB (by simpa using h6),gV 0 h3 h6,gV 0 h3 (by omega)];simp only[WE];by_cases h7:at' 0 p s< -1
    .rw[YB (by simpa using h7)];exact .inr ⟨9,rfl,by omega⟩
    .rw[YA (by simpa using h7)];by_cases h8:s<=at' 0 p s
     .simp only[WE,h8,decide_true,if_true];exact .inr ⟨9,rfl,by omega⟩
     .simp only[WE,h8,decide_false,W0,if_false]
      have fin:(∃s',(some (Sum.inl (WG.wrap (s+1))):Option (Int⊕Int))=some (.inl s')/\(0<=s'/\s'<=p.length/\∀i:Nat,(i:Int)<s'->-1<=at' 0 p i/\at' 0 p i<i)/\((p.length:Int)-s').toNat<((p.length:Int)-s).toNat):=by
       rw[eX (by omega) (by omega)];refine⟨s+1,rfl,⟨by omega,by omega,λi hi=>?_⟩,by omega⟩;by_cases e:(i:Int)<s
       .exact h5 i e
       .have:(i:Int)=s:=by omega
        rw[this];omega
      by_cases h9:at' 0 q s<0
      .simp only[h9,decide_true,if_true,WE];exact .inr ⟨3,rfl,by omega⟩
      .simp only[h9,decide_false,W0,if_false,WE];by_cases MB:9<at' 0 q s
       .simp only[MB,decide_true,if_true];exact .inr ⟨3,rfl,by omega⟩
       .simp only[MB,decide_false,W0,if_false];exact .inl fin
   .rw[YA (by simpa using h6)];exact .inr ⟨0,rfl,λ_=>⟨by omega,by omega,λi hi=>h5 i (by omega)⟩⟩
 .rw[YB (by simpa using h1)];exact⟨_,rfl,by omega⟩
def ch(p:List Int)(i:Int):List Int:=((WM p.length).filter λj:Nat=>decide (at' 0 p (j:Int)=i)).map (λj:Nat=>(j:Int))
theorem Kc{p:List Int}{i c:Int}:c∈ch p i↔0<=c/\c<p.length/\at' 0 p c=i:=by
 unfold ch;simp only[List.mem_map,Xi,Xc,YI];constructor
 .rintro⟨j,⟨h1,h2⟩,rfl⟩;exact⟨by omega,by omega,h2⟩
 .rintro⟨h1,h2,h3⟩
  obtain⟨j,rfl⟩:=WR h1;exact⟨j,⟨by omega,h3⟩,rfl⟩
theorem FQ(p:List Int)(i:Int):(ch p i).length<=p.length:=by
 unfold ch;rw[XQ];have:=XX (λj:Nat=>decide (at' 0 p (j:Int)=i)) (WM p.length);simpa using this
theorem pB{N:Nat}{p:List Int}(i:Int)(hn:p.length<=8)(hN:10<=N):M.ct N p i=some (ch p i):=by
 unfold M.ct;refine qb (λk:Nat=>((k:Int),(((WM k).filter λj:Nat=>decide (at' 0 p (j:Int)=i)).map (λj:Nat=>(j:Int)):List Int))) p.length _ rfl ?_ ?_ (by omega)
 .intro k hk
  have hw:WG.wrap ((k:Int)+1)=((k+1:Nat):Int):=by rw[eX]<;>omega
  simp only;rw[YB (by simp;omega),gV 0 (by omega) (by omega),WE,hw,fW];by_cases h:at' 0 p (k:Int)=i
  .rw[YB (by simpa using h),eY,WE,YB (by simpa using h)]
   .simp
   .simp only[XQ,WX,List.length_nil];have:=XX (λj:Nat=>decide (at' 0 p (j:Int)=i)) (WM k);simp at this;omega
  .rw[YA (by simpa using h),YA (by simpa using h)];simp
 .simp only;rw[YA (by simp)];rfl
theorem ve(N:Nat)(p:List Int)(i:Int):M.lu N p i=M.ct N p i:=rfl
def step(o:Int->Int)(q:List Int)(b:List Int)(c:Int):List Int:=
 if o c= -1 then b else
 match b with
 |[]=>[c]
 |x::r=>if at' 0 q x<at' 0 q c then[c]else if at' 0 q c=at' 0 q x then(x::r)++[c]else x::r
def kS(o:Int->Int)(q:List Int)(l:List Int):List Int:=l.foldl (step o q) []
structure Inv(o:Int->Int)(q:List Int)(l b:List Int):Prop where
 sub:b.Sublist l
 live:∀c,c∈b->o c≠-1
 max:∀d,d∈l->o d≠-1->b≠[]/\∀c,c∈b->at' 0 q d<=at' 0 q c
 all:∀d,d∈l->o d≠-1->(∀c,c∈b->at' 0 q d=at' 0 q c)->d∈b
theorem vf{α:Type}{d a:α}{l:List α}:at' d (a::l) 0=a:=rfl
theorem q9{o:Int->Int}{q l b:List Int}{c:Int}(h:Inv o q l b):Inv o q (l++[c]) (step o q b c):=by
 obtain⟨h1,h2,h3,h4⟩:=h
 have o9:∀x∈b,∀y∈b,at' 0 q x=at' 0 q y:=λx hx y hy=>by
  have a1:=(h3 x (h1.subset hx) (h2 x hx)).2 y hy;have a2:=(h3 y (h1.subset hy) (h2 y hy)).2 x hx;omega
 unfold step;by_cases hd:o c= -1
 .rw[YB hd];refine⟨h1.trans (List.sublist_append_left _ _),h2,λd hm hl=>?_,λd hm hl=>?_⟩
  .rcases WQ.1 hm with hm|hm
   .exact h3 d hm hl
   .rw[WO.1 hm]at hl;exact absurd hd hl
  .rcases WQ.1 hm with hm|hm
   .exact h4 d hm hl
   .rw[WO.1 hm]at hl;exact absurd hd hl
 .rw[YA hd]
  cases b with
  |nil=>
   have IE:∀d,d∈l->¬o d≠-1:=λd hm hl=>(h3 d hm hl).1 rfl
   refine⟨(List.sublist_append_right _ _),?_,λd hm hl=>⟨by simp,?_⟩,λd hm hl hh=>?_⟩
   .intro x hx;rw[WO.1 hx];exact hd
   .intro x hx;rw[WO.1 hx]
    rcases WQ.1 hm with hm|hm
    .exact absurd hl (IE d hm)
    .rw[WO.1 hm];exact Int.le_refl _
   .rcases WQ.1 hm with hm|hm
    .exact absurd hl (IE d hm)
    .exact hm
  |cons a b=>
   simp only;by_cases av:at' 0 q a<at' 0 q c
   .rw[YB av];refine⟨(List.sublist_append_right _ _),?_,λd hm hl=>⟨by simp,?_⟩,λd hm hl hh=>?_⟩
    .intro x hx;rw[WO.1 hx];exact hd
    .intro x hx;rw[WO.1 hx]
     rcases WQ.1 hm with hm|hm
     .have:=(h3 d hm hl).2 a (by simp);omega
     .rw[WO.1 hm];exact Int.le_refl _
    .rcases WQ.1 hm with hm|hm
     .have:=(h3 d hm hl).2 a (by simp);have:=hh c (by simp);omega
     .exact hm
   .rw[YA av];by_cases he:at' 0 q c=at' 0 q a
    .rw[YB he];refine⟨List.Sublist.append h1 (List.Sublist.refl _),?_,λd hm hl=>⟨by simp,?_⟩,λd hm hl hh=>?_⟩
     .intro x hx
      rcases WQ.1 hx with hx|hx
      .exact h2 x hx
      .rw[WO.1 hx];exact hd
     .intro x hx
      have Gb:at' 0 q x=at' 0 q a:=by
       rcases WQ.1 hx with hx|hx
       .exact o9 x hx a (by simp)
       .rw[WO.1 hx];exact he
      rcases WQ.1 hm with hm|hm
      .have:=(h3 d hm hl).2 a (by simp);omega
      .rw[WO.1 hm];omega
     .rcases WQ.1 hm with hm|hm
      .exact List.mem_append_left _ (h4 d hm hl λx hx=>hh x (List.mem_append_left _ hx))
      .exact List.mem_append_right _ hm
    .rw[YA he];refine⟨h1.trans (List.sublist_append_left _ _),h2,λd hm hl=>⟨by simp,?_⟩,λd hm hl hh=>?_⟩
     .intro x hx
      rcases WQ.1 hm with hm|hm
      .exact(h3 d hm hl).2 x hx
      .rw[WO.1 hm,o9 x hx a (by simp)];omega
     .rcases WQ.1 hm with hm|hm
      .exact h4 d hm hl hh
      .have:=hh a (by simp);rw[WO.1 hm]at this;exact absurd this he
theorem xn{o:Int->Int}{q:List Int}:∀(m l b:List Int),Inv o q l b->Inv o q (l++m) (m.foldl (step o q) b)
 |[],l,b,h=>by simpa using h
 |c::m,l,b,h=>by
  have:=xn m (l++[c]) _ (q9 (c:=c) h);rw[W7]at this;exact this
theorem lH(o:Int->Int)(q l:List Int):Inv o q l (kS o q l):=by
 have:=xn (o:=o) (q:=q) l [] [] ⟨List.Sublist.refl _,by simp,by simp,by simp⟩;rw[List.nil_append]at this;exact this
theorem nl{o o':Int->Int}{q:List Int}:∀(l b:List Int),(∀c,c∈l->o c=o' c)->l.foldl (step o q) b=l.foldl (step o' q) b
 |[],_,_=>rfl
 |c::l,b,h=>by
  have:step o q b c=step o' q b c:=by unfold step;rw[h c (by simp)]
  rw[XO,XO,this]
  exact nl l _ λd hd=>h d (by simp[hd])
def pR(o:Int->Int)(b:List Int):Int:=if(b.length:Int)=0 then-1 else if(b.length:Int)=1 then o (at' 0 b 0)else-2
def out(p q:List Int)(a:List Bool):Nat->Int->Int
 |0,_=> -1
 |k+1,i=>
  let c:=pR (out p q a k) (kS (out p q a k) q (ch p i))
  if c= -1/\at' Yy a i=Yx then i else c
def cout(p q:List Int)(a:List Bool)(k:Nat)(i:Int):Int:=pR (out p q a k) (kS (out p q a k) q (ch p i))
theorem n4(p q:List Int)(a:List Bool)(k:Nat)(i:Int):out p q a (k+1) i=if cout p q a k i= -1/\at' Yy a i=Yx then i else cout p q a k i:=rfl
theorem lI{p q:List Int}(hv:V p q){i c:Int}(h:c∈ch p i):i<c/\0<=c/\c<8/\c<p.length:=by
 obtain⟨h1,h2,h3⟩:=Kc.1 h;have:=hv.n8;obtain⟨j,rfl⟩:=WR h1;have:=(hv.par j (by omega)).2;omega
theorem rr{o o':Int->Int}{b:List Int}(h:∀c,c∈b->o c=o' c):pR o b=pR o' b:=by
 cases b with
 |nil=>rfl
 |cons x b=>unfold pR;rw[vf,h x (by simp)]
theorem rv{p q:List Int}{a:List Bool}{k k':Nat}{i:Int}(h:∀c,c∈ch p i->out p q a k c=out p q a k' c):cout p q a k i=cout p q a k' i:=by
 unfold cout;have:kS (out p q a k) q (ch p i)=kS (out p q a k') q (ch p i):=nl _ _ h;rw[this]
 exact rr λc hc=>h c ((lH _ _ _).sub.subset hc)
theorem ry{p q:List Int}(hv:V p q)(a:List Bool):∀(k:Nat)(i:Int),8<k+i->out p q a k i=out p q a (k+1) i\/8<=i
 |0,i,h=> .inr (by omega)
 |k+1,i,h=>by
  by_cases h8:8<=i
  .exact .inr h8
  .left
   rw[n4,n4 p q a (k+1),rv (k:=k) (k':=k+1)];intro c hc;have:=lI hv hc;exact(ry hv a k c (by omega)).resolve_right (by omega)
def O(p q:List Int)(a:List Bool)(i:Int):Int:=out p q a 16 i
def C(p q:List Int)(a:List Bool)(i:Int):Int:=pR (O p q a) (kS (O p q a) q (ch p i))
theorem IF{p q:List Int}(hv:V p q)(a:List Bool):∀(d k:Nat)(i:Int),8<k+i->i<8->d+k=16->out p q a k i=O p q a i
 |0,k,i,_,_,hd=>by
  obtain rfl:k=16:=by omega
  rfl
 |d+1,k,i,h,h8,hd=>by
  rw[(ry hv a k i h).resolve_right (by omega)];exact IF hv a d (k+1) i (by omega) h8 (by omega)
theorem M1{p q:List Int}(hv:V p q)(a:List Bool){k:Nat}{i:Int}(h:7<k+i)(hk:k<=16):cout p q a k i=C p q a i:=by
 show _=cout p q a 16 i
 refine rv λc hc=>?_
 have:=lI hv hc;exact IF hv a (16-k) k c (by omega) (by omega) (by omega)
theorem Q5{p q:List Int}(hv:V p q)(a:List Bool){i:Int}(h0: -1<=i):O p q a i=if C p q a i= -1/\at' Yy a i=Yx then i else C p q a i:=by
 unfold O;rw[n4,M1 hv a (by omega) (by omega)]
theorem tD{q b:List Int}{c y:Int}{o:Int->Int}(hy:o c=y)(hb:∀x,x∈b->0<=x/\x<q.length)(hl:b.length<=8)(hc:0<=c/\c<q.length):
 (if(decide (y=(-1:Int)))=Yx then
some b
else
(((if(decide ((0:Int)<(b.length:Int)))=Yx then
(idx q c).bind λx8=>
(idx b (0:Int)).bind λx9=>
(idx q x9).bind λrJ=>
some (decide (rJ<x8))
else
some Yy):Option (Bool)).bind λj7=>
(if j7=Yx then
(dQ b (0:Int) (0:Int)).bind λHp=>
some Hp
else
some b):Option (List Int)).bind λj6=>
((if(decide ((j6.length:Int)=(0:Int)))=Yx then
some Yx
else
(idx q c).bind λr4=>
(idx j6 (0:Int)).bind λHm=>
(idx q Hm).bind λGp=>
some (decide (r4=Gp))):Option (Bool)).bind λvk=>
(if vk=Yx then
(bW j6 ([c]:List Int)).bind λJJ=>
some JJ
else
some j6))=some (step o q b c):=by
 subst hy;unfold step;by_cases h:o c= -1
 .simp only[h,decide_true,if_true]
 .simp only[h,decide_false,W0,if_false];rw[gV 0 hc.1 hc.2]
  cases b with
  |nil=>simp[bW]
  |cons x r=>
   have hx:=hb x (by simp)
   have h0:(0:Int)<((x::r).length:Int):=by simp only[WX];omega
   have h1:¬((x::r).length:Int)=0:=by omega
   simp only[h0,decide_true,if_true,WE,nS,gV 0 hx.1 hx.2]
   have xM:dQ (x::r) (0:Int) (0:Int)=some []:=by
    unfold dQ;rw[YB (by omega)];rfl
   by_cases av:at' 0 q x<at' 0 q c
   .rw[xM];simp[av,bW]
   .simp only[av,decide_false,W0,if_false,WE,h1,nS,gV 0 hx.1 hx.2];by_cases he:at' 0 q c=at' 0 q x
    .simp only[he,decide_true,if_true];rw[eY (by simp at hl⊢;omega)];rfl
    .simp only[he,decide_false,W0,if_false]
theorem FR{q b:List Int}{c y:Int}{o:Int->Int}(hy:o c=y)(hb:∀x,x∈b->0<=x/\x<q.length)(hl:b.length<=8)(hc:0<=c/\c<q.length):
 (if(decide (y=(-1:Int)))=Yx then
some b
else
(((if(decide ((0:Int)<(b.length:Int)))=Yx then
(idx q c).bind λx8=>
(idx b (0:Int)).bind λx9=>
(idx q x9).bind λrJ=>
some (decide (rJ<x8))
else
some Yy):Option (Bool)).bind λj7=>
(if j7=Yx then
some ([]:List Int)
else
some b):Option (List Int)).bind λj6=>
((if(decide ((j6.length:Int)=(0:Int)))=Yx then
some Yx
else
(idx q c).bind λr4=>
(idx j6 (0:Int)).bind λHm=>
(idx q Hm).bind λGp=>
some (decide (r4=Gp))):Option (Bool)).bind λvk=>
(if vk=Yx then
(bW j6 ([c]:List Int)).bind λJJ=>
some JJ
else
some j6))=some (step o q b c):=by
 rw[<-tD hy hb hl hc];rfl
theorem n5{l:List Int}{o:Int->Int}{q:List Int}{k:Nat}:((l.take k).foldl (step o q) []).Sublist l:=(lH o q (l.take k)).sub.trans (List.take_sublist _ _)
theorem HQ{N:Nat}{p q r:List Int}(hv:V p q)(hr:r.length=p.length)(i:Int)(hN:20<=N):M.cE N (p,(q,r)) i=some (kS (at' 0 r) q (ch p i)):=by
 have h8:=hv.n8;have hl:=FQ p i;unfold M.cE;simp only;rw[pB i h8 (by omega),WE];refine qb (λk:Nat=>((k:Int),((ch p i).take k).foldl (step (at' 0 r) q) [])) (ch p i).length _ rfl ?_ ?_ (by omega)
 .intro k hk
  have hw:WG.wrap ((k:Int)+1)=((k+1:Nat):Int):=by rw[eX]<;>omega
  have hc:=lI hv (WW hk);have hq:=hv.len;simp only;rw[YB (by simp;omega),aB hk,WE,gV 0 hc.2.1 (by omega),WE,hw];have hb:=tD (q:=q) (b:=((ch p i).take k).foldl (step (at' 0 r) q) []) (c:=(ch p i)[k]) (o:=at' 0 r) rfl (λx hx=>by have:=lI hv (n5.subset hx);omega) (by have:=(n5 (l:=ch p i) (o:=at' 0 r) (q:=q) (k:=k)).length_le;omega) ⟨hc.2.1,by omega⟩;rw[hb,WE,List.take_succ_eq_append_getElem hk,List.foldl_append];rfl
 .simp only;rw[YA (by simp),W3];rfl
theorem HR{p q:List Int}(hv:V p q){o:Int->Int}{i c:Int}(h:c∈kS o q (ch p i)):i<c/\0<=c/\c<8/\c<p.length:=lI hv ((lH o q _).sub.subset h)
theorem mG{N:Nat}{p q r:List Int}(hv:V p q)(hr:r.length=p.length)(i:Int)(hN:20<=N):M.bd N (p,(q,r)) i=some (pR (at' 0 r) (kS (at' 0 r) q (ch p i))):=by
 unfold M.bd pR;rw[HQ hv hr i hN,WE]
 cases hb:kS (at' 0 r) q (ch p i)with
 |nil=>simp
 |cons x b=>
  have hx:=HR hv (o:=at' 0 r) (i:=i) (c:=x) (by rw[hb];simp)
  have h1:¬((x::b).length:Int)=0:=by simp;omega
  simp only[h1,decide_false,W0,if_false,nS,WE,vf,gV 0 hx.2.1 (show x<(r.length:Int) by omega)];by_cases h2:((x::b).length:Int)=1
  .simp only[h2,decide_true,if_true]
  .simp only[h2,decide_false,W0,if_false]
theorem AJ{p q r:List Int}(hv:V p q){a:List Bool}{i:Int}(h:∀c,i<c->0<=c->c<p.length->at' 0 r c=O p q a c):pR (at' 0 r) (kS (at' 0 r) q (ch p i))=C p q a i:=by
 unfold C
 have h':∀c,c∈ch p i->at' 0 r c=O p q a c:=λc hc=>by
  have:=lI hv hc;exact h c this.1 this.2.1 this.2.2.2
 have:kS (at' 0 r) q (ch p i)=kS (O p q a) q (ch p i):=nl _ _ h';rw[this]
 exact rr λc hc=>h' c ((lH _ _ _).sub.subset hc)
def outs(p q:List Int)(a:List Bool)(k:Nat):List Int:=(WM p.length).map λj=>if p.length<=j+k then O p q a (j:Int)else 0
theorem FT{n:Nat}{f:Nat->Int}{c:Int}(h0:0<=c)(h:c<n):at' 0 ((WM n).map f) c=f c.toNat:=by
 unfold at';rw[List.getElem?_map,List.getElem?_range (by omega)];rfl
theorem xo{N:Nat}{p q:List Int}{a:List Bool}(hv:V p q)(ha:a.length=p.length)(hN:20<=N):M.cQ N p q a=some (outs p q a p.length):=by
 have h8:=hv.n8;unfold M.cQ
 have h0:sf (p.length:Int) (0:Int)=some (Xb p.length 0):=by
  unfold sf;rw[YB (by omega)];simp
 rw[h0,WE];refine qb (λk:Nat=>((p.length:Int)-1-(k:Int),outs p q a k)) p.length _ ?_ ?_ ?_ (by omega)
 .rw[eX (by omega) (by omega)]
  have:outs p q a 0=Xb p.length 0:=by
   unfold outs
   refine List.ext_getElem (by simp) λj h1 h2=>?_
   simp at h2;rw[List.getElem_map,List.getElem_range,List.getElem_replicate,YA (by omega)]
  rw[this];simp
 .intro k hk
  have hlen:(outs p q a k).length=p.length:=by simp[outs]
  have hO:=Q5 hv a (i:=(p.length:Int)-1-(k:Int)) (by omega);generalize hi:(p.length:Int)-1-(k:Int)=i at*
  have hc:pR (at' 0 (outs p q a k)) (kS (at' 0 (outs p q a k)) q (ch p i))=C p q a i:=AJ hv λc h1 h2 h3=>by
   unfold outs;rw[FT h2 h3,YB (by omega),Int.toNat_of_nonneg h2]
  simp only;rw[YB (by simp;omega),mG hv hlen i hN,WE,hc,gV 0 (by omega) (by omega),WE]
  have jT:∀v,be (be (outs p q a k) i v) i (O p q a i)=outs p q a (k+1)/\(v=O p q a i->be (outs p q a k) i v=outs p q a (k+1)):=by
   intro v
   have e:be (outs p q a k) i (O p q a i)=outs p q a (k+1):=by
    unfold be outs;rw[gz]
    refine List.map_congr_left λj hj=>?_
    have:=Xc.1 hj;by_cases h:j=i.toNat
    .rw[YB h,YB (by omega),h,Int.toNat_of_nonneg (by omega)]
    .rw[YA h];by_cases h':p.length<=j+k
     .rw[YB h',YB (by omega)]
     .rw[YA h',YA (by omega)]
   refine⟨?_,λh=>h▸e⟩;unfold be at e⊢;rw[List.set_set];exact e
  have kc:∀v,idx (be (outs p q a k) i v) i=some v:=by
   intro v;unfold be;rw[gV v (by omega) (by simp;omega)];unfold at';rw[List.getElem?_set_self (by omega)];rfl
  have hw:WG.wrap (i-1)=(p.length:Int)-1-((k+1:Nat):Int):=by rw[eX]<;>omega
  rw[kc,hw];simp only[WE];rw[gV Yy (by omega) (by omega)];simp only[WE];by_cases h1:C p q a i= -1
  .rw[YB (by simpa using h1),WE];by_cases h2:at' Yy a i=Yx
   .rw[YB h2];rw[YB ⟨h1,h2⟩]at hO;have:=(jT (C p q a i)).1;rw[hO]at this;rw[this];rfl
   .rw[YA h2];rw[YA (λh=>h2 h.2)]at hO;rw[(jT (C p q a i)).2 hO.symm];rfl
  .rw[YA (by simpa using h1),WE,YA (by simp)];rw[YA (λh=>h1 h.1)]at hO;rw[(jT (C p q a i)).2 hO.symm];rfl
 .simp only;rw[YA (by simp;omega)]
theorem HS{p q:List Int}{a:List Bool}{c:Int}(h0:0<=c)(h:c<p.length):at' 0 (outs p q a p.length) c=O p q a c:=by
 unfold outs;rw[FT h0 h,YB (by omega),Int.toNat_of_nonneg h0]
theorem FU{p q:List Int}{a:List Bool}{k:Nat}:(outs p q a k).length=p.length:=by simp[outs]
theorem IG(e:Int)(y:Bool){α:Type}(k:Bool->Option α):((if(!decide (e=(0:Int)))=Yx then some Yx else some y:Option Bool).bind k)=k (!decide (e=0)||y):=by
 cases decide (e=0)<;>rfl
theorem vg{N:Nat}(hN:20<=N)(p q:List Int)(a:List Bool):(M.bM N p q a=some (-1)/\M.fV N p q a=some (-1))\/
 (V p q/\a.length=p.length/\M.bM N p q a=some (C p q a (-1))/\M.fV N p q a=M.iM N p q a (-1)):=by
 obtain⟨e,he,hv⟩:=xm (N:=N) p q (by omega);unfold M.bM M.fV;rw[vd,he];simp only[WE];rw[IG,IG];by_cases h:(!decide (e=0)||(!decide ((a.length:Int)=(p.length:Int))))=Yx
 .left
  rw[YB h,YB h];exact⟨rfl,rfl⟩
 .right
  have h1:e=0:=by simp at h;exact h.1
  have h2:a.length=p.length:=by simp at h;omega
  have hv:=hv h1;rw[YA h,YA h,xo hv h2 hN];simp only[WE];rw[mG hv FU (-1) hN];refine⟨hv,h2,?_,?_⟩
  .exact YH some (AJ hv λc _ h0 h=>HS h0 h)
  .cases M.iM N p q a (-1)<;>rfl
section
variable {p q:List Int} {a:List Bool} (hv:V p q) (ha:a.length=p.length)
include hv ha
theorem M2{N:Nat}{o:Int->Int}{i:Int}(hN:20<=N)(ho:∀c,c∈ch p i->M.cz br N p q a c=some (o c)):M.kz br (N+1) p q a i=some (kS o q (ch p i)):=by
 have h8:=hv.n8;have hl:=FQ p i;unfold M.kz;rw[ve,pB i h8 (by unfold br;omega),WE];refine qb (λk:Nat=>((k:Int),((ch p i).take k).foldl (step o q) [])) (ch p i).length _ rfl ?_ ?_ (by unfold br;omega)
 .intro k hk
  have hw:WG.wrap ((k:Int)+1)=((k+1:Nat):Int):=by rw[eX]<;>omega
  have hc:=lI hv (WW hk);have hq:=hv.len;simp only;rw[YB (by simp;omega),aB hk,WE,ho _ (WW hk),WE,hw];have hb:=FR (q:=q) (b:=((ch p i).take k).foldl (step o q) []) (c:=(ch p i)[k]) (o:=o) rfl (λx hx=>by have:=lI hv (n5.subset hx);omega) (by have:=(n5 (l:=ch p i) (o:=o) (q:=q) (k:=k)).length_le;omega) ⟨hc.2.1,by omega⟩;simp only[WE];rw[hb,WE,List.take_succ_eq_append_getElem hk,List.foldl_append];rfl
 .simp only;rw[YA (by simp),W3];rfl
theorem tE{N:Nat}{o:Int->Int}{i:Int}(hN:20<=N)(ho:∀c,c∈ch p i->M.cz br N p q a c=some (o c))(fZ:∀c,c∈ch p i->M.cz br (N+1) p q a c=some (o c)):M.dJ br (N+2) p q a i=some (pR o (kS o q (ch p i))):=by
 unfold M.dJ;rw[M2 hv ha hN ho,WE];unfold pR
 cases hb:kS o q (ch p i)with
 |nil=>simp
 |cons x b=>
  have hx:=(lH o q (ch p i)).sub.subset (show x∈kS o q (ch p i) by rw[hb];simp)
  have h1:¬((x::b).length:Int)=0:=by simp only[WX];omega
  simp only[h1,decide_false,W0,if_false,nS,WE,vf];by_cases h2:1<((x::b).length:Int)
  .simp only[h2,decide_true,if_true];rw[YA (by omega)]
  .simp only[h2,decide_false,W0,if_false];rw[fZ x hx,YB (by simp only[WX]at h1 h2⊢;omega)];rfl
theorem rz:∀(k N:Nat)(i:Int),8<k+i->0<=i->i<p.length->3*k+30<=N->M.cz br N p q a i=some (out p q a k i)
 |0,N,i,h,_,h2,_=>by have:=hv.n8;omega
 |k+1,N,i,h,h0,h2,hN=>by
  obtain⟨N,rfl⟩:∃n,N=n+3:=⟨N-3,by omega⟩
  unfold M.cz;rw[tE hv ha (o:=out p q a k) (by omega) (λc hc=>?_) (λc hc=>?_),WE,n4]
  .show _=some (if cout p q a k i= -1/\at' Yy a i=Yx then i else cout p q a k i)
   show Option.bind (if decide (cout p q a k i= -1)=Yx then _ else _) _=_
   rw[gV Yy h0 (by omega)];simp only[WE];by_cases h1:cout p q a k i= -1
   .simp only[h1,decide_true,if_true,WE,true_and];by_cases h3:at' Yy a i=Yx
    .rw[YB h3,YB h3]
    .rw[YA h3,YA h3];exact YH some h1
   .simp only[h1,decide_false,W0,if_false,WE,false_and];rfl
  .have:=lI hv hc;exact rz k N c (by omega) (by omega) (by omega) (by omega)
  .have:=lI hv hc;exact rz k (N+1) c (by omega) (by omega) (by omega) (by omega)
theorem Q6{N:Nat}{i:Int}(h0:0<=i)(h:i<p.length)(hN:90<=N):M.cz br N p q a i=some (O p q a i):=rz hv ha 16 N i (by omega) h0 h (by omega)
theorem vh{N:Nat}{i:Int}(hN:100<=N):M.dJ br N p q a i=some (C p q a i):=by
 obtain⟨N,rfl⟩:∃n,N=n+2:=⟨N-2,by omega⟩
 refine tE hv ha (by omega) (λc hc=>?_) λc hc=>?_
 all_goals
  have:=lI hv hc;exact Q6 hv ha (by omega) (by omega) (by omega)
end
theorem Kd(p q:List Int)(a:List Bool):M.bM br p q a=M.fV br p q a:=by
 rcases vg (N:=br) (by unfold br;omega) p q a with⟨h1,h2⟩|⟨hv,ha,h1,h2⟩
 .rw[h1,h2]
 .rw[h1,h2];exact(vh hv ha (N:=br) (by unfold br;omega)).symm
end L.S
end
namespace L
def Pl(n:Nat)(v:Int):Prop:=v= -1\/v= -2\/0<=v/\v<(n:Int)
theorem xp(p:List Int)(i:Int)(hl:p.length<=8):Wp (M.ct br p i) λr=>r.length<=p.length/\∀x∈r,(0:Int)<=x/\x<(p.length:Int):=by
 unfold M.ct
 refine Wp.count (λs=>s.1) p.length (λk s=>s.2.length<=k/\∀x∈s.2,(0:Int)<=x/\x<(p.length:Int)) (by omega) rfl ⟨WH _,λx h=>by cases h⟩ λk s hk hs hJ=>?_
 obtain⟨c,l⟩:=s;obtain⟨j1,j2⟩:=hJ;dsimp only at hs j1 j2;subst hs
 refine Wp.dec (λav=>?_) λhge=> .some ⟨by dsimp only;omega,j2⟩
 have av:k<p.length:=by dsimp only at av;omega
 dsimp only
 refine Wp.seq (λj=>j.length<=k+1/\∀x∈j,(0:Int)<=x/\x<(p.length:Int)) ?_ λj hj=> .some ⟨av,kM (m:=p.length) (by omega) av,hj⟩
 rw[aB av,WE]
 refine Wp.dec (λ_=>?_) λ_=> .some ⟨by omega,j2⟩
 rw[eY (by simp;omega),WE];refine .some ⟨by simp;omega,λx hx=>?_⟩
 rcases WQ.1 hx with h|h
 .exact j2 x h
 .obtain rfl:x=(k:Int):=by simpa using h
  omega
theorem HT{p q r:List Int}(i:Int)(hl:p.length<=8)(hq:q.length=p.length)(hr:r.length=p.length):Wp (M.cE br (p,(q,r)) i) λb=>∀x∈b,(0:Int)<=x/\x<(p.length:Int):=by
 unfold M.cE
 refine Wp.seq _ (xp p i hl) λy hy=>?_
 obtain⟨y1,y2⟩:=hy
 refine Wp.count (λs=>s.1) y.length (λk s=>s.2.length<=k/\∀x∈s.2,(0:Int)<=x/\x<(p.length:Int)) (by omega) rfl ⟨WH _,λx h=>by cases h⟩ λk s hk hs hJ=>?_
 obtain⟨c,l⟩:=s;obtain⟨j1,j2⟩:=hJ;dsimp only at hs j1 j2;subst hs
 refine Wp.dec (λav=>?_) λhge=> .some j2
 have av:k<y.length:=by dsimp only at av;omega
 dsimp only
 refine Wp.seq (λj=>j.length<=k+1/\∀x∈j,(0:Int)<=x/\x<(p.length:Int)) ?_ λj hj=> .some ⟨av,kM (m:=y.length) (by omega) av,hj⟩
 have hv:=y2 _ (WW av);rw[aB av,WE];generalize y[k]=v at hv⊢
 have at_:∀{l:List Int}{u:Int},l.length=p.length->(0:Int)<=u/\u<(p.length:Int)->∃z,idx l u=some z:=λ{l u}h h'=>by
  obtain⟨z,hz,_⟩:=rq (l:=l) (i:=u) h'.1 (by omega);exact⟨z,hz⟩
 obtain⟨z1,e1⟩:=at_ hr hv;obtain⟨z2,e2⟩:=at_ hq hv
 have hd:∀{l:List Int},0<l.length->(∀x∈l,(0:Int)<=x/\x<(p.length:Int))->∃u z,idx l (0:Int)=some u/\idx q u=some z:=λ{l}h h'=>by
  obtain⟨u,hu,hm⟩:=rq (l:=l) (i:=0) (Int.le_refl _) (by omega);obtain⟨z,hz⟩:=at_ hq (h' u hm);exact⟨u,z,hu,hz⟩
 rw[e1,WE]
 refine Wp.dec (λ_=> .some ⟨by omega,j2⟩) λ_=>?_
 refine Wp.seq (λj=>j.length<=k/\∀x∈j,(0:Int)<=x/\x<(p.length:Int)) ?_ λl6 h6=>?_
 .refine Wp.seq (λ_=>True) ?_ λj7 _=>?_
  .refine Wp.dec (λh=>?_) λ_=> .some trivial
   obtain⟨u,z,hu,hz⟩:=hd (l:=l) (by omega) j2;rw[e2,WE,hu,WE,hz];exact .some trivial
  .refine Wp.ite (λ_=>?_) λ_=> .some ⟨j1,j2⟩
   rw[qc (l:=l) (i:=0) (j:=0) 0 0 rfl rfl (WH _) (Nat.zero_le _),WE];exact .some ⟨by simp,by simp⟩
 .obtain⟨g1,g2⟩:=h6
  refine Wp.seq (λ_=>True) ?_ λvk _=>?_
  .refine Wp.dec (λ_=> .some trivial) λh=>?_
   obtain⟨u,z,hu,hz⟩:=hd (l:=l6) (by omega) g2;rw[e2,WE,hu,WE,hz];exact .some trivial
  .refine Wp.ite (λ_=>?_) λ_=> .some ⟨by omega,g2⟩
   rw[eY (by simp;omega),WE];refine .some ⟨by simp;omega,λx hx=>?_⟩
   rcases WQ.1 hx with h|h
   .exact g2 x h
   .obtain rfl:x=v:=by simpa using h
    exact hv
theorem AK{p q r:List Int}(i:Int)(hl:p.length<=8)(hq:q.length=p.length)(hr:r.length=p.length)(hp:∀x∈r,Pl p.length x):Wp (M.bd br (p,(q,r)) i) (Pl p.length):=by
 unfold M.bd
 refine Wp.seq _ (HT i hl hq hr) λb hb=>?_
 refine Wp.dec (λ_=> .some (.inl rfl)) λh0=>?_
 refine Wp.dec (λh1=>?_) λ_=> .some (.inr (.inl rfl))
 obtain⟨u,hu,hm⟩:=rq (l:=b) (i:=0) (Int.le_refl _) (by omega);have:=hb u hm;obtain⟨z,hz,Vu⟩:=rq (l:=r) (i:=u) this.1 (by omega);rw[hu,WE];dsimp only;rw[hz,WE];exact .some (hp z Vu)
theorem xq{α:Type}{l:List α}{i:Int}{y x:α}(h:x∈be l i y):x∈l\/x=y:=by
 unfold be at h;exact List.mem_or_eq_of_mem_set h
theorem HU{p q:List Int}{a:List Bool}(hl:p.length<=8)(hq:q.length=p.length)(ha:a.length=p.length):Wp (M.cQ br p q a) λr=>r.length=p.length/\∀x∈r,Pl p.length x:=by
 unfold M.cQ;rw[wp_bind];refine kA.2 ⟨by omega,?_⟩;rw[WN]
 have hw:∀n:Nat,n<=8->WG.wrap ((n:Int)-1)=(n:Int)-1:=λn h=>eX (by omega) (by omega)
 refine Wp.loop (λs=>(∃k:Nat,s.1=(k:Int)-1/\k<=p.length)/\s.2.length=p.length/\∀x∈s.2,Pl p.length x) (λs=>(s.1+1).toNat) ⟨⟨p.length,hw _ hl,WH _⟩,by simp,λx hx=>?_⟩ ?_ ?_
 .rw[List.mem_replicate]at hx;exact .inr (.inr ⟨by omega,by omega⟩)
 .dsimp only;rw[hw _ hl];unfold br;omega
 .rintro⟨c,l⟩ ⟨⟨k,hk,Gr⟩,j1,j2⟩
  dsimp only at hk j1 j2;subst hk
  refine Wp.dec (λav=>?_) λhge=> .some ⟨j1,j2⟩
  obtain⟨m,rfl⟩:∃m,k=m+1:=⟨k-1,by dsimp only at av;omega⟩
  have hm:(((m+1:Nat):Int)-1)=(m:Int):=by omega
  rw[hm]
  have Ge:m<p.length:=by omega
  dsimp only
  refine Wp.seq (λj=>j.length=p.length/\∀x∈j,Pl p.length x) ?_ λj hj=> .some ⟨⟨⟨m,by rw[hw _ (by omega)],by omega⟩,hj⟩,by dsimp only;rw[hw _ (by omega)];omega⟩
  refine Wp.seq _ (AK (m:Int) hl hq j1 j2) λv hv=>?_
  have s1:(be l (m:Int) v).length=p.length:=by rw[bV];exact j1
  have s2:∀x∈be l (m:Int) v,Pl p.length x:=λx hx=>by
   rcases xq hx with h|rfl
   .exact j2 x h
   .exact hv
  rw[aB (show m<l.length by omega),WE]
  refine Wp.seq (λ_=>True) ?_ λj6 _=>?_
  .rw[aB (show m<(be l (m:Int) v).length by omega),WE]
   refine Wp.dec (λ_=>?_) λ_=> .some trivial
   rw[aB (show m<a.length by omega),WE];exact .some trivial
  .refine Wp.ite (λ_=>?_) λ_=> .some ⟨s1,s2⟩
   rw[aB (show m<(be l (m:Int) v).length by omega),WE];refine .some ⟨by rw[bV];exact s1,λx hx=>?_⟩
   rcases xq hx with h|rfl
   .exact s2 x h
   .exact .inr (.inr ⟨by omega,by omega⟩)
theorem CI(p q:List Int)(a:List Bool)(hp:p.length<=100000):Wp (M.bM br p q a) (Pl p.length):=by
 unfold M.bM
 have hV:Wp (M.bU br p q) λc=>c=0->p.length<=8/\q.length=p.length:=by
  unfold M.bU
  refine Wp.ri (λ_=> .some λh=>by cases h) λh1=>?_
  refine Wp.dec (λ_=> .some λh=>by cases h) λh2=>?_
  have hq:q.length=p.length:=by omega
  refine Wp.count (λs=>s) p.length (λ_ _=>True) (by omega) rfl trivial λk s hk hs _=>?_
  obtain rfl:s=_:=hs
  refine Wp.dec (λav=>?_) λhge=> .some λ_=>⟨by omega,hq⟩
  have av:k<p.length:=by omega
  rw[aB av,WE]
  refine Wp.seq (λ_=>True) (Wp.dec (λ_=> .some trivial) λ_=> .some trivial) λj3 _=>?_
  refine Wp.ite (λ_=> .some λh=>by cases h) λ_=>?_
  refine Wp.seq (λ_=>True) ?_ λj4 _=>?_
  .rw[aB (show k<q.length by omega),WE]
   exact Wp.dec (λ_=> .some trivial) λ_=> .some trivial
  .exact Wp.ite (λ_=> .some λh=>by cases h) λ_=> .some ⟨av,kM (m:=p.length) (by omega) av,trivial⟩
 refine Wp.seq (λj=>j=Yy->p.length<=8/\q.length=p.length/\a.length=p.length) ?_ λj hj=>?_
 .refine Wp.seq _ hV λc hc=>?_
  refine Wp.ri (λ_=> .some λh=>by cases h) λh=> .some λg=>?_
  obtain⟨h1,h2⟩:=hc h;refine⟨h1,h2,?_⟩
  have:(a.length:Int)=(p.length:Int):=by simpa using g
  omega
 .cases j with
  |true=>rw[YB rfl];exact .some (.inl rfl)
  |false=>
   obtain⟨h1,h2,h3⟩:=hj rfl;rw[YA (by decide)]
   refine Wp.seq _ (HU h1 h2 h3) λr hr=>?_
   rw[wp_bind]
   exact(AK (-1) h1 h2 hr.1 hr.2).mono λy hy=> .some hy
abbrev pC:Type:=List aa.den
theorem FV(a b:pC)(hl:a.length<=100000):M.aP br a b=some (decide (a=b)):=by
 unfold M.aP;refine Wp.eq (Wp.ri (λh=> .some ?_) λh=>?_)
 .exact(YE λe=>h (by rw[e])).symm
 .have h:a.length=b.length:=by omega
  refine Wp.count (λs=>s) a.length (λk _=>∀i,∀h1:i<a.length,∀h2:i<b.length,i<k->a[i]=b[i]) (by omega) rfl (λi _ _ hi=>absurd hi (by omega)) λk s hk hs hJ=>?_
  subst hs;refine .dec (λav=>?_) (λhge=> .some ?_)
  .have av:k<a.length:=by omega
   refine .bind (.idx k rfl av (.bind (.idx k rfl (by omega) (.ite (λh1=> .some ?_) (λh1=> .some ⟨av,aH (by omega),λi qm rH hi=>?_⟩)))))
   .have h1:jY aa a[k] (b[k]'(by omega))=Yy:=by simpa using h1
    have h1:=od.1 h1;exact(YE λe=>h1 (by simp only[e])).symm
   .rcases WU.1 hi with hi|rfl
    .exact hJ i qm rH hi
    .exact pV.1 (by simpa using h1)
  .have:k=a.length:=by omega
   subst this;exact(YD (List.ext_getElem h λi h1 h2=>hJ i h1 h2 h1)).symm
theorem HV(a b:pC)(hl:a.length<=100000):M.mX br a b=some (decide (a=b)):=by
 unfold M.mX;refine Wp.eq (Wp.ri (λh=> .some ?_) λh=>?_)
 .exact(YE λe=>h (by rw[e])).symm
 .have h:a.length=b.length:=by omega
  refine Wp.count (λs=>s) a.length (λk _=>∀i,∀h1:i<a.length,∀h2:i<b.length,i<k->a[i]=b[i]) (by omega) rfl (λi _ _ hi=>absurd hi (by omega)) λk s hk hs hJ=>?_
  subst hs
  refine Wp.seq (λj=>j=decide (k<a.length)) (.dec (λh1=> .some ?_) (λh1=> .some ?_)) λj hj=>?_
  .exact decide_eq_decide.2 (by omega)
  .exact(YE (by omega)).symm
  .subst hj;refine .dec (λav=>?_) (λhge=> .some ?_)
   .refine .bind (.idx k rfl av (.bind (.idx k rfl (by omega) (.ite (λh1=> .some ?_) (λh1=> .some ⟨av,aH (by omega),λi qm rH hi=>?_⟩)))))
    .have h1:jY aa a[k] (b[k]'(by omega))=Yy:=by simpa using h1
     have h1:=od.1 h1;exact(YE λe=>h1 (by simp only[e])).symm
    .rcases WU.1 hi with hi|rfl
     .exact hJ i qm rH hi
     .exact pV.1 (by simpa using h1)
   .have:k=a.length:=by omega
    subst this;exact(YD (List.ext_getElem h λi h1 h2=>hJ i h1 h2 h1)).symm
def dM(g:pC)(C:List pC):Int:=r7 (λx=>decide (x=g)) C
theorem CJ(C:List pC)(g:pC)(hC:C.length<=100000)(hl:∀x∈C,x.length<=100000):M.cP br C g=some (dM g C):=by
 unfold M.cP dM;refine uP (by unfold maxLen;omega) (λk h=>?_) ?_
 .rw[uM h,YB rfl,aB h,WE,FV _ _ (hl _ (WW h)),WE]
 .simp only[rj,decide_false,W0,if_false]
theorem xr(C:List pC)(g:pC)(hC:C.length<=100000)(hl:∀x∈C,x.length<=100000):M.kw br C g=some (dM g C):=by
 unfold M.kw dM;refine uP (by unfold maxLen;omega) (λk h=>?_) ?_
 .rw[uM h,YB rfl,aB h,WE,HV _ _ (hl _ (WW h)),WE]
 .simp only[rj,decide_false,W0,if_false]
theorem rA{g:pC}{C X:List pC}(h:0<=dM g C):dM g (C++X)=dM g C:=by
 obtain⟨x,hx,hp⟩:=lC.1 h;unfold dM r7;have h1:C.findIdx (λx=>decide (x=g))<C.length:=List.findIdx_lt_length.2 ⟨x,hx,hp⟩;rw[List.findIdx_append,YB h1,YB h1,YB (by simp;omega)]
theorem rB{g:pC}{C:List pC}(h:¬0<=dM g C):dM g (C++[g])=(C.length:Int):=by
 refine uO (by simp) (by simp) λj hj Gh=>?_
 rw[List.getElem_append_left hj]
 exact YE λe=>h (lC.2 ⟨_,WW hj,by rw[e];simp⟩)
def gd(rules:List gr)(i:Nat):pC:=match rules[i]? with
 |some r=>r.2.2.2.2.2.1
 |none=>[]
def cH(rules:List gr)(s:List pC×List Int)(i:Nat):List pC×List Int:=if(gd rules i).length=0 then s else if 0<=dM (gd rules i) s.1 then s else(s.1++[gd rules i],s.2++[(i:Int)])
def fb(rules:List gr)(C:List pC)(i:Nat):Int:=if(gd rules i).length=0 then-1 else dM (gd rules i) C
theorem o7(rules:List gr)(T:List Nat):∀s:List pC×List Int,∃X,(T.foldl (cH rules) s).1=s.1++X/\(T.foldl (cH rules) s).1.length<=s.1.length+T.length:=by
 induction T with
 |nil=>exact λs=>⟨[],by simp,by simp⟩
 |cons i T ih=>
  intro s;obtain⟨X,hX,hl⟩:=ih (cH rules s i)
  have:∃Y,(cH rules s i).1=s.1++Y/\Y.length<=1:=by
   unfold cH;split
   .exact⟨[],by simp,by simp⟩
   .split
    .exact⟨[],by simp,by simp⟩
    .exact⟨[gd rules i],rfl,by simp⟩
  obtain⟨Y,hY,Wv⟩:=this;rw[XO];refine⟨Y++X,by rw[hX,hY,W7],?_⟩;rw[hY]at hl;simp only[WZ,WX]at hl⊢;omega
theorem tF(rules:List gr)(s:List pC×List Int)(i:Nat)(h:(gd rules i).length≠0):0<=dM (gd rules i) (cH rules s i).1:=by
 unfold cH;rw[YA h];split
 .assumption
 .rename_i g
  show 0<=dM _ (s.1++[_])
  rw[rB g];omega
theorem zF(rules:List gr)(s:List pC×List Int)(T:List Nat)(i:Nat)(h:(gd rules i).length≠0->0<=dM (gd rules i) s.1):fb rules (T.foldl (cH rules) s).1 i=fb rules s.1 i:=by
 unfold fb;by_cases g:(gd rules i).length=0
 .rw[YB g,YB g]
 .rw[YA g,YA g];obtain⟨X,hX,_⟩:=o7 rules T s;rw[hX,rA (h g)]
theorem tG(rules:List gr)(T:List Nat):∀s:List pC×List Int,∀i∈T,(gd rules i).length≠0->0<=dM (gd rules i) (T.foldl (cH rules) s).1:=by
 induction T with
 |nil=>intro s i hi;simp at hi
 |cons j T ih=>
  intro s i hi h;rw[XO]
  rcases WS.1 hi with rfl|hi
  .obtain⟨X,hX,_⟩:=o7 rules T (cH rules s i);rw[hX,rA (tF rules s i h)];exact tF rules s i h
  .exact ih _ i hi h
theorem CK(rules:List gr)(T:List Nat):∀s:List pC×List Int,∀x∈(T.foldl (cH rules) s).1,x∈s.1\/∃i,x=gd rules i:=by
 induction T with
 |nil=>exact λs x hx=> .inl hx
 |cons j T ih=>
  intro s x hx;rw[XO]at hx
  rcases ih _ x hx with h|h
  .unfold cH at h;split at h
   .exact .inl h
   .split at h
    .exact .inl h
    .rcases WQ.1 h with h|h
     .exact .inl h
     .exact .inr ⟨j,WO.1 h⟩
  .exact .inr h
end L
namespace L
def bt(c b:Int):Bool:=decide (al .and .i64 (bO .i64 c b) 1=1)
def flag(c b:Int):Bool:=if b<0 then Yx else bt c b
theorem FW{c b:Int}(h:0<=b):Bf .i64 c b=some (bO .i64 c b):=by unfold Bf;rw[YA (by omega)]
noncomputable def xu(p q:List Int)(a:List Bool):Int:=(M.bM br p q a).getD 0
theorem rC(p q:List Int)(a:List Bool)(hp:p.length<=100000):M.bM br p q a=some (xu p q a)/\Pl p.length (xu p q a):=(CI p q a hp).getD 0
def IH(T:List Int)(s:Int):Int:=if 0<=s then(T[s.toNat]?).getD 0 else s
noncomputable def oc(T p q B:List Int)(c:Int):Int:=IH T (xu p q (B.map (flag c)))
theorem vi{T:List Int}{s:Int}(h0:0<=s)(h1:s<(T.length:Int)):idx T s=some (IH T s):=by
 obtain⟨k,rfl⟩:=WR h0
 have hk:k<T.length:=by omega
 rw[aB hk];unfold IH;rw[YB h0,WN,WJ hk];rfl
theorem CL{T p q B:List Int}{n:Nat}(hn:n<=8)(hT:T.length<=100000)(hp:p.length=T.length)(hB:B.length=T.length):M.bu br T p q B (n:Int)=some ((WM (2 ^ n)).map λc:Nat=>oc T p q B (c:Int)):=by
 have h8:=ni hn;unfold M.bu;rw[iq (by omega),WE]
 have MX:((2 ^ n:Nat):Int)<=4294967296:=by have:((2 ^ n:Nat):Int)<=256:=by exact_mod_cast h8
                                           exact Int.le_trans this (by decide)
 refine Wp.eq (.bind (kA.2 ⟨⟨Int.natCast_nonneg _,MX⟩, .bind (kA.2 ⟨by omega,?_⟩)⟩));rw[WN,WN];generalize hK:2 ^ n=K at*
 have nG:∀{α:Type}(m:Nat)(z:α),Xb m z=(WM m).map λ_=>z:=λm z=>by
  apply List.ext_getElem (by simp);intro i h1 h2;simp
 refine Wp.count (λs=>s.1) K (λc s=>s.2.1=((WM K).map λj:Nat=>if j<c then oc T p q B (j:Int)else 0)/\s.2.2.length=T.length) (by omega) rfl ⟨by rw[nG];simp,by simp⟩ λc s hc hs hJ=>?_
 obtain⟨cc,out,fl⟩:=s;obtain⟨rfl,Kx⟩:=hJ;dsimp only at hs Kx⊢;subst hs;rw[List.length_replicate];refine .dec (λh=>?_) (λh=> .some ?_)
 .have av:c<K:=by omega
  refine Wp.seq (λs=>s.1=((WM K).map λj:Nat=>if j<c+1 then oc T p q B (j:Int)else 0)/\s.2.length=T.length) ?_ λj hj=> .some ⟨av,aH (by omega),hj⟩
  refine Wp.seq (λs=>s.1=((WM K).map λj:Nat=>if j<c+1 then oc T p q B (j:Int)else 0)/\s.2.length=T.length) ?_ λj hj=> .some hj
  refine Wp.seq (λf=>f=B.map (flag (c:Int))) ?_ λf hf=>?_
  .refine Wp.count (λs=>s.1) B.length (λk s=>s.2.length=B.length/\∀i,∀h:i<s.2.length,∀h2:i<B.length,i<k->s.2[i]=flag (c:Int) B[i]) (by omega) rfl ⟨by rw[Kx,hB],λi _ _ hi=>absurd hi (by omega)⟩ λk s hk hs hJ=>?_
   obtain⟨kk,f⟩:=s;obtain⟨g1,g2⟩:=hJ;dsimp only at hs g1 g2⊢;subst hs;refine .dec (λh=>?_) (λh=> .some ?_)
   .have Gr:k<B.length:=by omega
    have jT:∀v:Bool,v=flag (c:Int) B[k]->(be f (k:Int) v).length=B.length/\∀i,∀h:i<(be f (k:Int) v).length,∀h2:i<B.length,i<k+1->(be f (k:Int) v)[i]=flag (c:Int) B[i]:=λv hv=>by
     refine⟨by rw[bV];exact g1,λi h h2 hi=>?_⟩;simp only[be,WN,List.getElem_set];by_cases e:k=i
     .subst e;rw[YB rfl,hv]
     .rw[YA e];exact g2 i (by omega) h2 (by omega)
    refine Wp.seq (λs=>s.length=B.length/\∀i,∀h:i<s.length,∀h2:i<B.length,i<k+1->s[i]=flag (c:Int) B[i]) (.bind (.idx k rfl Gr ?_)) λj hj=> .some ⟨Gr,aH (by omega),hj⟩
    refine .dec (λh=> .bind (.idx k rfl (by omega) (.some (jT _ ?_)))) (λh=> .ba (FW (by omega)) (.bind (.idx k rfl (by omega) (.some (jT _ ?_)))))
    .unfold flag;rw[YB h]
    .unfold flag;rw[YA h];rfl
   .have:k=B.length:=by omega
    subst this
    refine List.ext_getElem (by rw[g1,XQ]) λi h1 h2=>?_
    have rH:i<B.length:=by simpa using h2
    rw[g2 i h1 rH rH,List.getElem_map]
  .subst hf;obtain⟨hs,hr⟩:=rC p q (B.map (flag (c:Int))) (by omega);refine .ba hs ?_
   have jT:∀v:Int,v=oc T p q B (c:Int)->be ((WM K).map λj:Nat=>if j<c then oc T p q B (j:Int)else 0) (c:Int) v=((WM K).map λj:Nat=>if j<c+1 then oc T p q B (j:Int)else 0):=λv hv=>by
    unfold be;rw[WN,gz]
    refine List.map_congr_left λy hy=>?_
    by_cases e:y=c
    .subst e;rw[YB rfl,YB (by omega),hv]
    .rw[YA e];by_cases g:y<c
     .rw[YB g,YB (by omega)]
     .rw[YA g,YA (by omega)]
   have CM:oc T p q B (c:Int)=IH T (xu p q (B.map (flag (c:Int)))):=rfl;generalize xu p q (B.map (flag (c:Int)))=v at hr CM⊢;unfold Pl at hr
   refine Wp.seq (λj=>j=Yx↔0<=v) (.dec (λh=> .some ?_) (λh=> .some ⟨λh=>(by cases h),λg=>absurd g h⟩)) λj hj=> .ite (λh=>?_) (λh=>?_)
   .rw[YI];exact⟨λ_=>h,λ_=>by omega⟩
   .have hv:=hj.1 h;refine .ba (vi hv (by omega)) (.bind (u9 av (.some ⟨jT _ CM.symm,by rw[XQ];omega⟩)))
   .have hv:¬0<=v:=λg=>h (hj.2 g)
    refine .bind (u9 av (.some ⟨jT _ (by rw[CM];unfold IH;rw[YA hv]),by rw[XQ];omega⟩))
 .have:c=K:=by omega
  subst this
  refine List.map_congr_left λy hy=>?_
  rw[YB (Xc.1 hy)]
noncomputable def mn(l:List Int)(n:Nat):List (Int×Int):=CE (zA (n:Int)) (λx=>(x:Int)∈l) (cL l)
theorem np{k:Nat}{mem:Nat->Bool}:∀{l:List (Nat×Nat)}{cov:Nat->Bool},(dL k mem cov l).length<=l.length
 |[],_=>WH _
 |p::l,cov=>by
  rw[ji];split
  .have:=np (k:=k) (mem:=mem) (l:=l) (cov:=λx=>cov x||decide (x&&& p.1=p.2));simp only[WX];omega
  .have:=np (k:=k) (mem:=mem) (l:=l) (cov:=cov);simp only[WX];omega
theorem zG(l:List Int)(n:Nat):(mn l n).length<=65536:=by
 have hn:=u7 (n:Int);have h8:=ni hn;unfold mn CE;refine Xa np ?_;generalize zA (n:Int)=n at*
 have:=mh (A:=((Pt n).filter (r9 n λx=>(x:Int)∈l)).map λp=>p.1*256+p.2) (B:=WM 65536) ?_ λx hx=>?_
 .simpa using this
 .rw[List.Nodup,List.pairwise_map];refine List.Pairwise.imp_of_mem (λ{p q}hp hq av e=>?_) ((o5 n).filter _);have h1:=(lG hn).1 (Xi.1 hp).1;have h2:=(lG hn).1 (Xi.1 hq).1
  have h3:p.2<=p.1:=by rw[<-h1.2];exact Nat.and_le_right
  have h4:q.2<=q.1:=by rw[<-h2.2];exact Nat.and_le_right
  have h5:p.1=q.1/\p.2=q.2:=by omega
  rw[h5.1,h5.2]at av;exact kU.irrefl _ av
 .obtain⟨p,hp,rfl⟩:=List.mem_map.1 hx;have h1:=(lG hn).1 (Xi.1 hp).1
  have h3:p.2<=p.1:=by rw[<-h1.2];exact Nat.and_le_right
  exact Xc.2 (by omega)
def qe(O:List Int)(v:Int):List Int:=ids (λk=>decide (O[k]? =some v)) O.length
noncomputable def dc(O:List Int)(n:Nat)(v:Int):List pQ:=if(qe O v).length=0 then[]else(mn (qe O v) n).map λp=>(p,v)
theorem rD(O:List Int)(n:Nat)(v:Int):(dc O n v).length<=65536:=by
 unfold dc;split
 .simp
 .rw[XQ];exact zG _ _
theorem CN{O T:List Int}{n:Nat}(hO:O.length<=100000)(hT:T.length<=1000):M.dI br O T (n:Int)=some (([-2,-1]++T).flatMap (dc O n)):=by
 unfold M.dI;refine Wp.eq (.bind (.pu (by simp;omega) ?_))
 have hL:([(-2:Int),-1]++T).length<=1002:=by simp;omega
 generalize([(-2:Int),-1]++T)=L at hL⊢
 refine Wp.count (λs=>s.1) L.length (λk s=>s.2=(L.take k).flatMap (dc O n)/\s.2.length<=k*65536) (by omega) rfl ⟨rfl,WH _⟩ λk s hk hs hJ=>?_
 obtain⟨kk,acc⟩:=s;obtain⟨g1,g2⟩:=hJ;dsimp only at hs g1 g2⊢;subst hs;refine .dec (λh=>?_) (λh=> .some ?_)
 .have av:k<L.length:=by omega
  have cF:(L.take (k+1)).flatMap (dc O n)=(L.take k).flatMap (dc O n)++dc O n L[k]:=by
   rw[<-Xf av,List.flatMap_append];simp
  have MV:=rD O n L[k]
  refine Wp.seq (λs=>s=acc++dc O n L[k]) ?_ λj hj=> .some ⟨av,aH (by omega),by rw[cF,<-g1];exact hj,by show j.length<=_;rw[hj,WZ];omega⟩
  refine Wp.seq (λs=>s=acc++dc O n L[k]) (.bind (.idx k rfl av ?_)) λj hj=> .some hj
  refine Wp.seq (λj=>j=qe O L[k]) ?_ λj hj=>?_
  .refine Wp.count (λs=>s.1) O.length (λi s=>s.2=ids (λz=>decide (O[z]? =some L[k])) i) (by omega) rfl rfl λi s hi hs hJ=>?_
   obtain⟨ii,l⟩:=s;dsimp only at hs hJ⊢;subst hs hJ;refine .dec (λh=>?_) (λh=> .some ?_)
   .have tH:i<O.length:=by omega
    have hl:=kE (λz=>decide (O[z]? =some L[k])) i
    refine Wp.seq (λs=>s=ids (λz=>decide (O[z]? =some L[k])) (i+1)) (.bind (.idx i rfl tH ?_)) λj hj=> .some ⟨tH,aH (by omega),hj⟩
    rw[iO,WJ tH];refine .dec (λh=> .bind (.pu (by simp;omega) (.some ?_))) (λh=> .some ?_)
    .rw[YB (by simp[h])]
    .rw[YA (by simpa using h),List.append_nil]
   .have:i=O.length:=by omega
    subst this;rfl
  .subst hj;have Gg:=kE (λz=>decide (O[z]? =some L[k])) O.length;refine .dec (λh=> .some ?_) (λh=> .ba (FB (l:=qe O L[k]) (by unfold qe;omega) (n:Int)) ?_)
   .have:(qe O L[k]).length=0:=by exact_mod_cast h
    unfold dc;rw[YB this,List.append_nil]
   .have bY:¬(qe O L[k]).length=0:=λg=>h (by rw[g];rfl)
    have hr:dc O n L[k]=(mn (qe O L[k]) n).map λp=>(p,L[k]):=by unfold dc;rw[YA bY]
    have Ge:=zG (qe O L[k]) n;rw[hr]
    show Wp (Loop _ br _) _
    change Wp (Loop (S:=Int×List aj.den) (X:=List aj.den) (λEU=>
     (if(decide (EU.1<((mn (qe O L[k]) n).length:Int)))=Yx then
     (idx (mn (qe O L[k]) n) EU.1).bind λr4=>
     (bW EU.2 ([(r4,L[k])]:List aj.den)).bind λMw=>
     some (Sum.inl (WG.wrap (EU.1+(1:Int)),Mw))
     else
     some (Sum.inr EU.2))) br ((0:Int),acc)) _
    generalize mn (qe O L[k]) n=ps at Ge⊢
    refine Wp.count (λs=>s.1) ps.length (λi s=>s.2=acc++(ps.take i).map λp=>(p,L[k])) (by omega) rfl (by simp) λi s hi hs hJ=>?_
    obtain⟨ii,l⟩:=s;dsimp only at hs hJ⊢;subst hs hJ;refine .dec (λh=>?_) (λh=> .some ?_)
    .have tH:i<ps.length:=by omega
     refine .bind (.idx i rfl tH (.bind (.pu (by simp;omega) (.some ⟨tH,aH (by omega),?_⟩))))
     show _=acc++(ps.take (i+1)).map _
     rw[<-Xf tH,XP,W7];rfl
    .have:i=ps.length:=by omega
     subst this
     show acc++_=_
     rw[W3]
 .have:k=L.length:=by omega
  subst this;rw[W3]at g1;exact g1
end L
namespace L
def TN(rules:List gr)(a d:Int):List Nat:=eP (kp rules (vc a d)) rules.length
def CS(rules:List gr)(a d:Int):List pC×List Int:=(TN rules a d).foldl (cH rules) ([],[])
def BB(rules:List gr)(a d:Int):List Int:=(TN rules a d).map (fb rules (CS rules a d).1)
noncomputable def OO(rules:List gr)(a d:Int):List Int:=(WM (2 ^ (CS rules a d).1.length)).map λc:Nat=>oc (fe rules a d) (fa rules a d) (gO rules a d) (BB rules a d) (c:Int)
noncomputable def RR(rules:List gr)(a d:Int):List pQ:=([-2,-1]++fe rules a d).flatMap (dc (OO rules a d) (CS rules a d).1.length)
theorem FX{rules:List gr}{a d:Int}:∀i∈TN rules a d,i<rules.length:=λi hi=>Xc.1 (Xi.1 hi).1
theorem n9(rules:List gr)(a d:Int):fe rules a d=(TN rules a d).map λi:Nat=>(i:Int):=rfl
structure Fit(rules:List gr)(a d:Int):Prop where
 len:rules.length<=60
 g:∀r∈rules,r.2.2.2.2.2.1.length<=100000
 t8:(TN rules a d).length<=8
theorem Fit.gd{rules:List gr}{a d:Int}(h:Fit rules a d)(i:Nat):(gd rules i).length<=100000:=by
 unfold L.gd
 cases e:rules[i]? with
 |none=>simp
 |some r=>exact h.g r (List.mem_of_getElem? e)
theorem Fit.conds{rules:List gr}{a d:Int}(h:Fit rules a d)(T:List Nat):∀x∈(T.foldl (cH rules) ([],[])).1,x.length<=100000:=λx hx=>by
 rcases CK rules T _ x hx with g|⟨i,rfl⟩
 .simp at g
 .exact h.gd i
theorem Fit.Ke{rules:List gr}{a d:Int}(h:Fit rules a d)(k:Nat):(((TN rules a d).take k).foldl (cH rules) ([],[])).1.length<=8:=by
 obtain⟨_,_,hl⟩:=o7 rules ((TN rules a d).take k) ([],[]);have:=h.t8;simp only[List.length_nil,XE]at hl;omega
theorem Fit.n8{rules:List gr}{a d:Int}(h:Fit rules a d):(CS rules a d).1.length<=8:=by
 have:=h.Ke (TN rules a d).length;rw[W3]at this;exact this
theorem AL(rules:List gr)(T:List Nat):∀s:List pC×List Int,(T.foldl (cH rules) s).2.length<=s.2.length+T.length:=by
 induction T with
 |nil=>intro s;simp
 |cons i T ih=>
  intro s;rw[XO];have h1:=ih (cH rules s i)
  have h2:(cH rules s i).2.length<=s.2.length+1:=by
   unfold cH;split
   .omega
   .split
    .omega
    .simp
  simp only[WX];omega
theorem FY(x:pC)(hl:x.length<=100000):M.aQ br x=some x:=by
 unfold M.aQ;rw[eY (by simp;omega)];simp only[List.nil_append,WE]
 cases x with
 |nil=>show wz _ _=_;unfold wz;rw[YB rfl]
 |cons a x=>rfl
theorem fold_succ{rules:List gr}{T:List Nat}{k:Nat}(h:k<T.length)(s:List pC×List Int):(T.take (k+1)).foldl (cH rules) s=cH rules ((T.take k).foldl (cH rules) s) T[k]:=by
 rw[<-Xf h,List.foldl_append];rfl
theorem FZ{rules:List gr}{i:Nat}(h:i<rules.length):gd rules i=rules[i].2.2.2.2.2.1:=by unfold gd;rw[WJ h]
theorem HW{rules:List gr}{a d:Int}(h:Fit rules a d):M.bu br (fe rules a d) (fa rules a d) (gO rules a d) (BB rules a d) ((CS rules a d).1.length:Int)=some (OO rules a d):=by
 have hl:(fe rules a d).length=(TN rules a d).length:=by rw[n9];simp
 exact CL h.n8 (by have:=h.t8;omega) (by rw[hl];unfold fa TN;simp) (by rw[hl];unfold BB;simp)
theorem M3{rules:List gr}{a d:Int}(h:Fit rules a d):M.dI br (OO rules a d) (fe rules a d) ((CS rules a d).1.length:Int)=some (RR rules a d):=by
 have hl:(fe rules a d).length=(TN rules a d).length:=by rw[n9];simp
 have h8:=ni h.n8;exact CN (by unfold OO;simp;omega) (by have:=h.t8;omega)
theorem CO{l:Lw}{x:jV}{a1 a2 a3:Int}(hv:M.ik br l=some ((0:Int),((0:Int),((0:Int),(0:Int)))))(h1:0<=a1)(qm:a1<(l.2.2.length:Int))(hx:idx l.2.2 a1=some x)(h2:0<=a2)(rH:a2<(x.2.2.2.1.length:Int))(h3:0<=a3)(Sb:a3<=109572)
 (hf:Fit x.2.2.2.2 a2 a3):M.eK br l a1 a2 a3=some (a2,(0:Int),(CS x.2.2.2.2 a2 a3).1,(CS x.2.2.2.2 a2 a3).2,RR x.2.2.2.2 a2 a3):=by
 unfold M.eK;rw[hv,WE];refine Wp.eq (.ite (λh=>?_) λ_=>?_)
 .rw[pV.2 rfl]at h;cases h
 refine Wp.seq (λj=>j=Yy) (.dec (λh=>absurd h1 (by omega)) λ_=> .some (YE (by omega))) λj hj=>?_
 subst hj
 refine .ite (λh=>(by cases h)) λ_=> .ba hx ?_
 refine Wp.seq (λj=>j=Yy) (.dec (λh=>absurd h2 (by omega)) λ_=> .some (YE (by omega))) λj hj=>?_
 subst hj
 refine .ite (λh=>(by cases h)) λ_=>?_
 refine Wp.seq (λj=>j=Yy) (.dec (λh=>absurd h3 (by omega)) λ_=> .some (YE (by omega))) λj hj=>?_
 subst hj
 refine .ite (λh=>(by cases h)) λ_=> .ba (CH x a2 a3 (by have:=hf.len;omega)) ?_
 have NO:=FX (rules:=x.2.2.2.2) (a:=a2) (d:=a3);have Kf:=HW hf;have M4:=M3 hf;have KG:CS x.2.2.2.2 a2 a3=(TN x.2.2.2.2 a2 a3).foldl (cH x.2.2.2.2) ([],[]):=rfl;have Q7:BB x.2.2.2.2 a2 a3=(TN x.2.2.2.2 a2 a3).map (fb x.2.2.2.2 (CS x.2.2.2.2 a2 a3).1):=rfl;have CP:=n9 x.2.2.2.2 a2 a3
 have tH:(fe x.2.2.2.2 a2 a3).length=(TN x.2.2.2.2 a2 a3).length:=by rw[CP];simp
 have Gj:=hf.Ke;have Gy:=hf.conds;have Jw:=hf.gd;have Vv:=hf.t8;have MV:=hf.len;generalize x.2.2.2.2=rules at*;dsimp only;refine .bind (kA.2 ⟨by omega,?_⟩);rw[tH]
 refine Wp.seq (λj=>j=(a2,BB rules a2 a3,(CS rules a2 a3).1,(CS rules a2 a3).2)) ?_ λj hj=>?_
 .refine Wp.count (λs=>s.1) (TN rules a2 a3).length (λk s=>s.2.1=a2/\(s.2.2.2.1,s.2.2.2.2)=((TN rules a2 a3).take k).foldl (cH rules) ([],[])/\s.2.2.1.length=(TN rules a2 a3).length/\∀i,∀h:i<s.2.2.1.length,∀h2:i<(TN rules a2 a3).length,i<k->s.2.2.1[i]=fb rules s.2.2.2.1 (TN rules a2 a3)[i]) (by omega) rfl ⟨rfl,rfl,by simp,λi _ _ hi=>absurd hi (by omega)⟩ λk s hk hs hJ=>?_
  obtain⟨kk,a',bits,C,O⟩:=s;obtain⟨g1,g2,g3,g4⟩:=hJ;dsimp only at hs g1 g2 g3 g4⊢;subst hs g1;refine .dec (λh=>?_) (λh=> .some ?_)
  .have av:k<(TN rules a' a3).length:=by omega
   have hb:=NO _ (WW av)
   have vj:idx (fe rules a' a3) (k:Int)=some (((TN rules a' a3)[k]:Nat):Int):=by rw[CP,aB (by simpa using av)];simp
   have M5:C.length<=8:=by have:=Gj k;rw[<-g2]at this;exact this
   have M6:O.length<=8:=by have:=AL rules ((TN rules a' a3).take k) ([],[]);rw[<-g2]at this;simp only[List.length_nil,XE]at this;omega
   have Q8:∀y∈C,y.length<=100000:=λy hy=>Gy ((TN rules a' a3).take k) y (by rw[<-g2];exact hy)
   have df:=tG rules ((TN rules a' a3).take k) ([],[]);rw[<-g2]at df
   have cF:∀(s':List pC×List Int)(v:Int),s'=cH rules (C,O) (TN rules a' a3)[k]->v=fb rules s'.1 (TN rules a' a3)[k]->∀rE:List Int,rE.length=bits.length->(∀i,∀h:i<rE.length,∀h2:i<bits.length,rE[i]=if k=i then v else bits[i])->
    (a'=a'/\(s'.1,s'.2)=((TN rules a' a3).take (k+1)).foldl (cH rules) ([],[])/\rE.length=(TN rules a' a3).length/\∀i,∀h:i<rE.length,∀h2:i<(TN rules a' a3).length,i<k+1->rE[i]=fb rules s'.1 (TN rules a' a3)[i]):=λs' v AG cM rE Ww Vw=>by
    refine⟨rfl,by rw[fold_succ av,<-g2,<-AG],by omega,λi h h2 hi=>?_⟩;rw[Vw i h (by omega)];by_cases e:k=i
    .subst e;rw[YB rfl];exact cM
    .rw[YA e,g4 i (by omega) h2 (by omega),AG]
     have:=zF rules (C,O) [(TN rules a' a3)[k]] (TN rules a' a3)[i] λbY=>df _ (List.mem_take_iff_getElem.2 ⟨i,by omega,rfl⟩) bY
     exact this.symm
   have II:∀v:Int,(be bits (k:Int) v).length=bits.length/\∀i,∀h:i<(be bits (k:Int) v).length,∀h2:i<bits.length,(be bits (k:Int) v)[i]=if k=i then v else bits[i]:=λv=>⟨bV _ _ _,λi h h2=>by simp only[be,WN,List.getElem_set]⟩
   have IJ:∀v w:Int,(be (be bits (k:Int) w) (k:Int) v).length=bits.length/\∀i,∀h:i<(be (be bits (k:Int) w) (k:Int) v).length,∀h2:i<bits.length,(be (be bits (k:Int) w) (k:Int) v)[i]=if k=i then v else bits[i]:=λv w=>⟨by rw[bV,bV],λi h h2=>by
    simp only[be,WN,List.getElem_set];by_cases e:k=i
    .rw[YB e,YB e]
    .rw[YA e,YA e,YA e]⟩
   refine Wp.seq (λj=>j.1=a'/\(j.2.2.1,j.2.2.2)=((TN rules a' a3).take (k+1)).foldl (cH rules) ([],[])/\j.2.1.length=(TN rules a' a3).length/\∀i,∀h:i<j.2.1.length,∀h2:i<(TN rules a' a3).length,i<k+1->j.2.1[i]=fb rules j.2.2.1 (TN rules a' a3)[i]) (.ba vj (.bind (.idx k rfl (by omega) (.ba (aB hb) ?_)))) λj hj=> .some ⟨av,aH (by omega),hj⟩
   have EJ:=FZ hb;rw[<-EJ];have Sl:=Jw (TN rules a' a3)[k];refine .dec (λh=> .some ?_) (λh=> .ba (CJ C _ (by omega) Q8) ?_)
   .have h0:(gd rules (TN rules a' a3)[k]).length=0:=by exact_mod_cast h
    exact cF (C,O) (-1) (by unfold cH;rw[YB h0]) (by unfold fb;rw[YB h0]) _ (II (-1)).1 (II (-1)).2
   .have h0:¬(gd rules (TN rules a' a3)[k]).length=0:=λg=>h (by rw[g];rfl)
    refine Wp.seq (λj=>j.2.1=a'/\(j.2.2.1,j.2.2.2)=cH rules (C,O) (TN rules a' a3)[k]/\j.1=fb rules j.2.2.1 (TN rules a' a3)[k]) (.dec (λhn=> .ba (FY _ Sl) (.bind (.pu (by simp;omega) (.bind (.pu (by simp;omega) (.some ⟨rfl,?_,?_⟩)))))) (λhn=> .some ⟨rfl,?_,?_⟩)) λj hj=> .bind (.idx k rfl (by rw[bV];omega) (.some ?_))
    .unfold cH;exact((YA h0).trans (YA (show¬0<=dM (gd rules (TN rules a' a3)[k]) C by omega))).symm
    .show(C.length:Int)=fb rules (C++[gd rules (TN rules a' a3)[k]]) (TN rules a' a3)[k]
     unfold fb;rw[YA h0,rB (by omega)]
    .unfold cH;exact((YA h0).trans (YB (show 0<=dM (gd rules (TN rules a' a3)[k]) C by omega))).symm
    .unfold fb;rw[YA h0]
    .obtain⟨j1,j2,j3⟩:=hj;have:=cF (j.2.2.1,j.2.2.2) j.1 j2 j3 _ (IJ j.1 (-1)).1 (IJ j.1 (-1)).2;exact⟨j1,this.2⟩
  .have:k=(TN rules a' a3).length:=by omega
   subst this;rw[W3]at g2
   have e1:C=(CS rules a' a3).1:=by rw[KG,<-g2]
   have e2:O=(CS rules a' a3).2:=by rw[KG,<-g2]
   show(a',bits,C,O)=_
   rw[e2]
   congr 2
   .rw[Q7,<-e1]
    refine List.ext_getElem (by rw[g3,XQ]) λi h1 h2=>?_
    have rH:i<(TN rules a' a3).length:=by simpa using h2
    rw[g4 i h1 rH rH,List.getElem_map]
   .rw[e1]
 .subst hj;exact .ba Kf (.ba M4 (.some rfl))
end L
namespace L
theorem xv{α:Type}(P:Nat->Bool)(f:Int->List α):∀m,(ids P m).flatMap f=(WM m).flatMap λi:Nat=>if P i=Yx then f (i:Int)else[]
 |0=>rfl
 |m+1=>by
  rw[iO,mj,List.flatMap_append,xv P f m]
  congr 1
  split<;>simp
theorem zH{α β:Type}{l:List α}{f g:α->List β}(h:∀x∈l,f x=g x):l.flatMap f=l.flatMap g:=by
 induction l with
 |nil=>rfl
 |cons a l ih=>rw[List.flatMap_cons,List.flatMap_cons,h a Xx,ih λx hx=>h x (Xk _ hx)]
theorem xw{O:List Int}{n:Nat}{v:Int}(h:v∉O):dc O n v=[]:=by
 unfold dc;rw[YB];unfold qe;refine List.length_eq_zero_iff.2 (List.eq_nil_iff_forall_not_mem.2 λj hj=>?_);obtain⟨i,hi,hp,_⟩:=nZ.1 hj;exact h (List.mem_of_getElem? (YC hp))
theorem Kg{rules:List gr}{a d:Int}(h:Fit rules a d){v:Int}(hv:v∈OO rules a d):v= -1\/v= -2\/v∈fe rules a d:=by
 obtain⟨c,_,rfl⟩:=List.mem_map.1 hv
 have hl:(fe rules a d).length=(TN rules a d).length:=by rw[n9];simp
 have hp:(fa rules a d).length=(fe rules a d).length:=by rw[hl];unfold fa TN;simp
 obtain⟨_,hr⟩:=rC (fa rules a d) (gO rules a d) ((BB rules a d).map (flag (c:Int))) (by have:=h.t8;omega);unfold oc;generalize xu (fa rules a d) (gO rules a d) ((BB rules a d).map (flag (c:Int)))=s at hr;unfold Pl at hr
 rcases hr with rfl|rfl|⟨h0,h1⟩
 .exact .inl rfl
 .exact .inr (.inl rfl)
 .refine .inr (.inr ?_);obtain⟨x,hx,hm⟩:=rq (l:=fe rules a d) h0 (by omega);rw[vi h0 (by omega)]at hx;rw[WD hx];exact hm
theorem F5{rules:List gr}{a d:Int}(h:Fit rules a d):(WM (rules.length+2)).flatMap (λk:Nat=>dc (OO rules a d) (CS rules a d).1.length ((k:Int)-2))=RR rules a d:=by
 unfold RR;generalize hn:(CS rules a d).1.length=n;rw[Nat.add_comm,List.range_add,List.flatMap_append,List.flatMap_append]
 congr 1
 rw[List.flatMap_map];unfold fe;rw[xv]
 refine zH λi hi=>?_
 have e:((2+i:Nat):Int)-2=(i:Int):=by omega
 rw[e];split
 .rfl
 .rename_i g
  refine xw λhm=>?_
  rcases Kg h hm with h1|h1|h1
  .omega
  .omega
  .obtain⟨j,hj,hp,e⟩:=nZ.1 h1
   obtain rfl:i=j:=by omega
   exact g hp
theorem F6{l:Lw}{x:jV}{a1 a2 a3:Int}(hx:idx l.2.2 a1=some x)(hf:Fit x.2.2.2.2 a2 a3):M.gq br l a1 a2 a3=some (a2,(CS x.2.2.2.2 a2 a3).1,(CS x.2.2.2.2 a2 a3).2,RR x.2.2.2.2 a2 a3):=by
 unfold M.gq;rw[hx,WE,FP x a2 a3 (by have:=hf.len;omega),WE];have NO:=FX (rules:=x.2.2.2.2) (a:=a2) (d:=a3);have KG:CS x.2.2.2.2 a2 a3=(TN x.2.2.2.2 a2 a3).foldl (cH x.2.2.2.2) ([],[]):=rfl;have Q7:BB x.2.2.2.2 a2 a3=(TN x.2.2.2.2 a2 a3).map (fb x.2.2.2.2 (CS x.2.2.2.2 a2 a3).1):=rfl
 have Sm:OO x.2.2.2.2 a2 a3=(WM (2 ^ (CS x.2.2.2.2 a2 a3).1.length)).map λc:Nat=>oc (fe x.2.2.2.2 a2 a3) (fa x.2.2.2.2 a2 a3) (gO x.2.2.2.2 a2 a3) (BB x.2.2.2.2 a2 a3) (c:Int):=rfl
 have CP:=n9 x.2.2.2.2 a2 a3
 have tH:(fe x.2.2.2.2 a2 a3).length=(TN x.2.2.2.2 a2 a3).length:=by rw[CP];simp
 have Gg:(fa x.2.2.2.2 a2 a3).length=(TN x.2.2.2.2 a2 a3).length:=by unfold fa TN;simp
 have Gj:=hf.Ke;have Vx:=hf.n8;have Gy:=hf.conds;have Jw:=hf.gd;have Vv:=hf.t8;have MV:=hf.len;have Vy:=F5 hf;generalize x.2.2.2.2=rules at*;dsimp only;refine Wp.eq (Wp.seq (λj=>j=(a2,(CS rules a2 a3).1,(CS rules a2 a3).2)) ?_ λj hj=>?_)
 .rw[tH]
  refine Wp.count (λs=>s.1) (TN rules a2 a3).length (λk s=>s.2.1=a2/\(s.2.2.1,s.2.2.2)=((TN rules a2 a3).take k).foldl (cH rules) ([],[])) (by omega) rfl ⟨rfl,rfl⟩ λk s hk hs hJ=>?_
  obtain⟨kk,a',C,O⟩:=s;obtain⟨g1,g2⟩:=hJ;dsimp only at hs g1 g2⊢;subst hs g1;refine .dec (λh=>?_) (λh=> .some ?_)
  .have av:k<(TN rules a' a3).length:=by omega
   have hb:=NO _ (WW av)
   have vj:idx (fe rules a' a3) (k:Int)=some (((TN rules a' a3)[k]:Nat):Int):=by rw[CP,aB (by simpa using av)];simp
   have M5:C.length<=8:=by have:=Gj k;rw[<-g2]at this;exact this
   have M6:O.length<=8:=by have:=AL rules ((TN rules a' a3).take k) ([],[]);rw[<-g2]at this;simp only[List.length_nil,XE]at this;omega
   have Q8:∀y∈C,y.length<=100000:=λy hy=>Gy ((TN rules a' a3).take k) y (by rw[<-g2];exact hy)
   refine Wp.seq (λj=>j.1=a'/\(j.2.1,j.2.2)=((TN rules a' a3).take (k+1)).foldl (cH rules) ([],[])) (.ba vj (.ba (aB hb) ?_)) λj hj=> .some ⟨av,aH (by omega),hj⟩
   have EJ:=FZ hb;rw[<-EJ,fold_succ av,<-g2];have Sl:=Jw (TN rules a' a3)[k]
   refine Wp.seq (λj=>j=Yx↔(gd rules (TN rules a' a3)[k]).length≠0/\¬0<=dM (gd rules (TN rules a' a3)[k]) C) (.dec (λh=> .ba (xr C _ (by omega) Q8) (.some ?_)) (λh=> .some ⟨λh=>(by cases h),λg=>absurd g.1 (by omega)⟩)) λj hj=> .ite (λh=>?_) (λh=> .some ⟨rfl,?_⟩)
   .rw[YI];exact⟨λg=>⟨by omega,by omega⟩,λg=>by omega⟩
   .obtain⟨h0,h1⟩:=hj.1 h;refine .bind (.pu (by simp;omega) (.bind (.pu (by simp;omega) (.ba vj (.bind (.pu (by simp;omega) (.some ⟨rfl,?_⟩)))))));unfold cH;rw[List.nil_append];exact((YA h0).trans (YA h1)).symm
   .unfold cH;by_cases h0:(gd rules (TN rules a' a3)[k]).length=0
    .exact(YB h0).symm
    .refine((YA h0).trans (YB ?_)).symm
     exact Classical.byContradiction λg=>h (hj.2 ⟨h0,g⟩)
  .have:k=(TN rules a' a3).length:=by omega
   subst this;rw[W3]at g2
   show(a',C,O)=_
   rw[KG,<-g2]
 subst hj;dsimp only;have M7:=Gy (TN rules a2 a3);rw[<-KG]at M7;have h8:=ni Vx
 refine Wp.seq (λj=>j=OO rules a2 a3) ?_ λj hj=>?_
 .rw[Sm];generalize hn:(CS rules a2 a3).1.length=n at*
  refine Wp.count (λs=>s.1) (2 ^ n) (λk s=>s.2=(WM k).map λc:Nat=>oc (fe rules a2 a3) (fa rules a2 a3) (gO rules a2 a3) (BB rules a2 a3) (c:Int)) (by omega) rfl rfl λk s hk hs hJ=>?_
  obtain⟨kk,O⟩:=s;dsimp only at hs hJ⊢;subst hs hJ;refine .ba (iq (by omega)) (.dec (λh=>?_) (λh=> .some ?_))
  .have av:k<2 ^ n:=by exact_mod_cast h
   refine Wp.seq (λj=>j=(WM (k+1)).map λc:Nat=>oc (fe rules a2 a3) (fa rules a2 a3) (gO rules a2 a3) (BB rules a2 a3) (c:Int)) ?_ λj hj=> .some ⟨av,aH (by omega),hj⟩
   rw[tH]
   refine Wp.seq (λj=>j=(BB rules a2 a3).map (flag (k:Int))) ?_ λj hj=>?_
   .rw[Q7]
    refine Wp.count (λs=>s.1) (TN rules a2 a3).length (λi s=>s.2=(((TN rules a2 a3).take i).map (fb rules (CS rules a2 a3).1)).map (flag (k:Int))) (by omega) rfl rfl λi s hi hs hJ=>?_
    obtain⟨ii,F⟩:=s;dsimp only at hs hJ⊢;subst hs hJ;refine .dec (λh=>?_) (λh=> .some ?_)
    .have wP:i<(TN rules a2 a3).length:=by omega
     have hb:=NO _ (WW wP)
     have vj:idx (fe rules a2 a3) (i:Int)=some (((TN rules a2 a3)[i]:Nat):Int):=by rw[CP,aB (by simpa using wP)];simp
     refine Wp.seq (λs=>s=(((TN rules a2 a3).take (i+1)).map (fb rules (CS rules a2 a3).1)).map (flag (k:Int))) (.ba vj (.ba (aB hb) ?_)) λj hj=> .some ⟨wP,aH (by omega),hj⟩
     rw[<-FZ hb]
     have IK:∀v:Bool,v=flag (k:Int) (fb rules (CS rules a2 a3).1 (TN rules a2 a3)[i])->(((TN rules a2 a3).take i).map (fb rules (CS rules a2 a3).1)).map (flag (k:Int))++[v]=(((TN rules a2 a3).take (i+1)).map (fb rules (CS rules a2 a3).1)).map (flag (k:Int)):=λv hv=>by
      rw[<-Xf wP,XP,XP,hv];rfl
     refine .dec (λh=> .bind (.pu (by simp;omega) (.some (IK _ ?_)))) (λh=> .ba (xr _ _ (by omega) M7) ?_)
     .have h0:(gd rules (TN rules a2 a3)[i]).length=0:=by exact_mod_cast h
      unfold fb flag;rw[YB h0,YB (by omega)]
     .have h0:¬(gd rules (TN rules a2 a3)[i]).length=0:=λg=>h (by rw[g];rfl)
      have hc:0<=dM (gd rules (TN rules a2 a3)[i]) (CS rules a2 a3).1:=by
       rw[KG];exact tG rules _ _ _ (WW wP) h0
      refine .ba (FW hc) (.bind (.pu (by simp;omega) (.some (IK _ ?_))));unfold fb flag;rw[YA h0,YA (by omega)];rfl
    .have:i=(TN rules a2 a3).length:=by omega
     subst this
     show _=_
     rw[W3]
   .subst hj;obtain⟨hs,hr⟩:=rC (fa rules a2 a3) (gO rules a2 a3) ((BB rules a2 a3).map (flag (k:Int))) (by omega);rw[S.Kd]at hs;refine .ba hs ?_;have CM:oc (fe rules a2 a3) (fa rules a2 a3) (gO rules a2 a3) (BB rules a2 a3) (k:Int)=IH (fe rules a2 a3) (xu (fa rules a2 a3) (gO rules a2 a3) ((BB rules a2 a3).map (flag (k:Int)))):=rfl;rw[List.range_succ,XP];generalize xu (fa rules a2 a3) (gO rules a2 a3) ((BB rules a2 a3).map (flag (k:Int)))=v at hr CM⊢;unfold Pl at hr
    refine Wp.seq (λj=>j=IH (fe rules a2 a3) v) (.dec (λh=> .ba (vi h (by omega)) (.some rfl)) (λh=> .some ?_)) λj hj=> .bind (.pu (by simp;omega) (.some ?_))
    .unfold IH;rw[YA h]
    .rw[hj,List.map_singleton,CM]
  .have:k=2 ^ n:=by have:¬k<2 ^ n:=λg=>h (by exact_mod_cast g);omega
   subst this;rfl
 subst hj;rw[<-Vy]
 have Vz:(OO rules a2 a3).length<=256:=by rw[Sm];simp;omega
 generalize hn:(CS rules a2 a3).1.length=n at*
 refine Wp.seq (λj=>j=(a2,(CS rules a2 a3).1,(CS rules a2 a3).2,(WM (rules.length+2)).flatMap λk:Nat=>dc (OO rules a2 a3) n ((k:Int)-2))) ?_ λj hj=> .some (by rw[hj])
 generalize OO rules a2 a3=O at Vz⊢;generalize(CS rules a2 a3).1=C at*;generalize(CS rules a2 a3).2=W at*
 refine Wp.count (λs=>s.1+2) (rules.length+2) (λk s=>s.2.1=a2/\s.2.2.1=C/\s.2.2.2.1=W/\s.2.2.2.2=((WM k).flatMap λk:Nat=>dc O n ((k:Int)-2))/\s.2.2.2.2.length<=k*65536) (by omega) rfl ⟨rfl,rfl,rfl,rfl,WH _⟩ λk s hk hs hJ=>?_
 obtain⟨v,a',C',W',acc⟩:=s;obtain⟨g1,g2,g3,g4,g5⟩:=hJ;dsimp only at hs g1 g2 g3 g4 g5⊢
 obtain rfl:v=(k:Int)-2:=by omega
 subst g1 g2 g3;refine .dec (λh=>?_) (λh=> .some ?_)
 .have av:k<rules.length+2:=by omega
  have FC:=rD O n ((k:Int)-2)
  have hw:WG.wrap ((k:Int)-2+1)+2=((k+1:Nat):Int):=by rw[eX (by omega) (by omega)];omega
  refine Wp.seq (λs=>s=(a',C',W',acc++dc O n ((k:Int)-2))) ?_ λj hj=> .some ⟨av,hw,by rw[hj],by rw[hj],by rw[hj],by rw[hj,mj,<-g4],by rw[hj];show(acc++_).length<=_;rw[WZ];omega⟩
  refine Wp.seq (λs=>s=(a',C',W',acc++dc O n ((k:Int)-2))) ?_ λj hj=> .some (by rw[hj])
  refine Wp.seq (λj=>j=qe O ((k:Int)-2)) ?_ λj hj=>?_
  .refine Wp.count (λs=>s.1) O.length (λi s=>s.2=ids (λz=>decide (O[z]? =some ((k:Int)-2))) i) (by omega) rfl rfl λi s hi hs hJ=>?_
   obtain⟨ii,l⟩:=s;dsimp only at hs hJ⊢;subst hs hJ;refine .dec (λh=>?_) (λh=> .some ?_)
   .have tH:i<O.length:=by omega
    have hl:=kE (λz=>decide (O[z]? =some ((k:Int)-2))) i
    refine Wp.seq (λs=>s=ids (λz=>decide (O[z]? =some ((k:Int)-2))) (i+1)) (.bind (.idx i rfl tH ?_)) λj hj=> .some ⟨tH,aH (by omega),hj⟩
    rw[iO,WJ tH];refine .dec (λh=> .bind (.pu (by simp;omega) (.some ?_))) (λh=> .some ?_)
    .rw[YB (by simp[h])]
    .rw[YA (by simpa using h),List.append_nil]
   .have:i=O.length:=by omega
    subst this;rfl
  .subst hj;have Gg:=kE (λz=>decide (O[z]? =some ((k:Int)-2))) O.length;refine .dec (λh=> .some ?_) (λh=> .ba (HO (l:=qe O ((k:Int)-2)) (by unfold qe;omega) (n:Int)) ?_)
   .have:(qe O ((k:Int)-2)).length=0:=by exact_mod_cast h
    unfold dc;rw[YB this,List.append_nil]
   .have bY:¬(qe O ((k:Int)-2)).length=0:=λg=>h (by rw[g];rfl)
    have hr:dc O n ((k:Int)-2)=(mn (qe O ((k:Int)-2)) n).map λp=>(p,(k:Int)-2):=by unfold dc;rw[YA bY]
    have Ge:=zG (qe O ((k:Int)-2)) n;rw[hr];have VA:CE (zA (n:Int)) (λx=>(x:Int)∈qe O ((k:Int)-2)) (cL (qe O ((k:Int)-2)))=mn (qe O ((k:Int)-2)) n:=rfl;rw[VA];generalize mn (qe O ((k:Int)-2)) n=ps at Ge⊢
    refine Wp.count (λs=>s.1) ps.length (λi s=>s.2=(a',C',W',acc++(ps.take i).map λp=>(p,(k:Int)-2))) (by omega) rfl (by simp) λi s hi hs hJ=>?_
    obtain⟨ii,LJ,Wx,Wy,l⟩:=s;cases hJ;dsimp only at hs⊢;subst hs;refine .dec (λh=>?_) (λh=> .some ?_)
    .have tH:i<ps.length:=by omega
     refine .bind (.idx i rfl tH (.bind (.pu (by simp;omega) (.some ⟨tH,aH (by omega),?_⟩))))
     show(_,_,_,_)=(_,_,_,acc++(ps.take (i+1)).map _)
     rw[<-Xf tH,XP,W7];rfl
    .have:i=ps.length:=by omega
     subst this
     show(_,_,_,acc++_)=_
     rw[W3]
 .have:k=rules.length+2:=by omega
  subst this
  show(a',C',W',acc)=_
  rw[g4]
end L
namespace L
theorem HX{l:Lw}{x:jV}{k:Nat}{r:gr}:Cr l x k r=0↔r6 r.1=Yx/\¬nU (x.2.2.2.2.take k) r.1/\(0<=(r.2.1:Int)/\(r.2.1:Int)<(x.2.2.2.1.length:Int))/\¬uN x k r/\
 ¬((r.2.2.2.1:Int)<0\/9<(r.2.2.2.1:Int)\/¬VR r.2.2.2.2.1\/(r.2.2.2.2.1.1:Int)=r.2.2.2.2.1.2)/\Hx x k r.2.1<8/\plain r.2.2.2.2.2.2.2/\
 (0<r.2.2.2.2.2.1.length->Cq r.2.2.2.2.2.1 (Cp l x) ((1:Int),(0:Int))=0)/\(match x.2.2.2.1[(r.2.1:Int).toNat]? with
   |some d=>Cq r.2.2.2.2.2.2.1 (Cp l x) d.2
   |none=>0)=0:=by
 unfold Cr;by_cases h1:r6 r.1=Yy
 .rw[YB h1]
  exact YJ (by decide) λg=>by rw[h1]at g;cases g.1
 rw[YA h1];by_cases h2:nU (x.2.2.2.2.take k) r.1
 .rw[YB h2]
  exact YJ (by decide) λg=>g.2.1 h2
 rw[YA h2];by_cases h3:0<=(r.2.1:Int)/\(r.2.1:Int)<(x.2.2.2.1.length:Int)
 case neg=>
  rw[YB h3]
  exact YJ (by decide) λg=>h3 g.2.2.1
 rw[YA (λg=>g h3)];by_cases h4:uN x k r
 .rw[YB h4]
  exact YJ (by decide) λg=>g.2.2.2.1 h4
 rw[YA h4];by_cases h5:(r.2.2.2.1:Int)<0\/9<(r.2.2.2.1:Int)\/¬VR r.2.2.2.2.1\/(r.2.2.2.2.1.1:Int)=r.2.2.2.2.1.2
 .rw[YB h5]
  exact YJ (by decide) λg=>g.2.2.2.2.1 h5
 rw[YA h5];by_cases h6:8<=Hx x k r.2.1
 .rw[YB h6]
  exact YJ (by decide) λg=>by have:=g.2.2.2.2.2.1;omega
 rw[YA h6];by_cases h7:plain r.2.2.2.2.2.2.2
 case neg=>
  rw[YB h7]
  exact YJ (by decide) λg=>h7 g.2.2.2.2.2.2.1
 rw[YA (λg=>g h7)];by_cases h8:0<r.2.2.2.2.2.1.length/\Cq r.2.2.2.2.2.1 (Cp l x) ((1:Int),(0:Int))≠0
 .rw[YB h8]
  exact YJ h8.2 λg=>h8.2 (g.2.2.2.2.2.2.2.1 h8.1)
 rw[YA h8];exact⟨λg=>⟨by simpa using h1,h2,h3,h4,h5,by omega,h7,λa=>Yc.1 λb=>h8 ⟨a,b⟩,g⟩,λg=>g.2.2.2.2.2.2.2.2⟩
theorem Valid.NF{l:Lw}(h:Valid l):Hz l=NF:=by
 obtain⟨a1,a2,a3,a4,a5,a6⟩:=h.scopes;unfold Hz;rw[YA (by omega),cq.2 λk hk=>by rw[a4 k hk];rfl];dsimp only;rw[YA (by omega),cq.2 λk hk=>by rw[a5 k hk];rfl];dsimp only;rw[YA (by omega),cq.2 λk hk=>by rw[a6 k hk];rfl]
theorem count_le{l:Lw}{x:jV}(h:∀i,∀hi:i<x.2.2.2.2.length,Cr l x i x.2.2.2.2[i]=0)(a:Int):∀m,m<=x.2.2.2.2.length->(x.2.2.2.2.take m).countP (λr=>decide ((r.2.1:Int)=a))<=8
 |0,_=>by simp
 |m+1,hm=>by
  have ih:=count_le h a m (by omega)
  have av:m<x.2.2.2.2.length:=by omega
  rw[<-Xf av,List.countP_append,List.countP_singleton];split
  .rename_i g;have g:(x.2.2.2.2[m].2.1:Int)=a:=YC g;have:=(HX.1 (h m av)).2.2.2.2.2.1;unfold Hx at this;rw[g]at this;omega
  .omega
theorem rF{rules:List gr}(a d:Int):∀m,m<=rules.length->(eP (kp rules (vc a d)) m).length<=(rules.take m).countP λr=>decide ((r.2.1:Int)=a)
 |0,_=>by simp[eP]
 |m+1,hm=>by
  have ih:=rF (rules:=rules) a d m (by omega)
  have av:m<rules.length:=by omega
  rw[tC,<-Xf av,List.countP_append,List.countP_singleton,WZ,FL av];by_cases g:vc a d rules[m]=Yx
  .have g2:(rules[m].2.1:Int)=a:=(YC g).1;rw[YB g,YB (YD g2)];simp;omega
  .rw[YA g];simp;omega
theorem Fit.of{l:Lw}(hv:Valid l)(hs:JU l){k:Nat}(hk:k<l.2.2.length)(a d:Int):Fit l.2.2[k].2.2.2.2 a d:=by
 have Gd:=hs.2.2.2.2.2 _ (WW hk);have hr:=(hv.scope k hk).2.2.2.2.2.2.1;refine⟨Gd.2.2.2.1,λr CW=>by have:=(Gd.2.2.2.2.2.2 r CW).2.2.1;omega,?_⟩;have h1:=rF (rules:=l.2.2[k].2.2.2.2) a d _ (WH _);have h2:=count_le hr a _ (WH _);exact Xa h1 h2
abbrev two:List aZ.den:=[((⟨#[115]⟩:ByteArray),((-1:Int),(([((⟨#[120]⟩:ByteArray),((1:Int),(0:Int)))]:List aY.den),(([((⟨#[100]⟩:ByteArray),((2:Int),(0:Int)))]:List aY.den),([((⟨#[97]⟩:ByteArray),((0:Int),((-1:Int),((0:Int),(((0:Int),(109573:Int)),(([]:List aa.den),(([((2:Int),(1:Int))]:List aa.den),Yn))))))),((⟨#[98]⟩:ByteArray),((0:Int),((0:Int),((0:Int),(((0:Int),(109573:Int)),(([((7:Int),(0:Int))]:List aa.den),(([((2:Int),(2:Int))]:List aa.den),Yn)))))))]:List cr.den)))))]
abbrev Kh:Lw:=(([]:List cO.den),(([]:List cK.den),two))
theorem Q9:M.eK br Kh 0 0 100=some ((0:Int),(0:Int),([[((7:Int),(0:Int))]]:List (List aa.den)),([(1:Int)]:List Int),([(((1:Int),(0:Int)),(0:Int)),(((1:Int),(1:Int)),(1:Int))]:List aj.den)):=by
 have hv:M.ik br Kh=some ((0:Int),((0:Int),((0:Int),(0:Int)))):=by kernel_rfl
 have hx:idx Kh.2.2 0=some Kh.2.2[0]:=rfl
 have hf:Fit Kh.2.2[0].2.2.2.2 0 100:=by
  refine⟨by decide,λr hr=>?_,?_⟩
  .rcases WS.1 hr with rfl|hr
   .decide
   .rcases WS.1 hr with rfl|hr
    .decide
    .cases hr
  .unfold TN eP;exact Xa (XX ..) (by rw[List.length_range];decide)
 have h1:=CO hv (by decide) (by decide) hx (by decide) (by decide) (by decide) (by decide) hf;have h2:=F6 (l:=Kh) (a1:=0) hx hf
 have h3:M.gq br Kh 0 0 100=some ((0:Int),([[((7:Int),(0:Int))]]:List (List aa.den)),([(1:Int)]:List Int),([(((1:Int),(0:Int)),(0:Int)),(((1:Int),(1:Int)),(1:Int))]:List aj.den)):=by kernel_rfl
 rw[h3]at h2;have h4:=WD h2
 obtain⟨-,h5,h6,h7⟩:=by simpa only[XF]using h4
 rw[h1,<-h5,<-h6,<-h7]
theorem HY:M.fF br=some Yx:=by
 unfold M.fF;rw[show M.oV br=some two from rfl,WE,Q9,WE]
 kernel_rfl
end L
namespace L
theorem kT(t:FD)(x:Int)(_:WF bJ t)(hx:WF (.int .u8) x):M.cZ br t x=some Yx:=FI HY t x hx.1 hx.2
end L
end Go.Proofs.YtbladfbbhijpmaaGreat
