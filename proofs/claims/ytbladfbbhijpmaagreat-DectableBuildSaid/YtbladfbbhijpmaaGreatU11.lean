/- Joined texts: TG TH TJ TT TU TV TW TX TY TZ TQ TR P31b. -/
import Derived.Test.YtbladfbbhijpmaaGreatU10
import Derived.Test.YtbladfbbhijpmaaGreatU9
import Derived.Test.YtbladfbbhijpmaaGreatU1
open _root_.Bool renaming false->acR,true->acQ,and_eq_true->abR,false_eq_true->aa4
open _root_.Option renaming none->acP,bind_some->aaU
open _root_.Classical renaming propDecidable->abF,not_not->ack
open _root_.List renaming mem_cons->aa7,mem_cons_of_mem->abz,mem_cons_self->abW,mem_filter->abw,mem_range->abo,mem_singleton->aa5,pairwise_cons->abr,range->aa2,drop_eq_getElem_cons->abv,getElem_mem->aaZ,length_map->ab0,mem_append->aa9,take_append_getElem->abq,take_length->abg,append_assoc->abm,filter_cons->acB,map_append->ab6,replicate->abn,getElem?_eq_getElem->aaW,length_filter_le->acb,foldl_cons->abN,length_cons->aa6,length_nil->abS,length_append->aba,length_take->abb
open _root_.Int renaming eq_ofNat_of_zero_le->aa8,toNat_natCast->aa3
open _root_.Go.IntKind renaming i64->aaV
open _root_.Nat renaming le_refl->aaX,lt_succ_iff_lt_or_eq->abd,le_trans->abi,mul_le_mul_right->abf,add_mul->abG
open _root_.Option.some renaming inj->aaT
open _root_.ByteArray renaming empty->acF
open _root_.Prod.mk renaming injEq->abU
namespace Go.Proofs.YtbladfbbhijpmaaGreat
open Go Go.RowKit
set_option maxRecDepth 100000
set_option linter.unusedSimpArgs false
set_option linter.unusedVariables false
set_option linter.defProp false
namespace L
theorem rX(a b:Int):b9 ae a b=decide (a=b):=rfl
theorem IA(l:List (Int×Bool))(k:Int)(v:Bool)(x:Int):bn ae (lH ae l k v) x=if x=k then some v else bn ae l x:=by
 induction l with
 |nil=>
  show(if b9 ae k x=acQ then some v else acP)=if x=k then some v else acP
  simp only[rX,ac1];by_cases h:x=k
  .rw[acU h,acU h.symm]
  .rw[acT h,acT (Ne.symm h)]
 |cons p l ih=>
  unfold lH;by_cases h:p.1=k
  .rw[acU (by rw[rX];exact acW h)];unfold bn;simp only[rX,ac1];by_cases hx:x=k
   .rw[acU hx,acU (by rw[hx];exact h)]
   .have g:¬p.1=x:=by rw[h];exact Ne.symm hx
    rw[acT hx,acT g,acT g]
  .rw[acT (by rw[rX];simpa using h)];unfold bn;rw[ih];simp only[rX,ac1];by_cases hx:x=k
   .rw[acU hx,acT (by rw[hx];exact h),acU hx]
   .rw[acT hx,acT hx]
theorem Fm{l:List (Int×Bool)}{x:Int}(h:∀p∈l,p.1≠x):bn ae l x=acP:=by
 induction l with
 |nil=>rfl
 |cons p l ih=>
  unfold bn;rw[acT (by rw[rX];simpa using h p abW)]
  exact ih λq hq=>h q (abz _ hq)
abbrev DI(l:List (Int×Bool)):Prop:=l.Pairwise λp q=>p.1≠q.1
theorem KH(l:List (Int×Bool))(k:Int):(mN ae l k).Sublist l:=by
 induction l with
 |nil=>exact .slnil
 |cons p l ih=>
  unfold mN;split
  .exact .cons _ (List.Sublist.refl _)
  .exact ih.cons_cons _
theorem IB{l:List (Int×Bool)}(hd:DI l)(k x:Int):bn ae (mN ae l k) x=if x=k then acP else bn ae l x:=by
 induction l with
 |nil=>show acP=if x=k then acP else acP;split<;>rfl
 |cons p l ih=>
  obtain⟨h1,h2⟩:=abr.1 hd;unfold mN;by_cases h:p.1=k
  .rw[acU (by rw[rX];exact acW h)];by_cases hx:x=k
   .rw[acU hx]
    exact Fm λq hq=>by rw[hx,<-h];exact(h1 q hq).symm
   .rw[acT hx]
    show _=if b9 ae p.1 x=acQ then some p.2 else bn ae l x
    rw[acT (by rw[rX,h];simpa using Ne.symm hx)]
  .rw[acT (by rw[rX];simpa using h)];unfold bn;rw[ih h2];simp only[rX,ac1];by_cases hx:x=k
   .rw[acU hx,acT (by rw[hx];exact h),acU hx]
   .rw[acT hx,acT hx]
theorem DI.put{l:List (Int×Bool)}(hd:DI l)(k:Int)(v:Bool):DI (lH ae l k v):=by
 have hm:∀{l:List (Int×Bool)}{q:Int×Bool},q∈lH ae l k v->q.1=k\/q∈l:=by
  intro l
  induction l with
  |nil=>intro q hq;exact .inl (by rw[aa5.1 hq])
  |cons p l ih=>
   intro q hq;unfold lH at hq;split at hq
   .rename_i e;rw[rX,ac1]at e
    rcases aa7.1 hq with rfl|hq
    .exact .inl e
    .exact .inr (abz _ hq)
   .rcases aa7.1 hq with rfl|hq
    .exact .inr abW
    .exact(ih hq).imp id (abz _)
 induction l with
 |nil=>exact List.pairwise_singleton _ _
 |cons p l ih=>
  obtain⟨h1,h2⟩:=abr.1 hd;unfold lH;split
  .exact abr.2 ⟨h1,h2⟩
  .rename_i e;rw[rX,ac1]at e;refine abr.2 ⟨λq hq=>?_,ih h2⟩
   rcases hm hq with g|g
   .rw[g];exact e
   .exact h1 q g
def Bs(m:Nat):List (Nat×Nat):=((aa2 (m+1)).filter λb=>decide (b&&& m=b)).map λb=>(m,b)
noncomputable def Ms(n c:Nat):List (Nat×Nat):=(aa2 (2 ^ n)).flatMap λm:Nat=>if eI (m:Int)=(c:Int)then Bs m else[]
noncomputable def Pt(n:Nat):List (Nat×Nat):=(aa2 (n+1)).flatMap (Ms n)
theorem xA{m:Nat}{p:Nat×Nat}:p∈Bs m↔p.1=m/\p.2&&& p.1=p.2:=by
 unfold Bs;rw[List.mem_map];constructor
 .rintro⟨b,hb,rfl⟩
  exact⟨rfl,acV (abw.1 hb).2⟩
 .rintro⟨rfl,h⟩
  refine⟨p.2,abw.2 ⟨abo.2 ?_,acW h⟩,rfl⟩
  have:p.2<=p.1:=by rw[<-h];exact Nat.and_le_right
  omega
theorem xB{n c:Nat}{p:Nat×Nat}:p∈Ms n c↔p.1<2 ^ n/\eI (p.1:Int)=(c:Int)/\p.2&&& p.1=p.2:=by
 unfold Ms;rw[List.mem_flatMap];constructor
 .rintro⟨m,hm,hp⟩
  split at hp
  .obtain⟨h1,h2⟩:=xA.1 hp;subst h1;exact⟨abo.1 hm,by assumption,h2⟩
  .simp at hp
 .rintro⟨h1,h2,h3⟩
  exact⟨p.1,abo.2 h1,by rw[acU h2];exact xA.2 ⟨rfl,h3⟩⟩
theorem nL{n:Nat}(hn:n<=8){p:Nat×Nat}:p∈Pt n↔p.1<2 ^ n/\p.2&&& p.1=p.2:=by
 unfold Pt;rw[List.mem_flatMap];constructor
 .rintro⟨c,hc,hp⟩
  obtain⟨h1,_,h3⟩:=xB.1 hp;exact⟨h1,h3⟩
 .rintro⟨h1,h3⟩
  obtain⟨c,hc,h2⟩:=KF hn h1;exact⟨c,abo.2 (by omega),xB.2 ⟨h1,h2,h3⟩⟩
theorem rh(n:Nat):(Pt n).Pairwise λp q=>mU (pI p.1 p.2) (pI q.1 q.2):=by
 unfold Pt;refine List.pairwise_flatMap.2 ⟨λc _=>?_,List.pairwise_lt_range.imp λ{c d}hcd x hx y hy=>?_⟩
 .unfold Ms;refine List.pairwise_flatMap.2 ⟨λm _=>?_,List.pairwise_lt_range.imp λ{m m'}hm x hx y hy=>?_⟩
  .split
   .unfold Bs;refine List.pairwise_map.2 ((List.pairwise_lt_range.filter _).imp λ{a b}h=>?_);refine .inr ⟨rfl, .inr ⟨rfl,?_⟩⟩
    show(a:Int)<b
    omega
   .exact .nil
  .split at hx
   .split at hy
    .rename_i h1 h2;obtain⟨e1,_⟩:=xA.1 hx;obtain⟨e2,_⟩:=xA.1 hy;subst e1 e2;refine .inr ⟨h1.trans h2.symm, .inl ?_⟩
     show(x.1:Int)<y.1
     omega
    .simp at hy
   .simp at hx
 .obtain⟨_,h1,_⟩:=xB.1 hx;obtain⟨_,h2,_⟩:=xB.1 hy;refine .inl ?_
  show eI (x.1:Int)<eI (y.1:Int)
  omega
noncomputable def uP(n:Nat)(S:Nat->Prop)(p:Nat×Nat):Bool:= @decide (BY n S p.1 p.2) (abF _)
theorem p9{n:Nat}{S:Nat->Prop}{p:Nat×Nat}:uP n S p=acQ↔BY n S p.1 p.2:= @decide_eq_true_iff _ (abF _)
def eJ(k:Nat)(mem:Nat->Bool):(Nat->Bool)->List (Nat×Nat)->List (Int×Int)
 |_,[]=>[]
 |cov,p::l=>if dJ k mem cov p.1 p.2=acQ then pI p.1 p.2::eJ k mem (λx=>cov x||decide (x&&& p.1=p.2)) l else eJ k mem cov l
theorem ln{k:Nat}{mem cov:Nat->Bool}{p:Nat×Nat}{l:List (Nat×Nat)}:eJ k mem cov (p::l)=if dJ k mem cov p.1 p.2=acQ then pI p.1 p.2::eJ k mem (λx=>cov x||decide (x&&& p.1=p.2)) l else eJ k mem cov l:=rfl
noncomputable def Fp(n:Nat)(S:Nat->Prop)(mem:Nat->Bool):List (Int×Int):=eJ (2 ^ n) mem (λ_=>acR) ((Pt n).filter (uP n S))
theorem mG{k:Nat}{mem:Nat->Bool}:∀{l:List (Nat×Nat)}{cov cov':Nat->Bool},(∀x,x<k->mem x=acQ->cov x=cov' x)->eJ k mem cov l=eJ k mem cov' l
 |[],_,_,_=>rfl
 |p::l,cov,cov',h=>by
  have e:dJ k mem cov p.1 p.2=dJ k mem cov' p.1 p.2:=by
   unfold dJ;rw[Bool.eq_iff_iff,List.any_eq_true,List.any_eq_true];constructor
   .rintro⟨x,hx,h2⟩
    have:mem x=acQ:=by simp only[abR]at h2;exact h2.1.2
    exact⟨x,hx,by rw[<-h x (abo.1 hx) this];exact h2⟩
   .rintro⟨x,hx,h2⟩
    have:mem x=acQ:=by simp only[abR]at h2;exact h2.1.2
    exact⟨x,hx,by rw[h x (abo.1 hx) this];exact h2⟩
  unfold eJ;rw[e,mG (cov:=cov) (cov':=cov') h,mG (cov:=λx=>cov x||decide (x&&& p.1=p.2)) (cov':=λx=>cov' x||decide (x&&& p.1=p.2)) λx hx hm=>by rw[h x hx hm]]
end L
namespace L
def dc(l:List Int)(x:Nat):Bool:=decide ((x:Int)∈l)
theorem zS{m b x:Nat}(hm:m<256)(hx:x<256):M.dN aW (pI m b) (x:Int)=some (decide (x&&& m=b)):=by
 unfold M.dN;rw[Ip (by omega) (by omega)]
 congr 1
 exact decide_eq_decide.2 (by show((x&&& m:Nat):Int)=(b:Int)↔_;omega)
theorem IC{l:List Int}(hl:l.length<=1000000)(a:Int):M.gf aW l a=some (Fp (FL a) (λx=>(x:Int)∈l) (dc l)):=by
 have hn:=BZ a;generalize UW:FL a=n at hn;have h8:=rc hn;have mV:=Nat.two_pow_pos n;unfold M.gf;rw[Iv,aaU,UW,oq (by omega),aaU];refine Wp.eq (Wp.seq (λj=>DI j.1/\(∀x:Nat,x<2 ^ n->((bn ae j.1 (x:Int)).getD acR=acQ↔(x:Int)∈l))/\iW j.2/\∀p,In j.2 p↔∃x:Nat,x<2 ^ n/\(x:Int)∈l/\p=pI (2 ^ n-1) x) ?_ λj hj=>?_)
 .refine Wp.count (λs=>s.1) l.length (λk s=>DI s.2.1/\(∀x:Nat,x<2 ^ n->((bn ae s.2.1 (x:Int)).getD acR=acQ↔(x:Int)∈l.take k))/\iW s.2.2/\∀p,In s.2.2 p↔∃x:Nat,x<2 ^ n/\(x:Int)∈l.take k/\p=pI (2 ^ n-1) x) (by omega) rfl ⟨.nil,λx hx=>by simp[bn], .nil,λp=>by simp[In,bn]⟩ λk s hk hs hJ=>?_
  obtain⟨kk,UX,im⟩:=s;obtain⟨g1,g2,g3,g4⟩:=hJ;dsimp only at hs g1 g2 g3 g4⊢;subst hs;refine .dec (λh=>?_) (λh=> .some ?_)
  .have ag:k<l.length:=by omega
   have D4:∀y:Int,y∈l.take (k+1)↔y∈l.take k\/y=l[k]:=λy=>by rw[<-abq ag,aa9,aa5]
   refine Wp.seq (λs=>DI s.1/\(∀x:Nat,x<2 ^ n->((bn ae s.1 (x:Int)).getD acR=acQ↔(x:Int)∈l.take (k+1)))/\iW s.2/\∀p,In s.2 p↔∃x:Nat,x<2 ^ n/\(x:Int)∈l.take (k+1)/\p=pI (2 ^ n-1) x) (.bind (.idx k rfl ag ?_)) λj hj=> .some ⟨ag,aQ (by omega),hj⟩
   refine Wp.seq (λj=>j=acQ↔0<=l[k]/\l[k]<((2 ^ n:Nat):Int)) (.dec (λh0=> .some ?_) (λh0=> .some ⟨λh=>(by cases h),λh=>absurd h.1 h0⟩)) λj hj=> .ite (λE9=> .some ?_) (λMV=> .some ?_)
   .rw[ac1];exact⟨λh=>⟨h0,h⟩,λh=>h.2⟩
   .obtain⟨x,hx⟩:=aa8 (hj.1 E9).1
    have wh:x<2 ^ n:=by have:=(hj.1 E9).2;rw[hx]at this;exact_mod_cast this
    have hw:aaV.wrap (((2 ^ n:Nat):Int)-1)=((2 ^ n-1:Nat):Int):=by
     rw[show((2 ^ n:Nat):Int)-1=((2 ^ n-1:Nat):Int) by omega,wrap_i64 (by omega)]
    rw[hw,hx];refine⟨g1.put _ _,λy hy=>?_,g3.put _,λp=>?_⟩
    .show(bn ae (lH ae UX (x:Int) acQ) (y:Int)).getD acR=acQ↔_
     rw[IA,D4,hx];by_cases e:(y:Int)=x
     .rw[acU e];simp[e]
     .rw[acT e,g2 y hy];simp[e]
    .refine(xv g3 (p:=pI (2 ^ n-1) x)).trans ?_;rw[g4];constructor
     .rintro(e|⟨y,h1,h2,h3⟩)
      .exact⟨x,wh,(D4 _).2 (.inr hx.symm),e⟩
      .exact⟨y,h1,(D4 _).2 (.inl h2),h3⟩
     .rintro⟨y,h1,h2,h3⟩
      rcases(D4 _).1 h2 with h2|h2
      .exact .inr ⟨y,h1,h2,h3⟩
      .have:y=x:=by rw[hx]at h2;exact_mod_cast h2
       subst this;exact .inl h3
   .have PU:∀y:Nat,y<2 ^ n->(y:Int)≠l[k]:=λy hy e=>MV (hj.2 ⟨by omega,by rw[<-e];exact_mod_cast hy⟩)
    refine⟨g1,λy hy=>?_,g3,λp=>?_⟩
    .rw[D4];exact(g2 y hy).trans ⟨.inl,λh=>h.resolve_right (PU y hy)⟩
    .rw[show In (UX,im).2 p↔_ from g4 p];constructor
     .rintro⟨y,h1,h2,h3⟩;exact⟨y,h1,(D4 _).2 (.inl h2),h3⟩
     .rintro⟨y,h1,h2,h3⟩;exact⟨y,h1,((D4 _).1 h2).resolve_right (PU y h1),h3⟩
  .have:k=l.length:=by omega
   subst this;rw[abg]at g2 g4;exact⟨g1,g2,g3,g4⟩
 .obtain⟨ZJ,im⟩:=j;obtain⟨j1,j2,j3,j4⟩:=hj;dsimp only at j1 j2 j3 j4⊢
  refine Wp.seq (BX n λx=>(x:Int)∈l) (UR n hn (λx=>(x:Int)∈l) im j3 j4) λms Ma=>Wp.seq (Iu n (λx=>(x:Int)∈l) ms) (Fk n hn _ ms Ma) λr hr=>?_
  obtain⟨ms',pr⟩:=r;obtain⟨-,Wa,Wb⟩:=hr;dsimp only at Wa Wb⊢
  have ZK:pr=((Pt n).filter (uP n λx=>(x:Int)∈l)).map λp=>pI p.1 p.2:=by
   refine rI Wa (List.pairwise_map.2 ((rh n).filter _)) λp=>(Wb p).trans ?_
   rw[List.mem_map];constructor
   .rintro⟨m,b,rfl,h⟩
    exact⟨(m,b),abw.2 ⟨(nL hn).2 ⟨h.1.1,h.1.2.1⟩,p9.2 h⟩,rfl⟩
   .rintro⟨q,hq,rfl⟩
    exact⟨q.1,q.2,rfl,p9.1 (abw.1 hq).2⟩
  subst ZK;unfold Fp
  have hQ:∀p∈(Pt n).filter (uP n λx=>(x:Int)∈l),p.1<2 ^ n:=λp hp=>((nL hn).1 (abw.1 hp).1).1
  have ZL:((Pt n).filter (uP n λx=>(x:Int)∈l)).length<=65536:=by
   have:=oo (A:=((Pt n).filter (uP n λx=>(x:Int)∈l)).map λp=>p.1*256+p.2) (B:=aa2 65536) ?_ λx hx=>?_
   .simpa using this
   .rw[List.Nodup,List.pairwise_map];refine List.Pairwise.imp_of_mem (λ{p q}hp hq ag e=>?_) ((rh n).filter _);have h1:=(nL hn).1 (abw.1 hp).1;have h2:=(nL hn).1 (abw.1 hq).1
    have h3:p.2<=p.1:=by rw[<-h1.2];exact Nat.and_le_right
    have h4:q.2<=q.1:=by rw[<-h2.2];exact Nat.and_le_right
    have h5:p.1=q.1/\p.2=q.2:=by omega
    rw[h5.1,h5.2]at ag;exact mU.irrefl _ ag
   .obtain⟨p,hp,rfl⟩:=List.mem_map.1 hx;have h1:=(nL hn).1 (abw.1 hp).1
    have h3:p.2<=p.1:=by rw[<-h1.2];exact Nat.and_le_right
    exact abo.2 (by omega)
  generalize(Pt n).filter (uP n λx=>(x:Int)∈l)=Q at hQ ZL⊢
  refine Wp.count (λs=>s.1) Q.length (λk s=>∃cov:Nat->Bool,DI s.2.1/\(∀x:Nat,x<2 ^ n->(bn ae s.2.1 (x:Int)).getD acR=(dc l x&& !cov x))/\s.2.2++eJ (2 ^ n) (dc l) cov (Q.drop k)=eJ (2 ^ n) (dc l) (λ_=>acR) Q/\s.2.2.length<=k) (by omega) rfl ⟨λ_=>acR,j1,λx hx=>by rw[Bool.eq_iff_iff,j2 x hx];simp[dc],rfl,aaX _⟩ λk s hk hs hJ=>?_
  obtain⟨kk,UX,BL⟩:=s;obtain⟨cov,g1,g2,g3,g4⟩:=hJ;dsimp only at hs g1 g2 g3 g4⊢;subst hs;rw[ab0];refine .dec (λh=>?_) (λh=> .some ?_)
  .have ag:k<Q.length:=by omega
   have hm:=hQ _ (aaZ ag);rw[abv ag]at g3
   refine Wp.seq (λs=>∃cov:Nat->Bool,DI s.1/\(∀x:Nat,x<2 ^ n->(bn ae s.1 (x:Int)).getD acR=(dc l x&& !cov x))/\s.2++eJ (2 ^ n) (dc l) cov (Q.drop (k+1))=eJ (2 ^ n) (dc l) (λ_=>acR) Q/\s.2.length<=k+1) ?_ λj hj=> .some ⟨ag,aQ (by omega),hj⟩
   refine Wp.seq (λs=>∃cov:Nat->Bool,DI s.1/\(∀x:Nat,x<2 ^ n->(bn ae s.1 (x:Int)).getD acR=(dc l x&& !cov x))/\s.2++eJ (2 ^ n) (dc l) cov (Q.drop (k+1))=eJ (2 ^ n) (dc l) (λ_=>acR) Q/\s.2.length<=k+1) (.bind (.idx k rfl (by simpa using ag) ?_)) λj hj=> .some hj
   rw[List.getElem_map];generalize hp:Q[k]=p at hm g3
   refine Wp.seq (λs=>DI s.2/\(∀x:Nat,x<2 ^ n->(bn ae s.2 (x:Int)).getD acR=(dc l x&& !(cov x||decide (x&&& p.1=p.2))))/\s.1=dJ (2 ^ n) (dc l) cov p.1 p.2) ?_ λt ht=>?_
   .refine Wp.count (λs=>s.2.1) (2 ^ n) (λj s=>DI s.2.2/\(∀x:Nat,x<2 ^ n->(bn ae s.2.2 (x:Int)).getD acR=(dc l x&& !(cov x||(decide (x<j)&&decide (x&&& p.1=p.2)))))/\(s.1=acQ↔∃x,x<j/\(decide (x&&& p.1=p.2)&&dc l x&& !cov x)=acQ)) (by omega) rfl ⟨g1,λx hx=>by rw[g2 x hx];simp,by simp⟩ λj s hj hs hJ=>?_
    obtain⟨u,jj,mi⟩:=s;obtain⟨f1,f2,f3⟩:=hJ;dsimp only at hs f1 f2 f3⊢;subst hs;refine .dec (λh=>?_) (λh=> .some ?_)
    .have A9:j<2 ^ n:=by omega
     have zT:=f2 j A9
     have ZM:decide (j<j)=acR:=by simp
     rw[ZM,Bool.false_and,Bool.or_false]at zT
     refine Wp.seq (λs=>DI s.2/\(∀x:Nat,x<2 ^ n->(bn ae s.2 (x:Int)).getD acR=(dc l x&& !(cov x||(decide (x<j+1)&&decide (x&&& p.1=p.2)))))/\(s.1=acQ↔∃x,x<j+1/\(decide (x&&& p.1=p.2)&&dc l x&& !cov x)=acQ)) ?_ λq hq=> .some ⟨A9,aQ (by omega),hq⟩
     refine Wp.seq (λt=>t=(decide (j&&& p.1=p.2)&&dc l j&& !cov j)) ?_ λt ht=>?_
     .refine .ite (λh1=> .bx (zS (by omega) (by omega)) (.some ?_)) (λh1=> .some ?_)
      .rw[h1]at zT;rw[Bool.and_assoc,<-zT,Bool.and_true]
      .have h1:(bn ae mi (j:Int)).getD acR=acR:=by simpa using h1
       rw[h1]at zT;rw[Bool.and_assoc,<-zT,Bool.and_false]
     .subst ht
      have hex:(∃x,x<j+1/\(decide (x&&& p.1=p.2)&&dc l x&& !cov x)=acQ)↔(∃x,x<j/\(decide (x&&& p.1=p.2)&&dc l x&& !cov x)=acQ)\/(decide (j&&& p.1=p.2)&&dc l j&& !cov j)=acQ:=by
       constructor
       .rintro⟨x,h1,h2⟩
        rcases abd.1 h1 with h1|rfl
        .exact .inl ⟨x,h1,h2⟩
        .exact .inr h2
       .rintro(⟨x,h1,h2⟩|h)
        .exact⟨x,by omega,h2⟩
        .exact⟨j,by omega,h⟩
      refine .ite (λht=> .some ⟨List.Pairwise.sublist (KH _ _) f1,λx hx=>?_,⟨λ_=>hex.2 (.inr ht),λ_=>rfl⟩⟩) (λht=> .some ⟨f1,λx hx=>?_,f3.trans (by rw[hex];exact⟨.inl,λh=>h.resolve_right ht⟩)⟩)
      .show(bn ae (mN ae mi (j:Int)) (x:Int)).getD acR=_
       rw[IB f1];by_cases e:x=j
       .subst e;simp only[abR,ac1]at ht;simp[ht.1.1]
       .have e1:¬(x:Int)=j:=λg=>e (by exact_mod_cast g)
        rw[acT e1,f2 x hx];have:decide (x<j+1)=decide (x<j):=decide_eq_decide.2 (by omega);rw[this]
      .show(bn ae mi (x:Int)).getD acR=_
       rw[f2 x hx];by_cases e:x=j
       .subst e
        cases h1:decide (x&&& p.1=p.2)<;>cases h2:dc l x<;>cases h3:cov x<;>simp_all
       .have:decide (x<j+1)=decide (x<j):=decide_eq_decide.2 (by omega);rw[this]
    .have:j=2 ^ n:=by omega
     subst this;refine⟨f1,λx hx=>by rw[f2 x hx,acW hx,Bool.true_and],?_⟩;unfold dJ;rw[Bool.eq_iff_iff,f3,List.any_eq_true];exact⟨λ⟨x,h1,h2⟩=>⟨x,abo.2 h1,h2⟩,λ⟨x,h1,h2⟩=>⟨x,abo.1 h1,h2⟩⟩
   .obtain⟨f1,f2,f3⟩:=ht;rw[ln,<-f3]at g3;refine .ite (λh1=> .bind (.rD (by simp;omega) (.some ⟨λx=>cov x||decide (x&&& p.1=p.2),f1,f2,?_,by simp;omega⟩))) (λh1=> .some ⟨λx=>cov x||decide (x&&& p.1=p.2),f1,f2,?_,by show BL.length<=k+1;omega⟩)
    .rw[acU h1]at g3;rw[<-g3];simp
    .rw[acT h1]at g3;rw[<-g3]
     congr 1
     refine mG λx hx GD=>?_
     have hf:dJ (2 ^ n) (dc l) cov p.1 p.2=acR:=by rw[<-f3];simpa using h1
     unfold dJ at hf;have:=List.any_eq_false.1 hf x (abo.2 hx);rw[GD]at this
     cases h2:decide (x&&& p.1=p.2)<;>cases h3:cov x<;>simp_all
  .have:k=Q.length:=by omega
   subst this;rw[List.drop_length]at g3
   show BL=_
   rw[<-g3];simp[eJ]
end L
namespace L
def Tr(n:Nat)(l:List Int)(Q:List (Nat×Nat))(s s':(Nat->Bool)×List (Int×Int)):Prop:=
 ∀R:List (Nat×Nat),s.2++eJ (2 ^ n) (dc l) s.1 ((Q++R).filter (uP n λx=>(x:Int)∈l))=s'.2++eJ (2 ^ n) (dc l) s'.1 (R.filter (uP n λx=>(x:Int)∈l))
theorem Tr.nil{n:Nat}{l:List Int}(s:(Nat->Bool)×List (Int×Int)):Tr n l [] s s:=λ_=>rfl
theorem Tr.trans{n:Nat}{l:List Int}{Q Q':List (Nat×Nat)}{s s' Wc:(Nat->Bool)×List (Int×Int)}(h:Tr n l Q s s')(g:Tr n l Q' s' Wc):Tr n l (Q++Q') s Wc:=λR=>by
 rw[abm,h,g]
theorem Tr.skip{n:Nat}{l:List Int}{p:Nat×Nat}{s:(Nat->Bool)×List (Int×Int)}(h:dJ (2 ^ n) (dc l) s.1 p.1 p.2=acR\/¬BY n (λx=>(x:Int)∈l) p.1 p.2):Tr n l [p] s s:=λR=>by
 congr 1
 rw[List.singleton_append,acB];split
 .rename_i hp;rw[ln]
  rcases h with h|h
  .rw[h];rfl
  .exact absurd (p9.1 hp) h
 .rfl
theorem Tr.take{n:Nat}{l:List Int}{p:Nat×Nat}{s:(Nat->Bool)×List (Int×Int)}(h:dJ (2 ^ n) (dc l) s.1 p.1 p.2=acQ)(hp:BY n (λx=>(x:Int)∈l) p.1 p.2):Tr n l [p] s (λx=>s.1 x||decide (x&&& p.1=p.2),s.2++[pI p.1 p.2]):=λR=>by
 rw[List.singleton_append,acB,acU (p9.2 hp),ln,acU h,abm];rfl
theorem ot{α:Type}(f:Nat->List α)(k:Nat):(aa2 (k+1)).flatMap f=(aa2 k).flatMap f++f k:=by
 rw[List.range_succ,List.flatMap_append];simp
theorem rY(m k:Nat):((aa2 (k+1)).filter λb=>decide (b&&& m=b)).map (λb=>(m,b))=((aa2 k).filter λb=>decide (b&&& m=b)).map (λb=>(m,b))++(if k&&& m=k then[(m,k)]else[]):=by
 rw[iV,ab6]
 congr 1
 by_cases h:k&&& m=k<;>simp[h]
theorem KI{l:List Int}(hl:l.length<=1000000)(a:Int):M.iU aW l a=some (Fp (FL a) (λx=>(x:Int)∈l) (dc l)):=by
 have hn:=BZ a;generalize UW:FL a=n at hn;have h8:=rc hn;have mV:=Nat.two_pow_pos n;unfold M.iU;rw[Fl,aaU,UW,B3 hl hn,aaU];have hlen:((p6 l (2 ^ n)).length:Int)=((2 ^ n:Nat):Int):=p7 _ _;rw[hlen]
 have pG:abn (((2 ^ n:Nat):Int)).toNat acR=(aa2 (2 ^ n)).map λ_=>acR:=by
  rw[aa3];apply List.ext_getElem (by simp);intro i h1 h2;simp
 refine Wp.eq (.bind (mB.2 ⟨by have:((2 ^ n:Nat):Int)<=256:=by exact_mod_cast h8
                               have h0:(0:Int)<=((2 ^ n:Nat):Int):=Int.natCast_nonneg _
                               omega,?_⟩))
 rw[pG]
 refine Wp.count (λs=>s.1) (n+1) (λc s=>∃cov:Nat->Bool,s.2.1=(aa2 (2 ^ n)).map cov/\Tr n l ((aa2 c).flatMap (Ms n)) (λ_=>acR,[]) (cov,s.2.2)/\s.2.2.length<=c*65536) (by omega) rfl ⟨λ_=>acR,rfl,Tr.nil _,Nat.zero_le _⟩ λc s hc hs hJ=>?_
 obtain⟨cc,PV,BL⟩:=s;obtain⟨cov,rfl,hT,PW⟩:=hJ;dsimp only at hs hT PW⊢;subst hs;refine .dec (λh=>?_) (λh=> .some ?_)
 .have ZE:c<=n:=by omega
  refine Wp.seq (λj=>∃cov':Nat->Bool,j.1=(aa2 (2 ^ n)).map cov'/\Tr n l (Ms n c) (cov,BL) (cov',j.2)/\j.2.length<=c*65536+65536) ?_ λj hj=>?_
  .refine Wp.count (λs=>s.1) (2 ^ n) (λm s=>∃cov':Nat->Bool,s.2.1=(aa2 (2 ^ n)).map cov'/\Tr n l ((aa2 m).flatMap λm:Nat=>if eI (m:Int)=(c:Int)then Bs m else[]) (cov,BL) (cov',s.2.2)/\s.2.2.length<=c*65536+m*256) (by omega) rfl ⟨cov,rfl,Tr.nil _,abi PW (by omega)⟩ λm s hm hs hJ=>?_
   obtain⟨mm,PV,rs⟩:=s;obtain⟨cv,rfl,UY,ID⟩:=hJ;dsimp only at hs UY ID⊢;subst hs;refine .dec (λh=>?_) (λh=> .some ?_)
   .have I4:m<2 ^ n:=by exact_mod_cast h
    refine Wp.seq (λj=>∃cov':Nat->Bool,j.1=(aa2 (2 ^ n)).map cov'/\Tr n l (if eI (m:Int)=(c:Int)then Bs m else[]) (cv,rs) (cov',j.2)/\j.2.length<=c*65536+m*256+256) ?_ λj hj=>?_
    .refine Wp.seq (λj=>∃cov':Nat->Bool,j.1=(aa2 (2 ^ n)).map cov'/\Tr n l (if eI (m:Int)=(c:Int)then Bs m else[]) (cv,rs) (cov',j.2)/\j.2.length<=c*65536+m*256+256) (.bx (Iw (by omega)) ?_) λj hj=> .some hj
     refine .mA (λh1=> .some ⟨cv,rfl,by rw[acT h1];exact Tr.nil _,abi ID (by omega)⟩) (λh1=>?_);rw[acU h1]
     refine Wp.count (λs=>s.1) (m+1) (λb s=>∃cov':Nat->Bool,s.2.1=(aa2 (2 ^ n)).map cov'/\Tr n l (((aa2 b).filter λb=>decide (b&&& m=b)).map λb=>(m,b)) (cv,rs) (cov',s.2.2)/\s.2.2.length<=c*65536+m*256+b) (by omega) rfl ⟨cv,rfl,Tr.nil _,abi ID (by omega)⟩ λb s hb hs hJ=>?_
     obtain⟨bb,PV,rt⟩:=s;obtain⟨cw,rfl,QI,MW⟩:=hJ;dsimp only at hs QI MW⊢;subst hs;refine .dec (λh=>?_) (λh=> .some ?_)
     .have Dc:b<=m:=by omega
      refine Wp.seq (λj=>∃cov':Nat->Bool,j.1=(aa2 (2 ^ n)).map cov'/\Tr n l (((aa2 (b+1)).filter λb=>decide (b&&& m=b)).map λb=>(m,b)) (cv,rs) (cov',j.2)/\j.2.length<=c*65536+m*256+(b+1)) ?_ λj hj=> .some ⟨by omega,aQ (by omega),hj⟩
      refine Wp.seq (λj=>∃cov':Nat->Bool,j.1=(aa2 (2 ^ n)).map cov'/\Tr n l (((aa2 (b+1)).filter λb=>decide (b&&& m=b)).map λb=>(m,b)) (cv,rs) (cov',j.2)/\j.2.length<=c*65536+m*256+(b+1)) ?_ λj hj=> .some hj
      rw[Ip (show b<9223372036854775808 by omega) (show m<9223372036854775808 by omega),rY]
      have PX:(b&&& m=b->dJ (2 ^ n) (dc l) cw m b=acR\/¬BY n (λx=>(x:Int)∈l) m b)->Tr n l (((aa2 b).filter λb=>decide (b&&& m=b)).map (λb=>(m,b))++(if b&&& m=b then[(m,b)]else[])) (cv,rs) (cw,rt):=λh=>by
       refine QI.trans ?_;split
       .rename_i e;exact Tr.skip (h e)
       .exact Tr.nil _
      refine Wp.seq (λj=>j=acQ↔(b&&& m=b->dJ (2 ^ n) (dc l) cw m b=acR\/¬BY n (λx=>(x:Int)∈l) m b)) ?_ λj hj=>?_
      .refine .mA (λh2=> .some ⟨λ_ e=>absurd (by rw[e]) h2,λ_=>rfl⟩) (λh2=> .bx (Ix hn (by omega)) ?_)
       have h2:b&&& m=b:=by exact_mod_cast h2
       cases hf:dJ (2 ^ n) (λx=>decide ((x:Int)∈l)) cw m b with
       |false=>exact .ite (λ_=> .some ⟨λ_ _=> .inl hf,λ_=>rfl⟩) (λh=>absurd rfl h)
       |true=>
        refine .ite (λh=>absurd h (by simp)) (λ_=>Wp.seq (λr=>r=acQ↔BY n (λx=>(x:Int)∈l) m b) (Iz hn I4 h2) λr hr=> .some ?_)
        cases We:r with
        |true=>exact⟨λh=>(by cases h),λh=>by
          rcases h h2 with h|h
          .have ov:dJ (2 ^ n) (dc l) cw m b=acQ:=hf;rw[ov]at h;cases h
          .exact absurd (hr.1 We) h⟩
        |false=>exact⟨λ_ _=> .inr λh=>absurd (We.symm.trans (hr.2 h)) (by simp),λ_=>rfl⟩
      .refine .ite (λE9=> .some ⟨cw,rfl,PX (hj.1 E9),abi MW (by omega)⟩) (λMV=>?_)
       have Fe:=λh=>MV (hj.2 h)
       have h2:b&&& m=b:=Classical.byContradiction λg=>Fe λe=>absurd e g
       have wj:dJ (2 ^ n) (dc l) cw m b=acQ:=by
        cases e:dJ (2 ^ n) (dc l) cw m b with
        |true=>rfl
        |false=>exact absurd (λ_=> .inl e) Fe
       have D2:BY n (λx=>(x:Int)∈l) m b:=Classical.byContradiction λg=>Fe λ_=> .inr g
       refine Wp.seq (λj=>j=(aa2 (2 ^ n)).map λx=>cw x||decide (x&&& m=b)) ?_ λj hj=>?_
       .refine Wp.count (λs=>s.1) (2 ^ n) (λk s=>s.2=(aa2 (2 ^ n)).map λx=>cw x||(decide (x<k)&&decide (x&&& m=b))) (by omega) rfl (by simp) λk s hk hs hJ=>?_
        obtain⟨kk,cc⟩:=s;dsimp only at hs hJ⊢;subst hs hJ;refine .dec (λh=>?_) (λh=> .some ?_)
        .have Je:k<2 ^ n:=by exact_mod_cast h
         have lY:∀v:Bool,v=(cw k||decide (k&&& m=b))->bF ((aa2 (2 ^ n)).map λx=>cw x||(decide (x<k)&&decide (x&&& m=b))) (k:Int) v=(aa2 (2 ^ n)).map λx=>cw x||(decide (x<k+1)&&decide (x&&& m=b)):=λv hv=>by
          unfold bF;rw[aa3,jB]
          refine List.map_congr_left λy hy=>?_
          by_cases e:y=k
          .subst e;rw[acU rfl,hv];simp
          .rw[acT e];have:decide (y<k+1)=decide (y<k):=decide_eq_decide.2 (by omega);rw[this]
         refine Wp.seq (λj=>j=(aa2 (2 ^ n)).map λx=>cw x||(decide (x<k+1)&&decide (x&&& m=b))) (.bind (xz Je ?_)) λj hj=> .some ⟨Je,aQ (by omega),hj⟩
         refine .ite (λh1=> .bind (xz Je (.some (lY _ ?_)))) (λh1=> .bx (ph (by omega) (by omega)) (.bind (xz Je (.some (lY _ ?_)))))
         .have:cw k=acQ:=by simpa using h1
          rw[this];rfl
         .have:cw k=acR:=by simpa using h1
          rw[this];rfl
        .have:k=2 ^ n:=by have:¬k<2 ^ n:=λg=>h (by exact_mod_cast g);omega
         subst this
         refine List.map_congr_left λx hx=>?_
         rw[acW (abo.1 hx),Bool.true_and]
       .refine .bind (.rD (by have PY:c*65536<=8*65536:=abf _ (by omega)
                              have:m*256<=256*256:=abf _ (by omega)
                              simp;omega) (.some ⟨_,hj,?_,by simp;omega⟩))
        refine QI.trans ?_;rw[acU h2];exact Tr.take (s:=(cw,rt)) wj D2
     .have:b=m+1:=by omega
      subst this;exact⟨cw,rfl,QI,abi MW (by omega)⟩
    .obtain⟨cov',h1,h2,h3⟩:=hj;refine .some ⟨I4,aQ (by omega),cov',h1,?_,abi h3 (by omega)⟩;rw[ot];exact UY.trans h2
   .have:m=2 ^ n:=by have:¬m<2 ^ n:=λg=>h (by exact_mod_cast g);omega
    subst this;have:2 ^ n*256<=256*256:=abf _ h8;exact⟨cv,rfl,UY,abi ID (by omega)⟩
  .obtain⟨cov',h1,h2,h3⟩:=hj;refine .some ⟨by omega,aQ (by omega),cov',h1,?_,abi h3 (by omega)⟩;rw[ot];exact hT.trans h2
 .have:c=n+1:=by omega
  subst this;have:=hT [];simp only[List.append_nil,List.nil_append,List.filter_nil,eJ]at this
  show BL=_
  rw[<-this];rfl
end L
namespace L
abbrev zU:Type:=af.den
def Wf(x:Int)(r:zU):Bool:=decide (au .and .i64 x r.1.1=r.1.2)
def MX(x:Int):List zU->Int×Bool
 |[]=>(0,acR)
 |r::l=>if Wf x r=acQ then(r.2,acQ)else MX x l
def N8(x:Int)(l:List zU):Int:=if(MX x l).2=acQ then(if l.any (λr=>Wf x r&& !decide (r.2=(MX x l).1))=acQ then 11 else 0)else 10
end L
namespace L
end L
namespace L
def Lo(r:Ty)(d:Int):Prop:=VR r/\(r.1:Int)<=d/\d<(r.2:Int)
instance(r:Ty)(d:Int):Decidable (Lo r d):=by unfold Lo;infer_instance
theorem MY(r:Ty)(d:Int):M.eW aW r d=some (decide (Lo r d)):=by
 obtain⟨(r1:Int),(r2:Int)⟩:=r;apply Wp.eq;unfold M.eW;simp only[BO,W_,acY,acZ,reduceCtorEq];unfold Lo;dsimp only[ae,Row.den]
 by_cases h:VR ((r1,r2):Ty)<;>simp only[h,W_,acY,acZ,reduceCtorEq]
 omega
theorem ub{α:Type}{l:List α}{i:Int}(h0:0<=i)(h1:i<(l.length:Int)):∃x,idx l i=some x/\x∈l:=by
 obtain⟨k,rfl⟩:=aa8 h0
 have hk:k<l.length:=by omega
 exact⟨_,ai hk,aaZ hk⟩
theorem cz{α:Type}(l:List α)(i:Int)(y:α):(bF l i y).length=l.length:=by unfold bF;simp
def ids(P:Nat->Bool)(k:Nat):List Int:=((aa2 k).filter P).map λi:Nat=>(i:Int)
theorem kT(P:Nat->Bool)(k:Nat):ids P (k+1)=ids P k++(if P k=acQ then[(k:Int)]else[]):=by
 unfold ids;rw[List.range_succ,List.filter_append,ab6];by_cases h:P k=acQ
 .rw[acU h];simp[h]
 .rw[acT h];simp[h]
theorem qa{P:Nat->Bool}{k:Nat}{j:Int}:j∈ids P k↔∃i:Nat,i<k/\P i=acQ/\j=(i:Int):=by
 unfold ids;simp only[List.mem_map,abw,abo];constructor
 .rintro⟨i,⟨h1,h2⟩,rfl⟩;exact⟨i,h1,h2,rfl⟩
 .rintro⟨i,h1,h2,rfl⟩;exact⟨i,⟨h1,h2⟩,rfl⟩
theorem mH(P:Nat->Bool)(k:Nat):(ids P k).length<=k:=by
 unfold ids;rw[ab0];exact abi (acb ..) (by simp)
def ix(l:List Int)(n:Int):Int:=mE (λx=>decide (x=n)) l
theorem IE{l:List Int}{n:Int}:0<=ix l n↔n∈l:=by
 unfold ix;rw[ik];constructor
 .rintro⟨x,hx,h⟩
  exact(acV h)▸hx
 .exact λh=>⟨n,h,acW rfl⟩
theorem zV(P:Nat->Bool)(n:Nat):∀m,∃t,ids P (n+m)=ids P n++t
 |0=>⟨[],by simp⟩
 |m+1=>by
  obtain⟨t,ht⟩:=zV P n m;rw[<-Nat.add_assoc,kT,ht,abm];exact⟨_,rfl⟩
theorem MZ{P:Nat->Bool}{n k:Nat}(hk:k<n)(h:P k=acQ):ix (ids P n) (k:Int)=((ids P k).length:Int):=by
 obtain⟨t,ht⟩:=zV P (k+1) (n-(k+1));rw[show k+1+(n-(k+1))=n by omega,kT,acU h,abm]at ht;unfold ix
 refine sz (k:=(ids P k).length) (by rw[ht];simp) ?_ λj hj I7=>?_
 .rw[ac1];simp only[ht];rw[List.getElem_append_right (aaX _)];simp
 .apply acX;simp only[ht];rw[List.getElem_append_left hj];obtain⟨i,h1,_,h3⟩:=qa.1 (aaZ hj);rw[h3];omega
def B4(rules:List iv)(L:List Int):Nat->Nat->Int
 |0,_=> -1
 |f+1,i=>match rules[i]? with
  |none=> -1
  |some r=>if 0<=(r.2.2.1:Int)/\(r.2.2.1:Int)<(i:Int)then(if 0<=ix L r.2.2.1 then ix L r.2.2.1 else B4 rules L f (r.2.2.1:Int).toNat)else-1
theorem vT(rules:List iv)(L:List Int):∀f f' i,i<f->i<f'->B4 rules L f i=B4 rules L f' i
 |0,_,_,h,_=>absurd h (Nat.not_lt_zero _)
 |_+1,0,_,_,h=>absurd h (Nat.not_lt_zero _)
 |f+1,f'+1,i,h,h'=>by
  unfold B4
  cases rules[i]? with
  |none=>rfl
  |some r=>
   dsimp only
   obtain⟨(p:Int),M0⟩:∃p:Int,p=r.2.2.1:=⟨_,rfl⟩
   simp only[<-M0];by_cases hp:0<=p/\p<(i:Int)
   .rw[acU hp,acU hp];by_cases h0:0<=ix L p
    .rw[acU h0,acU h0]
    .rw[acT h0,acT h0];exact vT rules L f f' _ (by omega) (by omega)
   .rw[acT hp,acT hp]
def ri(rules:List iv)(L:List Int)(i:Nat):Int:=B4 rules L (i+1) i
theorem Dh{rules:List iv}{L:List Int}{i:Nat}(hi:i<rules.length):ri rules L i=if 0<=(rules[i].2.2.1:Int)/\(rules[i].2.2.1:Int)<(i:Int)then(if 0<=ix L rules[i].2.2.1 then ix L rules[i].2.2.1 else ri rules L (rules[i].2.2.1:Int).toNat)else-1:=by
 show B4 rules L (i+1) i=_
 unfold B4;rw[aaW hi];dsimp only
 obtain⟨(p:Int),M0⟩:∃p:Int,p=rules[i].2.2.1:=⟨_,rfl⟩
 simp only[<-M0];by_cases hp:0<=p/\p<(i:Int)
 .rw[acU hp,acU hp];by_cases h0:0<=ix L p
  .rw[acU h0,acU h0]
  .rw[acT h0,acT h0];exact vT rules L _ _ _ (by omega) (by omega)
 .rw[acT hp,acT hp]
theorem IF(r:Ty)(d:Int):M.iR aW r d=some (decide (Lo r d)):=by
 obtain⟨(r1:Int),(r2:Int)⟩:=r;apply Wp.eq;unfold M.iR;simp only[C3,W_,acY,acZ,reduceCtorEq];unfold Lo;dsimp only[ae,Row.den]
 by_cases h:VR ((r1,r2):Ty)<;>simp only[h,W_,acY,acZ,reduceCtorEq]
 omega
theorem B5(l:List Int)(n:Int)(hl:l.length<=100000):M.lc aW l n=some (ix l n):=by
 unfold M.lc ix;refine p4 (by unfold maxLen;omega) (λk h=>?_) ?_
 .rw[fA h,acU rfl,ai h,aaU]
 .simp only[cU,decide_false,aa4,if_false]
theorem zW(x:jZ)(L:List Int)(hL:L.length<=100000)(i:Nat)(hi:i<x.2.2.2.2.length)(jF:i<=100000):M.kq aW x L (i:Int)=some (ri x.2.2.2.2 L i):=by
 obtain⟨rules,hr⟩:∃r:List iv,r=x.2.2.2.2:=⟨_,rfl⟩
 apply Wp.eq;unfold M.kq;rw[<-hr]at hi⊢;rw[ai hi,aaU];refine Wp.loop (λs=>∃j:Nat,∃hj:j<rules.length,s=((j:Int),rules[j].2.2.1)/\ri rules L i=ri rules L j/\j<=i) (λs=>s.1.toNat) ⟨i,hi,rfl,rfl,aaX _⟩ (by unfold aW;dsimp only;omega) ?_
 rintro s ⟨j,hj,rfl,hp,Qv⟩
 dsimp only
 obtain⟨(p:Int),M0⟩:∃p:Int,p=rules[j].2.2.1:=⟨_,rfl⟩
 rw[hp,Dh hj,<-M0]
 refine Wp.seq (λb=>b=decide (0<=p/\p<(j:Int))) ?_ λb hb=>?_
 .refine Wp.dec (λh=> .some ?_) λh=> .some ?_
  .simp only[h,true_and]
  .rw[acX (λg=>h g.1)]
 .subst hb
  refine Wp.dec (λh=>?_) λh=> .some ?_
  .rw[acU h,B5 _ _ hL,aaU]
   refine Wp.dec (λg=> .some ?_) λg=>?_
   .show ix L p=_
    rw[acU g]
   .obtain⟨q,rfl⟩:=aa8 h.1
    have hq:q<j:=by omega
    have PZ:q<rules.length:=by omega
    rw[ai PZ,aaU];refine .some ⟨⟨q,PZ,rfl,?_,by omega⟩,by dsimp only;omega⟩;rw[acT g,aa3]
  .show(-1:Int)=_
   rw[acT h]
def kp(rules:List iv)(Pr:iv->Bool)(i:Nat):Bool:=match rules[i]? with
 |some r=>Pr r
 |none=>acR
theorem IG{rules:List iv}{Pr:iv->Bool}{i:Nat}(h:i<rules.length):kp rules Pr i=Pr rules[i]:=by
 unfold kp;rw[aaW h]
def xC(a d:Int)(r:iv):Bool:=decide ((r.2.1:Int)=a/\Lo r.2.2.2.2.1 d)
def fC(rules:List iv)(a d:Int):List Int:=ids (kp rules (xC a d)) rules.length
theorem M1{r:iv}{a d:Int}{β:Type}{k:Bool->Option β}:(((if(decide (r.2.1=a))=acQ then(some (decide (Lo r.2.2.2.2.1 d)):Option Bool)else some acR):Option Bool).bind k)=k (xC a d r):=by
 unfold xC;by_cases h:(r.2.1:Int)=a
 .rw[acU (by simpa using h),aaU]
  congr 1
  simp[h]
 .rw[acT (by simpa using h),aaU]
  congr 1
  simp[h]
theorem P0(a d:Int)(r:iv):M.du aW r a d=some (xC a d r,a,d):=by
 unfold M.du;simp only[MY,aaU];exact M1
def fT(P:Nat->Bool)(n:Nat):List Nat:=(aa2 n).filter P
theorem vU(P:Nat->Bool)(k:Nat):fT P (k+1)=fT P k++(if P k=acQ then[k]else[]):=iV k P
theorem IH(P:Nat->Bool)(k:Nat):(fT P k).length=(ids P k).length:=by unfold ids fT;simp
def gy(rules:List iv)(a d:Int):List Int:=(fT (kp rules (xC a d)) rules.length).map (ri rules (fC rules a d))
def jR(rules:List iv)(a d:Int):List Int:=(fT (kp rules (xC a d)) rules.length).map λi=>match rules[i]? with
 |some r=>r.2.2.2.1
 |none=>0
theorem II{rules:List iv}{a d:Int}(hl:rules.length<=100000):M.dv aW rules a d=some (a,d,fC rules a d,gy rules a d):=by
 unfold M.dv;refine Wp.eq (wp_bind.2 (mB.2 ⟨by omega,?_⟩));rw[aa3]
 obtain⟨P,hP⟩:∃P,P=kp rules (xC a d):=⟨_,rfl⟩
 obtain⟨L,hL⟩:∃L,L=fC rules a d:=⟨_,rfl⟩
 have QJ:L=ids P rules.length:=by rw[hL,hP];rfl
 refine Wp.count (λs=>s.1) rules.length (λk s=>s.2.1=a/\s.2.2.1=d/\s.2.2.2.1.length=rules.length/\(∀i:Nat,∀h:i<s.2.2.2.1.length,i<k->s.2.2.2.1[i]=if P i=acQ then ix L i else ri rules L i)/\s.2.2.2.2.1=ids P k/\s.2.2.2.2.2=(fT P k).map (ri rules L)) (by omega) rfl ⟨rfl,rfl,by simp,λi _ hi=>absurd hi (by omega),rfl,rfl⟩ λk s hk hs hJ=>?_
 obtain⟨i,a',d',IJ,li,pa⟩:=s;obtain⟨j1,j2,j3,j4,j5,j6⟩:=hJ;dsimp only at hs j1 j2 j3 j4 j5 j6;subst hs j1 j2 j5 j6
 refine Wp.dec (λag=>?_) λhge=>?_
 .have ag:k<rules.length:=by dsimp only at ag;omega
  have Je:=mH P k;have JV:=IH P k;dsimp only
  refine Wp.seq (λj=>j.1=a'/\j.2.1=d'/\j.2.2.1.length=rules.length/\(∀i:Nat,∀h:i<j.2.2.1.length,i<k+1->j.2.2.1[i]=if P i=acQ then ix L i else ri rules L i)/\j.2.2.2.1=ids P (k+1)/\j.2.2.2.2=(fT P (k+1)).map (ri rules L)) ?_ λj hj=> .some ⟨ag,bz (m:=rules.length) (by omega) ag,hj⟩
  rw[ai ag,aaU]
  obtain⟨(p:Int),M0⟩:∃p:Int,p=rules[k].2.2.1:=⟨_,rfl⟩
  refine Wp.seq (λv=>v=ri rules L k) ?_ λv hv=>?_
  .rw[Dh ag,<-M0]
   refine Wp.seq (λj=>j=decide (0<=p/\p<(k:Int))) ?_ λj hj=>?_
   .refine Wp.dec (λh=> .some ?_) λh=> .some ?_
    .simp only[h,true_and]
    .rw[acX (λg=>h g.1)]
   .subst hj
    refine Wp.dec (λh=>?_) λh=> .some ?_
    .obtain⟨q,rfl⟩:=aa8 h.1
     have hq:q<k:=by omega
     have PZ:q<IJ.length:=by omega
     rw[ai PZ,aaU];refine .some ?_;rw[acU h,j4 q PZ hq,aa3];by_cases QK:P q=acQ
     .rw[acU QK,acU];rw[IE,QJ];exact qa.2 ⟨q,by omega,QK,rfl⟩
     .rw[acT QK,acT];rw[IE,QJ];intro hm;obtain⟨q',_,h2,h3⟩:=qa.1 hm
      obtain rfl:q=q':=by omega
      exact QK h2
    .rw[acT h]
  .subst hv;rw[ai (show k<IJ.length by omega),aaU,P0,aaU,kT,vU]
   have QL:P k=xC a' d' rules[k]:=by rw[hP];exact IG ag
   rw[QL];dsimp only;by_cases hp:xC a' d' rules[k]=acQ
   .rw[acU hp,acU hp,acU hp,ai (show k<(bF IJ (k:Int) (ri rules L k)).length by rw[cz];omega),aaU,gr (by simp;omega),aaU,gr (by simp;omega),aaU];refine .some ⟨rfl,rfl,by rw[cz,cz];exact j3,λi h hi=>?_,rfl,by simp⟩
    have UZ:i<IJ.length:=by rw[cz,cz]at h;exact h
    simp only[bF,aa3,List.getElem_set];by_cases e:k=i
    .subst e;rw[acU rfl,acU (QL.trans hp),QJ,MZ ag (QL.trans hp)]
    .rw[acT e,acT e];exact j4 i UZ (by omega)
   .rw[acT hp,acT hp,acT hp];refine .some ⟨rfl,rfl,by rw[cz];exact j3,λi h hi=>?_,by simp,by simp⟩
    have UZ:i<IJ.length:=by rw[cz]at h;exact h
    simp only[bF,aa3,List.getElem_set];by_cases e:k=i
    .subst e;rw[acU rfl,acT (λg=>hp (QL.symm.trans g))]
    .rw[acT e];exact j4 i UZ (by omega)
 .have hge:k=rules.length:=by dsimp only at hge;omega
  refine .some ?_;subst hge
  show _=_
  unfold gy;rw[<-hP,<-hL,QJ]
theorem Fq(x:jZ)(a d:Int)(hl:x.2.2.2.2.length<=100000):M.ga aW x a d=some (fC x.2.2.2.2 a d,gy x.2.2.2.2 a d,jR x.2.2.2.2 a d):=by
 unfold M.ga;rw[II hl,aaU]
 obtain⟨rules,hr⟩:∃r:List iv,r=x.2.2.2.2:=⟨_,rfl⟩
 rw[<-hr]at hl⊢
 obtain⟨P,hP⟩:∃P,P=kp rules (xC a d):=⟨_,rfl⟩
 have hi:fC rules a d=(fT P rules.length).map λi:Nat=>(i:Int):=by rw[hP];rfl
 have ZN:(fT P rules.length).length<=rules.length:=by unfold fT;exact abi (acb ..) (by simp)
 refine Wp.eq (Wp.seq (λj=>j=jR rules a d) ?_ λj hj=> .some (by rw[hj]));unfold jR;dsimp only;rw[hi,<-hP]
 have qH:∀i∈fT P rules.length,i<rules.length:=λi hi=>abo.1 (abw.1 hi).1
 refine Wp.count (λs=>s.1) (fT P rules.length).length (λk s=>s.2=((fT P rules.length).take k).map λi=>match rules[i]? with
  |some r=>r.2.2.2.1
  |none=>0) (by omega) rfl rfl λk s hk hs hJ=>?_
 obtain⟨kk,l⟩:=s;dsimp only at hs hJ⊢;subst hs hJ;rw[ab0]
 refine Wp.dec (λag=>?_) λhge=>?_
 .have ag:k<(fT P rules.length).length:=by omega
  have hb:=qH _ (aaZ ag);refine .bind (.idx k rfl (by simpa using ag) ?_);rw[List.getElem_map,ai hb,aaU];refine .bind (.rD (by simp;omega) (.some ⟨ag,aQ (by omega),?_⟩))
  show _=((fT P rules.length).take (k+1)).map _
  rw[<-abq ag,ab6,List.map_singleton,aaW hb]
 .have:k=(fT P rules.length).length:=by omega
  subst this;refine .some ?_
  show _=_
  rw[abg]
theorem uQ(x:jZ)(a d:Int)(hl:x.2.2.2.2.length<=100000):M.jz aW x a d=some (fC x.2.2.2.2 a d):=by
 unfold M.jz fC
 obtain⟨rules,hr⟩:∃r:List iv,r=x.2.2.2.2:=⟨_,rfl⟩
 rw[<-hr]at hl⊢;refine Wp.eq (Wp.count (λs=>s.1) rules.length (λk s=>s.2=ids (kp rules (xC a d)) k) (by omega) rfl rfl λk s hk hs hJ=>?_);obtain⟨kk,l⟩:=s;dsimp only at hs hJ⊢;subst hs hJ
 refine Wp.dec (λag=>?_) λhge=> .some ?_
 .have ag:k<rules.length:=by omega
  have Je:=mH (kp rules (xC a d)) k
  refine Wp.seq (λj=>j=ids (kp rules (xC a d)) (k+1)) ?_ λj hj=> .some ⟨ag,aQ (by omega),hj⟩
  rw[kT,IG ag]
  refine Wp.seq (λb=>b=xC a d rules[k]) (.bind (.idx k rfl ag ?_)) λb hb=>?_
  .unfold xC;by_cases h:(rules[k].2.1:Int)=a
   .rw[acU (by simpa using h),ai ag,aaU,IF,aaU];refine .some ?_;simp[h]
   .rw[acT (by simpa using h)];refine .some ?_;simp[h]
  .subst hb;refine .ite (λh=> .bind (.rD (by simp;omega) (.some ?_))) (λh=> .some ?_)
   .rw[acU h]
   .rw[acT h,List.append_nil]
 .have:k=rules.length:=by omega
  subst this;rfl
theorem IK(x:jZ)(a d:Int)(hl:x.2.2.2.2.length<=100000):M.kr aW x a d=some (fC x.2.2.2.2 a d,gy x.2.2.2.2 a d,jR x.2.2.2.2 a d):=by
 unfold M.kr;rw[uQ x a d hl,aaU]
 have Ii:=λL(hL:L.length<=100000)i hi jF=>zW x L hL i hi jF
 obtain⟨rules,hr⟩:∃r:List iv,r=x.2.2.2.2:=⟨_,rfl⟩
 rw[<-hr]at hl Ii⊢
 obtain⟨P,hP⟩:∃P,P=kp rules (xC a d):=⟨_,rfl⟩
 obtain⟨L,hL⟩:∃L,L=fC rules a d:=⟨_,rfl⟩
 have ZO:L.length<=100000:=by rw[hL];exact abi (mH _ _) hl
 have hi:fC rules a d=(fT P rules.length).map λi:Nat=>(i:Int):=by rw[hP];rfl
 have ZN:(fT P rules.length).length<=rules.length:=by unfold fT;exact abi (acb ..) (by simp)
 have qH:∀i∈fT P rules.length,i<rules.length:=λi hi=>abo.1 (abw.1 hi).1
 refine Wp.eq (Wp.seq (λj=>j=(gy rules a d,jR rules a d)) ?_ λj hj=> .some (by rw[hj]));unfold gy jR;rw[<-hP,<-hL]
 have Wg:L=(fT P rules.length).map λi:Nat=>(i:Int):=hL.trans hi
 refine Wp.count (λs=>s.1) (fT P rules.length).length (λk s=>s.2.1=((fT P rules.length).take k).map (ri rules L)/\s.2.2=((fT P rules.length).take k).map λi=>match rules[i]? with
  |some r=>r.2.2.2.1
  |none=>0) (by omega) rfl ⟨rfl,rfl⟩ λk s hk hs hJ=>?_
 obtain⟨kk,l,m⟩:=s;obtain⟨e1,e2⟩:=hJ;dsimp only at hs e1 e2⊢;subst hs e1 e2
 have hlen:L.length=(fT P rules.length).length:=by rw[Wg];simp
 refine Wp.dec (λag=>?_) λhge=>?_
 .have ag:k<(fT P rules.length).length:=by rw[<-hlen];omega
  have hb:=qH _ (aaZ ag)
  have hx:L[k]'(by omega)=((fT P rules.length)[k]:Int):=by simp only[Wg,List.getElem_map]
  refine .bind (.idx k rfl (by omega) ?_);rw[hx,Ii L ZO _ hb (by omega),aaU];refine .bind (.rD (by simp;omega) (.bind (.idx k rfl (by omega) ?_)));rw[hx,ai hb,aaU];refine .bind (.rD (by simp;omega) (.some ⟨ag,aQ (by omega),?_,?_⟩))
  .show _=((fT P rules.length).take (k+1)).map _
   rw[<-abq ag,ab6,List.map_singleton]
  .show _=((fT P rules.length).take (k+1)).map _
   rw[<-abq ag,ab6,List.map_singleton,aaW hb]
 .have:k=(fT P rules.length).length:=by rw[<-hlen]at hk⊢;omega
  subst this;refine .some ?_
  show(_,_)=(_,_)
  rw[abg]
end L
section
namespace L.S
def at'{α:Type}(d:α)(l:List α)(i:Int):α:=(l[i.toNat]?).getD d
theorem kf{α:Type}(d:α){l:List α}{i:Int}(h0:0<=i)(h:i<l.length):idx l i=some (at' d l i):=by
 unfold idx at';rw[acU h0,aaW (by omega)];rfl
structure V(p q:List Int):Prop where
 len:p.length=q.length
 n8:p.length<=8
 par:∀i:Nat,i<p.length->-1<=at' 0 p i/\at' 0 p i<i
theorem xD(N:Nat)(p q:List Int):M.iS N p q=M.cy N p q:=by
 unfold M.iS M.cy
 congr 3
 funext s
 congr 1
 cases hp:idx p s<;>cases hq:idx q s<;>rfl
theorem zX{N:Nat}(p q:List Int)(hN:10<=N):∃e,M.cy N p q=some e/\(e=0->V p q):=by
 unfold M.cy;by_cases h1:(p.length:Int)=q.length
 .rw[acT (by simpa using h1)];by_cases h2:8<(p.length:Int)
  .rw[acU (by simpa using h2)];exact⟨_,rfl,by omega⟩
  .rw[acT (by simpa using h2)];refine q6 (I:=λs:Int=>0<=s/\s<=p.length/\∀i:Nat,(i:Int)<s->-1<=at' 0 p i/\at' 0 p i<i) (μ:=λs=>(p.length-s).toNat) (Q:=λe=>e=0->V p q) ?_ N 0 ⟨by omega,by omega,λi hi=>by omega⟩ (by omega)
   rintro s ⟨h3,h4,h5⟩
   by_cases h6:s<(p.length:Int)
   .rw[acU (by simpa using h6),kf 0 h3 h6,kf 0 h3 (by omega)];simp only[aaU];by_cases h7:at' 0 p s< -1
    .rw[acU (by simpa using h7)];exact .inr ⟨9,rfl,by omega⟩
    .rw[acT (by simpa using h7)];by_cases h8:s<=at' 0 p s
     .simp only[aaU,h8,decide_true,if_true];exact .inr ⟨9,rfl,by omega⟩
     .simp only[aaU,h8,decide_false,aa4,if_false]
      have fin:(∃s',(some (Sum.inl (aaV.wrap (s+1))):Option (Int⊕Int))=some (.inl s')/\(0<=s'/\s'<=p.length/\∀i:Nat,(i:Int)<s'->-1<=at' 0 p i/\at' 0 p i<i)/\((p.length:Int)-s').toNat<((p.length:Int)-s).toNat):=by
       rw[dj (by omega) (by omega)];refine⟨s+1,rfl,⟨by omega,by omega,λi hi=>?_⟩,by omega⟩;by_cases e:(i:Int)<s
       .exact h5 i e
       .have:(i:Int)=s:=by omega
        rw[this];omega
      by_cases h9:at' 0 q s<0
      .simp only[h9,decide_true,if_true,aaU];exact .inr ⟨3,rfl,by omega⟩
      .simp only[h9,decide_false,aa4,if_false,aaU];by_cases PD:9<at' 0 q s
       .simp only[PD,decide_true,if_true];exact .inr ⟨3,rfl,by omega⟩
       .simp only[PD,decide_false,aa4,if_false];exact .inl fin
   .rw[acT (by simpa using h6)];exact .inr ⟨0,rfl,λ_=>⟨by omega,by omega,λi hi=>h5 i (by omega)⟩⟩
 .rw[acU (by simpa using h1)];exact⟨_,rfl,by omega⟩
def ch(p:List Int)(i:Int):List Int:=((aa2 p.length).filter λj:Nat=>decide (at' 0 p (j:Int)=i)).map (λj:Nat=>(j:Int))
theorem M2{p:List Int}{i c:Int}:c∈ch p i↔0<=c/\c<p.length/\at' 0 p c=i:=by
 unfold ch;simp only[List.mem_map,abw,abo,ac1];constructor
 .rintro⟨j,⟨h1,h2⟩,rfl⟩;exact⟨by omega,by omega,h2⟩
 .rintro⟨h1,h2,h3⟩
  obtain⟨j,rfl⟩:=aa8 h1;exact⟨j,⟨by omega,h3⟩,rfl⟩
theorem IL(p:List Int)(i:Int):(ch p i).length<=p.length:=by
 unfold ch;rw[ab0];have:=acb (λj:Nat=>decide (at' 0 p (j:Int)=i)) (aa2 p.length);simpa using this
theorem rJ{N:Nat}{p:List Int}(i:Int)(hn:p.length<=8)(hN:10<=N):M.cO N p i=some (ch p i):=by
 unfold M.cO;refine sw (λk:Nat=>((k:Int),(((aa2 k).filter λj:Nat=>decide (at' 0 p (j:Int)=i)).map (λj:Nat=>(j:Int)):List Int))) p.length _ rfl ?_ ?_ (by omega)
 .intro k hk
  have hw:aaV.wrap ((k:Int)+1)=((k+1:Nat):Int):=by rw[dj]<;>omega
  simp only;rw[acU (by simp;omega),kf 0 (by omega) (by omega),aaU,hw,iV];by_cases h:at' 0 p (k:Int)=i
  .rw[acU (by simpa using h),gr,aaU,acU (by simpa using h)]
   .simp
   .simp only[ab0,aa6,abS];have:=acb (λj:Nat=>decide (at' 0 p (j:Int)=i)) (aa2 k);simp at this;omega
  .rw[acT (by simpa using h),acT (by simpa using h)];simp
 .simp only;rw[acT (by simp)];rfl
theorem xE(N:Nat)(p:List Int)(i:Int):M.kO N p i=M.cO N p i:=rfl
def step(o:Int->Int)(q:List Int)(b:List Int)(c:Int):List Int:=
 if o c= -1 then b else
 match b with
 |[]=>[c]
 |x::r=>if at' 0 q x<at' 0 q c then[c]else if at' 0 q c=at' 0 q x then(x::r)++[c]else x::r
def mR(o:Int->Int)(q:List Int)(l:List Int):List Int:=l.foldl (step o q) []
structure Inv(o:Int->Int)(q:List Int)(l b:List Int):Prop where
 sub:b.Sublist l
 live:∀c,c∈b->o c≠-1
 max:∀d,d∈l->o d≠-1->b≠[]/\∀c,c∈b->at' 0 q d<=at' 0 q c
 all:∀d,d∈l->o d≠-1->(∀c,c∈b->at' 0 q d=at' 0 q c)->d∈b
theorem xF{α:Type}{d a:α}{l:List α}:at' d (a::l) 0=a:=rfl
theorem tG{o:Int->Int}{q l b:List Int}{c:Int}(h:Inv o q l b):Inv o q (l++[c]) (step o q b c):=by
 obtain⟨h1,h2,h3,h4⟩:=h
 have rl:∀x∈b,∀y∈b,at' 0 q x=at' 0 q y:=λx hx y hy=>by
  have a1:=(h3 x (h1.subset hx) (h2 x hx)).2 y hy;have a2:=(h3 y (h1.subset hy) (h2 y hy)).2 x hx;omega
 unfold step;by_cases hd:o c= -1
 .rw[acU hd];refine⟨h1.trans (List.sublist_append_left _ _),h2,λd hm hl=>?_,λd hm hl=>?_⟩
  .rcases aa9.1 hm with hm|hm
   .exact h3 d hm hl
   .rw[aa5.1 hm]at hl;exact absurd hd hl
  .rcases aa9.1 hm with hm|hm
   .exact h4 d hm hl
   .rw[aa5.1 hm]at hl;exact absurd hd hl
 .rw[acT hd]
  cases b with
  |nil=>
   have Lp:∀d,d∈l->¬o d≠-1:=λd hm hl=>(h3 d hm hl).1 rfl
   refine⟨(List.sublist_append_right _ _),?_,λd hm hl=>⟨by simp,?_⟩,λd hm hl hh=>?_⟩
   .intro x hx;rw[aa5.1 hx];exact hd
   .intro x hx;rw[aa5.1 hx]
    rcases aa9.1 hm with hm|hm
    .exact absurd hl (Lp d hm)
    .rw[aa5.1 hm];exact Int.le_refl _
   .rcases aa9.1 hm with hm|hm
    .exact absurd hl (Lp d hm)
    .exact hm
  |cons a b=>
   simp only;by_cases ag:at' 0 q a<at' 0 q c
   .rw[acU ag];refine⟨(List.sublist_append_right _ _),?_,λd hm hl=>⟨by simp,?_⟩,λd hm hl hh=>?_⟩
    .intro x hx;rw[aa5.1 hx];exact hd
    .intro x hx;rw[aa5.1 hx]
     rcases aa9.1 hm with hm|hm
     .have:=(h3 d hm hl).2 a (by simp);omega
     .rw[aa5.1 hm];exact Int.le_refl _
    .rcases aa9.1 hm with hm|hm
     .have:=(h3 d hm hl).2 a (by simp);have:=hh c (by simp);omega
     .exact hm
   .rw[acT ag];by_cases he:at' 0 q c=at' 0 q a
    .rw[acU he];refine⟨List.Sublist.append h1 (List.Sublist.refl _),?_,λd hm hl=>⟨by simp,?_⟩,λd hm hl hh=>?_⟩
     .intro x hx
      rcases aa9.1 hx with hx|hx
      .exact h2 x hx
      .rw[aa5.1 hx];exact hd
     .intro x hx
      have I2:at' 0 q x=at' 0 q a:=by
       rcases aa9.1 hx with hx|hx
       .exact rl x hx a (by simp)
       .rw[aa5.1 hx];exact he
      rcases aa9.1 hm with hm|hm
      .have:=(h3 d hm hl).2 a (by simp);omega
      .rw[aa5.1 hm];omega
     .rcases aa9.1 hm with hm|hm
      .exact List.mem_append_left _ (h4 d hm hl λx hx=>hh x (List.mem_append_left _ hx))
      .exact List.mem_append_right _ hm
    .rw[acT he];refine⟨h1.trans (List.sublist_append_left _ _),h2,λd hm hl=>⟨by simp,?_⟩,λd hm hl hh=>?_⟩
     .intro x hx
      rcases aa9.1 hm with hm|hm
      .exact(h3 d hm hl).2 x hx
      .rw[aa5.1 hm,rl x hx a (by simp)];omega
     .rcases aa9.1 hm with hm|hm
      .exact h4 d hm hl hh
      .have:=hh a (by simp);rw[aa5.1 hm]at this;exact absurd this he
theorem zY{o:Int->Int}{q:List Int}:∀(m l b:List Int),Inv o q l b->Inv o q (l++m) (m.foldl (step o q) b)
 |[],l,b,h=>by simpa using h
 |c::m,l,b,h=>by
  have:=zY m (l++[c]) _ (tG (c:=c) h);rw[abm]at this;exact this
theorem nM(o:Int->Int)(q l:List Int):Inv o q l (mR o q l):=by
 have:=zY (o:=o) (q:=q) l [] [] ⟨List.Sublist.refl _,by simp,by simp,by simp⟩;rw[List.nil_append]at this;exact this
theorem pj{o o':Int->Int}{q:List Int}:∀(l b:List Int),(∀c,c∈l->o c=o' c)->l.foldl (step o q) b=l.foldl (step o' q) b
 |[],_,_=>rfl
 |c::l,b,h=>by
  have:step o q b c=step o' q b c:=by unfold step;rw[h c (by simp)]
  rw[abN,abN,this]
  exact pj l _ λd hd=>h d (by simp[hd])
def rZ(o:Int->Int)(b:List Int):Int:=if(b.length:Int)=0 then-1 else if(b.length:Int)=1 then o (at' 0 b 0)else-2
def out(p q:List Int)(a:List Bool):Nat->Int->Int
 |0,_=> -1
 |k+1,i=>
  let c:=rZ (out p q a k) (mR (out p q a k) q (ch p i))
  if c= -1/\at' acR a i=acQ then i else c
def cout(p q:List Int)(a:List Bool)(k:Nat)(i:Int):Int:=rZ (out p q a k) (mR (out p q a k) q (ch p i))
theorem qb(p q:List Int)(a:List Bool)(k:Nat)(i:Int):out p q a (k+1) i=if cout p q a k i= -1/\at' acR a i=acQ then i else cout p q a k i:=rfl
theorem nN{p q:List Int}(hv:V p q){i c:Int}(h:c∈ch p i):i<c/\0<=c/\c<8/\c<p.length:=by
 obtain⟨h1,h2,h3⟩:=M2.1 h;have:=hv.n8;obtain⟨j,rfl⟩:=aa8 h1;have:=(hv.par j (by omega)).2;omega
theorem uc{o o':Int->Int}{b:List Int}(h:∀c,c∈b->o c=o' c):rZ o b=rZ o' b:=by
 cases b with
 |nil=>rfl
 |cons x b=>unfold rZ;rw[xF,h x (by simp)]
theorem ud{p q:List Int}{a:List Bool}{k k':Nat}{i:Int}(h:∀c,c∈ch p i->out p q a k c=out p q a k' c):cout p q a k i=cout p q a k' i:=by
 unfold cout;have:mR (out p q a k) q (ch p i)=mR (out p q a k') q (ch p i):=pj _ _ h;rw[this]
 exact uc λc hc=>h c ((nM _ _ _).sub.subset hc)
theorem ue{p q:List Int}(hv:V p q)(a:List Bool):∀(k:Nat)(i:Int),8<k+i->out p q a k i=out p q a (k+1) i\/8<=i
 |0,i,h=> .inr (by omega)
 |k+1,i,h=>by
  by_cases h8:8<=i
  .exact .inr h8
  .left
   rw[qb,qb p q a (k+1),ud (k:=k) (k':=k+1)];intro c hc;have:=nN hv hc;exact(ue hv a k c (by omega)).resolve_right (by omega)
def O(p q:List Int)(a:List Bool)(i:Int):Int:=out p q a 16 i
def C(p q:List Int)(a:List Bool)(i:Int):Int:=rZ (O p q a) (mR (O p q a) q (ch p i))
theorem Lq{p q:List Int}(hv:V p q)(a:List Bool):∀(d k:Nat)(i:Int),8<k+i->i<8->d+k=16->out p q a k i=O p q a i
 |0,k,i,_,_,hd=>by
  obtain rfl:k=16:=by omega
  rfl
 |d+1,k,i,h,h8,hd=>by
  rw[(ue hv a k i h).resolve_right (by omega)];exact Lq hv a d (k+1) i (by omega) h8 (by omega)
theorem P1{p q:List Int}(hv:V p q)(a:List Bool){k:Nat}{i:Int}(h:7<k+i)(hk:k<=16):cout p q a k i=C p q a i:=by
 show _=cout p q a 16 i
 refine ud λc hc=>?_
 have:=nN hv hc;exact Lq hv a (16-k) k c (by omega) (by omega) (by omega)
theorem U0{p q:List Int}(hv:V p q)(a:List Bool){i:Int}(h0: -1<=i):O p q a i=if C p q a i= -1/\at' acR a i=acQ then i else C p q a i:=by
 unfold O;rw[qb,P1 hv a (by omega) (by omega)]
theorem vV{q b:List Int}{c y:Int}{o:Int->Int}(hy:o c=y)(hb:∀x,x∈b->0<=x/\x<q.length)(hl:b.length<=8)(hc:0<=c/\c<q.length):
 (if(decide (y=(-1:Int)))=acQ then
some b
else
(((if(decide ((0:Int)<(b.length:Int)))=acQ then
(idx q c).bind λx8=>
(idx b (0:Int)).bind λx9=>
(idx q x9).bind λqe=>
some (decide (qe<x8))
else
some acR):Option (Bool)).bind λj7=>
(if j7=acQ then
(dX b (0:Int) (0:Int)).bind λJ9=>
some J9
else
some b):Option (List Int)).bind λj6=>
((if(decide ((j6.length:Int)=(0:Int)))=acQ then
some acQ
else
(idx q c).bind λrU=>
(idx j6 (0:Int)).bind λCY=>
(idx q CY).bind λAm=>
some (decide (rU=Am))):Option (Bool)).bind λoG=>
(if oG=acQ then
(bK j6 ([c]:List Int)).bind λMv=>
some Mv
else
some j6))=some (step o q b c):=by
 subst hy;unfold step;by_cases h:o c= -1
 .simp only[h,decide_true,if_true]
 .simp only[h,decide_false,aa4,if_false];rw[kf 0 hc.1 hc.2]
  cases b with
  |nil=>simp[bK]
  |cons x r=>
   have hx:=hb x (by simp)
   have h0:(0:Int)<((x::r).length:Int):=by simp only[aa6];omega
   have h1:¬((x::r).length:Int)=0:=by omega
   simp only[h0,decide_true,if_true,aaU,pV,kf 0 hx.1 hx.2]
   have Ar:dX (x::r) (0:Int) (0:Int)=some []:=by
    unfold dX;rw[acU (by omega)];rfl
   by_cases ag:at' 0 q x<at' 0 q c
   .rw[Ar];simp[ag,bK]
   .simp only[ag,decide_false,aa4,if_false,aaU,h1,pV,kf 0 hx.1 hx.2];by_cases he:at' 0 q c=at' 0 q x
    .simp only[he,decide_true,if_true];rw[gr (by simp at hl⊢;omega)];rfl
    .simp only[he,decide_false,aa4,if_false]
theorem IM{q b:List Int}{c y:Int}{o:Int->Int}(hy:o c=y)(hb:∀x,x∈b->0<=x/\x<q.length)(hl:b.length<=8)(hc:0<=c/\c<q.length):
 (if(decide (y=(-1:Int)))=acQ then
some b
else
(((if(decide ((0:Int)<(b.length:Int)))=acQ then
(idx q c).bind λx8=>
(idx b (0:Int)).bind λx9=>
(idx q x9).bind λqe=>
some (decide (qe<x8))
else
some acR):Option (Bool)).bind λj7=>
(if j7=acQ then
some ([]:List Int)
else
some b):Option (List Int)).bind λj6=>
((if(decide ((j6.length:Int)=(0:Int)))=acQ then
some acQ
else
(idx q c).bind λrU=>
(idx j6 (0:Int)).bind λCY=>
(idx q CY).bind λAm=>
some (decide (rU=Am))):Option (Bool)).bind λoG=>
(if oG=acQ then
(bK j6 ([c]:List Int)).bind λMv=>
some Mv
else
some j6))=some (step o q b c):=by
 rw[<-vV hy hb hl hc];rfl
theorem qc{l:List Int}{o:Int->Int}{q:List Int}{k:Nat}:((l.take k).foldl (step o q) []).Sublist l:=(nM o q (l.take k)).sub.trans (List.take_sublist _ _)
theorem KJ{N:Nat}{p q r:List Int}(hv:V p q)(hr:r.length=p.length)(i:Int)(hN:20<=N):M.cX N (p,(q,r)) i=some (mR (at' 0 r) q (ch p i)):=by
 have h8:=hv.n8;have hl:=IL p i;unfold M.cX;simp only;rw[rJ i h8 (by omega),aaU];refine sw (λk:Nat=>((k:Int),((ch p i).take k).foldl (step (at' 0 r) q) [])) (ch p i).length _ rfl ?_ ?_ (by omega)
 .intro k hk
  have hw:aaV.wrap ((k:Int)+1)=((k+1:Nat):Int):=by rw[dj]<;>omega
  have hc:=nN hv (aaZ hk);have hq:=hv.len;simp only;rw[acU (by simp;omega),ai hk,aaU,kf 0 hc.2.1 (by omega),aaU,hw];have hb:=vV (q:=q) (b:=((ch p i).take k).foldl (step (at' 0 r) q) []) (c:=(ch p i)[k]) (o:=at' 0 r) rfl (λx hx=>by have:=nN hv (qc.subset hx);omega) (by have:=(qc (l:=ch p i) (o:=at' 0 r) (q:=q) (k:=k)).length_le;omega) ⟨hc.2.1,by omega⟩;rw[hb,aaU,List.take_succ_eq_append_getElem hk,List.foldl_append];rfl
 .simp only;rw[acT (by simp),abg];rfl
theorem KL{p q:List Int}(hv:V p q){o:Int->Int}{i c:Int}(h:c∈mR o q (ch p i)):i<c/\0<=c/\c<8/\c<p.length:=nN hv ((nM o q _).sub.subset h)
theorem oM{N:Nat}{p q r:List Int}(hv:V p q)(hr:r.length=p.length)(i:Int)(hN:20<=N):M.bC N (p,(q,r)) i=some (rZ (at' 0 r) (mR (at' 0 r) q (ch p i))):=by
 unfold M.bC rZ;rw[KJ hv hr i hN,aaU]
 cases hb:mR (at' 0 r) q (ch p i)with
 |nil=>simp
 |cons x b=>
  have hx:=KL hv (o:=at' 0 r) (i:=i) (c:=x) (by rw[hb];simp)
  have h1:¬((x::b).length:Int)=0:=by simp;omega
  simp only[h1,decide_false,aa4,if_false,pV,aaU,xF,kf 0 hx.2.1 (show x<(r.length:Int) by omega)];by_cases h2:((x::b).length:Int)=1
  .simp only[h2,decide_true,if_true]
  .simp only[h2,decide_false,aa4,if_false]
theorem Di{p q r:List Int}(hv:V p q){a:List Bool}{i:Int}(h:∀c,i<c->0<=c->c<p.length->at' 0 r c=O p q a c):rZ (at' 0 r) (mR (at' 0 r) q (ch p i))=C p q a i:=by
 unfold C
 have h':∀c,c∈ch p i->at' 0 r c=O p q a c:=λc hc=>by
  have:=nN hv hc;exact h c this.1 this.2.1 this.2.2.2
 have:mR (at' 0 r) q (ch p i)=mR (O p q a) q (ch p i):=pj _ _ h';rw[this]
 exact uc λc hc=>h' c ((nM _ _ _).sub.subset hc)
def outs(p q:List Int)(a:List Bool)(k:Nat):List Int:=(aa2 p.length).map λj=>if p.length<=j+k then O p q a (j:Int)else 0
theorem IN{n:Nat}{f:Nat->Int}{c:Int}(h0:0<=c)(h:c<n):at' 0 ((aa2 n).map f) c=f c.toNat:=by
 unfold at';rw[List.getElem?_map,List.getElem?_range (by omega)];rfl
theorem zZ{N:Nat}{p q:List Int}{a:List Bool}(hv:V p q)(ha:a.length=p.length)(hN:20<=N):M.di N p q a=some (outs p q a p.length):=by
 have h8:=hv.n8;unfold M.di
 have h0:uU (p.length:Int) (0:Int)=some (abn p.length 0):=by
  unfold uU;rw[acU (by omega)];simp
 rw[h0,aaU];refine sw (λk:Nat=>((p.length:Int)-1-(k:Int),outs p q a k)) p.length _ ?_ ?_ ?_ (by omega)
 .rw[dj (by omega) (by omega)]
  have:outs p q a 0=abn p.length 0:=by
   unfold outs
   refine List.ext_getElem (by simp) λj h1 h2=>?_
   simp at h2;rw[List.getElem_map,List.getElem_range,List.getElem_replicate,acT (by omega)]
  rw[this];simp
 .intro k hk
  have hlen:(outs p q a k).length=p.length:=by simp[outs]
  have hO:=U0 hv a (i:=(p.length:Int)-1-(k:Int)) (by omega);generalize hi:(p.length:Int)-1-(k:Int)=i at*
  have hc:rZ (at' 0 (outs p q a k)) (mR (at' 0 (outs p q a k)) q (ch p i))=C p q a i:=Di hv λc h1 h2 h3=>by
   unfold outs;rw[IN h2 h3,acU (by omega),Int.toNat_of_nonneg h2]
  simp only;rw[acU (by simp;omega),oM hv hlen i hN,aaU,hc,kf 0 (by omega) (by omega),aaU]
  have lY:∀v,bF (bF (outs p q a k) i v) i (O p q a i)=outs p q a (k+1)/\(v=O p q a i->bF (outs p q a k) i v=outs p q a (k+1)):=by
   intro v
   have e:bF (outs p q a k) i (O p q a i)=outs p q a (k+1):=by
    unfold bF outs;rw[jB]
    refine List.map_congr_left λj hj=>?_
    have:=abo.1 hj;by_cases h:j=i.toNat
    .rw[acU h,acU (by omega),h,Int.toNat_of_nonneg (by omega)]
    .rw[acT h];by_cases h':p.length<=j+k
     .rw[acU h',acU (by omega)]
     .rw[acT h',acT (by omega)]
   refine⟨?_,λh=>h▸e⟩;unfold bF at e⊢;rw[List.set_set];exact e
  have mf:∀v,idx (bF (outs p q a k) i v) i=some v:=by
   intro v;unfold bF;rw[kf v (by omega) (by simp;omega)];unfold at';rw[List.getElem?_set_self (by omega)];rfl
  have hw:aaV.wrap (i-1)=(p.length:Int)-1-((k+1:Nat):Int):=by rw[dj]<;>omega
  rw[mf,hw];simp only[aaU];rw[kf acR (by omega) (by omega)];simp only[aaU];by_cases h1:C p q a i= -1
  .rw[acU (by simpa using h1),aaU];by_cases h2:at' acR a i=acQ
   .rw[acU h2];rw[acU ⟨h1,h2⟩]at hO;have:=(lY (C p q a i)).1;rw[hO]at this;rw[this];rfl
   .rw[acT h2];rw[acT (λh=>h2 h.2)]at hO;rw[(lY (C p q a i)).2 hO.symm];rfl
  .rw[acT (by simpa using h1),aaU,acT (by simp)];rw[acT (λh=>h1 h.1)]at hO;rw[(lY (C p q a i)).2 hO.symm];rfl
 .simp only;rw[acT (by simp;omega)]
theorem KM{p q:List Int}{a:List Bool}{c:Int}(h0:0<=c)(h:c<p.length):at' 0 (outs p q a p.length) c=O p q a c:=by
 unfold outs;rw[IN h0 h,acU (by omega),Int.toNat_of_nonneg h0]
theorem IP{p q:List Int}{a:List Bool}{k:Nat}:(outs p q a k).length=p.length:=by simp[outs]
theorem Lr(e:Int)(y:Bool){α:Type}(k:Bool->Option α):((if(!decide (e=(0:Int)))=acQ then some acQ else some y:Option Bool).bind k)=k (!decide (e=0)||y):=by
 cases decide (e=0)<;>rfl
theorem xG{N:Nat}(hN:20<=N)(p q:List Int)(a:List Bool):(M.b8 N p q a=some (-1)/\M.gq N p q a=some (-1))\/
 (V p q/\a.length=p.length/\M.b8 N p q a=some (C p q a (-1))/\M.gq N p q a=M.iT N p q a (-1)):=by
 obtain⟨e,he,hv⟩:=zX (N:=N) p q (by omega);unfold M.b8 M.gq;rw[xD,he];simp only[aaU];rw[Lr,Lr];by_cases h:(!decide (e=0)||(!decide ((a.length:Int)=(p.length:Int))))=acQ
 .left
  rw[acU h,acU h];exact⟨rfl,rfl⟩
 .right
  have h1:e=0:=by simp at h;exact h.1
  have h2:a.length=p.length:=by simp at h;omega
  have hv:=hv h1;rw[acT h,acT h,zZ hv h2 hN];simp only[aaU];rw[oM hv IP (-1) hN];refine⟨hv,h2,?_,?_⟩
  .exact ac0 some (Di hv λc _ h0 h=>KM h0 h)
  .cases M.iT N p q a (-1)<;>rfl
section
variable {p q:List Int} {a:List Bool} (hv:V p q) (ha:a.length=p.length)
include hv ha
theorem P2{N:Nat}{o:Int->Int}{i:Int}(hN:20<=N)(ho:∀c,c∈ch p i->M.cI aW N p q a c=some (o c)):M.ku aW (N+1) p q a i=some (mR o q (ch p i)):=by
 have h8:=hv.n8;have hl:=IL p i;unfold M.ku;rw[xE,rJ i h8 (by unfold aW;omega),aaU];refine sw (λk:Nat=>((k:Int),((ch p i).take k).foldl (step o q) [])) (ch p i).length _ rfl ?_ ?_ (by unfold aW;omega)
 .intro k hk
  have hw:aaV.wrap ((k:Int)+1)=((k+1:Nat):Int):=by rw[dj]<;>omega
  have hc:=nN hv (aaZ hk);have hq:=hv.len;simp only;rw[acU (by simp;omega),ai hk,aaU,ho _ (aaZ hk),aaU,hw];have hb:=IM (q:=q) (b:=((ch p i).take k).foldl (step o q) []) (c:=(ch p i)[k]) (o:=o) rfl (λx hx=>by have:=nN hv (qc.subset hx);omega) (by have:=(qc (l:=ch p i) (o:=o) (q:=q) (k:=k)).length_le;omega) ⟨hc.2.1,by omega⟩;simp only[aaU];rw[hb,aaU,List.take_succ_eq_append_getElem hk,List.foldl_append];rfl
 .simp only;rw[acT (by simp),abg];rfl
theorem vW{N:Nat}{o:Int->Int}{i:Int}(hN:20<=N)(ho:∀c,c∈ch p i->M.cI aW N p q a c=some (o c))(iY:∀c,c∈ch p i->M.cI aW (N+1) p q a c=some (o c)):M.dA aW (N+2) p q a i=some (rZ o (mR o q (ch p i))):=by
 unfold M.dA;rw[P2 hv ha hN ho,aaU];unfold rZ
 cases hb:mR o q (ch p i)with
 |nil=>simp
 |cons x b=>
  have hx:=(nM o q (ch p i)).sub.subset (show x∈mR o q (ch p i) by rw[hb];simp)
  have h1:¬((x::b).length:Int)=0:=by simp only[aa6];omega
  simp only[h1,decide_false,aa4,if_false,pV,aaU,xF];by_cases h2:1<((x::b).length:Int)
  .simp only[h2,decide_true,if_true];rw[acT (by omega)]
  .simp only[h2,decide_false,aa4,if_false];rw[iY x hx,acU (by simp only[aa6]at h1 h2⊢;omega)];rfl
theorem uf:∀(k N:Nat)(i:Int),8<k+i->0<=i->i<p.length->3*k+30<=N->M.cI aW N p q a i=some (out p q a k i)
 |0,N,i,h,_,h2,_=>by have:=hv.n8;omega
 |k+1,N,i,h,h0,h2,hN=>by
  obtain⟨N,rfl⟩:∃n,N=n+3:=⟨N-3,by omega⟩
  unfold M.cI;rw[vW hv ha (o:=out p q a k) (by omega) (λc hc=>?_) (λc hc=>?_),aaU,qb]
  .show _=some (if cout p q a k i= -1/\at' acR a i=acQ then i else cout p q a k i)
   show Option.bind (if decide (cout p q a k i= -1)=acQ then _ else _) _=_
   rw[kf acR h0 (by omega)];simp only[aaU];by_cases h1:cout p q a k i= -1
   .simp only[h1,decide_true,if_true,aaU,true_and];by_cases h3:at' acR a i=acQ
    .rw[acU h3,acU h3]
    .rw[acT h3,acT h3];exact ac0 some h1
   .simp only[h1,decide_false,aa4,if_false,aaU,false_and];rfl
  .have:=nN hv hc;exact uf k N c (by omega) (by omega) (by omega) (by omega)
  .have:=nN hv hc;exact uf k (N+1) c (by omega) (by omega) (by omega) (by omega)
theorem U1{N:Nat}{i:Int}(h0:0<=i)(h:i<p.length)(hN:90<=N):M.cI aW N p q a i=some (O p q a i):=uf hv ha 16 N i (by omega) h0 h (by omega)
theorem xH{N:Nat}{i:Int}(hN:100<=N):M.dA aW N p q a i=some (C p q a i):=by
 obtain⟨N,rfl⟩:∃n,N=n+2:=⟨N-2,by omega⟩
 refine vW hv ha (by omega) (λc hc=>?_) λc hc=>?_
 all_goals
  have:=nN hv hc;exact U1 hv ha (by omega) (by omega) (by omega)
end
theorem M3(p q:List Int)(a:List Bool):M.b8 aW p q a=M.gq aW p q a:=by
 rcases xG (N:=aW) (by unfold aW;omega) p q a with⟨h1,h2⟩|⟨hv,ha,h1,h2⟩
 .rw[h1,h2]
 .rw[h1,h2];exact(xH hv ha (N:=aW) (by unfold aW;omega)).symm
end L.S
end
namespace L
def Pl(n:Nat)(v:Int):Prop:=v= -1\/v= -2\/0<=v/\v<(n:Int)
theorem z6(p:List Int)(i:Int)(hl:p.length<=8):Wp (M.cO aW p i) λr=>r.length<=p.length/\∀x∈r,(0:Int)<=x/\x<(p.length:Int):=by
 unfold M.cO
 refine Wp.count (λs=>s.1) p.length (λk s=>s.2.length<=k/\∀x∈s.2,(0:Int)<=x/\x<(p.length:Int)) (by omega) rfl ⟨aaX _,λx h=>by cases h⟩ λk s hk hs hJ=>?_
 obtain⟨c,l⟩:=s;obtain⟨j1,j2⟩:=hJ;dsimp only at hs j1 j2;subst hs
 refine Wp.dec (λag=>?_) λhge=> .some ⟨by dsimp only;omega,j2⟩
 have ag:k<p.length:=by dsimp only at ag;omega
 dsimp only
 refine Wp.seq (λj=>j.length<=k+1/\∀x∈j,(0:Int)<=x/\x<(p.length:Int)) ?_ λj hj=> .some ⟨ag,bz (m:=p.length) (by omega) ag,hj⟩
 rw[ai ag,aaU]
 refine Wp.dec (λ_=>?_) λ_=> .some ⟨by omega,j2⟩
 rw[gr (by simp;omega),aaU];refine .some ⟨by simp;omega,λx hx=>?_⟩
 rcases aa9.1 hx with h|h
 .exact j2 x h
 .obtain rfl:x=(k:Int):=by simpa using h
  omega
theorem KN{p q r:List Int}(i:Int)(hl:p.length<=8)(hq:q.length=p.length)(hr:r.length=p.length):Wp (M.cX aW (p,(q,r)) i) λb=>∀x∈b,(0:Int)<=x/\x<(p.length:Int):=by
 unfold M.cX
 refine Wp.seq _ (z6 p i hl) λy hy=>?_
 obtain⟨y1,y2⟩:=hy
 refine Wp.count (λs=>s.1) y.length (λk s=>s.2.length<=k/\∀x∈s.2,(0:Int)<=x/\x<(p.length:Int)) (by omega) rfl ⟨aaX _,λx h=>by cases h⟩ λk s hk hs hJ=>?_
 obtain⟨c,l⟩:=s;obtain⟨j1,j2⟩:=hJ;dsimp only at hs j1 j2;subst hs
 refine Wp.dec (λag=>?_) λhge=> .some j2
 have ag:k<y.length:=by dsimp only at ag;omega
 dsimp only
 refine Wp.seq (λj=>j.length<=k+1/\∀x∈j,(0:Int)<=x/\x<(p.length:Int)) ?_ λj hj=> .some ⟨ag,bz (m:=y.length) (by omega) ag,hj⟩
 have hv:=y2 _ (aaZ ag);rw[ai ag,aaU];generalize y[k]=v at hv⊢
 have at_:∀{l:List Int}{u:Int},l.length=p.length->(0:Int)<=u/\u<(p.length:Int)->∃z,idx l u=some z:=λ{l u}h h'=>by
  obtain⟨z,hz,_⟩:=ub (l:=l) (i:=u) h'.1 (by omega);exact⟨z,hz⟩
 obtain⟨z1,e1⟩:=at_ hr hv;obtain⟨z2,e2⟩:=at_ hq hv
 have hd:∀{l:List Int},0<l.length->(∀x∈l,(0:Int)<=x/\x<(p.length:Int))->∃u z,idx l (0:Int)=some u/\idx q u=some z:=λ{l}h h'=>by
  obtain⟨u,hu,hm⟩:=ub (l:=l) (i:=0) (Int.le_refl _) (by omega);obtain⟨z,hz⟩:=at_ hq (h' u hm);exact⟨u,z,hu,hz⟩
 rw[e1,aaU]
 refine Wp.dec (λ_=> .some ⟨by omega,j2⟩) λ_=>?_
 refine Wp.seq (λj=>j.length<=k/\∀x∈j,(0:Int)<=x/\x<(p.length:Int)) ?_ λl6 h6=>?_
 .refine Wp.seq (λ_=>True) ?_ λj7 _=>?_
  .refine Wp.dec (λh=>?_) λ_=> .some trivial
   obtain⟨u,z,hu,hz⟩:=hd (l:=l) (by omega) j2;rw[e2,aaU,hu,aaU,hz];exact .some trivial
  .refine Wp.ite (λ_=>?_) λ_=> .some ⟨j1,j2⟩
   rw[pW (l:=l) (i:=0) (j:=0) 0 0 rfl rfl (aaX _) (Nat.zero_le _),aaU];exact .some ⟨by simp,by simp⟩
 .obtain⟨g1,g2⟩:=h6
  refine Wp.seq (λ_=>True) ?_ λoG _=>?_
  .refine Wp.dec (λ_=> .some trivial) λh=>?_
   obtain⟨u,z,hu,hz⟩:=hd (l:=l6) (by omega) g2;rw[e2,aaU,hu,aaU,hz];exact .some trivial
  .refine Wp.ite (λ_=>?_) λ_=> .some ⟨by omega,g2⟩
   rw[gr (by simp;omega),aaU];refine .some ⟨by simp;omega,λx hx=>?_⟩
   rcases aa9.1 hx with h|h
   .exact g2 x h
   .obtain rfl:x=v:=by simpa using h
    exact hv
theorem Dj{p q r:List Int}(i:Int)(hl:p.length<=8)(hq:q.length=p.length)(hr:r.length=p.length)(hp:∀x∈r,Pl p.length x):Wp (M.bC aW (p,(q,r)) i) (Pl p.length):=by
 unfold M.bC
 refine Wp.seq _ (KN i hl hq hr) λb hb=>?_
 refine Wp.dec (λ_=> .some (.inl rfl)) λh0=>?_
 refine Wp.dec (λh1=>?_) λ_=> .some (.inr (.inl rfl))
 obtain⟨u,hu,hm⟩:=ub (l:=b) (i:=0) (Int.le_refl _) (by omega);have:=hb u hm;obtain⟨z,hz,ZP⟩:=ub (l:=r) (i:=u) this.1 (by omega);rw[hu,aaU];dsimp only;rw[hz,aaU];exact .some (hp z ZP)
theorem z7{α:Type}{l:List α}{i:Int}{y x:α}(h:x∈bF l i y):x∈l\/x=y:=by
 unfold bF at h;exact List.mem_or_eq_of_mem_set h
theorem KO{p q:List Int}{a:List Bool}(hl:p.length<=8)(hq:q.length=p.length)(ha:a.length=p.length):Wp (M.di aW p q a) λr=>r.length=p.length/\∀x∈r,Pl p.length x:=by
 unfold M.di;rw[wp_bind];refine mB.2 ⟨by omega,?_⟩;rw[aa3]
 have hw:∀n:Nat,n<=8->aaV.wrap ((n:Int)-1)=(n:Int)-1:=λn h=>dj (by omega) (by omega)
 refine Wp.loop (λs=>(∃k:Nat,s.1=(k:Int)-1/\k<=p.length)/\s.2.length=p.length/\∀x∈s.2,Pl p.length x) (λs=>(s.1+1).toNat) ⟨⟨p.length,hw _ hl,aaX _⟩,by simp,λx hx=>?_⟩ ?_ ?_
 .rw[List.mem_replicate]at hx;exact .inr (.inr ⟨by omega,by omega⟩)
 .dsimp only;rw[hw _ hl];unfold aW;omega
 .rintro⟨c,l⟩ ⟨⟨k,hk,Je⟩,j1,j2⟩
  dsimp only at hk j1 j2;subst hk
  refine Wp.dec (λag=>?_) λhge=> .some ⟨j1,j2⟩
  obtain⟨m,rfl⟩:∃m,k=m+1:=⟨k-1,by dsimp only at ag;omega⟩
  have hm:(((m+1:Nat):Int)-1)=(m:Int):=by omega
  rw[hm]
  have I4:m<p.length:=by omega
  dsimp only
  refine Wp.seq (λj=>j.length=p.length/\∀x∈j,Pl p.length x) ?_ λj hj=> .some ⟨⟨⟨m,by rw[hw _ (by omega)],by omega⟩,hj⟩,by dsimp only;rw[hw _ (by omega)];omega⟩
  refine Wp.seq _ (Dj (m:Int) hl hq j1 j2) λv hv=>?_
  have s1:(bF l (m:Int) v).length=p.length:=by rw[cz];exact j1
  have s2:∀x∈bF l (m:Int) v,Pl p.length x:=λx hx=>by
   rcases z7 hx with h|rfl
   .exact j2 x h
   .exact hv
  rw[ai (show m<l.length by omega),aaU]
  refine Wp.seq (λ_=>True) ?_ λj6 _=>?_
  .rw[ai (show m<(bF l (m:Int) v).length by omega),aaU]
   refine Wp.dec (λ_=>?_) λ_=> .some trivial
   rw[ai (show m<a.length by omega),aaU];exact .some trivial
  .refine Wp.ite (λ_=>?_) λ_=> .some ⟨s1,s2⟩
   rw[ai (show m<(bF l (m:Int) v).length by omega),aaU];refine .some ⟨by rw[cz];exact s1,λx hx=>?_⟩
   rcases z7 hx with h|rfl
   .exact s2 x h
   .exact .inr (.inr ⟨by omega,by omega⟩)
theorem Fs(p q:List Int)(a:List Bool)(hp:p.length<=100000):Wp (M.b8 aW p q a) (Pl p.length):=by
 unfold M.b8
 have hV:Wp (M.cy aW p q) λc=>c=0->p.length<=8/\q.length=p.length:=by
  unfold M.cy
  refine Wp.mA (λ_=> .some λh=>by cases h) λh1=>?_
  refine Wp.dec (λ_=> .some λh=>by cases h) λh2=>?_
  have hq:q.length=p.length:=by omega
  refine Wp.count (λs=>s) p.length (λ_ _=>True) (by omega) rfl trivial λk s hk hs _=>?_
  obtain rfl:s=_:=hs
  refine Wp.dec (λag=>?_) λhge=> .some λ_=>⟨by omega,hq⟩
  have ag:k<p.length:=by omega
  rw[ai ag,aaU]
  refine Wp.seq (λ_=>True) (Wp.dec (λ_=> .some trivial) λ_=> .some trivial) λj3 _=>?_
  refine Wp.ite (λ_=> .some λh=>by cases h) λ_=>?_
  refine Wp.seq (λ_=>True) ?_ λj4 _=>?_
  .rw[ai (show k<q.length by omega),aaU]
   exact Wp.dec (λ_=> .some trivial) λ_=> .some trivial
  .exact Wp.ite (λ_=> .some λh=>by cases h) λ_=> .some ⟨ag,bz (m:=p.length) (by omega) ag,trivial⟩
 refine Wp.seq (λj=>j=acR->p.length<=8/\q.length=p.length/\a.length=p.length) ?_ λj hj=>?_
 .refine Wp.seq _ hV λc hc=>?_
  refine Wp.mA (λ_=> .some λh=>by cases h) λh=> .some λg=>?_
  obtain⟨h1,h2⟩:=hc h;refine⟨h1,h2,?_⟩
  have:(a.length:Int)=(p.length:Int):=by simpa using g
  omega
 .cases j with
  |true=>rw[acU rfl];exact .some (.inl rfl)
  |false=>
   obtain⟨h1,h2,h3⟩:=hj rfl;rw[acT (by decide)]
   refine Wp.seq _ (KO h1 h2 h3) λr hr=>?_
   rw[wp_bind]
   exact(Dj (-1) h1 h2 hr.1 hr.2).mono λy hy=> .some hy
abbrev qd:Type:=List aa.den
theorem IQ(a b:qd)(hl:a.length<=100000):M.bj aW a b=some (decide (a=b)):=by
 unfold M.bj;refine Wp.eq (Wp.mA (λh=> .some ?_) λh=>?_)
 .exact(acX λe=>h (by rw[e])).symm
 .have h:a.length=b.length:=by omega
  refine Wp.count (λs=>s) a.length (λk _=>∀i,∀h1:i<a.length,∀h2:i<b.length,i<k->a[i]=b[i]) (by omega) rfl (λi _ _ hi=>absurd hi (by omega)) λk s hk hs hJ=>?_
  subst hs;refine .dec (λag=>?_) (λhge=> .some ?_)
  .have ag:k<a.length:=by omega
   refine .bind (.idx k rfl ag (.bind (.idx k rfl (by omega) (.ite (λh1=> .some ?_) (λh1=> .some ⟨ag,aQ (by omega),λi sI um hi=>?_⟩)))))
   .have h1:lz aa a[k] (b[k]'(by omega))=acR:=by simpa using h1
    have h1:=qh.1 h1;exact(acX λe=>h1 (by simp only[e])).symm
   .rcases abd.1 hi with hi|rfl
    .exact hJ i sI um hi
    .exact kl.1 (by simpa using h1)
  .have:k=a.length:=by omega
   subst this;exact(acW (List.ext_getElem h λi h1 h2=>hJ i h1 h2 h1)).symm
theorem Dk(a b:qd)(hl:a.length<=100000):M.jl aW a b=some (decide (a=b)):=by
 unfold M.jl;refine Wp.eq (Wp.mA (λh=> .some ?_) λh=>?_)
 .exact(acX λe=>h (by rw[e])).symm
 .have h:a.length=b.length:=by omega
  refine Wp.count (λs=>s) a.length (λk _=>∀i,∀h1:i<a.length,∀h2:i<b.length,i<k->a[i]=b[i]) (by omega) rfl (λi _ _ hi=>absurd hi (by omega)) λk s hk hs hJ=>?_
  subst hs
  refine Wp.seq (λj=>j=decide (k<a.length)) (.dec (λh1=> .some ?_) (λh1=> .some ?_)) λj hj=>?_
  .exact decide_eq_decide.2 (by omega)
  .exact(acX (by omega)).symm
  .subst hj;refine .dec (λag=>?_) (λhge=> .some ?_)
   .refine .bind (.idx k rfl ag (.bind (.idx k rfl (by omega) (.ite (λh1=> .some ?_) (λh1=> .some ⟨ag,aQ (by omega),λi sI um hi=>?_⟩)))))
    .have h1:lz aa a[k] (b[k]'(by omega))=acR:=by simpa using h1
     have h1:=qh.1 h1;exact(acX λe=>h1 (by simp only[e])).symm
    .rcases abd.1 hi with hi|rfl
     .exact hJ i sI um hi
     .exact kl.1 (by simpa using h1)
   .have:k=a.length:=by omega
    subst this;exact(acW (List.ext_getElem h λi h1 h2=>hJ i h1 h2 h1)).symm
def eK(g:qd)(C:List qd):Int:=mE (λx=>decide (x=g)) C
theorem Ft(C:List qd)(g:qd)(hC:C.length<=100000)(hl:∀x∈C,x.length<=100000):M.dh aW C g=some (eK g C):=by
 unfold M.dh eK;refine p4 (by unfold maxLen;omega) (λk h=>?_) ?_
 .rw[fA h,acU rfl,ai h,aaU,IQ _ _ (hl _ (aaZ h)),aaU]
 .simp only[cU,decide_false,aa4,if_false]
theorem z8(C:List qd)(g:qd)(hC:C.length<=100000)(hl:∀x∈C,x.length<=100000):M.kN aW C g=some (eK g C):=by
 unfold M.kN eK;refine p4 (by unfold maxLen;omega) (λk h=>?_) ?_
 .rw[fA h,acU rfl,ai h,aaU,Dk _ _ (hl _ (aaZ h)),aaU]
 .simp only[cU,decide_false,aa4,if_false]
theorem ug{g:qd}{C X:List qd}(h:0<=eK g C):eK g (C++X)=eK g C:=by
 obtain⟨x,hx,hp⟩:=ik.1 h;unfold eK mE;have h1:C.findIdx (λx=>decide (x=g))<C.length:=List.findIdx_lt_length.2 ⟨x,hx,hp⟩;rw[List.findIdx_append,acU h1,acU h1,acU (by simp;omega)]
theorem uh{g:qd}{C:List qd}(h:¬0<=eK g C):eK g (C++[g])=(C.length:Int):=by
 refine sz (by simp) (by simp) λj hj I7=>?_
 rw[List.getElem_append_left hj]
 exact acX λe=>h (ik.2 ⟨_,aaZ hj,by rw[e];simp⟩)
def gd(rules:List iv)(i:Nat):qd:=match rules[i]? with
 |some r=>r.2.2.2.2.2.1
 |none=>[]
def c7(rules:List iv)(s:List qd×List Int)(i:Nat):List qd×List Int:=if(gd rules i).length=0 then s else if 0<=eK (gd rules i) s.1 then s else(s.1++[gd rules i],s.2++[(i:Int)])
def gz(rules:List iv)(C:List qd)(i:Nat):Int:=if(gd rules i).length=0 then-1 else eK (gd rules i) C
theorem rj(rules:List iv)(T:List Nat):∀s:List qd×List Int,∃X,(T.foldl (c7 rules) s).1=s.1++X/\(T.foldl (c7 rules) s).1.length<=s.1.length+T.length:=by
 induction T with
 |nil=>exact λs=>⟨[],by simp,by simp⟩
 |cons i T ih=>
  intro s;obtain⟨X,hX,hl⟩:=ih (c7 rules s i)
  have:∃Y,(c7 rules s i).1=s.1++Y/\Y.length<=1:=by
   unfold c7;split
   .exact⟨[],by simp,by simp⟩
   .split
    .exact⟨[],by simp,by simp⟩
    .exact⟨[gd rules i],rfl,by simp⟩
  obtain⟨Y,hY,hYl⟩:=this;rw[abN];refine⟨Y++X,by rw[hX,hY,abm],?_⟩;rw[hY]at hl;simp only[aba,aa6]at hl⊢;omega
theorem vX(rules:List iv)(s:List qd×List Int)(i:Nat)(h:(gd rules i).length≠0):0<=eK (gd rules i) (c7 rules s i).1:=by
 unfold c7;rw[acT h];split
 .assumption
 .rename_i g
  show 0<=eK _ (s.1++[_])
  rw[uh g];omega
theorem B6(rules:List iv)(s:List qd×List Int)(T:List Nat)(i:Nat)(h:(gd rules i).length≠0->0<=eK (gd rules i) s.1):gz rules (T.foldl (c7 rules) s).1 i=gz rules s.1 i:=by
 unfold gz;by_cases g:(gd rules i).length=0
 .rw[acU g,acU g]
 .rw[acT g,acT g];obtain⟨X,hX,_⟩:=rj rules T s;rw[hX,ug (h g)]
theorem vY(rules:List iv)(T:List Nat):∀s:List qd×List Int,∀i∈T,(gd rules i).length≠0->0<=eK (gd rules i) (T.foldl (c7 rules) s).1:=by
 induction T with
 |nil=>intro s i hi;simp at hi
 |cons j T ih=>
  intro s i hi h;rw[abN]
  rcases aa7.1 hi with rfl|hi
  .obtain⟨X,hX,_⟩:=rj rules T (c7 rules s i);rw[hX,ug (vX rules s i h)];exact vX rules s i h
  .exact ih _ i hi h
theorem Fu(rules:List iv)(T:List Nat):∀s:List qd×List Int,∀x∈(T.foldl (c7 rules) s).1,x∈s.1\/∃i,x=gd rules i:=by
 induction T with
 |nil=>exact λs x hx=> .inl hx
 |cons j T ih=>
  intro s x hx;rw[abN]at hx
  rcases ih _ x hx with h|h
  .unfold c7 at h;split at h
   .exact .inl h
   .split at h
    .exact .inl h
    .rcases aa9.1 h with h|h
     .exact .inl h
     .exact .inr ⟨j,aa5.1 h⟩
  .exact .inr h
end L
namespace L
def bt(c b:Int):Bool:=decide (au .and .i64 (cd .i64 c b) 1=1)
def flag(c b:Int):Bool:=if b<0 then acQ else bt c b
theorem IR{c b:Int}(h:0<=b):DQ .i64 c b=some (cd .i64 c b):=by unfold DQ;rw[acT (by omega)]
noncomputable def Aa(p q:List Int)(a:List Bool):Int:=(M.b8 aW p q a).getD 0
theorem ui(p q:List Int)(a:List Bool)(hp:p.length<=100000):M.b8 aW p q a=some (Aa p q a)/\Pl p.length (Aa p q a):=(Fs p q a hp).getD 0
def Ls(T:List Int)(s:Int):Int:=if 0<=s then(T[s.toNat]?).getD 0 else s
noncomputable def oc(T p q B:List Int)(c:Int):Int:=Ls T (Aa p q (B.map (flag c)))
theorem xI{T:List Int}{s:Int}(h0:0<=s)(h1:s<(T.length:Int)):idx T s=some (Ls T s):=by
 obtain⟨k,rfl⟩:=aa8 h0
 have hk:k<T.length:=by omega
 rw[ai hk];unfold Ls;rw[acU h0,aa3,aaW hk];rfl
theorem Fv{T p q B:List Int}{n:Nat}(hn:n<=8)(hT:T.length<=100000)(hp:p.length=T.length)(hB:B.length=T.length):M.bM aW T p q B (n:Int)=some ((aa2 (2 ^ n)).map λc:Nat=>oc T p q B (c:Int)):=by
 have h8:=rc hn;unfold M.bM;rw[oq (by omega),aaU]
 have PY:((2 ^ n:Nat):Int)<=4294967296:=by have:((2 ^ n:Nat):Int)<=256:=by exact_mod_cast h8
                                           exact Int.le_trans this (by decide)
 refine Wp.eq (.bind (mB.2 ⟨⟨Int.natCast_nonneg _,PY⟩, .bind (mB.2 ⟨by omega,?_⟩)⟩));rw[aa3,aa3];generalize hK:2 ^ n=K at*
 have pG:∀{α:Type}(m:Nat)(z:α),abn m z=(aa2 m).map λ_=>z:=λm z=>by
  apply List.ext_getElem (by simp);intro i h1 h2;simp
 refine Wp.count (λs=>s.1) K (λc s=>s.2.1=((aa2 K).map λj:Nat=>if j<c then oc T p q B (j:Int)else 0)/\s.2.2.length=T.length) (by omega) rfl ⟨by rw[pG];simp,by simp⟩ λc s hc hs hJ=>?_
 obtain⟨cc,out,fl⟩:=s;obtain⟨rfl,Nq⟩:=hJ;dsimp only at hs Nq⊢;subst hs;rw[List.length_replicate];refine .dec (λh=>?_) (λh=> .some ?_)
 .have ag:c<K:=by omega
  refine Wp.seq (λs=>s.1=((aa2 K).map λj:Nat=>if j<c+1 then oc T p q B (j:Int)else 0)/\s.2.length=T.length) ?_ λj hj=> .some ⟨ag,aQ (by omega),hj⟩
  refine Wp.seq (λs=>s.1=((aa2 K).map λj:Nat=>if j<c+1 then oc T p q B (j:Int)else 0)/\s.2.length=T.length) ?_ λj hj=> .some hj
  refine Wp.seq (λf=>f=B.map (flag (c:Int))) ?_ λf hf=>?_
  .refine Wp.count (λs=>s.1) B.length (λk s=>s.2.length=B.length/\∀i,∀h:i<s.2.length,∀h2:i<B.length,i<k->s.2[i]=flag (c:Int) B[i]) (by omega) rfl ⟨by rw[Nq,hB],λi _ _ hi=>absurd hi (by omega)⟩ λk s hk hs hJ=>?_
   obtain⟨kk,f⟩:=s;obtain⟨g1,g2⟩:=hJ;dsimp only at hs g1 g2⊢;subst hs;refine .dec (λh=>?_) (λh=> .some ?_)
   .have Je:k<B.length:=by omega
    have lY:∀v:Bool,v=flag (c:Int) B[k]->(bF f (k:Int) v).length=B.length/\∀i,∀h:i<(bF f (k:Int) v).length,∀h2:i<B.length,i<k+1->(bF f (k:Int) v)[i]=flag (c:Int) B[i]:=λv hv=>by
     refine⟨by rw[cz];exact g1,λi h h2 hi=>?_⟩;simp only[bF,aa3,List.getElem_set];by_cases e:k=i
     .subst e;rw[acU rfl,hv]
     .rw[acT e];exact g2 i (by omega) h2 (by omega)
    refine Wp.seq (λs=>s.length=B.length/\∀i,∀h:i<s.length,∀h2:i<B.length,i<k+1->s[i]=flag (c:Int) B[i]) (.bind (.idx k rfl Je ?_)) λj hj=> .some ⟨Je,aQ (by omega),hj⟩
    refine .dec (λh=> .bind (.idx k rfl (by omega) (.some (lY _ ?_)))) (λh=> .bx (IR (by omega)) (.bind (.idx k rfl (by omega) (.some (lY _ ?_)))))
    .unfold flag;rw[acU h]
    .unfold flag;rw[acT h];rfl
   .have:k=B.length:=by omega
    subst this
    refine List.ext_getElem (by rw[g1,ab0]) λi h1 h2=>?_
    have um:i<B.length:=by simpa using h2
    rw[g2 i h1 um um,List.getElem_map]
  .subst hf;obtain⟨hs,hr⟩:=ui p q (B.map (flag (c:Int))) (by omega);refine .bx hs ?_
   have lY:∀v:Int,v=oc T p q B (c:Int)->bF ((aa2 K).map λj:Nat=>if j<c then oc T p q B (j:Int)else 0) (c:Int) v=((aa2 K).map λj:Nat=>if j<c+1 then oc T p q B (j:Int)else 0):=λv hv=>by
    unfold bF;rw[aa3,jB]
    refine List.map_congr_left λy hy=>?_
    by_cases e:y=c
    .subst e;rw[acU rfl,acU (by omega),hv]
    .rw[acT e];by_cases g:y<c
     .rw[acU g,acU (by omega)]
     .rw[acT g,acT (by omega)]
   have Fw:oc T p q B (c:Int)=Ls T (Aa p q (B.map (flag (c:Int)))):=rfl;generalize Aa p q (B.map (flag (c:Int)))=v at hr Fw⊢;unfold Pl at hr
   refine Wp.seq (λj=>j=acQ↔0<=v) (.dec (λh=> .some ?_) (λh=> .some ⟨λh=>(by cases h),λg=>absurd g h⟩)) λj hj=> .ite (λh=>?_) (λh=>?_)
   .rw[ac1];exact⟨λ_=>h,λ_=>by omega⟩
   .have hv:=hj.1 h;refine .bx (xI hv (by omega)) (.bind (xz ag (.some ⟨lY _ Fw.symm,by rw[ab0];omega⟩)))
   .have hv:¬0<=v:=λg=>h (hj.2 g)
    refine .bind (xz ag (.some ⟨lY _ (by rw[Fw];unfold Ls;rw[acT hv]),by rw[ab0];omega⟩))
 .have:c=K:=by omega
  subst this
  refine List.map_congr_left λy hy=>?_
  rw[acU (abo.1 hy)]
noncomputable def mn(l:List Int)(n:Nat):List (Int×Int):=Fp (FL (n:Int)) (λx=>(x:Int)∈l) (dc l)
theorem pk{k:Nat}{mem:Nat->Bool}:∀{l:List (Nat×Nat)}{cov:Nat->Bool},(eJ k mem cov l).length<=l.length
 |[],_=>aaX _
 |p::l,cov=>by
  rw[ln];split
  .have:=pk (k:=k) (mem:=mem) (l:=l) (cov:=λx=>cov x||decide (x&&& p.1=p.2));simp only[aa6];omega
  .have:=pk (k:=k) (mem:=mem) (l:=l) (cov:=cov);simp only[aa6];omega
theorem B7(l:List Int)(n:Nat):(mn l n).length<=65536:=by
 have hn:=BZ (n:Int);have h8:=rc hn;unfold mn Fp;refine abi pk ?_;generalize FL (n:Int)=n at*
 have:=oo (A:=((Pt n).filter (uP n λx=>(x:Int)∈l)).map λp=>p.1*256+p.2) (B:=aa2 65536) ?_ λx hx=>?_
 .simpa using this
 .rw[List.Nodup,List.pairwise_map];refine List.Pairwise.imp_of_mem (λ{p q}hp hq ag e=>?_) ((rh n).filter _);have h1:=(nL hn).1 (abw.1 hp).1;have h2:=(nL hn).1 (abw.1 hq).1
  have h3:p.2<=p.1:=by rw[<-h1.2];exact Nat.and_le_right
  have h4:q.2<=q.1:=by rw[<-h2.2];exact Nat.and_le_right
  have h5:p.1=q.1/\p.2=q.2:=by omega
  rw[h5.1,h5.2]at ag;exact mU.irrefl _ ag
 .obtain⟨p,hp,rfl⟩:=List.mem_map.1 hx;have h1:=(nL hn).1 (abw.1 hp).1
  have h3:p.2<=p.1:=by rw[<-h1.2];exact Nat.and_le_right
  exact abo.2 (by omega)
def sA(O:List Int)(v:Int):List Int:=ids (λk=>decide (O[k]? =some v)) O.length
noncomputable def dw(O:List Int)(n:Nat)(v:Int):List zU:=if(sA O v).length=0 then[]else(mn (sA O v) n).map λp=>(p,v)
theorem pn(O:List Int)(n:Nat)(v:Int):(dw O n v).length<=65536:=by
 unfold dw;split
 .simp
 .rw[ab0];exact B7 _ _
theorem Fx{O T:List Int}{n:Nat}(hO:O.length<=100000)(hT:T.length<=1000):M.eC aW O T (n:Int)=some (([-2,-1]++T).flatMap (dw O n)):=by
 unfold M.eC;refine Wp.eq (.bind (.rD (by simp;omega) ?_))
 have hL:([(-2:Int),-1]++T).length<=1002:=by simp;omega
 generalize([(-2:Int),-1]++T)=L at hL⊢
 refine Wp.count (λs=>s.1) L.length (λk s=>s.2=(L.take k).flatMap (dw O n)/\s.2.length<=k*65536) (by omega) rfl ⟨rfl,aaX _⟩ λk s hk hs hJ=>?_
 obtain⟨kk,acc⟩:=s;obtain⟨g1,g2⟩:=hJ;dsimp only at hs g1 g2⊢;subst hs;refine .dec (λh=>?_) (λh=> .some ?_)
 .have ag:k<L.length:=by omega
  have cY:(L.take (k+1)).flatMap (dw O n)=(L.take k).flatMap (dw O n)++dw O n L[k]:=by
   rw[<-abq ag,List.flatMap_append];simp
  have PW:=pn O n L[k]
  refine Wp.seq (λs=>s=acc++dw O n L[k]) ?_ λj hj=> .some ⟨ag,aQ (by omega),by rw[cY,<-g1];exact hj,by show j.length<=_;rw[hj,aba];omega⟩
  refine Wp.seq (λs=>s=acc++dw O n L[k]) (.bind (.idx k rfl ag ?_)) λj hj=> .some hj
  refine Wp.seq (λj=>j=sA O L[k]) ?_ λj hj=>?_
  .refine Wp.count (λs=>s.1) O.length (λi s=>s.2=ids (λz=>decide (O[z]? =some L[k])) i) (by omega) rfl rfl λi s hi hs hJ=>?_
   obtain⟨ii,l⟩:=s;dsimp only at hs hJ⊢;subst hs hJ;refine .dec (λh=>?_) (λh=> .some ?_)
   .have rE:i<O.length:=by omega
    have hl:=mH (λz=>decide (O[z]? =some L[k])) i
    refine Wp.seq (λs=>s=ids (λz=>decide (O[z]? =some L[k])) (i+1)) (.bind (.idx i rfl rE ?_)) λj hj=> .some ⟨rE,aQ (by omega),hj⟩
    rw[kT,aaW rE];refine .dec (λh=> .bind (.rD (by simp;omega) (.some ?_))) (λh=> .some ?_)
    .rw[acU (by simp[h])]
    .rw[acT (by simpa using h),List.append_nil]
   .have:i=O.length:=by omega
    subst this;rfl
  .subst hj;have I6:=mH (λz=>decide (O[z]? =some L[k])) O.length;refine .dec (λh=> .some ?_) (λh=> .bx (IC (l:=sA O L[k]) (by unfold sA;omega) (n:Int)) ?_)
   .have:(sA O L[k]).length=0:=by exact_mod_cast h
    unfold dw;rw[acU this,List.append_nil]
   .have cA:¬(sA O L[k]).length=0:=λg=>h (by rw[g];rfl)
    have hr:dw O n L[k]=(mn (sA O L[k]) n).map λp=>(p,L[k]):=by unfold dw;rw[acT cA]
    have I4:=B7 (sA O L[k]) n;rw[hr]
    show Wp (Loop _ aW _) _
    change Wp (Loop (S:=Int×List af.den) (X:=List af.den) (λtL=>
     (if(decide (tL.1<((mn (sA O L[k]) n).length:Int)))=acQ then
     (idx (mn (sA O L[k]) n) tL.1).bind λrU=>
     (bK tL.2 ([(rU,L[k])]:List af.den)).bind λPs=>
     some (Sum.inl (aaV.wrap (tL.1+(1:Int)),Ps))
     else
     some (Sum.inr tL.2))) aW ((0:Int),acc)) _
    generalize mn (sA O L[k]) n=ps at I4⊢
    refine Wp.count (λs=>s.1) ps.length (λi s=>s.2=acc++(ps.take i).map λp=>(p,L[k])) (by omega) rfl (by simp) λi s hi hs hJ=>?_
    obtain⟨ii,l⟩:=s;dsimp only at hs hJ⊢;subst hs hJ;refine .dec (λh=>?_) (λh=> .some ?_)
    .have rE:i<ps.length:=by omega
     refine .bind (.idx i rfl rE (.bind (.rD (by simp;omega) (.some ⟨rE,aQ (by omega),?_⟩))))
     show _=acc++(ps.take (i+1)).map _
     rw[<-abq rE,ab6,abm];rfl
    .have:i=ps.length:=by omega
     subst this
     show acc++_=_
     rw[abg]
 .have:k=L.length:=by omega
  subst this;rw[abg]at g1;exact g1
end L
namespace L
def TN(rules:List iv)(a d:Int):List Nat:=fT (kp rules (xC a d)) rules.length
def CS(rules:List iv)(a d:Int):List qd×List Int:=(TN rules a d).foldl (c7 rules) ([],[])
def BB(rules:List iv)(a d:Int):List Int:=(TN rules a d).map (gz rules (CS rules a d).1)
noncomputable def OO(rules:List iv)(a d:Int):List Int:=(aa2 (2 ^ (CS rules a d).1.length)).map λc:Nat=>oc (fC rules a d) (gy rules a d) (jR rules a d) (BB rules a d) (c:Int)
noncomputable def RR(rules:List iv)(a d:Int):List zU:=([-2,-1]++fC rules a d).flatMap (dw (OO rules a d) (CS rules a d).1.length)
theorem IS{rules:List iv}{a d:Int}:∀i∈TN rules a d,i<rules.length:=λi hi=>abo.1 (abw.1 hi).1
theorem ou(rules:List iv)(a d:Int):fC rules a d=(TN rules a d).map λi:Nat=>(i:Int):=rfl
structure Fit(rules:List iv)(a d:Int):Prop where
 len:rules.length<=60
 g:∀r∈rules,r.2.2.2.2.2.1.length<=100000
 t8:(TN rules a d).length<=8
theorem Fit.gd{rules:List iv}{a d:Int}(h:Fit rules a d)(i:Nat):(gd rules i).length<=100000:=by
 unfold L.gd
 cases e:rules[i]? with
 |none=>simp
 |some r=>exact h.g r (List.mem_of_getElem? e)
theorem Fit.conds{rules:List iv}{a d:Int}(h:Fit rules a d)(T:List Nat):∀x∈(T.foldl (c7 rules) ([],[])).1,x.length<=100000:=λx hx=>by
 rcases Fu rules T _ x hx with g|⟨i,rfl⟩
 .simp at g
 .exact h.gd i
theorem Fit.M4{rules:List iv}{a d:Int}(h:Fit rules a d)(k:Nat):(((TN rules a d).take k).foldl (c7 rules) ([],[])).1.length<=8:=by
 obtain⟨_,_,hl⟩:=rj rules ((TN rules a d).take k) ([],[]);have:=h.t8;simp only[abS,abb]at hl;omega
theorem Fit.n8{rules:List iv}{a d:Int}(h:Fit rules a d):(CS rules a d).1.length<=8:=by
 have:=h.M4 (TN rules a d).length;rw[abg]at this;exact this
theorem xJ(rules:List iv)(T:List Nat):∀s:List qd×List Int,(T.foldl (c7 rules) s).2.length<=s.2.length+T.length:=by
 induction T with
 |nil=>intro s;simp
 |cons i T ih=>
  intro s;rw[abN];have h1:=ih (c7 rules s i)
  have h2:(c7 rules s i).2.length<=s.2.length+1:=by
   unfold c7;split
   .omega
   .split
    .omega
    .simp
  simp only[aa6];omega
theorem IT(x:qd)(hl:x.length<=100000):M.bk aW x=some x:=by
 unfold M.bk;rw[gr (by simp;omega)];simp only[List.nil_append,aaU]
 cases x with
 |nil=>show yS _ _=_;unfold yS;rw[acU rfl]
 |cons a x=>rfl
theorem fold_succ{rules:List iv}{T:List Nat}{k:Nat}(h:k<T.length)(s:List qd×List Int):(T.take (k+1)).foldl (c7 rules) s=c7 rules ((T.take k).foldl (c7 rules) s) T[k]:=by
 rw[<-abq h,List.foldl_append];rfl
theorem IU{rules:List iv}{i:Nat}(h:i<rules.length):gd rules i=rules[i].2.2.2.2.2.1:=by unfold gd;rw[aaW h]
theorem KP{rules:List iv}{a d:Int}(h:Fit rules a d):M.bM aW (fC rules a d) (gy rules a d) (jR rules a d) (BB rules a d) ((CS rules a d).1.length:Int)=some (OO rules a d):=by
 have hl:(fC rules a d).length=(TN rules a d).length:=by rw[ou];simp
 exact Fv h.n8 (by have:=h.t8;omega) (by rw[hl];unfold gy TN;simp) (by rw[hl];unfold BB;simp)
theorem P3{rules:List iv}{a d:Int}(h:Fit rules a d):M.eC aW (OO rules a d) (fC rules a d) ((CS rules a d).1.length:Int)=some (RR rules a d):=by
 have hl:(fC rules a d).length=(TN rules a d).length:=by rw[ou];simp
 have h8:=rc h.n8;exact Fx (by unfold OO;simp;omega) (by have:=h.t8;omega)
theorem vZ{l:Lw}{x:jZ}{a1 a2 a3:Int}(hv:M.eV aW l=some ((0:Int),((0:Int),((0:Int),(0:Int)))))(h1:0<=a1)(sI:a1<(l.2.2.length:Int))(hx:idx l.2.2 a1=some x)(h2:0<=a2)(um:a2<(x.2.2.2.1.length:Int))(h3:0<=a3)(V7:a3<=109572)
 (hf:Fit x.2.2.2.2 a2 a3):M.bY aW l a1 a2 a3=some (a2,(0:Int),(CS x.2.2.2.2 a2 a3).1,(CS x.2.2.2.2 a2 a3).2,RR x.2.2.2.2 a2 a3):=by
 unfold M.bY;rw[hv,aaU];refine Wp.eq (.ite (λh=>?_) λ_=>?_)
 .rw[kl.2 rfl]at h;cases h
 refine Wp.seq (λj=>j=acR) (.dec (λh=>absurd h1 (by omega)) λ_=> .some (acX (by omega))) λj hj=>?_
 subst hj
 refine .ite (λh=>(by cases h)) λ_=> .bx hx ?_
 refine Wp.seq (λj=>j=acR) (.dec (λh=>absurd h2 (by omega)) λ_=> .some (acX (by omega))) λj hj=>?_
 subst hj
 refine .ite (λh=>(by cases h)) λ_=>?_
 refine Wp.seq (λj=>j=acR) (.dec (λh=>absurd h3 (by omega)) λ_=> .some (acX (by omega))) λj hj=>?_
 subst hj
 refine .ite (λh=>(by cases h)) λ_=> .bx (Fq x a2 a3 (by have:=hf.len;omega)) ?_
 have QM:=IS (rules:=x.2.2.2.2) (a:=a2) (d:=a3);have M5:=KP hf;have P4:=P3 hf;have Nz:CS x.2.2.2.2 a2 a3=(TN x.2.2.2.2 a2 a3).foldl (c7 x.2.2.2.2) ([],[]):=rfl;have U2:BB x.2.2.2.2 a2 a3=(TN x.2.2.2.2 a2 a3).map (gz x.2.2.2.2 (CS x.2.2.2.2 a2 a3).1):=rfl;have Fy:=ou x.2.2.2.2 a2 a3
 have rE:(fC x.2.2.2.2 a2 a3).length=(TN x.2.2.2.2 a2 a3).length:=by rw[Fy];simp
 have Bx:=hf.M4;have Jk:=hf.conds;have Mi:=hf.gd;have ZQ:=hf.t8;have PW:=hf.len;generalize x.2.2.2.2=rules at*;dsimp only;refine .bind (mB.2 ⟨by omega,?_⟩);rw[rE]
 refine Wp.seq (λj=>j=(a2,BB rules a2 a3,(CS rules a2 a3).1,(CS rules a2 a3).2)) ?_ λj hj=>?_
 .refine Wp.count (λs=>s.1) (TN rules a2 a3).length (λk s=>s.2.1=a2/\(s.2.2.2.1,s.2.2.2.2)=((TN rules a2 a3).take k).foldl (c7 rules) ([],[])/\s.2.2.1.length=(TN rules a2 a3).length/\∀i,∀h:i<s.2.2.1.length,∀h2:i<(TN rules a2 a3).length,i<k->s.2.2.1[i]=gz rules s.2.2.2.1 (TN rules a2 a3)[i]) (by omega) rfl ⟨rfl,rfl,by simp,λi _ _ hi=>absurd hi (by omega)⟩ λk s hk hs hJ=>?_
  obtain⟨kk,a',bits,C,O⟩:=s;obtain⟨g1,g2,g3,g4⟩:=hJ;dsimp only at hs g1 g2 g3 g4⊢;subst hs g1;refine .dec (λh=>?_) (λh=> .some ?_)
  .have ag:k<(TN rules a' a3).length:=by omega
   have hb:=QM _ (aaZ ag)
   have xK:idx (fC rules a' a3) (k:Int)=some (((TN rules a' a3)[k]:Nat):Int):=by rw[Fy,ai (by simpa using ag)];simp
   have P5:C.length<=8:=by have:=Bx k;rw[<-g2]at this;exact this
   have P6:O.length<=8:=by have:=xJ rules ((TN rules a' a3).take k) ([],[]);rw[<-g2]at this;simp only[abS,abb]at this;omega
   have U3:∀y∈C,y.length<=100000:=λy hy=>Jk ((TN rules a' a3).take k) y (by rw[<-g2];exact hy)
   have dF:=vY rules ((TN rules a' a3).take k) ([],[]);rw[<-g2]at dF
   have cY:∀(s':List qd×List Int)(v:Int),s'=c7 rules (C,O) (TN rules a' a3)[k]->v=gz rules s'.1 (TN rules a' a3)[k]->∀uj:List Int,uj.length=bits.length->(∀i,∀h:i<uj.length,∀h2:i<bits.length,uj[i]=if k=i then v else bits[i])->
    (a'=a'/\(s'.1,s'.2)=((TN rules a' a3).take (k+1)).foldl (c7 rules) ([],[])/\uj.length=(TN rules a' a3).length/\∀i,∀h:i<uj.length,∀h2:i<(TN rules a' a3).length,i<k+1->uj[i]=gz rules s'.1 (TN rules a' a3)[i]):=λs' v o7 da uj hbl ZR=>by
    refine⟨rfl,by rw[fold_succ ag,<-g2,<-o7],by omega,λi h h2 hi=>?_⟩;rw[ZR i h (by omega)];by_cases e:k=i
    .subst e;rw[acU rfl];exact da
    .rw[acT e,g4 i (by omega) h2 (by omega),o7]
     have:=B6 rules (C,O) [(TN rules a' a3)[k]] (TN rules a' a3)[i] λcA=>dF _ (List.mem_take_iff_getElem.2 ⟨i,by omega,rfl⟩) cA
     exact this.symm
   have Lt:∀v:Int,(bF bits (k:Int) v).length=bits.length/\∀i,∀h:i<(bF bits (k:Int) v).length,∀h2:i<bits.length,(bF bits (k:Int) v)[i]=if k=i then v else bits[i]:=λv=>⟨cz _ _ _,λi h h2=>by simp only[bF,aa3,List.getElem_set]⟩
   have Lu:∀v w:Int,(bF (bF bits (k:Int) w) (k:Int) v).length=bits.length/\∀i,∀h:i<(bF (bF bits (k:Int) w) (k:Int) v).length,∀h2:i<bits.length,(bF (bF bits (k:Int) w) (k:Int) v)[i]=if k=i then v else bits[i]:=λv w=>⟨by rw[cz,cz],λi h h2=>by
    simp only[bF,aa3,List.getElem_set];by_cases e:k=i
    .rw[acU e,acU e]
    .rw[acT e,acT e,acT e]⟩
   refine Wp.seq (λj=>j.1=a'/\(j.2.2.1,j.2.2.2)=((TN rules a' a3).take (k+1)).foldl (c7 rules) ([],[])/\j.2.1.length=(TN rules a' a3).length/\∀i,∀h:i<j.2.1.length,∀h2:i<(TN rules a' a3).length,i<k+1->j.2.1[i]=gz rules j.2.2.1 (TN rules a' a3)[i]) (.bx xK (.bind (.idx k rfl (by omega) (.bx (ai hb) ?_)))) λj hj=> .some ⟨ag,aQ (by omega),hj⟩
   have Hr:=IU hb;rw[<-Hr];have Wh:=Mi (TN rules a' a3)[k];refine .dec (λh=> .some ?_) (λh=> .bx (Ft C _ (by omega) U3) ?_)
   .have h0:(gd rules (TN rules a' a3)[k]).length=0:=by exact_mod_cast h
    exact cY (C,O) (-1) (by unfold c7;rw[acU h0]) (by unfold gz;rw[acU h0]) _ (Lt (-1)).1 (Lt (-1)).2
   .have h0:¬(gd rules (TN rules a' a3)[k]).length=0:=λg=>h (by rw[g];rfl)
    refine Wp.seq (λj=>j.2.1=a'/\(j.2.2.1,j.2.2.2)=c7 rules (C,O) (TN rules a' a3)[k]/\j.1=gz rules j.2.2.1 (TN rules a' a3)[k]) (.dec (λhn=> .bx (IT _ Wh) (.bind (.rD (by simp;omega) (.bind (.rD (by simp;omega) (.some ⟨rfl,?_,?_⟩)))))) (λhn=> .some ⟨rfl,?_,?_⟩)) λj hj=> .bind (.idx k rfl (by rw[cz];omega) (.some ?_))
    .unfold c7;exact((acT h0).trans (acT (show¬0<=eK (gd rules (TN rules a' a3)[k]) C by omega))).symm
    .show(C.length:Int)=gz rules (C++[gd rules (TN rules a' a3)[k]]) (TN rules a' a3)[k]
     unfold gz;rw[acT h0,uh (by omega)]
    .unfold c7;exact((acT h0).trans (acU (show 0<=eK (gd rules (TN rules a' a3)[k]) C by omega))).symm
    .unfold gz;rw[acT h0]
    .obtain⟨j1,j2,j3⟩:=hj;have:=cY (j.2.2.1,j.2.2.2) j.1 j2 j3 _ (Lu j.1 (-1)).1 (Lu j.1 (-1)).2;exact⟨j1,this.2⟩
  .have:k=(TN rules a' a3).length:=by omega
   subst this;rw[abg]at g2
   have e1:C=(CS rules a' a3).1:=by rw[Nz,<-g2]
   have e2:O=(CS rules a' a3).2:=by rw[Nz,<-g2]
   show(a',bits,C,O)=_
   rw[e2]
   congr 2
   .rw[U2,<-e1]
    refine List.ext_getElem (by rw[g3,ab0]) λi h1 h2=>?_
    have um:i<(TN rules a' a3).length:=by simpa using h2
    rw[g4 i h1 um um,List.getElem_map]
   .rw[e1]
 .subst hj;exact .bx M5 (.bx P4 (.some rfl))
end L
namespace L
theorem Ab{α:Type}(P:Nat->Bool)(f:Int->List α):∀m,(ids P m).flatMap f=(aa2 m).flatMap λi:Nat=>if P i=acQ then f (i:Int)else[]
 |0=>rfl
 |m+1=>by
  rw[kT,ot,List.flatMap_append,Ab P f m]
  congr 1
  split<;>simp
theorem B8{α β:Type}{l:List α}{f g:α->List β}(h:∀x∈l,f x=g x):l.flatMap f=l.flatMap g:=by
 induction l with
 |nil=>rfl
 |cons a l ih=>rw[List.flatMap_cons,List.flatMap_cons,h a abW,ih λx hx=>h x (abz _ hx)]
theorem Ac{O:List Int}{n:Nat}{v:Int}(h:v∉O):dw O n v=[]:=by
 unfold dw;rw[acU];unfold sA;refine List.length_eq_zero_iff.2 (List.eq_nil_iff_forall_not_mem.2 λj hj=>?_);obtain⟨i,hi,hp,_⟩:=qa.1 hj;exact h (List.mem_of_getElem? (acV hp))
theorem M6{rules:List iv}{a d:Int}(h:Fit rules a d){v:Int}(hv:v∈OO rules a d):v= -1\/v= -2\/v∈fC rules a d:=by
 obtain⟨c,_,rfl⟩:=List.mem_map.1 hv
 have hl:(fC rules a d).length=(TN rules a d).length:=by rw[ou];simp
 have hp:(gy rules a d).length=(fC rules a d).length:=by rw[hl];unfold gy TN;simp
 obtain⟨_,hr⟩:=ui (gy rules a d) (jR rules a d) ((BB rules a d).map (flag (c:Int))) (by have:=h.t8;omega);unfold oc;generalize Aa (gy rules a d) (jR rules a d) ((BB rules a d).map (flag (c:Int)))=s at hr;unfold Pl at hr
 rcases hr with rfl|rfl|⟨h0,h1⟩
 .exact .inl rfl
 .exact .inr (.inl rfl)
 .refine .inr (.inr ?_);obtain⟨x,hx,hm⟩:=ub (l:=fC rules a d) h0 (by omega);rw[xI h0 (by omega)]at hx;rw[aaT hx];exact hm
theorem IV{rules:List iv}{a d:Int}(h:Fit rules a d):(aa2 (rules.length+2)).flatMap (λk:Nat=>dw (OO rules a d) (CS rules a d).1.length ((k:Int)-2))=RR rules a d:=by
 unfold RR;generalize hn:(CS rules a d).1.length=n;rw[Nat.add_comm,List.range_add,List.flatMap_append,List.flatMap_append]
 congr 1
 rw[List.flatMap_map];unfold fC;rw[Ab]
 refine B8 λi hi=>?_
 have e:((2+i:Nat):Int)-2=(i:Int):=by omega
 rw[e];split
 .rfl
 .rename_i g
  refine Ac λhm=>?_
  rcases M6 h hm with h1|h1|h1
  .omega
  .omega
  .obtain⟨j,hj,hp,e⟩:=qa.1 h1
   obtain rfl:i=j:=by omega
   exact g hp
theorem Ad{l:Lw}{x:jZ}{a1 a2 a3:Int}(hx:idx l.2.2 a1=some x)(hf:Fit x.2.2.2.2 a2 a3):M.eH aW l a1 a2 a3=some (a2,(CS x.2.2.2.2 a2 a3).1,(CS x.2.2.2.2 a2 a3).2,RR x.2.2.2.2 a2 a3):=by
 unfold M.eH;rw[hx,aaU,IK x a2 a3 (by have:=hf.len;omega),aaU];have QM:=IS (rules:=x.2.2.2.2) (a:=a2) (d:=a3);have Nz:CS x.2.2.2.2 a2 a3=(TN x.2.2.2.2 a2 a3).foldl (c7 x.2.2.2.2) ([],[]):=rfl;have U2:BB x.2.2.2.2 a2 a3=(TN x.2.2.2.2 a2 a3).map (gz x.2.2.2.2 (CS x.2.2.2.2 a2 a3).1):=rfl
 have Wi:OO x.2.2.2.2 a2 a3=(aa2 (2 ^ (CS x.2.2.2.2 a2 a3).1.length)).map λc:Nat=>oc (fC x.2.2.2.2 a2 a3) (gy x.2.2.2.2 a2 a3) (jR x.2.2.2.2 a2 a3) (BB x.2.2.2.2 a2 a3) (c:Int):=rfl
 have Fy:=ou x.2.2.2.2 a2 a3
 have rE:(fC x.2.2.2.2 a2 a3).length=(TN x.2.2.2.2 a2 a3).length:=by rw[Fy];simp
 have I6:(gy x.2.2.2.2 a2 a3).length=(TN x.2.2.2.2 a2 a3).length:=by unfold gy TN;simp
 have Bx:=hf.M4;have ZS:=hf.n8;have Jk:=hf.conds;have Mi:=hf.gd;have ZQ:=hf.t8;have PW:=hf.len;have ZT:=IV hf;generalize x.2.2.2.2=rules at*;dsimp only;refine Wp.eq (Wp.seq (λj=>j=(a2,(CS rules a2 a3).1,(CS rules a2 a3).2)) ?_ λj hj=>?_)
 .rw[rE]
  refine Wp.count (λs=>s.1) (TN rules a2 a3).length (λk s=>s.2.1=a2/\(s.2.2.1,s.2.2.2)=((TN rules a2 a3).take k).foldl (c7 rules) ([],[])) (by omega) rfl ⟨rfl,rfl⟩ λk s hk hs hJ=>?_
  obtain⟨kk,a',C,O⟩:=s;obtain⟨g1,g2⟩:=hJ;dsimp only at hs g1 g2⊢;subst hs g1;refine .dec (λh=>?_) (λh=> .some ?_)
  .have ag:k<(TN rules a' a3).length:=by omega
   have hb:=QM _ (aaZ ag)
   have xK:idx (fC rules a' a3) (k:Int)=some (((TN rules a' a3)[k]:Nat):Int):=by rw[Fy,ai (by simpa using ag)];simp
   have P5:C.length<=8:=by have:=Bx k;rw[<-g2]at this;exact this
   have P6:O.length<=8:=by have:=xJ rules ((TN rules a' a3).take k) ([],[]);rw[<-g2]at this;simp only[abS,abb]at this;omega
   have U3:∀y∈C,y.length<=100000:=λy hy=>Jk ((TN rules a' a3).take k) y (by rw[<-g2];exact hy)
   refine Wp.seq (λj=>j.1=a'/\(j.2.1,j.2.2)=((TN rules a' a3).take (k+1)).foldl (c7 rules) ([],[])) (.bx xK (.bx (ai hb) ?_)) λj hj=> .some ⟨ag,aQ (by omega),hj⟩
   have Hr:=IU hb;rw[<-Hr,fold_succ ag,<-g2];have Wh:=Mi (TN rules a' a3)[k]
   refine Wp.seq (λj=>j=acQ↔(gd rules (TN rules a' a3)[k]).length≠0/\¬0<=eK (gd rules (TN rules a' a3)[k]) C) (.dec (λh=> .bx (z8 C _ (by omega) U3) (.some ?_)) (λh=> .some ⟨λh=>(by cases h),λg=>absurd g.1 (by omega)⟩)) λj hj=> .ite (λh=>?_) (λh=> .some ⟨rfl,?_⟩)
   .rw[ac1];exact⟨λg=>⟨by omega,by omega⟩,λg=>by omega⟩
   .obtain⟨h0,h1⟩:=hj.1 h;refine .bind (.rD (by simp;omega) (.bind (.rD (by simp;omega) (.bx xK (.bind (.rD (by simp;omega) (.some ⟨rfl,?_⟩)))))));unfold c7;rw[List.nil_append];exact((acT h0).trans (acT h1)).symm
   .unfold c7;by_cases h0:(gd rules (TN rules a' a3)[k]).length=0
    .exact(acU h0).symm
    .refine((acT h0).trans (acU ?_)).symm
     exact Classical.byContradiction λg=>h (hj.2 ⟨h0,g⟩)
  .have:k=(TN rules a' a3).length:=by omega
   subst this;rw[abg]at g2
   show(a',C,O)=_
   rw[Nz,<-g2]
 subst hj;dsimp only;have P7:=Jk (TN rules a2 a3);rw[<-Nz]at P7;have h8:=rc ZS
 refine Wp.seq (λj=>j=OO rules a2 a3) ?_ λj hj=>?_
 .rw[Wi];generalize hn:(CS rules a2 a3).1.length=n at*
  refine Wp.count (λs=>s.1) (2 ^ n) (λk s=>s.2=(aa2 k).map λc:Nat=>oc (fC rules a2 a3) (gy rules a2 a3) (jR rules a2 a3) (BB rules a2 a3) (c:Int)) (by omega) rfl rfl λk s hk hs hJ=>?_
  obtain⟨kk,O⟩:=s;dsimp only at hs hJ⊢;subst hs hJ;refine .bx (oq (by omega)) (.dec (λh=>?_) (λh=> .some ?_))
  .have ag:k<2 ^ n:=by exact_mod_cast h
   refine Wp.seq (λj=>j=(aa2 (k+1)).map λc:Nat=>oc (fC rules a2 a3) (gy rules a2 a3) (jR rules a2 a3) (BB rules a2 a3) (c:Int)) ?_ λj hj=> .some ⟨ag,aQ (by omega),hj⟩
   rw[rE]
   refine Wp.seq (λj=>j=(BB rules a2 a3).map (flag (k:Int))) ?_ λj hj=>?_
   .rw[U2]
    refine Wp.count (λs=>s.1) (TN rules a2 a3).length (λi s=>s.2=(((TN rules a2 a3).take i).map (gz rules (CS rules a2 a3).1)).map (flag (k:Int))) (by omega) rfl rfl λi s hi hs hJ=>?_
    obtain⟨ii,F⟩:=s;dsimp only at hs hJ⊢;subst hs hJ;refine .dec (λh=>?_) (λh=> .some ?_)
    .have zi:i<(TN rules a2 a3).length:=by omega
     have hb:=QM _ (aaZ zi)
     have xK:idx (fC rules a2 a3) (i:Int)=some (((TN rules a2 a3)[i]:Nat):Int):=by rw[Fy,ai (by simpa using zi)];simp
     refine Wp.seq (λs=>s=(((TN rules a2 a3).take (i+1)).map (gz rules (CS rules a2 a3).1)).map (flag (k:Int))) (.bx xK (.bx (ai hb) ?_)) λj hj=> .some ⟨zi,aQ (by omega),hj⟩
     rw[<-IU hb]
     have Lv:∀v:Bool,v=flag (k:Int) (gz rules (CS rules a2 a3).1 (TN rules a2 a3)[i])->(((TN rules a2 a3).take i).map (gz rules (CS rules a2 a3).1)).map (flag (k:Int))++[v]=(((TN rules a2 a3).take (i+1)).map (gz rules (CS rules a2 a3).1)).map (flag (k:Int)):=λv hv=>by
      rw[<-abq zi,ab6,ab6,hv];rfl
     refine .dec (λh=> .bind (.rD (by simp;omega) (.some (Lv _ ?_)))) (λh=> .bx (z8 _ _ (by omega) P7) ?_)
     .have h0:(gd rules (TN rules a2 a3)[i]).length=0:=by exact_mod_cast h
      unfold gz flag;rw[acU h0,acU (by omega)]
     .have h0:¬(gd rules (TN rules a2 a3)[i]).length=0:=λg=>h (by rw[g];rfl)
      have hc:0<=eK (gd rules (TN rules a2 a3)[i]) (CS rules a2 a3).1:=by
       rw[Nz];exact vY rules _ _ _ (aaZ zi) h0
      refine .bx (IR hc) (.bind (.rD (by simp;omega) (.some (Lv _ ?_))));unfold gz flag;rw[acT h0,acT (by omega)];rfl
    .have:i=(TN rules a2 a3).length:=by omega
     subst this
     show _=_
     rw[abg]
   .subst hj;obtain⟨hs,hr⟩:=ui (gy rules a2 a3) (jR rules a2 a3) ((BB rules a2 a3).map (flag (k:Int))) (by omega);rw[S.M3]at hs;refine .bx hs ?_;have Fw:oc (fC rules a2 a3) (gy rules a2 a3) (jR rules a2 a3) (BB rules a2 a3) (k:Int)=Ls (fC rules a2 a3) (Aa (gy rules a2 a3) (jR rules a2 a3) ((BB rules a2 a3).map (flag (k:Int)))):=rfl;rw[List.range_succ,ab6];generalize Aa (gy rules a2 a3) (jR rules a2 a3) ((BB rules a2 a3).map (flag (k:Int)))=v at hr Fw⊢;unfold Pl at hr
    refine Wp.seq (λj=>j=Ls (fC rules a2 a3) v) (.dec (λh=> .bx (xI h (by omega)) (.some rfl)) (λh=> .some ?_)) λj hj=> .bind (.rD (by simp;omega) (.some ?_))
    .unfold Ls;rw[acT h]
    .rw[hj,List.map_singleton,Fw]
  .have:k=2 ^ n:=by have:¬k<2 ^ n:=λg=>h (by exact_mod_cast g);omega
   subst this;rfl
 subst hj;rw[<-ZT]
 have ZU:(OO rules a2 a3).length<=256:=by rw[Wi];simp;omega
 generalize hn:(CS rules a2 a3).1.length=n at*
 refine Wp.seq (λj=>j=(a2,(CS rules a2 a3).1,(CS rules a2 a3).2,(aa2 (rules.length+2)).flatMap λk:Nat=>dw (OO rules a2 a3) n ((k:Int)-2))) ?_ λj hj=> .some (by rw[hj])
 generalize OO rules a2 a3=O at ZU⊢;generalize(CS rules a2 a3).1=C at*;generalize(CS rules a2 a3).2=W at*
 refine Wp.count (λs=>s.1+2) (rules.length+2) (λk s=>s.2.1=a2/\s.2.2.1=C/\s.2.2.2.1=W/\s.2.2.2.2=((aa2 k).flatMap λk:Nat=>dw O n ((k:Int)-2))/\s.2.2.2.2.length<=k*65536) (by omega) rfl ⟨rfl,rfl,rfl,rfl,aaX _⟩ λk s hk hs hJ=>?_
 obtain⟨v,a',C',W',acc⟩:=s;obtain⟨g1,g2,g3,g4,g5⟩:=hJ;dsimp only at hs g1 g2 g3 g4 g5⊢
 obtain rfl:v=(k:Int)-2:=by omega
 subst g1 g2 g3;refine .dec (λh=>?_) (λh=> .some ?_)
 .have ag:k<rules.length+2:=by omega
  have ID:=pn O n ((k:Int)-2)
  have hw:aaV.wrap ((k:Int)-2+1)+2=((k+1:Nat):Int):=by rw[dj (by omega) (by omega)];omega
  refine Wp.seq (λs=>s=(a',C',W',acc++dw O n ((k:Int)-2))) ?_ λj hj=> .some ⟨ag,hw,by rw[hj],by rw[hj],by rw[hj],by rw[hj,ot,<-g4],by rw[hj];show(acc++_).length<=_;rw[aba];omega⟩
  refine Wp.seq (λs=>s=(a',C',W',acc++dw O n ((k:Int)-2))) ?_ λj hj=> .some (by rw[hj])
  refine Wp.seq (λj=>j=sA O ((k:Int)-2)) ?_ λj hj=>?_
  .refine Wp.count (λs=>s.1) O.length (λi s=>s.2=ids (λz=>decide (O[z]? =some ((k:Int)-2))) i) (by omega) rfl rfl λi s hi hs hJ=>?_
   obtain⟨ii,l⟩:=s;dsimp only at hs hJ⊢;subst hs hJ;refine .dec (λh=>?_) (λh=> .some ?_)
   .have rE:i<O.length:=by omega
    have hl:=mH (λz=>decide (O[z]? =some ((k:Int)-2))) i
    refine Wp.seq (λs=>s=ids (λz=>decide (O[z]? =some ((k:Int)-2))) (i+1)) (.bind (.idx i rfl rE ?_)) λj hj=> .some ⟨rE,aQ (by omega),hj⟩
    rw[kT,aaW rE];refine .dec (λh=> .bind (.rD (by simp;omega) (.some ?_))) (λh=> .some ?_)
    .rw[acU (by simp[h])]
    .rw[acT (by simpa using h),List.append_nil]
   .have:i=O.length:=by omega
    subst this;rfl
  .subst hj;have I6:=mH (λz=>decide (O[z]? =some ((k:Int)-2))) O.length;refine .dec (λh=> .some ?_) (λh=> .bx (KI (l:=sA O ((k:Int)-2)) (by unfold sA;omega) (n:Int)) ?_)
   .have:(sA O ((k:Int)-2)).length=0:=by exact_mod_cast h
    unfold dw;rw[acU this,List.append_nil]
   .have cA:¬(sA O ((k:Int)-2)).length=0:=λg=>h (by rw[g];rfl)
    have hr:dw O n ((k:Int)-2)=(mn (sA O ((k:Int)-2)) n).map λp=>(p,(k:Int)-2):=by unfold dw;rw[acT cA]
    have I4:=B7 (sA O ((k:Int)-2)) n;rw[hr];have PI:Fp (FL (n:Int)) (λx=>(x:Int)∈sA O ((k:Int)-2)) (dc (sA O ((k:Int)-2)))=mn (sA O ((k:Int)-2)) n:=rfl;rw[PI];generalize mn (sA O ((k:Int)-2)) n=ps at I4⊢
    refine Wp.count (λs=>s.1) ps.length (λi s=>s.2=(a',C',W',acc++(ps.take i).map λp=>(p,(k:Int)-2))) (by omega) rfl (by simp) λi s hi hs hJ=>?_
    obtain⟨ii,OF,C'',W'',l⟩:=s;cases hJ;dsimp only at hs⊢;subst hs;refine .dec (λh=>?_) (λh=> .some ?_)
    .have rE:i<ps.length:=by omega
     refine .bind (.idx i rfl rE (.bind (.rD (by simp;omega) (.some ⟨rE,aQ (by omega),?_⟩))))
     show(_,_,_,_)=(_,_,_,acc++(ps.take (i+1)).map _)
     rw[<-abq rE,ab6,abm];rfl
    .have:i=ps.length:=by omega
     subst this
     show(_,_,_,acc++_)=_
     rw[abg]
 .have:k=rules.length+2:=by omega
  subst this
  show(a',C',W',acc)=_
  rw[g4]
end L
namespace L
theorem KQ{l:Lw}{x:jZ}{k:Nat}{r:iv}:p3 l x k r=0↔fQ r.1=acQ/\¬cJ (x.2.2.2.2.take k) r.1/\(0<=(r.2.1:Int)/\(r.2.1:Int)<(x.2.2.2.1.length:Int))/\¬nF x k r/\
 ¬((r.2.2.2.1:Int)<0\/9<(r.2.2.2.1:Int)\/¬VR r.2.2.2.2.1\/(r.2.2.2.2.1.1:Int)=r.2.2.2.2.1.2)/\uK x k r.2.1<8/\plain r.2.2.2.2.2.2.2/\
 (0<r.2.2.2.2.2.1.length->nE r.2.2.2.2.2.1 (dD l x) ((1:Int),(0:Int))=0)/\(match x.2.2.2.1[(r.2.1:Int).toNat]? with
   |some d=>nE r.2.2.2.2.2.2.1 (dD l x) d.2
   |none=>0)=0:=by
 unfold p3;by_cases h1:fQ r.1=acR
 .rw[acU h1]
  exact ac2 (by decide) λg=>by rw[h1]at g;cases g.1
 rw[acT h1];by_cases h2:cJ (x.2.2.2.2.take k) r.1
 .rw[acU h2]
  exact ac2 (by decide) λg=>g.2.1 h2
 rw[acT h2];by_cases h3:0<=(r.2.1:Int)/\(r.2.1:Int)<(x.2.2.2.1.length:Int)
 case neg=>
  rw[acU h3]
  exact ac2 (by decide) λg=>h3 g.2.2.1
 rw[acT (λg=>g h3)];by_cases h4:nF x k r
 .rw[acU h4]
  exact ac2 (by decide) λg=>g.2.2.2.1 h4
 rw[acT h4];by_cases h5:(r.2.2.2.1:Int)<0\/9<(r.2.2.2.1:Int)\/¬VR r.2.2.2.2.1\/(r.2.2.2.2.1.1:Int)=r.2.2.2.2.1.2
 .rw[acU h5]
  exact ac2 (by decide) λg=>g.2.2.2.2.1 h5
 rw[acT h5];by_cases h6:8<=uK x k r.2.1
 .rw[acU h6]
  exact ac2 (by decide) λg=>by have:=g.2.2.2.2.2.1;omega
 rw[acT h6];by_cases h7:plain r.2.2.2.2.2.2.2
 case neg=>
  rw[acU h7]
  exact ac2 (by decide) λg=>h7 g.2.2.2.2.2.2.1
 rw[acT (λg=>g h7)];by_cases h8:0<r.2.2.2.2.2.1.length/\nE r.2.2.2.2.2.1 (dD l x) ((1:Int),(0:Int))≠0
 .rw[acU h8]
  exact ac2 h8.2 λg=>h8.2 (g.2.2.2.2.2.2.2.1 h8.1)
 rw[acT h8];exact⟨λg=>⟨by simpa using h1,h2,h3,h4,h5,by omega,h7,λa=>ack.1 λb=>h8 ⟨a,b⟩,g⟩,λg=>g.2.2.2.2.2.2.2.2⟩
theorem Valid.BK{l:Lw}(h:Valid l):oy l=BK:=by
 obtain⟨a1,a2,a3,a4,a5,a6⟩:=h.scopes;unfold oy;rw[acT (by omega),aP.2 λk hk=>by rw[a4 k hk];rfl];dsimp only;rw[acT (by omega),aP.2 λk hk=>by rw[a5 k hk];rfl];dsimp only;rw[acT (by omega),aP.2 λk hk=>by rw[a6 k hk];rfl]
theorem count_le{l:Lw}{x:jZ}(h:∀i,∀hi:i<x.2.2.2.2.length,p3 l x i x.2.2.2.2[i]=0)(a:Int):∀m,m<=x.2.2.2.2.length->(x.2.2.2.2.take m).countP (λr=>decide ((r.2.1:Int)=a))<=8
 |0,_=>by simp
 |m+1,hm=>by
  have ih:=count_le h a m (by omega)
  have ag:m<x.2.2.2.2.length:=by omega
  rw[<-abq ag,List.countP_append,List.countP_singleton];split
  .rename_i g;have g:(x.2.2.2.2[m].2.1:Int)=a:=acV g;have:=(KQ.1 (h m ag)).2.2.2.2.2.1;unfold uK at this;rw[g]at this;omega
  .omega
theorem uk{rules:List iv}(a d:Int):∀m,m<=rules.length->(fT (kp rules (xC a d)) m).length<=(rules.take m).countP λr=>decide ((r.2.1:Int)=a)
 |0,_=>by simp[fT]
 |m+1,hm=>by
  have ih:=uk (rules:=rules) a d m (by omega)
  have ag:m<rules.length:=by omega
  rw[vU,<-abq ag,List.countP_append,List.countP_singleton,aba,IG ag];by_cases g:xC a d rules[m]=acQ
  .have g2:(rules[m].2.1:Int)=a:=(acV g).1;rw[acU g,acU (acW g2)];simp;omega
  .rw[acT g];simp;omega
theorem Fit.of{l:Lw}(hv:Valid l)(hs:kR l){k:Nat}(hk:k<l.2.2.length)(a d:Int):Fit l.2.2[k].2.2.2.2 a d:=by
 have qn:=hs.2.2.2.2.2 _ (aaZ hk);have hr:=(hv.scope k hk).2.2.2.2.2.2.1;refine⟨qn.2.2.2.1,λr Cf=>by have:=(qn.2.2.2.2.2.2 r Cf).2.2.1;omega,?_⟩;have h1:=uk (rules:=l.2.2[k].2.2.2.2) a d _ (aaX _);have h2:=count_le hr a _ (aaX _);exact abi h1 h2
abbrev two:List aV.den:=[((⟨#[115]⟩:ByteArray),((-1:Int),(([((⟨#[120]⟩:ByteArray),((1:Int),(0:Int)))]:List be.den),(([((⟨#[100]⟩:ByteArray),((2:Int),(0:Int)))]:List be.den),([((⟨#[97]⟩:ByteArray),((0:Int),((-1:Int),((0:Int),(((0:Int),(109573:Int)),(([]:List aa.den),(([((2:Int),(1:Int))]:List aa.den),acF))))))),((⟨#[98]⟩:ByteArray),((0:Int),((0:Int),((0:Int),(((0:Int),(109573:Int)),(([((7:Int),(0:Int))]:List aa.den),(([((2:Int),(2:Int))]:List aa.den),acF)))))))]:List cL.den)))))]
abbrev M7:Lw:=(([]:List bR.den),(([]:List bL.den),two))
theorem U4:M.bY aW M7 0 0 100=some ((0:Int),(0:Int),([[((7:Int),(0:Int))]]:List (List aa.den)),([(1:Int)]:List Int),([(((1:Int),(0:Int)),(0:Int)),(((1:Int),(1:Int)),(1:Int))]:List af.den)):=by
 have hv:M.eV aW M7=some ((0:Int),((0:Int),((0:Int),(0:Int)))):=by kernel_rfl
 have hx:idx M7.2.2 0=some M7.2.2[0]:=rfl
 have hf:Fit M7.2.2[0].2.2.2.2 0 100:=by
  refine⟨by decide,λr hr=>?_,?_⟩
  .rcases aa7.1 hr with rfl|hr
   .decide
   .rcases aa7.1 hr with rfl|hr
    .decide
    .cases hr
  .unfold TN fT;exact abi (acb ..) (by rw[List.length_range];decide)
 have h1:=vZ hv (by decide) (by decide) hx (by decide) (by decide) (by decide) (by decide) hf;have h2:=Ad (l:=M7) (a1:=0) hx hf
 have h3:M.eH aW M7 0 0 100=some ((0:Int),([[((7:Int),(0:Int))]]:List (List aa.den)),([(1:Int)]:List Int),([(((1:Int),(0:Int)),(0:Int)),(((1:Int),(1:Int)),(1:Int))]:List af.den)):=by kernel_rfl
 rw[h3]at h2;have h4:=aaT h2
 obtain⟨-,h5,h6,h7⟩:=by simpa only[abU]using h4
 rw[h1,<-h5,<-h6,<-h7]
theorem Dl:M.jL aW=some acQ:=by
 unfold M.jL;rw[show M.qZ aW=some two from rfl,aaU,U4,aaU]
 kernel_rfl
end L
namespace L
abbrev BT:Type:=Int×Int×(List qd)×(List Int)×List zU
structure Mod(r:BT):Prop where
 c:r.2.2.1.length<=100000
 g:∀x∈r.2.2.1,x.length<=100000
 o:r.2.2.2.1.length<=100000
 r:r.2.2.2.2.length<=100000000
theorem M8{rules:List iv}{a d:Int}(h:Fit rules a d):(RR rules a d).length<=100000000:=by
 have hl:(fC rules a d).length=(TN rules a d).length:=by rw[ou];simp
 have ht:=h.t8
 have key:∀L:List Int,(L.flatMap (dw (OO rules a d) (CS rules a d).1.length)).length<=L.length*65536:=λL=>by
  induction L with
  |nil=>simp
  |cons v L ih=>
   have:=pn (OO rules a d) (CS rules a d).1.length v;rw[List.flatMap_cons,aba,aa6,abG];omega
 have:=key ([-2,-1]++fC rules a d);unfold RR
 have h2:([(-2:Int),-1]++fC rules a d).length<=10:=by simp;omega
 exact abi this (abi (abf _ h2) (by omega))
theorem Fit.mod{rules:List iv}{a d:Int}(h:Fit rules a d):Mod (a,(0:Int),(CS rules a d).1,(CS rules a d).2,RR rules a d):=by
 refine⟨?_,h.conds _,?_,M8 h⟩
 .have:=h.n8;show(CS rules a d).1.length<=_;omega
 .have h1:=xJ rules (TN rules a d) ([],[]);have h2:=h.t8
  show(CS rules a d).2.length<=_
  unfold CS;simp only[abS]at h1;omega
theorem Mod.err(e:Int):Mod ((0:Int),e,([]:List qd),([]:List Int),([]:List zU)):=⟨by simp,λx hx=>by simp at hx,by simp,by simp⟩
theorem IW{l:Lw}(hw:WF cC l)(hs:kR l)(a b c:Int):∃r:BT,M.bY aW l a b c=some r/\M.eQ aW l a b c=some r/\Mod r:=by
 have hp:=Kx l hw hs;have hr:=Kq l hw hs;by_cases hv:Valid l
 .have kz:=hv.BK;rw[kz]at hp hr;by_cases h1:a<0\/(l.2.2.length:Int)<=a
  .refine⟨((0:Int),(6:Int),[],[],[]),?_,?_, .err 6⟩
   .unfold M.bY;rw[hp,aaU];refine Wp.eq (.ite (λh=>?_) λ_=>?_)
    .rw[show BK=((0:Int),((0:Int),((0:Int),(0:Int))))from rfl,kl.2 rfl]at h;cases h
    refine Wp.seq (λj=>j=acQ) (.dec (λ_=> .some rfl) λh=> .some (acW (by omega))) λj hj=>?_
    rw[hj];exact .some rfl
   .unfold M.eQ;rw[hr,aaU];refine Wp.eq (.mA (λh=>absurd rfl h) λ_=>?_)
    refine Wp.seq (λj=>j=acQ) (.dec (λ_=> .some rfl) λh=> .dec (λ_=> .some rfl) λh'=>by omega) λj hj=>?_
    rw[hj];exact .some rfl
  .have ha:0<=a:=by omega
   obtain⟨k,rfl⟩:=aa8 ha
   have hk:k<l.2.2.length:=by omega
   have hx:=ai hk;by_cases h2:b<0\/(l.2.2[k].2.2.2.1.length:Int)<=b
   .refine⟨((0:Int),(6:Int),[],[],[]),?_,?_, .err 6⟩
    .unfold M.bY;rw[hp,aaU];refine Wp.eq (.ite (λh=>?_) λ_=>?_)
     .rw[show BK=((0:Int),((0:Int),((0:Int),(0:Int))))from rfl,kl.2 rfl]at h;cases h
     refine Wp.seq (λj=>j=acR) (.dec (λ_=>by omega) λh=> .some (acX (by omega))) λj hj=>?_
     rw[hj]
     refine .ite (λh=>(by cases h)) λ_=> .bx hx ?_
     refine Wp.seq (λj=>j=acQ) (.dec (λ_=> .some rfl) λh=> .some (acW (by omega))) λj hj=>?_
     rw[hj];exact .some rfl
    .unfold M.eQ;rw[hr,aaU];refine Wp.eq (.mA (λh=>absurd rfl h) λ_=>?_)
     refine Wp.seq (λj=>j=acQ) (.dec (λ_=>by omega) λh=> .dec (λ_=>by omega) λh'=> .dec (λ_=> .some rfl) λHZ=> .bx hx (.some (acW (by omega)))) λj hj=>?_
     rw[hj];exact .some rfl
   .by_cases h3:c<0\/109572<c
    .refine⟨((0:Int),(3:Int),[],[],[]),?_,?_, .err 3⟩
     .unfold M.bY;rw[hp,aaU];refine Wp.eq (.ite (λh=>?_) λ_=>?_)
      .rw[show BK=((0:Int),((0:Int),((0:Int),(0:Int))))from rfl,kl.2 rfl]at h;cases h
      refine Wp.seq (λj=>j=acR) (.dec (λ_=>by omega) λh=> .some (acX (by omega))) λj hj=>?_
      rw[hj]
      refine .ite (λh=>(by cases h)) λ_=> .bx hx ?_
      refine Wp.seq (λj=>j=acR) (.dec (λ_=>by omega) λh=> .some (acX (by omega))) λj hj=>?_
      rw[hj]
      refine .ite (λh=>(by cases h)) λ_=>?_
      refine Wp.seq (λj=>j=acQ) (.dec (λ_=> .some rfl) λh=> .some (acW (by omega))) λj hj=>?_
      rw[hj];exact .some rfl
     .unfold M.eQ;rw[hr,aaU];refine Wp.eq (.mA (λh=>absurd rfl h) λ_=>?_)
      refine Wp.seq (λj=>j=acR) (.dec (λ_=>by omega) λh=> .dec (λ_=>by omega) λh'=> .dec (λ_=>by omega) λHZ=> .bx hx (.some (acX (by omega)))) λj hj=>?_
      rw[hj]
      refine .ite (λh=>(by cases h)) λ_=>?_
      refine Wp.seq (λj=>j=acQ) (.dec (λ_=> .some rfl) λh=> .some (acW (by omega))) λj hj=>?_
      rw[hj];exact .some rfl
    .have hf:=Fit.of hv hs hk b c;have e1:=vZ hp (by omega) (by omega) hx (by omega) (by omega) (by omega) (by omega) hf;have e2:=Ad hx hf;have e3:=hf.mod;generalize CS l.2.2[k].2.2.2.2 b c=C at e1 e2 e3;generalize RR l.2.2[k].2.2.2.2 b c=R at e1 e2 e3;refine⟨(b,(0:Int),C.1,C.2,R),e1,?_,e3⟩;unfold M.eQ;rw[hr,aaU];refine Wp.eq (.mA (λh=>absurd rfl h) λ_=>?_)
     refine Wp.seq (λj=>j=acR) (.dec (λ_=>by omega) λh=> .dec (λ_=>by omega) λh'=> .dec (λ_=>by omega) λHZ=> .bx hx (.some (acX (by omega)))) λj hj=>?_
     rw[hj]
     refine .ite (λh=>(by cases h)) λ_=>?_
     refine Wp.seq (λj=>j=acR) (.dec (λ_=>by omega) λh=> .some (acX (by omega))) λj hj=>?_
     rw[hj]
     exact .ite (λh=>(by cases h)) λ_=> .bx e2 (.some rfl)
 .refine⟨((0:Int),(1:Int),[],[],[]),?_,?_, .err 1⟩
  .unfold M.bY;rw[hp,aaU];refine Wp.eq (.ite (λh=> .some rfl) λh=>absurd ?_ hv)
   have h:lz al (oy l) ((0:Int),((0:Int),((0:Int),(0:Int))))=acQ:=by simpa using h
   unfold Valid;rw[kl.1 h]
  .unfold M.eQ;rw[hr,aaU];exact Wp.eq (.mA (λh=> .some rfl) λh=>absurd h hv)
theorem IX{α:Type}{l:List α}(hl:l.length<=1000000000){f:α->α->Option Bool}(hf:∀x∈l,f x x=some acQ):(Loop (S:=Int) (X:=Bool) (λs1=>
 ((if(decide (s1<(l.length:Int)))=acQ then
 some (decide (s1<(l.length:Int)))
 else
 some acR):Option (Bool)).bind λj2=>
 (if j2=acQ then
 (idx l s1).bind λx3=>
 (idx l s1).bind λx4=>
 (f x3 x4).bind λy5=>
 (if(!y5)=acQ then
 some (Sum.inr acR)
 else
 some (Sum.inl (aaV.wrap (s1+(1:Int)))))
 else
 some (Sum.inr acQ))) aW (0:Int))=some acQ:=by
 refine Wp.eq (Wp.count (λs=>s) l.length (λ_ _=>True) (by omega) rfl trivial λk s hk hs hJ=>?_);subst hs
 refine Wp.seq (λj=>j=decide (k<l.length)) (.dec (λh1=> .some (decide_eq_decide.2 (by omega))) (λh1=> .some (acX (by omega)).symm)) λj hj=>?_
 subst hj;refine .dec (λag=> .bind (.idx k rfl ag (.bind (.idx k rfl ag (.bx (hf _ (aaZ ag)) ?_))))) (λh=> .some rfl)
 exact .ite (λh=>(by cases h)) λ_=> .some ⟨ag,aQ (by omega),trivial⟩
theorem B9{l:List qd}(hl:l.length<=100000)(hg:∀x∈l,x.length<=100000):M.mz aW l l=some acQ:=by
 unfold M.mz;refine Wp.eq (.mA (λh=>absurd rfl h) λ_=> .of (IX (f:=λa b=>M.jl aW a b) (by omega) λx hx=>?_) rfl);rw[Dk x x (hg x hx)];simp
theorem Fz{l:List Int}(hl:l.length<=100000):M.lU aW l l=some acQ:=by
 unfold M.lU;refine Wp.eq (.mA (λh=>absurd rfl h) λ_=>?_)
 refine Wp.count (λs=>s) l.length (λ_ _=>True) (by omega) rfl trivial λk s hk hs hJ=>?_
 subst hs
 refine Wp.seq (λj=>j=decide (k<l.length)) (.dec (λh1=> .some (decide_eq_decide.2 (by omega))) (λh1=> .some (acX (by omega)).symm)) λj hj=>?_
 subst hj;refine .dec (λag=> .bind (.idx k rfl ag (.bind (.idx k rfl ag ?_)))) (λh=> .some rfl)
 exact .mA (λh=>absurd rfl h) λ_=> .some ⟨ag,aQ (by omega),trivial⟩
theorem FA{l:List zU}(hl:l.length<=100000000):M.fy aW l l=some acQ:=by
 unfold M.fy;refine Wp.eq (.mA (λh=>absurd rfl h) λ_=>?_)
 refine Wp.count (λs=>s) l.length (λ_ _=>True) (by omega) rfl trivial λk s hk hs hJ=>?_
 subst hs
 refine Wp.seq (λj=>j=decide (k<l.length)) (.dec (λh1=> .some (decide_eq_decide.2 (by omega))) (λh1=> .some (acX (by omega)).symm)) λj hj=>?_
 subst hj;refine .dec (λag=> .bind (.idx k rfl ag (.bind (.idx k rfl ag ?_)))) (λh=> .some rfl)
 refine .ite (λh=>?_) λ_=> .some ⟨ag,aQ (by omega),trivial⟩
 rw[kl.2 rfl]at h;cases h
theorem po(l:Lw)(y:Int×aa.den)(hw:WF cC l)(_:WF (.pair ae aa) y):M.gE aW l y=some acQ:=by
 unfold M.gE;refine Wp.eq (Wp.seq (λr=>r=acQ->kR l) (E4 l hw) λr hr=> .ite (λh=> .bx Dl (.some rfl)) (λh=>?_));have hs:=hr (by simpa using h);obtain⟨r,h1,h2,hm⟩:=IW hw hs y.1 y.2.1 y.2.2;refine .bx h1 (.bx h2 ?_)
 have P8:M.eX aW (r.1,(r.2.2.1,(r.2.2.2.1,r.2.2.2.2))) (r.1,(r.2.2.1,(r.2.2.2.1,r.2.2.2.2)))=some acQ:=by
  unfold M.eX;simp only[decide_true,if_true,B9 hm.c hm.g,Fz hm.o,FA hm.r,aaU]
 refine Wp.seq (λj=>j=acQ) (.bx P8 (.dec (λ_=> .bx Dl (.some rfl)) (λh=>absurd rfl h))) λj hj=> .some hj
end L
end Go.Proofs.YtbladfbbhijpmaaGreat
