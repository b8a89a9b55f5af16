/- Joined texts: TX TY TZ TQ TR RY RZ PV PT PT2 PT3 PX PX3 PX5 PS PY PY3 PY5. -/
import Derived.Test.YtfeahmiobbjklaaGreatDoorU10
import Derived.Test.YtfeahmiobbjklaaGreatDoorU9
import Derived.Test.YtfeahmiobbjklaaGreatDoorU1
open _root_.Bool renaming false->ag,true->af,eq_iff_iff->art,false_eq_true->aqT,not_true->arA,and_eq_true->arY
open _root_.Option renaming some->aa,bind_some->aqN,none->ae,some->asE
open _root_.Int renaming le_refl->arT,toNat_natCast->aqX,tdiv->aq1,tdiv_eq_ediv_of_nonneg->aq7,eq_ofNat_of_zero_le->aqY,reduceEq->ar3,fdiv_eq_ediv_of_nonneg->asw,tmod->aq3,tmod_eq_emod_of_nonneg->aq8
open _root_.Go.IntKind renaming i64->aqO,bits->asm,u64->aqQ
open _root_.List renaming getElem_append_left->arE,getElem_mem->aqS,getElem?_eq_getElem->aqR,range->aq0,replicate->aqW,take_append_getElem->ara,length_take->ard,mem_filter->arK,getElem?_take->arB,getElem_of_mem->aq6,countP_eq_zero->asz,drop_eq_getElem_cons->aqZ,mem_append->arf,mem_cons->arx,mem_singleton->ari,pairwise_cons->arb,getElem_append_right->arJ,append_assoc->arQ,getElem?_eq_some_iff->aq9
open _root_.Nat renaming le_refl->aqU,le_trans->ark,beq->aqV,div_div_eq_div_mul->ast,div_lt_iff_lt_mul->arp,mul_comm->arm,mul_le_mul_right->aq4,pow_add->aso,le_of_lt->ash,min_eq_left->ar1
open _root_.Sum renaming inr->arM
open _root_.ByteArray renaming empty->asg
open _root_.Option.some renaming inj->aqP
namespace Go.Proofs.YtfeahmiobbjklaaGreatDoor
open Go Go.RowKit
set_option maxRecDepth 100000
set_option linter.unusedSimpArgs false
set_option linter.unusedVariables false
set_option linter.defProp false
namespace L
def Pl(n:Nat)(v:Int):Prop:=v= -1\/v= -2\/0<=v/\v<(n:Int)
def Hc(p:List Int)(i:Int)(hl:p.length<=8):Wp (M.eR aK p i) λr=>r.length<=p.length/\∀x∈r,(0:Int)<=x/\x<(p.length:Int):=by
 unfold M.eR
 refine Wp.count (λs=>s.1) p.length (λk s=>s.2.length<=k/\∀x∈s.2,(0:Int)<=x/\x<(p.length:Int)) (by omega) rfl (by grind) λk s hk hs hJ=>?_
 obtain⟨c,l⟩:=s;obtain⟨j1,j2⟩:=hJ;dsimp only at hs j1 j2;subst hs
 refine Wp.dec (λaF=>?_) λhge=> .some ⟨by grind,j2⟩
 have aF:k<p.length:=by dsimp only at aF;omega
 dsimp only
 refine Wp.seq (λj=>j.length<=k+1/\∀x∈j,(0:Int)<=x/\x<(p.length:Int)) ?_ λj hj=> .some ⟨aF,bQ (m:=p.length) (by omega) aF,hj⟩
 rw[aC aF,aqN]
 refine Wp.dec (λ_=>?_) λ_=> .some ⟨by omega,j2⟩
 rw[eZ (by simp;omega),aqN];refine .some ⟨by simp;omega,λx hx=>?_⟩
 grind
def U6{p q r:List Int}(i:Int)(hl:p.length<=8)(hq:q.length=p.length)(hr:r.length=p.length):Wp (M.fA aK (p,(q,r)) i) λb=>∀x∈b,(0:Int)<=x/\x<(p.length:Int):=by
 unfold M.fA
 refine Wp.seq _ (Hc p i hl) λy hy=>?_
 obtain⟨y1,y2⟩:=hy
 refine Wp.count (λs=>s.1) y.length (λk s=>s.2.length<=k/\∀x∈s.2,(0:Int)<=x/\x<(p.length:Int)) (by omega) rfl (by grind) λk s hk hs hJ=>?_
 obtain⟨c,l⟩:=s;obtain⟨j1,j2⟩:=hJ;dsimp only at hs j1 j2;subst hs
 refine Wp.dec (λaF=>?_) λhge=> .some j2
 have aF:k<y.length:=by dsimp only at aF;omega
 dsimp only
 refine Wp.seq (λj=>j.length<=k+1/\∀x∈j,(0:Int)<=x/\x<(p.length:Int)) ?_ λj hj=> .some ⟨aF,bQ (m:=y.length) (by omega) aF,hj⟩
 have hv:=y2 _ (aqS aF);rw[aC aF,aqN];generalize y[k]=v at hv⊢
 have at_:∀{l:List Int}{u:Int},l.length=p.length->(0:Int)<=u/\u<(p.length:Int)->∃z,idx l u=aa z:=λ{l u}h h'=>by
  obtain⟨z,hz,_⟩:=AL (l:=l) (i:=u) h'.1 (by omega)
  grind
 obtain⟨z1,e1⟩:=at_ hr hv;obtain⟨z2,e2⟩:=at_ hq hv
 have hd:∀{l:List Int},0<l.length->(∀x∈l,(0:Int)<=x/\x<(p.length:Int))->∃u z,idx l (0:Int)=aa u/\idx q u=aa z:=λ{l}h h'=>by
  obtain⟨u,hu,hm⟩:=AL (l:=l) (i:=0) (arT _) (by omega)
  grind
 rw[e1,aqN]
 refine Wp.dec (λ_=> .some ⟨by omega,j2⟩) λ_=>?_
 refine Wp.seq (λj=>j.length<=k/\∀x∈j,(0:Int)<=x/\x<(p.length:Int)) ?_ λl6 h6=>?_
 .refine Wp.seq (λ_=>True) ?_ λj7 _=>?_
  .refine Wp.dec (λh=>?_) λ_=> .some trivial
   obtain⟨u,z,hu,hz⟩:=hd (l:=l) (by omega) j2;rw[e2,aqN,hu,aqN,hz];exact .some trivial
  .refine Wp.ite (λ_=>?_) λ_=> .some ⟨j1,j2⟩
   rw[zn (l:=l) (i:=0) (j:=0) 0 0 rfl rfl (aqU _) (Nat.zero_le _),aqN];exact .some ⟨by simp,by simp⟩
 .obtain⟨g1,g2⟩:=h6
  refine Wp.seq (λ_=>True) ?_ λTf _=>?_
  .refine Wp.dec (λ_=> .some trivial) λh=>?_
   obtain⟨u,z,hu,hz⟩:=hd (l:=l6) (by omega) g2;rw[e2,aqN,hu,aqN,hz];exact .some trivial
  .refine Wp.ite (λ_=>?_) λ_=> .some ⟨by omega,g2⟩
   rw[eZ (by simp;omega),aqN];refine .some ⟨by simp;omega,λx hx=>?_⟩
   grind
theorem LM{p q r:List Int}(i:Int)(hl:p.length<=8)(hq:q.length=p.length)(hr:r.length=p.length)(hp:∀x∈r,Pl p.length x):Wp (M.cJ aK (p,(q,r)) i) (Pl p.length):=by
 unfold M.cJ
 refine Wp.seq _ (U6 i hl hq hr) λb hb=>?_
 refine Wp.dec (λ_=> .some (.inl rfl)) λh0=>?_
 refine Wp.dec (λh1=>?_) λ_=> .some (.inr (.inl rfl))
 obtain⟨u,hu,hm⟩:=AL (l:=b) (i:=0) (arT _) (by omega);have:=hb u hm;obtain⟨z,hz,hzm⟩:=AL (l:=r) (i:=u) this.1 (by omega);rw[hu,aqN];dsimp only;rw[hz,aqN];exact .some (hp z hzm)
theorem Hd{α:Type}{l:List α}{i:Int}{y x:α}(h:x∈bH l i y):x∈l\/x=y:=by
 grind [bH]
theorem U7{p q:List Int}{a:List Bool}(hl:p.length<=8)(hq:q.length=p.length)(ha:a.length=p.length):Wp (M.fT aK p q a) λr=>r.length=p.length/\∀x∈r,Pl p.length x:=by
 unfold M.fT;rw[wp_bind];refine p7.2 ⟨by omega,?_⟩;rw[aqX]
 have hw:∀n:Nat,n<=8->aqO.wrap ((n:Int)-1)=(n:Int)-1:=λn h=>aE (by omega) (by omega)
 refine Wp.loop (λs=>(∃k:Nat,s.1=(k:Int)-1/\k<=p.length)/\s.2.length=p.length/\∀x∈s.2,Pl p.length x) (λs=>(s.1+1).toNat) ⟨⟨p.length,hw _ hl,aqU _⟩,by simp,λx hx=>?_⟩ ?_ ?_
 .rw[List.mem_replicate]at hx;exact .inr (.inr ⟨by omega,by omega⟩)
 .grind [aK]
 .rintro⟨c,l⟩ ⟨⟨k,hk,Ti⟩,j1,j2⟩
  dsimp only at hk j1 j2;subst hk
  refine Wp.dec (λaF=>?_) λhge=> .some ⟨j1,j2⟩
  obtain⟨m,rfl⟩:∃m,k=m+1:=⟨k-1,by grind⟩
  have hm:(((m+1:Nat):Int)-1)=(m:Int):=by omega
  rw[hm]
  have Tc:m<p.length:=by omega
  dsimp only
  refine Wp.seq (λj=>j.length=p.length/\∀x∈j,Pl p.length x) ?_ λj hj=> .some ⟨⟨⟨m,by rw[hw _ (by omega)],by omega⟩,hj⟩,by grind⟩
  refine Wp.seq _ (LM (m:Int) hl hq j1 j2) λv hv=>?_
  have s1:(bH l (m:Int) v).length=p.length:=by rw[cQ];exact j1
  have s2:∀x∈bH l (m:Int) v,Pl p.length x:=λx hx=>by
   grind [Hd]
  rw[aC (show m<l.length by omega),aqN]
  refine Wp.seq (λ_=>True) ?_ λj6 _=>?_
  .rw[aC (by grind),aqN]
   refine Wp.dec (λ_=>?_) λ_=> .some trivial
   rw[aC (show m<a.length by omega),aqN];exact .some trivial
  .refine Wp.ite (λ_=>?_) λ_=> .some ⟨s1,s2⟩
   rw[aC (by grind),aqN];refine .some ⟨by rw[cQ];exact s1,λx hx=>?_⟩
   rcases Hd hx with h|rfl
   .exact s2 x h
   .exact .inr (.inr ⟨by omega,by omega⟩)
def Od(p q:List Int)(a:List Bool)(hp:p.length<=100000):Wp (M.dB aK p q a) (Pl p.length):=by
 unfold M.dB
 have hV:Wp (M.dQ aK p q) λc=>c=0->p.length<=8/\q.length=p.length:=by
  unfold M.dQ
  refine Wp.kq (λ_=> .some λh=>by cases h) λh1=>?_
  refine Wp.dec (λ_=> .some λh=>by cases h) λh2=>?_
  have hq:q.length=p.length:=by omega
  refine Wp.count (λs=>s) p.length (λ_ _=>True) (by omega) rfl trivial λk s hk hs _=>?_
  obtain rfl:s=_:=hs
  refine Wp.dec (λaF=>?_) λhge=> .some λ_=>⟨by omega,hq⟩
  have aF:k<p.length:=by omega
  rw[aC aF,aqN]
  refine Wp.seq (λ_=>True) (Wp.dec (λ_=> .some trivial) λ_=> .some trivial) λj3 _=>?_
  refine Wp.ite (λ_=> .some λh=>by cases h) λ_=>?_
  refine Wp.seq (λ_=>True) ?_ λj4 _=>?_
  .rw[aC (show k<q.length by omega),aqN]
   exact Wp.dec (λ_=> .some trivial) λ_=> .some trivial
  .exact Wp.ite (λ_=> .some λh=>by cases h) λ_=> .some ⟨aF,bQ (m:=p.length) (by omega) aF,trivial⟩
 refine Wp.seq (λj=>j=ag->p.length<=8/\q.length=p.length/\a.length=p.length) ?_ λj hj=>?_
 .refine Wp.seq _ hV λc hc=>?_
  refine Wp.kq (λ_=> .some λh=>by cases h) λh=> .some λg=>?_
  grind
 .cases j with
  |true=>rw[aj rfl];exact .some (.inl rfl)
  |false=>
   grind [Wp.seq,U7,LM]
abbrev nV:Type:=List aA.den
theorem R4(a b:nV)(hl:a.length<=100000):M.bY aK a b=aa (decide (a=b)):=by
 unfold M.bY;refine Wp.eq (Wp.kq (λh=> .some ?_) λh=>?_)
 .grind
 .have h:a.length=b.length:=by omega
  refine Wp.count (λs=>s) a.length (λk _=>∀i,∀h1:i<a.length,∀h2:i<b.length,i<k->a[i]=b[i]) (by omega) rfl (λi _ _ hi=>absurd hi (by omega)) λk s hk hs hJ=>?_
  subst hs;refine .dec (λaF=>?_) (λhge=> .some ?_)
  .have aF:k<a.length:=by omega
   refine .bind (.idx k rfl aF (.bind (.idx k rfl (by omega) (.ite (λh1=> .some ?_) (λh1=> .some ⟨aF,aR (by omega),λi Is MG hi=>?_⟩)))))
   .have h1:mD aA a[k] (b[k]'(by omega))=ag:=by simpa using h1
    have h1:=q8.1 h1;exact(ao λe=>h1 (by simp only[e])).symm
   grind [vR]
  .have:k=a.length:=by omega
   subst this;exact(an (List.ext_getElem h λi h1 h2=>hJ i h1 h2 h1)).symm
theorem U8(a b:nV)(hl:a.length<=100000):M.r8 aK a b=aa (decide (a=b)):=by
 unfold M.r8;refine Wp.eq (Wp.kq (λh=> .some ?_) λh=>?_)
 .grind
 .have h:a.length=b.length:=by omega
  refine Wp.count (λs=>s) a.length (λk _=>∀i,∀h1:i<a.length,∀h2:i<b.length,i<k->a[i]=b[i]) (by omega) rfl (λi _ _ hi=>absurd hi (by omega)) λk s hk hs hJ=>?_
  subst hs
  refine Wp.seq (λj=>j=decide (k<a.length)) (.dec (λh1=> .some ?_) (λh1=> .some ?_)) λj hj=>?_
  .grind
  .grind
  .subst hj;refine .dec (λaF=>?_) (λhge=> .some ?_)
   .refine .bind (.idx k rfl aF (.bind (.idx k rfl (by omega) (.ite (λh1=> .some ?_) (λh1=> .some ⟨aF,aR (by omega),λi Is MG hi=>?_⟩)))))
    .have h1:mD aA a[k] (b[k]'(by omega))=ag:=by simpa using h1
     have h1:=q8.1 h1;exact(ao λe=>h1 (by simp only[e])).symm
    grind [vR]
   .have:k=a.length:=by omega
    subst this;exact(an (List.ext_getElem h λi h1 h2=>hJ i h1 h2 h1)).symm
def kX(g:nV)(C:List nV):Int:=gT (λx=>decide (x=g)) C
def Oe(C:List nV)(g:nV)(hC:C.length<=100000)(hl:∀x∈C,x.length<=100000):M.fS aK C g=aa (kX g C):=by
 unfold M.fS kX;refine wz (by unfold maxLen;omega) (λk h=>?_) ?_
 .grind [aC,R4]
 grind
def He(C:List nV)(g:nV)(hC:C.length<=100000)(hl:∀x∈C,x.length<=100000):M.p5 aK C g=aa (kX g C):=by
 unfold M.p5 kX;refine wz (by unfold maxLen;omega) (λk h=>?_) ?_
 .grind [aC,U8]
 grind
theorem AR{g:nV}{C X:List nV}(h:0<=kX g C):kX g (C++X)=kX g C:=by
 grind [kX,gT]
theorem AS{g:nV}{C:List nV}(h:¬0<=kX g C):kX g (C++[g])=(C.length:Int):=by
 refine zp (by simp) (by simp) λj hj TO=>?_
 rw[arE hj]
 exact ao λe=>h (pc.2 (by grind))
def gd(rules:List kr)(i:Nat):nV:=match rules[i]? with
 |some r=>r.2.2.2.2.2.1
 |none=>[]
def gz(rules:List kr)(s:List nV×List Int)(i:Nat):List nV×List Int:=if(gd rules i).length=0 then s else if 0<=kX (gd rules i) s.1 then s else(s.1++[gd rules i],s.2++[(i:Int)])
def l4(rules:List kr)(C:List nV)(i:Nat):Int:=if(gd rules i).length=0 then-1 else kX (gd rules i) C
theorem xP(rules:List kr)(T:List Nat):∀s:List nV×List Int,∃X,(T.foldl (gz rules) s).1=s.1++X/\(T.foldl (gz rules) s).1.length<=s.1.length+T.length:=by
 induction T with
 |nil=>simp_all
 |cons i T ih=>
  intro s;obtain⟨X,hX,hl⟩:=ih (gz rules s i)
  grind [gz]
theorem Of(rules:List kr)(s:List nV×List Int)(i:Nat)(h:(gd rules i).length≠0):0<=kX (gd rules i) (gz rules s i).1:=by
 grind [gz,AS]
def Kc(rules:List kr)(s:List nV×List Int)(T:List Nat)(i:Nat)(h:(gd rules i).length≠0->0<=kX (gd rules i) s.1):l4 rules (T.foldl (gz rules) s).1 i=l4 rules s.1 i:=by
 grind [l4,xP,AR]
def C8(rules:List kr)(T:List Nat):∀s:List nV×List Int,∀i∈T,(gd rules i).length≠0->0<=kX (gd rules i) (T.foldl (gz rules) s).1:=by
 induction T with
 |nil=>grind
 |cons j T ih=>
  grind [xP,AR,Of]
def xQ(rules:List kr)(T:List Nat):∀s:List nV×List Int,∀x∈(T.foldl (gz rules) s).1,x∈s.1\/∃i,x=gd rules i:=by
 induction T with
 |nil=>grind
 |cons j T ih=>
  intro s x hx
  grind [gz]
end L
namespace L
def bt(c b:Int):Bool:=decide (aL .and .i64 (cg .i64 c b) 1=1)
def flag(c b:Int):Bool:=if b<0 then af else bt c b
def R5{c b:Int}(h:0<=b):yG .i64 c b=aa (cg .i64 c b):=by unfold yG;grind
noncomputable def yP(p q:List Int)(a:List Bool):Int:=(M.dB aK p q a).getD 0
def wJ(p q:List Int)(a:List Bool)(hp:p.length<=100000):M.dB aK p q a=aa (yP p q a)/\Pl p.length (yP p q a):=(Od p q a hp).getD 0
def O4(T:List Int)(s:Int):Int:=if 0<=s then(T[s.toNat]?).getD 0 else s
noncomputable def oc(T p q B:List Int)(c:Int):Int:=O4 T (yP p q (B.map (flag c)))
theorem EP{T:List Int}{s:Int}(h0:0<=s)(h1:s<(T.length:Int)):idx T s=aa (O4 T s):=by
 grind [aC,O4]
def Og{T p q B:List Int}{n:Nat}(hn:n<=8)(hT:T.length<=100000)(hp:p.length=T.length)(hB:B.length=T.length):M.cU aK T p q B (n:Int)=aa ((aq0 (2 ^ n)).map λc:Nat=>oc T p q B (c:Int)):=by
 have h8:=vB hn;unfold M.cU;rw[se (by omega),aqN]
 have aih:((2 ^ n:Nat):Int)<=4294967296:=by have:((2 ^ n:Nat):Int)<=256:=by exact_mod_cast h8
                                            exact Int.le_trans this (by decide)
 refine Wp.eq (.bind (p7.2 ⟨⟨Int.natCast_nonneg _,aih⟩, .bind (p7.2 ⟨by omega,?_⟩)⟩));rw[aqX,aqX];generalize hK:2 ^ n=K at*
 have xi:∀{α:Type}(m:Nat)(z:α),aqW m z=(aq0 m).map λ_=>z:=λm z=>by
  apply List.ext_getElem (by simp)
  grind
 refine Wp.count (λs=>s.1) K (λc s=>s.2.1=((aq0 K).map λj:Nat=>if j<c then oc T p q B (j:Int)else 0)/\s.2.2.length=T.length) (by omega) rfl ⟨by rw[xi];simp,by simp⟩ λc s hc hs hJ=>?_
 obtain⟨cc,out,fl⟩:=s;obtain⟨rfl,hfl⟩:=hJ;dsimp only at hs hfl⊢;subst hs;rw[List.length_replicate];refine .dec (λh=>?_) (λh=> .some ?_)
 .have aF:c<K:=by omega
  refine Wp.seq (λs=>s.1=((aq0 K).map λj:Nat=>if j<c+1 then oc T p q B (j:Int)else 0)/\s.2.length=T.length) ?_ λj hj=> .some ⟨aF,aR (by omega),hj⟩
  refine Wp.seq (λs=>s.1=((aq0 K).map λj:Nat=>if j<c+1 then oc T p q B (j:Int)else 0)/\s.2.length=T.length) ?_ λj hj=> .some hj
  refine Wp.seq (λf=>f=B.map (flag (c:Int))) ?_ λf hf=>?_
  .refine Wp.count (λs=>s.1) B.length (λk s=>s.2.length=B.length/\∀i,∀h:i<s.2.length,∀h2:i<B.length,i<k->s.2[i]=flag (c:Int) B[i]) (by omega) rfl (by grind) λk s hk hs hJ=>?_
   obtain⟨kk,f⟩:=s;obtain⟨g1,g2⟩:=hJ;dsimp only at hs g1 g2⊢;subst hs;refine .dec (λh=>?_) (λh=> .some ?_)
   .have Ti:k<B.length:=by omega
    have BP:∀v:Bool,v=flag (c:Int) B[k]->(bH f (k:Int) v).length=B.length/\∀i,∀h:i<(bH f (k:Int) v).length,∀h2:i<B.length,i<k+1->(bH f (k:Int) v)[i]=flag (c:Int) B[i]:=λv hv=>by
     grind [bH]
    refine Wp.seq (λs=>s.length=B.length/\∀i,∀h:i<s.length,∀h2:i<B.length,i<k+1->s[i]=flag (c:Int) B[i]) (.bind (.idx k rfl Ti ?_)) λj hj=> .some ⟨Ti,aR (by omega),hj⟩
    refine .dec (λh=> .bind (.idx k rfl (by omega) (.some (BP _ ?_)))) (λh=> .be (R5 (by omega)) (.bind (.idx k rfl (by omega) (.some (BP _ ?_)))))
    .unfold flag;rw[aj h]
    .unfold flag;rw[ai h];rfl
   .have:k=B.length:=by omega
    subst this
    refine List.ext_getElem (by grind) λi h1 h2=>?_
    grind
  .subst hf;obtain⟨hs,hr⟩:=wJ p q (B.map (flag (c:Int))) (by omega);refine .be hs ?_
   have BP:∀v:Int,v=oc T p q B (c:Int)->bH ((aq0 K).map λj:Nat=>if j<c then oc T p q B (j:Int)else 0) (c:Int) v=((aq0 K).map λj:Nat=>if j<c+1 then oc T p q B (j:Int)else 0):=λv hv=>by
    grind [bH,oS]
   have U9:oc T p q B (c:Int)=O4 T (yP p q (B.map (flag (c:Int)))):=rfl;generalize yP p q (B.map (flag (c:Int)))=v at hr U9⊢;unfold Pl at hr
   refine Wp.seq (λj=>j=af↔0<=v) (.dec (λh=> .some ?_) (λh=> .some (by grind))) λj hj=> .ite (λh=>?_) (λh=>?_)
   .grind
   .have hv:=hj.1 h;refine .be (EP hv (by omega)) (.bind (EG aF (.some (by grind))))
   .have hv:¬0<=v:=λg=>h (hj.2 g)
    refine .bind (EG aF (.some ⟨BP _ (by rw[U9];unfold O4;rw[ai hv]),by grind⟩))
 .have:c=K:=by omega
  subst this
  refine List.map_congr_left λy hy=>?_
  grind
noncomputable def mn(l:List Int)(n:Nat):List (Int×Int):=G4 (LJ (n:Int)) (λx=>(x:Int)∈l) (fL l)
def vE{k:Nat}{mem:Nat->Bool}:∀{l:List (Nat×Nat)}{cov:Nat->Bool},(gV k mem cov l).length<=l.length
 |[],_=>aqU _
 |p::l,cov=>by
  rw[mM];split
  .have:=vE (k:=k) (mem:=mem) (l:=l) (cov:=λx=>cov x||decide (x&&& p.1=p.2))
   grind
  .have:=vE (k:=k) (mem:=mem) (l:=l) (cov:=cov)
   grind
theorem Kd(l:List Int)(n:Nat):(mn l n).length<=65536:=by
 have hn:=J6 (n:Int);have h8:=vB hn;unfold mn G4;refine ark vE ?_;generalize LJ (n:Int)=n at*
 have:=ur (A:=((Pt n).filter (BR n λx=>(x:Int)∈l)).map λp=>p.1*256+p.2) (B:=aq0 65536) ?_ λx hx=>?_
 .grind
 .rw[List.Nodup,List.pairwise_map];refine List.Pairwise.imp_of_mem (λ{p q}hp hq aF e=>?_) ((xN n).filter _)
  grind [tC,vM.irrefl,Nat.and_le_right]
 grind [tC,Nat.and_le_right]
def yQ(O:List Int)(v:Int):List Int:=ids (λk=>decide (O[k]? =aa v)) O.length
noncomputable def fN(O:List Int)(n:Nat)(v:Int):List AK:=if(yQ O v).length=0 then[]else(mn (yQ O v) n).map λp=>(p,v)
theorem vF(O:List Int)(n:Nat)(v:Int):(fN O n v).length<=65536:=by
 grind [fN,Kd]
def Oh{O T:List Int}{n:Nat}(hO:O.length<=100000)(hT:T.length<=1000):M.ja aK O T (n:Int)=aa (([-2,-1]++T).flatMap (fN O n)):=by
 unfold M.ja;refine Wp.eq (.bind (.wY (by simp;omega) ?_))
 have hL:([(-2:Int),-1]++T).length<=1002:=by simp;omega
 generalize([(-2:Int),-1]++T)=L at hL⊢
 refine Wp.count (λs=>s.1) L.length (λk s=>s.2=(L.take k).flatMap (fN O n)/\s.2.length<=k*65536) (by omega) rfl ⟨rfl,aqU _⟩ λk s hk hs hJ=>?_
 obtain⟨kk,acc⟩:=s;obtain⟨g1,g2⟩:=hJ;dsimp only at hs g1 g2⊢;subst hs;refine .dec (λh=>?_) (λh=> .some ?_)
 .have aF:k<L.length:=by omega
  have fC:(L.take (k+1)).flatMap (fN O n)=(L.take k).flatMap (fN O n)++fN O n L[k]:=by
   rw[<-ara aF,List.flatMap_append];simp
  have hrl:=vF O n L[k]
  refine Wp.seq (λs=>s=acc++fN O n L[k]) ?_ λj hj=> .some ⟨aF,aR (by omega),by rw[fC,<-g1];exact hj,by grind⟩
  refine Wp.seq (λs=>s=acc++fN O n L[k]) (.bind (.idx k rfl aF ?_)) λj hj=> .some hj
  refine Wp.seq (λj=>j=yQ O L[k]) ?_ λj hj=>?_
  .refine Wp.count (λs=>s.1) O.length (λi s=>s.2=ids (λz=>decide (O[z]? =aa L[k])) i) (by omega) rfl rfl λi s hi hs hJ=>?_
   obtain⟨ii,l⟩:=s;dsimp only at hs hJ⊢;subst hs hJ;refine .dec (λh=>?_) (λh=> .some ?_)
   .have rN:i<O.length:=by omega
    have hl:=qM (λz=>decide (O[z]? =aa L[k])) i
    refine Wp.seq (λs=>s=ids (λz=>decide (O[z]? =aa L[k])) (i+1)) (.bind (.idx i rfl rN ?_)) λj hj=> .some ⟨rN,aR (by omega),hj⟩
    rw[p9,aqR rN];refine .dec (λh=> .bind (.wY (by simp;omega) (.some ?_))) (λh=> .some ?_)
    all_goals grind
   .have:i=O.length:=by omega
    subst this;rfl
  .subst hj;have uP:=qM (λz=>decide (O[z]? =aa L[k])) O.length;refine .dec (λh=> .some ?_) (λh=> .be (RN (l:=yQ O L[k]) (by unfold yQ;omega) (n:Int)) ?_)
   .grind [fN]
   .have eG:¬(yQ O L[k]).length=0:=λg=>h (by rw[g];rfl)
    have hr:fN O n L[k]=(mn (yQ O L[k]) n).map λp=>(p,L[k]):=by unfold fN;rw[ai eG]
    have Tc:=Kd (yQ O L[k]) n;rw[hr]
    show Wp (Loop _ aK _) _
    change Wp (Loop (S:=Int×List aM.den) (X:=List aM.den) (λs12=>
     (if(decide (s12.1<((mn (yQ O L[k]) n).length:Int)))=af then
     (idx (mn (yQ O L[k]) n) s12.1).bind λx13=>
     (cD s12.2 ([(x13,L[k])]:List aM.den)).bind λl14=>
     some (Sum.inl (aqO.wrap (s12.1+(1:Int)),l14))
     else
     some (arM s12.2))) aK ((0:Int),acc)) _
    generalize mn (yQ O L[k]) n=ps at Tc⊢
    refine Wp.count (λs=>s.1) ps.length (λi s=>s.2=acc++(ps.take i).map λp=>(p,L[k])) (by omega) rfl (by simp) λi s hi hs hJ=>?_
    obtain⟨ii,l⟩:=s;dsimp only at hs hJ⊢;subst hs hJ;refine .dec (λh=>?_) (λh=> .some ?_)
    .have rN:i<ps.length:=by omega
     refine .bind (.idx i rfl rN (.bind (.wY (by simp;omega) (.some ⟨rN,aR (by omega),?_⟩))))
     grind [ara]
    .have:i=ps.length:=by omega
     subst this
     show acc++_=_
     grind
 .have:k=L.length:=by omega
  subst this;rw[List.take_length]at g1;exact g1
end L
namespace L
def TN(rules:List kr)(a d:Int):List Nat:=lZ (kp rules (EJ a d)) rules.length
def CS(rules:List kr)(a d:Int):List nV×List Int:=(TN rules a d).foldl (gz rules) ([],[])
def BB(rules:List kr)(a d:Int):List Int:=(TN rules a d).map (l4 rules (CS rules a d).1)
noncomputable def OO(rules:List kr)(a d:Int):List Int:=(aq0 (2 ^ (CS rules a d).1.length)).map λc:Nat=>oc (fM rules a d) (ed rules a d) (fE rules a d) (BB rules a d) (c:Int)
noncomputable def RR(rules:List kr)(a d:Int):List AK:=([-2,-1]++fM rules a d).flatMap (fN (OO rules a d) (CS rules a d).1.length)
def Ke{rules:List kr}{a d:Int}:∀i∈TN rules a d,i<rules.length:=λi hi=>List.mem_range.1 (arK.1 hi).1
def si(rules:List kr)(a d:Int):fM rules a d=(TN rules a d).map λi:Nat=>(i:Int):=rfl
structure Fit(rules:List kr)(a d:Int):Prop where
 len:rules.length<=60
 g:∀r∈rules,r.2.2.2.2.2.1.length<=100000
 t8:(TN rules a d).length<=8
theorem Fit.gd{rules:List kr}{a d:Int}(h:Fit rules a d)(i:Nat):(gd rules i).length<=100000:=by
 unfold L.gd
 cases e:rules[i]? with
 |none=>simp
 |some r=>exact h.g r (List.mem_of_getElem? e)
def Fit.conds{rules:List kr}{a d:Int}(h:Fit rules a d)(T:List Nat):∀x∈(T.foldl (gz rules) ([],[])).1,x.length<=100000:=λx hx=>by
 rcases xQ rules T _ x hx with g|⟨i,rfl⟩
 .simp at g
 .exact h.gd i
def Fit.Yy{rules:List kr}{a d:Int}(h:Fit rules a d)(k:Nat):(((TN rules a d).take k).foldl (gz rules) ([],[])).1.length<=8:=by
 grind [xP,Fit.t8]
def Fit.n8{rules:List kr}{a d:Int}(h:Fit rules a d):(CS rules a d).1.length<=8:=by
 have:=h.Yy (TN rules a d).length;rw[List.take_length]at this;exact this
def LN(rules:List kr)(T:List Nat):∀s:List nV×List Int,(T.foldl (gz rules) s).2.length<=s.2.length+T.length:=by
 induction T with
 |nil=>intro s;simp
 |cons i T ih=>
  grind [gz]
def R6(x:nV)(hl:x.length<=100000):M.bZ aK x=aa x:=by
 unfold M.bZ;rw[eZ (by simp;omega)];simp only[List.nil_append,aqN]
 cases x with
 |nil=>grind [Jm]
 |cons a x=>rfl
def fold_succ{rules:List kr}{T:List Nat}{k:Nat}(h:k<T.length)(s:List nV×List Int):(T.take (k+1)).foldl (gz rules) s=gz rules ((T.take k).foldl (gz rules) s) T[k]:=by
 grind [ara]
def R7{rules:List kr}{i:Nat}(h:i<rules.length):gd rules i=rules[i].2.2.2.2.2.1:=by grind [gd]
def Va{rules:List kr}{a d:Int}(h:Fit rules a d):M.cU aK (fM rules a d) (ed rules a d) (fE rules a d) (BB rules a d) ((CS rules a d).1.length:Int)=aa (OO rules a d):=by
 have hl:(fM rules a d).length=(TN rules a d).length:=by rw[si];simp
 exact Og h.n8 (by have:=h.t8;omega) (by rw[hl];unfold ed TN;simp) (by rw[hl];unfold BB;simp)
def abY{rules:List kr}{a d:Int}(h:Fit rules a d):M.ja aK (OO rules a d) (fM rules a d) ((CS rules a d).1.length:Int)=aa (RR rules a d):=by
 have hl:(fM rules a d).length=(TN rules a d).length:=by rw[si];simp
 have h8:=vB h.n8;exact Oh (by unfold OO;simp;omega) (by have:=h.t8;omega)
def C9{l:Lw}{x:jm}{a1 a2 a3:Int}(hv:M.iu aK l=aa ((0:Int),((0:Int),((0:Int),(0:Int)))))(h1:0<=a1)(Is:a1<(l.2.2.length:Int))(hx:idx l.2.2 a1=aa x)(h2:0<=a2)(MG:a2<(x.2.2.2.1.length:Int))(h3:0<=a3)(h3':a3<=109572)
 (hf:Fit x.2.2.2.2 a2 a3):M.kQ aK l a1 a2 a3=aa (a2,(0:Int),(CS x.2.2.2.2 a2 a3).1,(CS x.2.2.2.2 a2 a3).2,RR x.2.2.2.2 a2 a3):=by
 unfold M.kQ;rw[hv,aqN];refine Wp.eq (.ite (λh=>?_) λ_=>?_)
 .rw[vR.2 rfl]at h;cases h
 refine Wp.seq (λj=>j=ag) (.dec (λh=>absurd h1 (by omega)) λ_=> .some (ao (by omega))) λj hj=>?_
 subst hj
 refine .ite (λh=>(by cases h)) λ_=> .be hx ?_
 refine Wp.seq (λj=>j=ag) (.dec (λh=>absurd h2 (by omega)) λ_=> .some (ao (by omega))) λj hj=>?_
 subst hj
 refine .ite (λh=>(by cases h)) λ_=>?_
 refine Wp.seq (λj=>j=ag) (.dec (λh=>absurd h3 (by omega)) λ_=> .some (ao (by omega))) λj hj=>?_
 subst hj
 refine .ite (λh=>(by cases h)) λ_=> .be (Oc x a2 a3 (by have:=hf.len;omega)) ?_
 have hTm:=Ke (rules:=x.2.2.2.2) (a:=a2) (d:=a3);have Yz:=Va hf;have abZ:=abY hf;have hCS:CS x.2.2.2.2 a2 a3=(TN x.2.2.2.2 a2 a3).foldl (gz x.2.2.2.2) ([],[]):=rfl;have hBB:BB x.2.2.2.2 a2 a3=(TN x.2.2.2.2 a2 a3).map (l4 x.2.2.2.2 (CS x.2.2.2.2 a2 a3).1):=rfl;have Oi:=si x.2.2.2.2 a2 a3
 have rN:(fM x.2.2.2.2 a2 a3).length=(TN x.2.2.2.2 a2 a3).length:=by rw[Oi];simp
 have Ln:=hf.Yy;have WH:=hf.conds;have Xt:=hf.gd;have ht8:=hf.t8;have hrl:=hf.len;generalize x.2.2.2.2=rules at*;dsimp only;refine .bind (p7.2 ⟨by omega,?_⟩);rw[rN]
 refine Wp.seq (λj=>j=(a2,BB rules a2 a3,(CS rules a2 a3).1,(CS rules a2 a3).2)) ?_ λj hj=>?_
 .refine Wp.count (λs=>s.1) (TN rules a2 a3).length (λk s=>s.2.1=a2/\(s.2.2.2.1,s.2.2.2.2)=((TN rules a2 a3).take k).foldl (gz rules) ([],[])/\s.2.2.1.length=(TN rules a2 a3).length/\∀i,∀h:i<s.2.2.1.length,∀h2:i<(TN rules a2 a3).length,i<k->s.2.2.1[i]=l4 rules s.2.2.2.1 (TN rules a2 a3)[i]) (by omega) rfl (by grind) λk s hk hs hJ=>?_
  obtain⟨kk,a',bits,C,O⟩:=s;obtain⟨g1,g2,g3,g4⟩:=hJ;dsimp only at hs g1 g2 g3 g4⊢;subst hs g1;refine .dec (λh=>?_) (λh=> .some ?_)
  .have aF:k<(TN rules a' a3).length:=by omega
   have hb:=hTm _ (aqS aF)
   have Ir:idx (fM rules a' a3) (k:Int)=aa (((TN rules a' a3)[k]:Nat):Int):=by rw[Oi,aC (by simpa using aF)];simp
   have ab1:C.length<=8:=by have:=Ln k;rw[<-g2]at this;exact this
   have ab2:O.length<=8:=by have:=LN rules ((TN rules a' a3).take k) ([],[]);rw[<-g2]at this;simp only[List.length_nil,ard]at this;omega
   have hCm:∀y∈C,y.length<=100000:=(by grind)
   have gZ:=C8 rules ((TN rules a' a3).take k) ([],[]);rw[<-g2]at gZ
   have fC:∀(s':List nV×List Int)(v:Int),s'=gz rules (C,O) (TN rules a' a3)[k]->v=l4 rules s'.1 (TN rules a' a3)[k]->∀AT:List Int,AT.length=bits.length->(∀i,∀h:i<AT.length,∀h2:i<bits.length,AT[i]=if k=i then v else bits[i])->
    (a'=a'/\(s'.1,s'.2)=((TN rules a' a3).take (k+1)).foldl (gz rules) ([],[])/\AT.length=(TN rules a' a3).length/\∀i,∀h:i<AT.length,∀h2:i<(TN rules a' a3).length,i<k+1->AT[i]=l4 rules s'.1 (TN rules a' a3)[i]):=λs' v vo ga AT hbl hbv=>by
    refine⟨rfl,by rw[fold_succ aF,<-g2,<-vo],by omega,λi h h2 hi=>?_⟩;rw[hbv i h (by omega)];by_cases e:k=i
    .grind
    .rw[ai e,g4 i (by omega) h2 (by omega),vo]
     have:=Kc rules (C,O) [(TN rules a' a3)[k]] (TN rules a' a3)[i] λeG=>gZ _ (List.mem_take_iff_getElem.2 ⟨i,by omega,rfl⟩) eG
     exact this.symm
   have Wj:∀v:Int,(bH bits (k:Int) v).length=bits.length/\∀i,∀h:i<(bH bits (k:Int) v).length,∀h2:i<bits.length,(bH bits (k:Int) v)[i]=if k=i then v else bits[i]:=λv=>⟨cQ _ _ _,λi h h2=>by simp only[bH,aqX,List.getElem_set]⟩
   have Wk:∀v w:Int,(bH (bH bits (k:Int) w) (k:Int) v).length=bits.length/\∀i,∀h:i<(bH (bH bits (k:Int) w) (k:Int) v).length,∀h2:i<bits.length,(bH (bH bits (k:Int) w) (k:Int) v)[i]=if k=i then v else bits[i]:=λv w=>⟨by rw[cQ,cQ],λi h h2=>by
    simp only[bH,aqX,List.getElem_set]
    grind⟩
   refine Wp.seq (λj=>j.1=a'/\(j.2.2.1,j.2.2.2)=((TN rules a' a3).take (k+1)).foldl (gz rules) ([],[])/\j.2.1.length=(TN rules a' a3).length/\∀i,∀h:i<j.2.1.length,∀h2:i<(TN rules a' a3).length,i<k+1->j.2.1[i]=l4 rules j.2.2.1 (TN rules a' a3)[i]) (.be Ir (.bind (.idx k rfl (by omega) (.be (aC hb) ?_)))) λj hj=> .some ⟨aF,aR (by omega),hj⟩
   have Xo:=R7 hb;rw[<-Xo];have hgk:=Xt (TN rules a' a3)[k];refine .dec (λh=> .some ?_) (λh=> .be (Oe C _ (by omega) hCm) ?_)
   .have h0:(gd rules (TN rules a' a3)[k]).length=0:=by exact_mod_cast h
    exact fC (C,O) (-1) (by unfold gz;rw[aj h0]) (by unfold l4;rw[aj h0]) _ (Wj (-1)).1 (Wj (-1)).2
   .have h0:¬(gd rules (TN rules a' a3)[k]).length=0:=λg=>h (by rw[g];rfl)
    refine Wp.seq (λj=>j.2.1=a'/\(j.2.2.1,j.2.2.2)=gz rules (C,O) (TN rules a' a3)[k]/\j.1=l4 rules j.2.2.1 (TN rules a' a3)[k]) (.dec (λhn=> .be (R6 _ hgk) (.bind (.wY (by simp;omega) (.bind (.wY (by simp;omega) (.some ⟨rfl,?_,?_⟩)))))) (λhn=> .some ⟨rfl,?_,?_⟩)) λj hj=> .bind (.idx k rfl (by grind) (.some ?_))
    .grind [gz]
    .grind [l4,AS]
    .grind [gz]
    .unfold l4;rw[ai h0]
    .obtain⟨j1,j2,j3⟩:=hj;have:=fC (j.2.2.1,j.2.2.2) j.1 j2 j3 _ (Wk j.1 (-1)).1 (Wk j.1 (-1)).2
     grind
  .have:k=(TN rules a' a3).length:=by omega
   subst this;rw[List.take_length]at g2
   have e1:C=(CS rules a' a3).1:=by rw[hCS,<-g2]
   have e2:O=(CS rules a' a3).2:=by rw[hCS,<-g2]
   show(a',bits,C,O)=_
   grind [List.ext_getElem,List.length_map]
 .subst hj;exact .be Yz (.be abZ (.some rfl))
end L
namespace L
def Hf{α:Type}(P:Nat->Bool)(f:Int->List α):∀m,(ids P m).flatMap f=(aq0 m).flatMap λi:Nat=>if P i=af then f (i:Int)else[]
 |0=>rfl
 |m+1=>by
  rw[p9,uv,List.flatMap_append,Hf P f m]
  grind
def Kf{α β:Type}{l:List α}{f g:α->List β}(h:∀x∈l,f x=g x):l.flatMap f=l.flatMap g:=by
 induction l<;>grind
def Hg{O:List Int}{n:Nat}{v:Int}(h:v∉O):fN O n v=[]:=by
 unfold fN;rw[aj];unfold yQ;refine List.length_eq_zero_iff.2 (List.eq_nil_iff_forall_not_mem.2 λj hj=>?_)
 grind [wG]
theorem R8{rules:List kr}{a d:Int}(h:Fit rules a d){v:Int}(hv:v∈OO rules a d):v= -1\/v= -2\/v∈fM rules a d:=by
 obtain⟨c,_,rfl⟩:=List.mem_map.1 hv
 have hl:(fM rules a d).length=(TN rules a d).length:=by rw[si];simp
 have hp:(ed rules a d).length=(fM rules a d).length:=by rw[hl];unfold ed TN;simp
 obtain⟨_,hr⟩:=wJ (ed rules a d) (fE rules a d) ((BB rules a d).map (flag (c:Int))) (by have:=h.t8;omega);unfold oc;generalize yP (ed rules a d) (fE rules a d) ((BB rules a d).map (flag (c:Int)))=s at hr;unfold Pl at hr
 rcases hr with rfl|rfl|⟨h0,h1⟩
 .exact .inl rfl
 .exact .inr (.inl rfl)
 .refine .inr (.inr ?_);obtain⟨x,hx,hm⟩:=AL (l:=fM rules a d) h0 (by omega)
  grind [EP]
def R9{rules:List kr}{a d:Int}(h:Fit rules a d):(aq0 (rules.length+2)).flatMap (λk:Nat=>fN (OO rules a d) (CS rules a d).1.length ((k:Int)-2))=RR rules a d:=by
 unfold RR;generalize hn:(CS rules a d).1.length=n;rw[Nat.add_comm,List.range_add,List.flatMap_append,List.flatMap_append]
 congr 1
 rw[List.flatMap_map];unfold fM;rw[Hf]
 refine Kf λi hi=>?_
 have e:((2+i:Nat):Int)-2=(i:Int):=by omega
 rw[e];split
 .rfl
 .rename_i g
  refine Hg λhm=>?_
  rcases R8 h hm with h1|h1|h1
  .omega
  .omega
  .obtain⟨j,hj,hp,e⟩:=wG.1 h1
   grind
def Hh{l:Lw}{x:jm}{a1 a2 a3:Int}(hx:idx l.2.2 a1=aa x)(hf:Fit x.2.2.2.2 a2 a3):M.jk aK l a1 a2 a3=aa (a2,(CS x.2.2.2.2 a2 a3).1,(CS x.2.2.2.2 a2 a3).2,RR x.2.2.2.2 a2 a3):=by
 unfold M.jk;rw[hx,aqN,RX x a2 a3 (by have:=hf.len;omega),aqN];have hTm:=Ke (rules:=x.2.2.2.2) (a:=a2) (d:=a3);have hCS:CS x.2.2.2.2 a2 a3=(TN x.2.2.2.2 a2 a3).foldl (gz x.2.2.2.2) ([],[]):=rfl;have hBB:BB x.2.2.2.2 a2 a3=(TN x.2.2.2.2 a2 a3).map (l4 x.2.2.2.2 (CS x.2.2.2.2 a2 a3).1):=rfl
 have hOO:OO x.2.2.2.2 a2 a3=(aq0 (2 ^ (CS x.2.2.2.2 a2 a3).1.length)).map λc:Nat=>oc (fM x.2.2.2.2 a2 a3) (ed x.2.2.2.2 a2 a3) (fE x.2.2.2.2 a2 a3) (BB x.2.2.2.2 a2 a3) (c:Int):=rfl
 have Oi:=si x.2.2.2.2 a2 a3
 have rN:(fM x.2.2.2.2 a2 a3).length=(TN x.2.2.2.2 a2 a3).length:=by rw[Oi];simp
 have uP:(ed x.2.2.2.2 a2 a3).length=(TN x.2.2.2.2 a2 a3).length:=by unfold ed TN;simp
 have Ln:=hf.Yy;have hn8:=hf.n8;have WH:=hf.conds;have Xt:=hf.gd;have ht8:=hf.t8;have hrl:=hf.len;have hRR:=R9 hf;generalize x.2.2.2.2=rules at*;dsimp only;refine Wp.eq (Wp.seq (λj=>j=(a2,(CS rules a2 a3).1,(CS rules a2 a3).2)) ?_ λj hj=>?_)
 .rw[rN]
  refine Wp.count (λs=>s.1) (TN rules a2 a3).length (λk s=>s.2.1=a2/\(s.2.2.1,s.2.2.2)=((TN rules a2 a3).take k).foldl (gz rules) ([],[])) (by omega) rfl ⟨rfl,rfl⟩ λk s hk hs hJ=>?_
  obtain⟨kk,a',C,O⟩:=s;obtain⟨g1,g2⟩:=hJ;dsimp only at hs g1 g2⊢;subst hs g1;refine .dec (λh=>?_) (λh=> .some ?_)
  .have aF:k<(TN rules a' a3).length:=by omega
   have hb:=hTm _ (aqS aF)
   have Ir:idx (fM rules a' a3) (k:Int)=aa (((TN rules a' a3)[k]:Nat):Int):=by rw[Oi,aC (by simpa using aF)];simp
   have ab1:C.length<=8:=by have:=Ln k;rw[<-g2]at this;exact this
   have ab2:O.length<=8:=by have:=LN rules ((TN rules a' a3).take k) ([],[]);rw[<-g2]at this;simp only[List.length_nil,ard]at this;omega
   have hCm:∀y∈C,y.length<=100000:=(by grind)
   refine Wp.seq (λj=>j.1=a'/\(j.2.1,j.2.2)=((TN rules a' a3).take (k+1)).foldl (gz rules) ([],[])) (.be Ir (.be (aC hb) ?_)) λj hj=> .some ⟨aF,aR (by omega),hj⟩
   have Xo:=R7 hb;rw[<-Xo,fold_succ aF,<-g2];have hgk:=Xt (TN rules a' a3)[k]
   refine Wp.seq (λj=>j=af↔(gd rules (TN rules a' a3)[k]).length≠0/\¬0<=kX (gd rules (TN rules a' a3)[k]) C) (.dec (λh=> .be (He C _ (by omega) hCm) (.some ?_)) (λh=> .some (by grind))) λj hj=> .ite (λh=>?_) (λh=> .some ⟨rfl,?_⟩)
   .grind
   .obtain⟨h0,h1⟩:=hj.1 h;refine .bind (.wY (by simp;omega) (.bind (.wY (by simp;omega) (.be Ir (.bind (.wY (by simp;omega) (.some ⟨rfl,?_⟩)))))))
    grind [gz]
   grind [gz]
  .have:k=(TN rules a' a3).length:=by omega
   subst this;rw[List.take_length]at g2
   show(a',C,O)=_
   grind
 subst hj;dsimp only;have ab3:=WH (TN rules a2 a3);rw[<-hCS]at ab3;have h8:=vB hn8
 refine Wp.seq (λj=>j=OO rules a2 a3) ?_ λj hj=>?_
 .rw[hOO];generalize hn:(CS rules a2 a3).1.length=n at*
  refine Wp.count (λs=>s.1) (2 ^ n) (λk s=>s.2=(aq0 k).map λc:Nat=>oc (fM rules a2 a3) (ed rules a2 a3) (fE rules a2 a3) (BB rules a2 a3) (c:Int)) (by omega) rfl rfl λk s hk hs hJ=>?_
  obtain⟨kk,O⟩:=s;dsimp only at hs hJ⊢;subst hs hJ;refine .be (se (by omega)) (.dec (λh=>?_) (λh=> .some ?_))
  .have aF:k<2 ^ n:=by exact_mod_cast h
   refine Wp.seq (λj=>j=(aq0 (k+1)).map λc:Nat=>oc (fM rules a2 a3) (ed rules a2 a3) (fE rules a2 a3) (BB rules a2 a3) (c:Int)) ?_ λj hj=> .some ⟨aF,aR (by omega),hj⟩
   rw[rN]
   refine Wp.seq (λj=>j=(BB rules a2 a3).map (flag (k:Int))) ?_ λj hj=>?_
   .rw[hBB]
    refine Wp.count (λs=>s.1) (TN rules a2 a3).length (λi s=>s.2=(((TN rules a2 a3).take i).map (l4 rules (CS rules a2 a3).1)).map (flag (k:Int))) (by omega) rfl rfl λi s hi hs hJ=>?_
    obtain⟨ii,F⟩:=s;dsimp only at hs hJ⊢;subst hs hJ;refine .dec (λh=>?_) (λh=> .some ?_)
    .have NA:i<(TN rules a2 a3).length:=by omega
     have hb:=hTm _ (aqS NA)
     have Ir:idx (fM rules a2 a3) (i:Int)=aa (((TN rules a2 a3)[i]:Nat):Int):=by rw[Oi,aC (by grind)];simp
     refine Wp.seq (λs=>s=(((TN rules a2 a3).take (i+1)).map (l4 rules (CS rules a2 a3).1)).map (flag (k:Int))) (.be Ir (.be (aC hb) ?_)) λj hj=> .some ⟨NA,aR (by omega),hj⟩
     rw[<-R7 hb]
     have Wl:∀v:Bool,v=flag (k:Int) (l4 rules (CS rules a2 a3).1 (TN rules a2 a3)[i])->(((TN rules a2 a3).take i).map (l4 rules (CS rules a2 a3).1)).map (flag (k:Int))++[v]=(((TN rules a2 a3).take (i+1)).map (l4 rules (CS rules a2 a3).1)).map (flag (k:Int)):=λv hv=>by
      grind [ara]
     refine .dec (λh=> .bind (.wY (by simp;omega) (.some (Wl _ ?_)))) (λh=> .be (He _ _ (by omega) ab3) ?_)
     .grind [l4,flag]
     .have h0:¬(gd rules (TN rules a2 a3)[i]).length=0:=λg=>h (by rw[g];rfl)
      have hc:0<=kX (gd rules (TN rules a2 a3)[i]) (CS rules a2 a3).1:=by
       rw[hCS];exact C8 rules _ _ _ (aqS NA) h0
      refine .be (R5 hc) (.bind (.wY (by simp;omega) (.some (Wl _ ?_))));unfold l4 flag;rw[ai h0,ai (by omega)];rfl
    .have:i=(TN rules a2 a3).length:=by omega
     subst this
     show _=_
     grind
   .subst hj;obtain⟨hs,hr⟩:=wJ (ed rules a2 a3) (fE rules a2 a3) ((BB rules a2 a3).map (flag (k:Int))) (by omega);rw[S.Yx]at hs;refine .be hs ?_;have U9:oc (fM rules a2 a3) (ed rules a2 a3) (fE rules a2 a3) (BB rules a2 a3) (k:Int)=O4 (fM rules a2 a3) (yP (ed rules a2 a3) (fE rules a2 a3) ((BB rules a2 a3).map (flag (k:Int)))):=rfl;rw[List.range_succ,List.map_append];generalize yP (ed rules a2 a3) (fE rules a2 a3) ((BB rules a2 a3).map (flag (k:Int)))=v at hr U9⊢;unfold Pl at hr
    refine Wp.seq (λj=>j=O4 (fM rules a2 a3) v) (.dec (λh=> .be (EP h (by omega)) (.some rfl)) (λh=> .some ?_)) λj hj=> .bind (.wY (by simp;omega) (.some ?_))
    all_goals grind [O4]
  .have:k=2 ^ n:=by have:¬k<2 ^ n:=λg=>h (by grind);omega
   subst this;rfl
 subst hj;rw[<-hRR]
 have hOl:(OO rules a2 a3).length<=256:=by rw[hOO];simp;omega
 generalize hn:(CS rules a2 a3).1.length=n at*
 refine Wp.seq (λj=>j=(a2,(CS rules a2 a3).1,(CS rules a2 a3).2,(aq0 (rules.length+2)).flatMap λk:Nat=>fN (OO rules a2 a3) n ((k:Int)-2))) ?_ λj hj=> .some (by rw[hj])
 generalize OO rules a2 a3=O at hOl⊢;generalize(CS rules a2 a3).1=C at*;generalize(CS rules a2 a3).2=W at*
 refine Wp.count (λs=>s.1+2) (rules.length+2) (λk s=>s.2.1=a2/\s.2.2.1=C/\s.2.2.2.1=W/\s.2.2.2.2=((aq0 k).flatMap λk:Nat=>fN O n ((k:Int)-2))/\s.2.2.2.2.length<=k*65536) (by omega) rfl ⟨rfl,rfl,rfl,rfl,aqU _⟩ λk s hk hs hJ=>?_
 obtain⟨v,a',C',W',acc⟩:=s;obtain⟨g1,g2,g3,g4,g5⟩:=hJ;dsimp only at hs g1 g2 g3 g4 g5⊢
 obtain rfl:v=(k:Int)-2:=by omega
 subst g1 g2 g3;refine .dec (λh=>?_) (λh=> .some ?_)
 .have aF:k<rules.length+2:=by omega
  have RO:=vF O n ((k:Int)-2)
  have hw:aqO.wrap ((k:Int)-2+1)+2=((k+1:Nat):Int):=by rw[aE (by omega) (by omega)];omega
  refine Wp.seq (λs=>s=(a',C',W',acc++fN O n ((k:Int)-2))) ?_ λj hj=> .some ⟨aF,hw,by rw[hj],by rw[hj],by rw[hj],by rw[hj,uv,<-g4],by grind⟩
  refine Wp.seq (λs=>s=(a',C',W',acc++fN O n ((k:Int)-2))) ?_ λj hj=> .some (by rw[hj])
  refine Wp.seq (λj=>j=yQ O ((k:Int)-2)) ?_ λj hj=>?_
  .refine Wp.count (λs=>s.1) O.length (λi s=>s.2=ids (λz=>decide (O[z]? =aa ((k:Int)-2))) i) (by omega) rfl rfl λi s hi hs hJ=>?_
   obtain⟨ii,l⟩:=s;dsimp only at hs hJ⊢;subst hs hJ;refine .dec (λh=>?_) (λh=> .some ?_)
   .have rN:i<O.length:=by omega
    have hl:=qM (λz=>decide (O[z]? =aa ((k:Int)-2))) i
    refine Wp.seq (λs=>s=ids (λz=>decide (O[z]? =aa ((k:Int)-2))) (i+1)) (.bind (.idx i rfl rN ?_)) λj hj=> .some ⟨rN,aR (by omega),hj⟩
    rw[p9,aqR rN];refine .dec (λh=> .bind (.wY (by simp;omega) (.some ?_))) (λh=> .some ?_)
    all_goals grind
   .have:i=O.length:=by omega
    subst this;rfl
  .subst hj;have uP:=qM (λz=>decide (O[z]? =aa ((k:Int)-2))) O.length;refine .dec (λh=> .some ?_) (λh=> .be (U1 (l:=yQ O ((k:Int)-2)) (by unfold yQ;omega) (n:Int)) ?_)
   .grind [fN]
   .have eG:¬(yQ O ((k:Int)-2)).length=0:=λg=>h (by rw[g];rfl)
    have hr:fN O n ((k:Int)-2)=(mn (yQ O ((k:Int)-2)) n).map λp=>(p,(k:Int)-2):=by unfold fN;rw[ai eG]
    have Tc:=Kd (yQ O ((k:Int)-2)) n;rw[hr];have Wc:G4 (LJ (n:Int)) (λx=>(x:Int)∈yQ O ((k:Int)-2)) (fL (yQ O ((k:Int)-2)))=mn (yQ O ((k:Int)-2)) n:=rfl;rw[Wc];generalize mn (yQ O ((k:Int)-2)) n=ps at Tc⊢
    refine Wp.count (λs=>s.1) ps.length (λi s=>s.2=(a',C',W',acc++(ps.take i).map λp=>(p,(k:Int)-2))) (by omega) rfl (by simp) λi s hi hs hJ=>?_
    obtain⟨ii,a'',C'',W'',l⟩:=s;cases hJ;dsimp only at hs⊢;subst hs;refine .dec (λh=>?_) (λh=> .some ?_)
    .have rN:i<ps.length:=by omega
     refine .bind (.idx i rfl rN (.bind (.wY (by simp;omega) (.some ⟨rN,aR (by omega),?_⟩))))
     grind [ara]
    .have:i=ps.length:=by omega
     subst this
     show(_,_,_,acc++_)=_
     grind
 .have:k=rules.length+2:=by omega
  subst this
  show(a',C',W',acc)=_
  rw[g4]
end L
namespace L
theorem Vb{l:Lw}{x:jm}{k:Nat}{r:kr}:wy l x k r=0↔mN r.1=af/\¬eU (x.2.2.2.2.take k) r.1/\(0<=(r.2.1:Int)/\(r.2.1:Int)<(x.2.2.2.1.length:Int))/\¬vr x k r/\
 ¬((r.2.2.2.1:Int)<0\/9<(r.2.2.2.1:Int)\/¬VR r.2.2.2.2.1\/(r.2.2.2.2.1.1:Int)=r.2.2.2.2.1.2)/\Eo x k r.2.1<8/\plain r.2.2.2.2.2.2.2/\
 (0<r.2.2.2.2.2.1.length->uI r.2.2.2.2.2.1 (gS l x) ((1:Int),(0:Int))=0)/\(match x.2.2.2.1[(r.2.1:Int).toNat]? with
   |some d=>uI r.2.2.2.2.2.2.1 (gS l x) d.2
   |none=>0)=0:=by
 unfold wy
 grind [gS]
theorem Valid.E9{l:Lw}(h:Valid l):vu l=E9:=by
 grind [Valid.scopes,vu,bO]
def count_le{l:Lw}{x:jm}(h:∀i,∀hi:i<x.2.2.2.2.length,wy l x i x.2.2.2.2[i]=0)(a:Int):∀m,m<=x.2.2.2.2.length->(x.2.2.2.2.take m).countP (λr=>decide ((r.2.1:Int)=a))<=8
 |0,_=>by simp
 |m+1,hm=>by
  have ih:=count_le h a m (by omega)
  have aF:m<x.2.2.2.2.length:=by omega
  rw[<-ara aF,List.countP_append,List.countP_singleton]
  grind [Vb,Eo]
def AU{rules:List kr}(a d:Int):∀m,m<=rules.length->(lZ (kp rules (EJ a d)) m).length<=(rules.take m).countP λr=>decide ((r.2.1:Int)=a)
 |0,_=>by simp[lZ]
 |m+1,hm=>by
  have ih:=AU (rules:=rules) a d m (by omega)
  have aF:m<rules.length:=by omega
  rw[C5,<-ara aF,List.countP_append,List.countP_singleton,List.length_append,RV aF]
  grind [EJ]
theorem Fit.of{l:Lw}(hv:Valid l)(hs:fZ l){k:Nat}(hk:k<l.2.2.length)(a d:Int):Fit l.2.2[k].2.2.2.2 a d:=by
 have sB:=hs.2.2.2.2.2 _ (aqS hk);have hr:=(hv.scope k hk).2.2.2.2.2.2.1;refine⟨sB.2.2.2.1,λr OV=>by have:=(sB.2.2.2.2.2.2 r OV).2.2.1;omega,?_⟩;have h1:=AU (rules:=l.2.2[k].2.2.2.2) a d _ (aqU _);have h2:=count_le hr a _ (aqU _);exact ark h1 h2
abbrev two:List bn.den:=[((⟨#[115]⟩:ByteArray),((-1:Int),(([((⟨#[120]⟩:ByteArray),((1:Int),(0:Int)))]:List bJ.den),(([((⟨#[100]⟩:ByteArray),((2:Int),(0:Int)))]:List bJ.den),([((⟨#[97]⟩:ByteArray),((0:Int),((-1:Int),((0:Int),(((0:Int),(109573:Int)),(([]:List aA.den),(([((2:Int),(1:Int))]:List aA.den),asg))))))),((⟨#[98]⟩:ByteArray),((0:Int),((0:Int),((0:Int),(((0:Int),(109573:Int)),(([((7:Int),(0:Int))]:List aA.den),(([((2:Int),(2:Int))]:List aA.den),asg)))))))]:List dX.den)))))]
end L
namespace L
def mu(l:List Int)(i:Nat):Int:=l.getD i 0
def par(i:Nat):Nat:=(i-1)/2
def vG(l:List Int)(n:Nat):Prop:=∀k,0<k->k<n->mu l (par k)<=mu l k
def swp(l:List Int)(i j:Nat):List Int:=(l.set i (mu l j)).set j (mu l i)
def tF{l:List Int}{i:Nat}(h:i<l.length):mu l i=l[i]:=by unfold mu;simp[h]
def LO(l:List Int)(i k:Nat)(v:Int)(h:i<l.length):mu (l.set i v) k=if k=i then v else mu l k:=by
 unfold mu;rw[List.getD_eq_getElem?_getD,List.getD_eq_getElem?_getD,List.getElem?_set];by_cases e:k=i
 .rw[aj e.symm,aj h,aj e];rfl
 .rw[ai (λg=>e g.symm),ai e]
def uw(l:List Int)(i j:Nat):(swp l i j).length=l.length:=by unfold swp;simp
def qY(l:List Int)(i j k:Nat)(hi:i<l.length)(hj:j<l.length):mu (swp l i j) k=if k=j then mu l i else if k=i then mu l j else mu l k:=by
 unfold swp;rw[LO _ _ _ _ (by simpa using hj),LO _ _ _ _ hi]
def AV(l:List Int)(i j:Nat)(hi:i<l.length)(hj:j<l.length):(swp l i j).Perm l:=by
 rw[List.perm_iff_count];intro x;unfold swp;rw[List.count_set (by simpa using hj),List.count_set hi,tF hi,tF hj,List.getElem_set]
 have h1:(if(l[i]==x)=af then 1 else 0)<=l.count x:=by
  split
  .rename_i h;exact List.count_pos_iff.2 (by rw[beq_iff_eq]at h;rw[<-h];exact aqS hi)
  .exact Nat.zero_le _
 by_cases e:i=j
 .subst e;simp only[if_true];omega
 .rw[ai e];omega
def swap_eq(l:List Int)(i j:Nat)(hi:i<l.length)(hj:j<l.length):M.dx aK (i:Int) (j:Int) l=aa (swp l i j):=by
 unfold M.dx;simp only[aC hi,aC hj,aqN];rw[aC (show j<(bH l (i:Int) l[j]).length by unfold bH;simpa using hj),aqN];unfold swp bH;rw[tF hi,tF hj,aqX,aqX]
def EQ(l:List Int)(i j:Nat)(hi:i<l.length)(hj:j<l.length):M.eT aK l (i:Int) (j:Int)=aa (decide (mu l i<mu l j)):=by
 unfold M.eT;rw[aC hi,aC hj,tF hi,tF hj];rfl
def YA(l:List Int)(j:Nat):Prop:=(∀k,0<k->k<l.length->k≠j->mu l (par k)<=mu l k)/\(0<j->∀k,0<k->k<l.length->par k=j->mu l (par j)<=mu l k)
def oy{k:Nat}(h:0<k):par k<k:=by unfold par;omega
def YA.done{l:List Int}{i:Nat}(h:YA l i)(hi:i=0\/mu l (par i)<=mu l i):vG l l.length:=λk h0 hk=>by
 by_cases e:k=i
 .subst e
  rcases hi with hi|hi
  .omega
  .exact hi
 .exact h.1 k h0 hk e
def YA.step{l:List Int}{i:Nat}(h:YA l i)(h0:0<i)(hi:i<l.length)(aF:mu l i<mu l (par i)):YA (swp l (par i) i) (par i):=by
 have hp:=oy h0
 have uP:par i<l.length:=by omega
 obtain⟨h1,h2⟩:=h;have h2:=h2 h0;refine⟨λk k0 hk eG=>?_,λp0 k k0 hk zf=>?_⟩
 .rw[uw]at hk;rw[qY _ _ _ _ uP hi,qY _ _ _ _ uP hi];have zf:=oy k0;by_cases e:k=i
  .subst e;rw[ai (by omega),aj rfl,aj rfl];omega
  .rw[ai e,ai eG];by_cases e2:par k=i
   .rw[aj e2];exact h2 k k0 hk e2
   .rw[ai e2];by_cases e3:par k=par i
    .rw[aj e3];have:=h1 k k0 hk e;rw[e3]at this;omega
    .rw[ai e3];exact h1 k k0 hk e
 .rw[uw]at hk;rw[qY _ _ _ _ uP hi,qY _ _ _ _ uP hi];have hpp:=oy p0;have hup:=h1 (par i) p0 uP (by omega);rw[ai (by omega),ai (by omega)];by_cases e:k=i
  .subst e;rw[aj rfl];exact hup
  .have hkp:k≠par i:=λe2=>by
    rw[e2]at zf;omega
   rw[ai e,ai hkp];have:=h1 k k0 hk e;rw[zf]at this;omega
def YB{i:Nat}(h0:0<i)(hi:i<=1000000):aqO.wrap (aq1 (aqO.wrap ((i:Int)-(1:Int))) (2:Int))=((par i:Nat):Int):=by
 rw[aE (n:=(i:Int)-1) (by omega) (by omega),aq7 (by omega)];unfold par;rw[aE (by omega) (by omega)];omega
def ab4(l:List Int)(j:Nat)(hj:j<l.length)(hl:l.length<=1000000)(hU:YA l j):Wp (M.iz aK (j:Int) l) λr=>r.Perm l/\vG r r.length:=by
 unfold M.iz
 refine Wp.loop (λs=>∃i:Nat,s.1=(i:Int)/\i<s.2.length/\s.2.Perm l/\YA s.2 i) (λs=>s.1.toNat) ⟨j,rfl,hj, .refl l,hU⟩ (by show(j:Int).toNat<aK;unfold aK;omega) λs hs=>?_
 obtain⟨c,q⟩:=s;obtain⟨i,hc,hi,hp,hu⟩:=hs;dsimp only at hc hi hp hu;subst hc;have hlen:=hp.length_eq;dsimp only;by_cases h0:i=0
 .subst h0
  have e:aqO.wrap (aq1 (aqO.wrap (((0:Nat):Int)-(1:Int))) (2:Int))=((0:Nat):Int):=by decide
  rw[e,aj (an rfl),aqN,aj rfl];exact .some ⟨hp,hu.done (.inl rfl)⟩
 .have uP:=oy (show 0<i by omega);rw[YB (by omega) (by omega),ai (by rw[aw];omega),EQ _ _ _ hi (by omega),aqN,aqN];by_cases aF:mu q i<mu q (par i)
  .rw[ai (by simpa using aF),swap_eq _ _ _ (by omega) hi,aqN];refine .some ⟨⟨par i,rfl,by show par i<(swp q (par i) i).length;rw[uw];omega,(AV q _ _ (by omega) hi).trans hp,hu.step (by omega) hi aF⟩,?_⟩
   show((par i:Nat):Int).toNat<((i:Nat):Int).toNat
   omega
  .rw[aj (by simpa using aF)];exact .some ⟨hp,hu.done (.inr (by omega))⟩
def Wm(l:List Int)(i n:Nat):Prop:=(∀k,0<k->k<n->par k≠i->mu l (par k)<=mu l k)/\(0<i->∀k,0<k->k<n->par k=i->mu l (par i)<=mu l k)
def Wm.done{l:List Int}{i n:Nat}(h:Wm l i n)(hi:∀k,0<k->k<n->par k=i->mu l i<=mu l k):vG l n:=λk h0 hk=>by
 by_cases e:par k=i
 .rw[e];exact hi k h0 hk e
 .exact h.1 k h0 hk e
def Wm.step{l:List Int}{i j n:Nat}(h:Wm l i n)(hj0:0<j)(Z9:j<n)(hn:n<=l.length)(hpj:par j=i)(aF:mu l j<mu l i)(ER:∀k,0<k->k<n->par k=i->mu l j<=mu l k):Wm (swp l i j) j n:=by
 have hp:=oy hj0
 have rN:i<l.length:=by omega
 have xl:j<l.length:=by omega
 obtain⟨h1,h2⟩:=h;refine⟨λk k0 hk eG=>?_,λ_ k k0 hk zf=>?_⟩
 .rw[qY _ _ _ _ rN xl,qY _ _ _ _ rN xl,ai eG];by_cases e:k=j
  .subst e;rw[aj hpj,aj rfl];omega
  .rw[ai e];by_cases e2:k=i
   .subst e2;have zf:=oy k0;rw[ai (by omega),aj rfl];exact h2 k0 j hj0 Z9 hpj
   .rw[ai e2];by_cases e3:par k=i
    .rw[aj e3];exact ER k k0 hk e3
    .rw[ai e3];exact h1 k k0 hk e3
 .have hkp:=oy k0;rw[qY _ _ _ _ rN xl,qY _ _ _ _ rN xl,hpj,ai (by omega),aj rfl,ai (by omega),ai (by omega)];have:=h1 k k0 hk (by omega);rw[zf]at this;exact this
def Vc(l:List Int)(n:Nat)(hn:n<=l.length)(hl:l.length<=1000000)(hD:Wm l 0 n):Wp (M.gp aK (0:Int) (n:Int) l) λr=>r.2.Perm l/\vG r.2 n/\∀k,n<=k->mu r.2 k=mu l k:=by
 unfold M.gp;rw[wp_bind]
 refine(?_:Wp _ λr=>r.2.Perm l/\vG r.2 n/\∀k,n<=k->mu r.2 k=mu l k).mono λr hr=> .some hr
 refine Wp.loop (λs=>∃i:Nat,s.1=(i:Int)/\i<=n/\s.2.Perm l/\Wm s.2 i n/\∀k,n<=k->mu s.2 k=mu l k) (λs=>n-s.1.toNat) ⟨0,rfl,Nat.zero_le _, .refl l,hD,λ_ _=>rfl⟩ (by show n-_<aK;unfold aK;omega) λs hs=>?_
 obtain⟨c,q⟩:=s;obtain⟨i,hc,hi,hp,hu,hk⟩:=hs;dsimp only at hc hi hp hu hk;subst hc;have hlen:=hp.length_eq;dsimp only
 have e1:aqO.wrap (aqO.wrap ((2:Int)*(i:Int))+(1:Int))=((2*i+1:Nat):Int):=by
  rw[aE (n:=(2:Int)*(i:Int)) (by omega) (by omega),aE (by omega) (by omega)];omega
 have e2:aqO.wrap (((2*i+1:Nat):Int)+(1:Int))=((2*i+2:Nat):Int):=by
  rw[aE (by omega) (by omega)];omega
 rw[e1,e2];by_cases h1:n<=2*i+1
 .rw[aj (by rw[aw];omega),aqN,aj rfl];exact .some ⟨hp,hu.done λk k0 BD zf=>by unfold par at zf;omega,hk⟩
 rw[ai (by rw[aw];omega),aqN,ai (by rw[aw];omega)]
 have key:∀j:Nat,0<j->j<n->par j=i->(∀k,0<k->k<n->par k=i->mu q j<=mu q k)->Wp ((M.eT aK q (j:Int) (i:Int)).bind λy7=>
  (if(!y7)=af then
  some (arM ((i:Int),q))
  else
  (M.dx aK (i:Int) (j:Int) q).bind λy8=>
  some (Sum.inl ((j:Int),y8)))) (CQ (λs:Int×List Int=>∃i:Nat,s.1=(i:Int)/\i<=n/\s.2.Perm l/\Wm s.2 i n/\∀k,n<=k->mu s.2 k=mu l k) (λs=>n-s.1.toNat) ((i:Int),q) λr:Int×List Int=>r.2.Perm l/\vG r.2 n/\∀k,n<=k->mu r.2 k=mu l k):=λj j0 hj hpj ER=>by
  have:=oy j0;rw[EQ _ _ _ (by omega) (by omega),aqN];by_cases aF:mu q j<mu q i
  .rw[ai (by simpa using aF),swap_eq _ _ _ (by omega) (by omega),aqN];refine .some ⟨⟨j,rfl,by omega,(AV q _ _ (by omega) (by omega)).trans hp,hu.step j0 hj (by omega) hpj aF ER,λk BD=>?_⟩,?_⟩
   .show mu (swp q i j) k=mu l k
    rw[qY _ _ _ _ (by omega) (by omega),ai (by omega),ai (by omega)];exact hk k BD
   .show n-((j:Nat):Int).toNat<n-((i:Nat):Int).toNat
    omega
  .rw[aj (by simpa using aF)];exact .some ⟨hp,hu.done λk k0 BD zf=>by have:=ER k k0 BD zf;omega,hk⟩
 have kids:∀k,0<k->k<n->par k=i->k=2*i+1\/k=2*i+2:=λk k0 _ zf=>by unfold par at zf;omega
 by_cases h2:2*i+2<n
 .rw[aj (by rw[aw];omega),EQ _ _ _ (by omega) (by omega),aqN,aqN];by_cases aF:mu q (2*i+2)<mu q (2*i+1)
  .rw[aj (by simpa using aF),aqN]
   exact key _ (by omega) h2 (by unfold par;omega) λk k0 BD zf=>by rcases kids k k0 BD zf with rfl|rfl<;>omega
  .rw[ai (by simpa using aF),aqN]
   exact key _ (by omega) (by omega) (by unfold par;omega) λk k0 BD zf=>by rcases kids k k0 BD zf with rfl|rfl<;>omega
 .rw[ai (by rw[aw];omega),aqN,ai (by decide),aqN]
  exact key _ (by omega) (by omega) (by unfold par;omega) λk k0 BD zf=>by
   rcases kids k k0 BD zf with rfl|rfl
   .exact arT _
   .omega
def LP(x:Int)(l:List Int)(hl:l.length<=999999)(hH:vG l l.length):Wp (M.dG aK x l) λr=>r.Perm (x::l)/\vG r r.length:=by
 unfold M.dG M.kR M.fB;rw[eZ (by simp;omega)];simp only[aqN]
 have e:aqO.wrap (((l++[x]).length:Int)-(1:Int))=((l.length:Nat):Int):=by
  rw[aE (by simp) (by simp;omega)];simp
 rw[e,wp_bind]
 have S9:∀k,k<l.length->mu (l++[x]) k=mu l k:=λk hk=>by unfold mu;simp[List.getElem?_append_left hk]
 refine(ab4 (l++[x]) l.length (by simp) (by simp;omega) ⟨λk k0 hk eG=>?_,λh0 k k0 hk zf=>?_⟩).mono λr hr=> .some ⟨hr.1.trans (List.perm_append_singleton x l),hr.2⟩
 .have jn:k<l.length:=by simp at hk;omega
  have:=oy k0;rw[S9 _ jn,S9 _ (by omega)];exact hH k k0 jn
 .have:=oy k0;simp at hk;omega
def vG.min{l:List Int}{n:Nat}(h:vG l n):∀k,k<n->mu l 0<=mu l k:=λk=>by
 induction k using Nat.strongRecOn with
 |_ k ih=>
  intro hk;by_cases h0:k=0
  .subst h0;exact arT _
  .have hp:=oy (show 0<k by omega);have:=ih (par k) hp (by omega);have:=h k (by omega) hk;omega
def YC(l:List Int)(h0:0<l.length)(hl:l.length<=1000000)(hH:vG l l.length):Wp (M.gY aK l) λr=>l.Perm (r.1::r.2)/\vG r.2 r.2.length/\∀y∈r.2,r.1<=y:=by
 unfold M.gY M.fB
 obtain⟨n,hn⟩:∃n,l.length=n+1:=⟨l.length-1,by omega⟩
 have e:aqO.wrap ((l.length:Int)-(1:Int))=((n:Nat):Int):=by rw[aE (by omega) (by omega)];omega
 rw[aqN,e];have sw:=swap_eq l 0 n (by omega) (by omega);rw[show((0:Nat):Int)=(0:Int)from rfl]at sw;rw[sw,aqN,wp_bind]
 have hs:=λk=>qY l 0 n k (by omega) (by omega)
 refine(Vc (swp l 0 n) n (by rw[uw];omega) (by rw[uw];omega) ⟨λk k0 hk eG=>?_,λh=>by omega⟩).mono λr hr=>?_
 .have:=oy k0;rw[hs,hs,ai (by omega),ai eG,ai (by omega),ai (by omega)];exact hH k k0 (by omega)
 .obtain⟨b,q⟩:=r;obtain⟨h1,h2,h3⟩:=hr;dsimp only at h1 h2 h3⊢
  have hq:q.length=n+1:=by rw[h1.length_eq,uw];exact hn
  have e2:aqO.wrap ((q.length:Int)-(1:Int))=((n:Nat):Int):=by rw[aE (by omega) (by omega)];omega
  have hqn:q[n]'(by omega)=mu l 0:=by
   rw[<-tF (l:=q) (by omega),h3 n (aqU _),hs];by_cases e0:n=0
   .rw[aj rfl]
   .rw[aj rfl]
  unfold M.oo;rw[e2,aC (by omega),aqN,pU (by omega),aqN,aqN]
  have Wn:l.Perm (q[n]'(by omega)::q.take n):=by
   have e3:q=q.take n++[q[n]'(by omega)]:=by
    rw[ara (by omega),<-hq,List.take_length]
   refine((AV l 0 n (by omega) (by omega)).symm.trans h1.symm).trans ?_;have:(q.take n++[q[n]'(by omega)]).Perm (q[n]'(by omega)::q.take n):=List.perm_append_singleton _ _;rw[<-e3]at this;exact this
  refine .some ⟨Wn,λk k0 hk=>?_,λy hy=>?_⟩
  .have ht:(q.take n).length=n:=by rw[ard];omega
   have hk:k<n:=by rw[<-ht];exact hk
   have zf:=oy k0
   have tk:∀i,i<n->mu (q.take n) i=mu q i:=λi hi=>by unfold mu;simp[arB,hi]
   show mu (q.take n) (par k)<=mu (q.take n) k
   rw[tk _ hk,tk _ (by omega)];exact h2 k k0 hk
  .show q[n]'(by omega)<=y
   rw[hqn];have:y∈l:=Wn.symm.subset (List.mem_cons_of_mem _ hy);obtain⟨k,hk,rfl⟩:=aq6 this;rw[<-tF hk];exact hH.min k hk
end L
namespace L
def Oj(s:jm)(p:List Int)(d:Int):Prop:=(0<=d/\d<(s.2.2.2.1.length:Int))/\d∉p/\∀y,Dp s d y->y∈p
def rJ(s:jm)(o:List Int):Prop:=∀k,∀h:k<o.length,Oj s (o.take k) o[k]/\∀d,Oj s (o.take k) d->o[k]<=d
def rJ.snoc{s:jm}{o:List Int}{x:Int}(h:rJ s o)(hx:Oj s o x)(hm:∀d,Oj s o d->x<=d):rJ s (o++[x]):=λk hk=>by
 by_cases e:k<o.length
 .have:=h k e
  grind
 grind
def rJ.mem{s:jm}{o:List Int}(h:rJ s o){x:Int}(hx:x∈o):(0<=x/\x<(s.2.2.2.1.length:Int))/\∀y,Dp s x y->y∈o:=by
 obtain⟨k,hk,rfl⟩:=aq6 hx;obtain⟨h1,_⟩:=h k hk;exact⟨h1.1,λy hy=>List.mem_of_mem_take (h1.2.2 y hy)⟩
def rJ.nodup{s:jm}{o:List Int}(h:rJ s o):o.Nodup:=by
 rw[List.nodup_iff_pairwise_ne,List.pairwise_iff_getElem];intro i j hi hj ZO e;refine(h j hj).1.2.1 ?_
 grind [List.mem_take_iff_getElem]
def wK{n:Nat}{l:List Int}(hn:l.Nodup)(h:∀x∈l,0<=x/\x<(n:Int)):l.length<=n:=by
 have:=xL (m:=(aq0 n).map λk:Nat=>(k:Int)) hn λy hy=>by
  obtain⟨a,b⟩:=h y hy;exact List.mem_map.2 ⟨y.toNat,List.mem_range.2 (by omega),by omega⟩
 grind
theorem rJ.len{s:jm}{o:List Int}(h:rJ s o):o.length<=s.2.2.2.1.length:=wK h.nodup λx hx=>(h.mem hx).1
def Wo{α:Type}{l:List α}{i:Int}(h:0<=i):idx l i=l[i.toNat]? :=by unfold idx;rw[aj h]
def Hi{α:Type}(l:List α)(i:Int)(v:α)(u:Nat)(hi:i.toNat<l.length):(bH l i v)[u]? =if u=i.toNat then aa v else l[u]? :=by
 grind [bH]
structure Sa(L:List (List Int))(n k:Nat)(U:List (List Int))(W H:List Int):Prop where
 ul:U.length=n
 wl:W.length=n
 u:∀e,∀h:e<U.length,U[e].length<=6000*k/\∀u:Int,U[e].count u=if 0<=u/\u<(k:Int)then(L.getD u.toNat []).count (e:Int)else 0
 w:∀u,u<k->W[u]? =aa ((L.getD u []).length:Int)
 hp:vG H H.length
 nd:H.Nodup
 h:∀u:Int,u∈H↔(0<=u/\u<(k:Int))/\L.getD u.toNat []=[]
def Sa.hl{L:List (List Int)}{n k:Nat}{U:List (List Int)}{W H:List Int}(h:Sa L n k U W H):H.length<=k:=wK h.nd λx hx=>((h.h x).1 hx).1
structure ail(s:jm)(L:List (List Int))(n:Nat)(W O H:List Int):Prop where
 wl:W.length=n
 o:rJ s O
 w:∀u,u<n->W[u]? =aa (((L.getD u []).countP λy=>decide (y∉O):Nat):Int)
 hp:vG H H.length
 nd:H.Nodup
 h:∀u:Int,u∈H↔Oj s O u
structure InI(s:jm)(L:List (List Int))(n:Nat)(O l:List Int)(W H:List Int):Prop where
 wl:W.length=n
 w:∀u,u<n->W[u]? =aa (((L.getD u []).countP (λy=>decide (y∉O))+l.count (u:Int):Nat):Int)
 hp:vG H H.length
 nd:H.Nodup
 h:∀u:Int,u∈H↔(0<=u/\u<(n:Int))/\u∉O/\W[u.toNat]? =aa 0
def InI.hl{s:jm}{L:List (List Int)}{n:Nat}{O l W H:List Int}(h:InI s L n O l W H):H.length<=n:=wK h.nd λx hx=>((h.h x).1 hx).1
theorem getD_some{L:List (List Int)}{u:Nat}(h:u<L.length):L.getD u []=L[u]:=by simp[h]
def Hj(l O:List Int)(x:Int)(hx:x∉O):l.countP (λy=>decide (y∉O))=l.countP (λy=>decide (y∉O++[x]))+l.count x:=by
 induction l<;>grind
def Sb(l:List Int)(d n:Nat)(U:List (List Int))(hU:U.length=n)(hl:l.length<=6000)(hr:∀y∈l,0<=y/\y<(n:Int))(hb:∀e,∀h:e<U.length,U[e].length<=100000):Wp (Loop (S:=Int×List (List Int)) (X:=List (List Int)) (λVd=>
 (if(decide (Vd.1<(l.length:Int)))=af then
 (idx l Vd.1).bind λRZ=>
 (idx Vd.2 RZ).bind λZp=>
 (idx Vd.2 RZ).bind λx16=>
 (cD x16 ([(d:Int)]:List Int)).bind λl17=>
 (idx Vd.2 RZ).bind λx18=>
 (if decide (RZ=RZ)=af then
 (idx Vd.2 RZ).bind λx19=>
 some (Sum.inl (aqO.wrap (Vd.1+(1:Int)),v7 Vd.2 RZ (λm20=>l17)))
 else ae)
 else
 some (arM Vd.2))) aK ((0:Int),U)) λV=>V.length=n/\∀e,∀h:e<V.length,∀h':e<U.length,V[e].length<=U[e].length+l.length/\∀u:Int,V[e].count u=U[e].count u+if u=(d:Int)then l.count (e:Int)else 0:=by
 refine Wp.count (λs=>s.1) l.length (λk s=>s.2.length=n/\∀e,∀h:e<s.2.length,∀h':e<U.length,s.2[e].length<=U[e].length+k/\∀u:Int,s.2[e].count u=U[e].count u+if u=(d:Int)then(l.take k).count (e:Int)else 0) (by omega) rfl (by grind) λk s hk hs hJ=>?_
 obtain⟨i,V⟩:=s;obtain⟨hV,hJ⟩:=hJ;dsimp only at hs hV hJ;subst hs;simp only[W_,aq,au,reduceCtorEq,aQ,aO];refine⟨λaF=>?_,λhge=>?_⟩
 .have aF:k<l.length:=by omega
  obtain⟨a0,a1⟩:=hr _ (aqS aF);obtain⟨x,hx⟩:=aqY a0
  have hxV:x<V.length:=by omega
  simp only[aC aF,hx,aC hxV,bQ (m:=l.length) (by omega) aF,W_,aq,au,reduceCtorEq];have hbx:=(hJ x hxV (by omega)).1;have:=hb x (by omega);refine nO.2 ⟨by simp;omega,trivial |> λ_=>⟨aF,by rw[kE];exact hV,λe h h'=>?_⟩⟩
  have he:e<V.length:=by rw[kE]at h;exact h
  have P0:l.take (k+1)=l.take k++[l[k]]:=(ara aF).symm;rw[zc h he,P0,hx]
  grind
 grind
def Ve(s:jm)(L:List (List Int))(n:Nat)(O l W H:List Int)(x:Int)(hn:n<=14)(WL:l.length<=100000)(hL:∀u,(L.getD u []).length<=6000)(hI:InI s L n O l W H)
 (hl:∀u∈l,(0<=u/\u<(n:Int))/\u∉O)(Q:((List Int×List Int×List Int)⊕(List Int×List Int))->Prop)(hQ:∀W' H',InI s L n O [] W' H'->Q (.inl (W',O,H'))):Wp (Loop (S:=Int×(List Int)×List Int) (X:=((List Int)×(List Int)×List Int)⊕((List Int)×List Int)) (λO5=>
   (if(decide (O5.1<(l.length:Int)))=af then
   ((idx l O5.1).bind λYD=>
   (idx O5.2.1 YD).bind λx31=>
   (idx O5.2.1 YD).bind λx32=>
   (idx (bH O5.2.1 YD (aqO.wrap (x31-(1:Int)))) YD).bind λV8=>
   (if(decide (V8=(0:Int)))=af then
   (M.dG aK YD O5.2.2).bind λy34=>
   some (bH O5.2.1 YD (aqO.wrap (x31-(1:Int))),y34)
   else
   some (bH O5.2.1 YD (aqO.wrap (x31-(1:Int))),O5.2.2)):Option ((List Int)×List Int)).bind λj29=>
   some (Sum.inl (aqO.wrap (O5.1+(1:Int)),j29.1,j29.2))
   else
   some (arM (Sum.inl (O5.2.1,O,O5.2.2))))) aK ((0:Int),W,H)) Q:=by
 refine Wp.count (λs=>s.1) l.length (λk z=>InI s L n O (l.drop k) z.2.1 z.2.2) (by omega) rfl hI λk z hk hs hJ=>?_
 obtain⟨i,V,G⟩:=z;dsimp only at hs hJ;subst hs
 refine Wp.dec (λaF=>?_) λhge=>?_
 .have aF:k<l.length:=by dsimp only at aF;omega
  obtain⟨⟨a0,a1⟩,a2⟩:=hl _ (aqS aF);have od:l.drop k=l[k]::l.drop (k+1):=aqZ aF;obtain⟨u,hu⟩:=aqY a0;rw[hu]at a1 a2 od
  have hun:u<n:=by omega
  have hVl:=hJ.wl;have hw:=hJ.w u hun;rw[od,List.count_cons_self]at hw
  obtain⟨a,ha⟩:∃a,a=(L.getD u []).countP (λy=>decide (y∉O)):=⟨_,rfl⟩
  obtain⟨b,hb⟩:∃b,b=(l.drop (k+1)).count (u:Int):=⟨_,rfl⟩
  have PZ:a<=6000:=by rw[ha];exact(by grind)
  have B3:b<=100000:=by rw[hb];exact ark List.count_le_length (by grind)
  rw[<-ha,<-hb]at hw
  have iw:idx V (u:Int)=aa ((a+(b+1):Nat):Int):=by rw[Wo (by omega)];exact hw
  have ew:aqO.wrap (((a+(b+1):Nat):Int)-(1:Int))=((a+b:Nat):Int):=by rw[aE (by omega) (by omega)];omega
  have iv:idx (bH V (u:Int) ((a+b:Nat):Int)) (u:Int)=aa ((a+b:Nat):Int):=by
   rw[Wo (by omega),Hi _ _ _ _ (by omega),aj rfl]
  dsimp only;rw[aC aF,hu,aqN,iw,aqN,aqN,ew,iv,aqN]
  have w':∀v,v<n->(bH V (u:Int) ((a+b:Nat):Int))[v]? =aa (((L.getD v []).countP (λy=>decide (y∉O))+(l.drop (k+1)).count (v:Int):Nat):Int):=λv hv=>by
   rw[Hi _ _ _ _ (by omega)];by_cases e:v=u
   .grind
   .rw[ai (by omega),hJ.w v hv,od,List.count_cons_of_ne (by omega)]
  have nH:(u:Int)∉G:=λg=>by
   have:=((hJ.h _).1 g).2.2
   grind [aqX]
  have hGl:=hJ.hl;by_cases e0:a+b=0
  .rw[aj (by rw[aw];omega),wp_bind,wp_bind]
   refine(LP _ _ (by omega) hJ.hp).mono λr hr=> .some (.some ⟨aF,?_,?_⟩)
   .exact bQ (m:=l.length) (by omega) aF
   .refine⟨by grind [bH],w',hr.2,hr.1.nodup_iff.2 (List.nodup_cons.2 ⟨nH,hJ.nd⟩),λv=>?_⟩
    show v∈r↔_/\_/\(bH V _ _)[v.toNat]? =aa 0
    rw[hr.1.mem_iff,arx,Hi _ _ _ _ (by omega),hJ.h v]
    by_cases e:v=(u:Int)
    .simp_all
    .constructor
     .rintro(h|⟨h1,h2,h3⟩)
      all_goals simp_all
     .rintro⟨h1,h2,h3⟩
      rw[ai (by omega)]at h3
      grind
  .rw[ai (by grind),aqN];refine .some ⟨aF,?_,?_⟩
   .exact bQ (m:=l.length) (by omega) aF
   .refine⟨by grind [bH],w',hJ.hp,hJ.nd,λv=>?_⟩
    show v∈G↔_/\_/\(bH V _ _)[v.toNat]? =aa 0
    rw[Hi _ _ _ _ (by omega),hJ.h v]
    by_cases e:v=(u:Int)
    .subst e;rw[aj rfl];refine⟨λh=>absurd ((hJ.h _).2 h) nH,λh=>?_⟩
     grind
    .constructor
     .rintro⟨h1,h2,h3⟩
      rw[ai (by omega)];grind
     .rintro⟨h1,h2,h3⟩
      rw[ai (by omega)]at h3
      grind
 .have hge:k=l.length:=by dsimp only at hge;omega
  subst hge;rw[List.drop_length]at hJ;exact .some (hQ _ _ hJ)
def Sc(s:jm)(hs:ow s):Wp (M.cG aK s) λr=>∃o,rJ s o/\(∀d,¬Oj s o d)/\r=if o.length<s.2.2.2.1.length then((9:Int),([]:List Int))else((0:Int),o):=by
 have Fb:=hs.2.2.1;unfold M.cG
 refine Wp.seq (Yl s) ?_ λL hL=>?_
 .have e:M.nr aK s=M.kO aK s:=rfl
  grind [wB]
 obtain⟨hLl,hL⟩:=hL
 have hDr:∀a b,Dp s a b->0<=b/\b<(s.2.2.2.1.length:Int):=λa b h=>(kW s a).2 b h
 have hLq:∀u,(L.getD u []).length<=6000:=(by grind)
 have hLm:∀u:Nat,u<s.2.2.2.1.length->∀y,y∈L.getD u []↔Dp s (u:Int) y:=(by grind)
 obtain⟨n,hn⟩:∃n,n=s.2.2.2.1.length:=⟨_,rfl⟩
 rw[<-hn]at Fb hLl hDr hLm⊢;rw[wp_bind];refine p7.2 ⟨by omega,?_⟩;rw[wp_bind];refine p7.2 ⟨by omega,?_⟩;rw[aqX,hLl]
 refine Wp.seq (λz=>Sa L n n z.1 z.2.1 z.2.2) ?_ λz hz=>?_
 .rw[wp_bind]
  refine Wp.mono (Q:=λz=>Sa L n n z.1 z.2.1 z.2.2) ?_ λz hz=> .some hz
  refine Wp.count (λz=>z.1) n (λk z=>Sa L n k z.2.1 z.2.2.1 z.2.2.2) (by omega) rfl ⟨by simp,by simp,λe h=>⟨by simp,λu=>?_⟩,λu hu=>by omega,λk h0 h1=>(by cases h1),List.nodup_nil,λu=>?_⟩ λk z hk hz hJ=>?_
  .grind
  .grind
  obtain⟨i,U,W,H⟩:=z;dsimp only at hz hJ;subst hz
  refine Wp.dec (λaF=>?_) λhge=>?_
  .have aF:k<n:=by dsimp only at aF;omega
   have hkL:k<L.length:=by omega
   have hUl:=hJ.ul;have hWl:=hJ.wl;dsimp only;rw[aC hkL,aqN,aC (show k<W.length by omega),aqN,wp_bind,wp_bind,wp_bind];have hHl:=hJ.hl
   refine(Sb L[k] k n U hUl (hL k hkL).1 (by grind) λe h=>by have:=(hJ.u e h).1;omega).mono λV hV=>?_
   have uu:∀e,∀h:e<V.length,V[e].length<=6000*(k+1)/\∀u:Int,V[e].count u=if 0<=u/\u<((k+1:Nat):Int)then(L.getD u.toNat []).count (e:Int)else 0:=λe h=>by
    have hV1:=hV.1;obtain⟨g1,g2⟩:=hV.2 e h (by omega);obtain⟨f1,f2⟩:=hJ.u e (by omega);have:=(hL k hkL).1;refine⟨by omega,λu=>?_⟩;rw[g2,f2]
    by_cases eu:u=(k:Int)
    .subst eu;rw[ai (by omega),aj rfl,aj (by omega),aqX,getD_some hkL];omega
    grind
   have ww:∀u,u<k+1->(bH W (k:Int) (L[k].length:Int))[u]? =aa ((L.getD u []).length:Int):=λu hu=>by
    rw[Hi _ _ _ _ (by omega)];by_cases e:u=k
    .grind
    .rw[ai (by omega),hJ.w u (by omega)]
   have wl:(bH W (k:Int) (L[k].length:Int)).length=n:=by unfold bH;rw[List.length_set];exact hWl
   by_cases e0:L[k].length=0
   .rw[aj (by rw[aw];omega),wp_bind]
    refine(LP _ _ (by omega) hJ.hp).mono λr hr=> .some (.some (.some ⟨aF,bQ (m:=n) (by omega) aF,⟨hV.1,wl,uu,ww,hr.2,hr.1.nodup_iff.2 (List.nodup_cons.2 ⟨λg=>?_,hJ.nd⟩),λu=>?_⟩⟩))
    .have:=((hJ.h _).1 g).1;omega
    .show u∈r↔_
     rw[hr.1.mem_iff,arx,hJ.h u]
     by_cases eu:u=(k:Int)
     .grind [aqX]
     grind
   .rw[ai (by rw[aw];omega)];refine .some (.some (.some ⟨aF,bQ (m:=n) (by omega) aF,⟨hV.1,wl,uu,ww,hJ.hp,hJ.nd,λu=>?_⟩⟩))
    show u∈H↔_
    rw[hJ.h u]
    grind [getD_some]
  .have hge:k=n:=by dsimp only at hge;omega
   subst hge;exact .some hJ
 obtain⟨U,W,H⟩:=z;dsimp only at hz⊢;have hUl:=hz.ul
 have hU:∀e,∀h:e<U.length,U[e].length<=100000/\∀u:Int,U[e].count u=if 0<=u/\u<(n:Int)then(L.getD u.toNat []).count (e:Int)else 0:=λe h=>⟨by have:=(hz.u e h).1;omega,(hz.u e h).2⟩
 refine Wp.seq (λz=>rJ s z.1/\z.2=[]/\∀d,¬Oj s z.1 d) ?_ λz hq=>?_
 .refine Wp.loop (λz=>ail s L n z.1 z.2.1 z.2.2) (λz=>n-z.2.1.length) ⟨hz.wl,λk h=>(by cases h),λu hu=>?_,hz.hp,hz.nd,λu=>?_⟩ (by show n-_<aK;unfold aK;omega) λz hI=>?_
  .rw[hz.w u hu]
   simp_all
  .rw[hz.h u];unfold Oj;rw[<-hn];constructor
   .grind
   .rintro⟨h1,_,h2⟩
    refine⟨h1,List.eq_nil_iff_forall_not_mem.2 λy hy=>?_⟩
    grind
  obtain⟨W,O,H⟩:=z;dsimp only at hI⊢;have hO:=hI.o;have hOl:=hO.len;rw[<-hn]at hOl
  have hHl:H.length<=n:=wK hI.nd λx hx=>by
   have:=((hI.h x).1 hx).1
   grind
  unfold M.fB;rw[aqN]
  refine Wp.dec (λh0=>?_) λh0=>?_
  .have h0:0<H.length:=by omega
   rw[wp_bind]
   refine(YC H h0 (by omega) hI.hp).mono λr hr=>?_
   obtain⟨x,G⟩:=r;obtain⟨hp,hG,ER⟩:=hr;dsimp only at hp hG ER⊢;have hxH:x∈H:=hp.symm.subset (by simp);have hx:=(hI.h x).1 hxH;have M6:=hp.nodup_iff.1 hI.nd;obtain⟨hxG,hGn⟩:=List.nodup_cons.1 M6
   have hO':rJ s (O++[x]):=hO.snoc hx λd hd=>by
    have:d∈H:=(hI.h d).2 hd
    grind
   have ab7:=hO'.len;rw[<-hn,List.length_append]at ab7;simp only[List.length_cons,List.length_nil]at ab7;rw[eZ (by simp;omega),aqN];have VN:=hx.1;rw[<-hn]at VN;obtain⟨e,he⟩:=aqY VN.1
   have heU:e<U.length:=by omega
   rw[he,aC heU,aqN,<-he];obtain⟨f1,f2⟩:=hU e heU;rw[<-he]at f2
   have inU:∀u∈U[e],(0<=u/\u<(n:Int))/\Dp s u x:=λu hu=>by
    have h1:=List.count_pos_iff.2 hu;rw[f2]at h1;by_cases hc:0<=u/\u<(n:Int)
    .grind
    grind
   refine Ve s L n (O++[x]) U[e] W G x Fb f1 hLq ⟨hI.wl,λu hu=>?_,hG,hGn,λu=>?_⟩ (λu hu=>?_) _ λW' H' h'=>?_
   .rw[hI.w u hu,f2,aj (by omega),aqX,Hj _ _ _ hx.2.1]
   .have sL:u∈G↔u∈H/\u≠x:=by
     rw[hp.mem_iff,arx];exact(by grind)
    rw[sL,hI.h u];unfold Oj;rw[<-hn];constructor
    .rintro⟨⟨h1,h2,h3⟩,h4⟩
     refine⟨h1,by simp[h2,h4],?_⟩;rw[hI.w u.toNat (by omega)]
     congr 2
     grind [asz]
    .rintro⟨h1,h2,h3⟩
     rw[hI.w u.toNat (by omega)]at h3
     have h3:(L.getD u.toNat []).countP (λy=>decide (y∉O))=0:=by
      have:=aqP h3;omega
     rw[asz]at h3;simp only[arf,ari,not_or]at h2
     grind [Int.toNat_of_nonneg]
   .obtain⟨h1,h2⟩:=inU u hu;refine⟨h1,λh=>?_⟩
    rcases arf.1 h with h|h
    .exact hx.2.1 ((hO.mem h).2 x h2)
    .rw[ari.1 h]at h2;exact hx.2.1 (hx.2.2 x h2)
   .refine⟨⟨h'.wl,hO',λu hu=>?_,h'.hp,h'.nd,λu=>?_⟩,?_⟩
    .have:=h'.w u hu
     grind
    .rw[h'.h u];unfold Oj;rw[<-hn];constructor
     .rintro⟨h1,h2,h3⟩
      refine⟨h1,h2,λy hy=>?_⟩;rw[h'.w u.toNat (by omega),List.count_nil,Nat.add_zero]at h3
      have h3:(L.getD u.toNat []).countP (λy=>decide (y∉O++[x]))=0:=by
       have:=aqP h3;omega
      rw[asz]at h3;have:=h3 y ((hLm u.toNat (by omega) y).2 (by rw[Int.toNat_of_nonneg h1.1];exact hy))
      grind
     .rintro⟨h1,h2,h3⟩
      refine⟨h1,h2,?_⟩;rw[h'.w u.toNat (by omega),List.count_nil,Nat.add_zero]
      congr 2
      rw[asz]
      grind
    grind
  .have h0:H=[]:=List.length_eq_zero_iff.1 (by omega);subst h0;exact .some ⟨hO,rfl,λd hd=>by cases(hI.h d).2 hd⟩
 .obtain⟨O,H⟩:=z;obtain⟨h1,h2,h3⟩:=hq;dsimp only at h1 h2 h3⊢
  refine Wp.dec (λh=> .some ⟨O,h1,h3,?_⟩) λh=> .some ⟨O,h1,h3,?_⟩
  all_goals grind
def Ol{s:jm}{o:List Int}(h:rJ s o)(hr:∀d,¬Oj s o d)(hc:∀d:Nat,d<s.2.2.2.1.length->¬O2 (Dp s) (d:Int) (d:Int)):o.length=s.2.2.2.1.length:=by
 refine Nat.le_antisymm h.len (Nat.le_of_not_lt λaF=>?_)
 have hDr:∀a b,Dp s a b->0<=b/\b<(s.2.2.2.1.length:Int):=λa b h=>(kW s a).2 b h
 obtain⟨n,hn⟩:∃n,n=s.2.2.2.1.length:=⟨_,rfl⟩
 rw[<-hn]at aF hc hDr
 have next:∀d:Int,(0<=d/\d<(n:Int))->d∉o->∃e,Dp s d e/\e∉o:=λd hd hdo=>Classical.byContradiction λeG=>by
  refine hr d ⟨by rw[<-hn];exact hd,hdo,(by grind)⟩
 have start:∃d:Int,(0<=d/\d<(n:Int))/\d∉o:=Classical.byContradiction λeG=>by
  have:((aq0 n).map λk:Nat=>(k:Int)).length<=o.length:=xL (List.Pairwise.map _ (λa b(h:a≠b)e=>h (by omega)) List.nodup_range) (by grind)
  grind
 have walk:∀m,∃l:List Int,l.length=m+1/\(∀x∈l,(0<=x/\x<(n:Int))/\x∉o)/\l.Pairwise λa b=>O2 (Dp s) b a:=by
  intro m
  induction m with
  |zero=>
   obtain⟨d,h1,h2⟩:=start;exact⟨[d],rfl,(by grind),by simp⟩
  |succ m ih=>
   obtain⟨l,hl,hm,hp⟩:=ih
   cases l with
   |nil=>cases hl
   |cons x t=>
    obtain⟨e,h1,h2⟩:=next x (hm x (by simp)).1 (hm x (by simp)).2
    refine⟨e::x::t,by grind,λy hy=>?_,arb.2 ⟨λy hy=>?_,hp⟩⟩
    .grind
    .rcases arx.1 hy with rfl|hy
     .exact .one h1
     .exact .step ((arb.1 hp).1 y hy) h1
 obtain⟨l,hl,hm,hp⟩:=walk n
 have nd:l.Nodup:=by
  refine hp.imp_of_mem λ{a b}ha hb PZ=>λe=>?_
  subst e;obtain⟨h1,_⟩:=hm a ha;have:=hc a.toNat (by omega);rw[Int.toNat_of_nonneg h1.1]at this;exact this PZ
 have:=wK nd λx hx=>(hm x hx).1
 omega
end L
namespace L.P
abbrev Vl:Type:=aB.den
abbrev Ty:Type:=aA.den
def aS{α:Type}{c:Prop}[Decidable c]{a b:α}:(if c then aa a else aa b)=aa (if c then a else b):=by split<;>rfl
def mC(a b:Bool):(if a=af then af else b)=(a||b):=by cases a<;>rfl
def ko(a b:Bool):(if a=af then b else ag)=(a&&b):=by cases a<;>rfl
def bK(k e n:Int):Prop:=
 (k=1/\e=0/\0<=n/\n<=1)\/(k=2/\e=0/\-1000000000000<=n/\n<=1000000000000)\/(k=3/\e=0/\-1000000000000000<=n/\n<=1000000000000000)\/
 (k=4/\e=0/\-1000000000<=n/\n<=1000000000)\/(k=5/\e=0/\0<=n/\n<=109572)\/(k=6/\0<=e/\e<=7/\0<=n/\n<=15)
instance(k e n:Int):Decidable (bK k e n):=by unfold bK;infer_instance
theorem db(N:Nat)(v:Vl):M.dj N v=aa (decide (bK v.1 v.2.1 v.2.2)):=by
 revert v;rintro⟨(k:Int),(e:Int),(n:Int)⟩
 unfold M.dj;simp only[aS,aqN,mC,ko];refine av aa ?_;by_cases h1:k=1
 .subst h1;rw[art];simp[bK];grind
 by_cases h2:k=2
 .grind [P.bK]
 by_cases h3:k=3
 .grind [P.bK]
 by_cases h4:k=4
 .grind [P.bK]
 by_cases h5:k=5
 .grind [P.bK]
 by_cases h6:k=6
 .subst h6;rw[art];simp[bK];grind
 simp[bK,h1,h2,h3,h4,h5,h6]
def yo(k e n a b:Int):Prop:=bK k e n/\k=a/\e=b
instance(k e n a b:Int):Decidable (yo k e n a b):=by unfold yo;infer_instance
abbrev Hk(v:Vl)(t:Ty):Prop:=yo v.1 v.2.1 v.2.2 t.1 t.2
theorem vH(N:Nat)(v:Vl)(t:Ty):M.mV N v t=aa (decide (Hk v t)):=by
 unfold M.mV;rw[db];simp only[aS,aqN,ko]
 grind [P.yo]
def yR(op k e:Int):Prop:=e=0/\(if op=36 then k=2\/k=3 else if op=39 then 2<=k/\k<=5 else k=1)
instance(op k e:Int):Decidable (yR op k e):=by unfold yR;infer_instance
abbrev Vf(op:Int)(t:Ty):Prop:=yR op t.1 t.2
theorem gA(N:Nat)(k:Int):M.iJ N k=aa (decide (2<=k/\k<=4)):=by
 unfold M.iJ;simp only[aS,aqN,mC];refine av aa ?_
 grind
def rK(N:Nat)(op:Int)(t:Ty):M.gJ N op t=aa (decide (Vf op t)):=by
 unfold M.gJ;rw[gA];simp only[aS,aqN,mC,ko];refine av aa ?_;obtain⟨(k:Int),(e:Int)⟩:=t;rw[art]
 show _↔decide (yR op k e)=af
 unfold yR
 grind
def fold(op acc n:Int)(first:Bool):Int:=
 if op=36 then acc+n else if op=37 then acc*n else if op=38 then(if acc<n then n else acc)else(if first=af\/acc<n then n else acc)
def nW(op:Int)(t:Ty)(j:Nat):List (List Vl)->Bool->Int->Int⊕Int
 |[],_,acc=> .inl acc
 |l::ms,first,acc=>match l[j]? with
  |none=> .inr 6
  |some v=>if(v.1:Int)=0 then .inr 6 else if Hk v t then
    (if bK t.1 0 (fold op acc v.2.2 first)then nW op t j ms ag (fold op acc v.2.2 first)else .inr 3)else .inr 8
def tG(op:Int):Int:=if op=37 then 1 else 0
def Sd(op:Int)(t:Ty)(j:Nat)(ms:List (List Vl)):Vl×Int:=
 if op=39/\ms=[]then((0,0,0),6)else match nW op t j ms af (tG op)with
  | .inl a=>((t.1,0,a),0)
  | .inr c=>((0,0,0),c)
def LQ(op:Int)(t:Ty)(first:Bool)(acc:Int):Prop:=(op=39/\first=af/\acc=0)\/bK t.1 0 acc
def LR{op:Int}{t:Ty}(mR:op=36\/op=37\/op=38\/op=39)(ht:Vf op t):LQ op t af (tG op):=by
 obtain⟨(k:Int),(e:Int)⟩:=t
 obtain⟨h0,h1⟩:=(show yR op k e from ht)
 show(op=39/\af=af/\tG op=0)\/bK k 0 (tG op)
 grind [P.bK,P.tG]
def tH{N:Nat}(hN:100001<=N){op:Int}(mR:op=36\/op=37\/op=38\/op=39){j:Nat}{env:b8.den}(hj:j<env.2.2.2.2.1.length)(hm:env.2.2.2.1.length<=100)(ht:Vf op env.2.2.2.2.1[j]):
 M.gB N (op,(j:Int)) env=aa (Sd op env.2.2.2.2.1[j] j env.2.2.2.1):=by
 obtain⟨d,ip,df,ms,ts,tb⟩:=env;simp only at hj hm ht⊢;apply Wp.eq;unfold M.gB;simp only;rw[aC hj];simp only[aqN];generalize ts[j]=t at ht⊢;have Y8:(t.2:Int)=0:=(show yR op t.1 t.2 from ht).1
 have e1:(if decide (op=37)=af then aa (t.1,t.2,(1:Int))else aa (t.1,t.2,(0:Int)):Option Vl)=aa (t.1,t.2,tG op):=by
  unfold tG;by_cases h:op=37<;>simp[h]
 rw[e1];simp only[aqN,aS,ko];unfold Sd
 refine Wp.ite (λh=>?_) λh=>?_
 .have:op=39/\ms=[]:=by simpa using h
  rw[aj this];exact .some rfl
 .have Tj:¬(op=39/\ms=[]):=by simpa using h
  rw[ai Tj]
  refine Wp.join (Wp.loop (λs:Int×Vl=>∃k:Nat,∃acc:Int,s=((k:Int),(t.1,t.2,acc))/\k<=ms.length/\LQ op t (decide (k=0)) acc/\nW op t j (ms.drop k) (decide (k=0)) acc=nW op t j ms af (tG op)) (λs=>(ms.length-s.1).toNat)
   ⟨0,tG op,rfl,Nat.zero_le _,LR mR ht,rfl⟩ (by grind) ?_)
  rintro _ ⟨k,acc,rfl,hk,Om,hf⟩
  simp only
  refine Wp.dec (λh=>?_) λh=> .some (.some ?_)
  case refine_2=>
   grind [P.nW]
  have jn:k<ms.length:=by omega
  have hd:ms.drop k=ms[k]::ms.drop (k+1):=aqZ jn;rw[hd]at hf;rw[aC jn];simp only[aqN];rw[nW]at hf;by_cases hl:j<ms[k].length
  .rw[aqR hl]at hf;simp only at hf;rw[aC hl];simp only[aqN,aS,mC,vH,db];generalize ms[k][j]=v at hf⊢;by_cases hv:(v.1:Int)=0
   .rw[aj hv]at hf;rw[aj (by simp[hv])];refine .some ?_
    show _=_
    rw[<-hf]
   .rw[ai hv]at hf;rw[ai (by grind)];by_cases hh:Hk v t
    .rw[aj hh]at hf;rw[ai (by simp[hh])]
     obtain⟨hp,Ug,VK⟩:=(show yo _ _ _ _ _ from hh)
     refine Wp.join ?_
     have key:∀a,fold op acc v.2.2 (decide (k=0))=a->bK t.1 0 a->CQ (λs:Int×Vl=>∃k:Nat,∃acc:Int,s=((k:Int),(t.1,t.2,acc))/\k<=ms.length/\LQ op t (decide (k=0)) acc/\nW op t j (ms.drop k) (decide (k=0)) acc=nW op t j ms af (tG op)) (λs=>(ms.length-s.1).toNat) ((k:Int),(t.1,t.2,acc)) (yj (λj4=>aa (j4,(0:Int))) λx=>x=match nW op t j ms af (tG op)with
      | .inl a=>((t.1,0,a),0)
      | .inr c=>((0,0,0),c)) (.inl (aqO.wrap ((k:Int)+1),(t.1,t.2,a))):=by
      intro a ha hpa;subst ha;rw[aj hpa]at hf;rw[aR (by omega)];refine⟨⟨k+1,_,rfl,jn, .inr hpa,?_⟩,by grind⟩;rw[show decide (k+1=0)=ag by simp];exact hf
     rcases mR with rfl|rfl|rfl|rfl
     all_goals simp only[decide_true,decide_false,if_true,if_false,ar3,aqT,arA,Bool.not_false]
     .have ab8:bK t.1 0 acc:=by
       rcases Om with h|h
       .grind
       .exact h
      have Tl:fold 36 acc v.2.2 (decide (k=0))=acc+v.2.2:=by simp[fold]
      have hw:aqO.wrap (acc+v.2.2)=acc+v.2.2:=by
       revert ab8 hp;generalize(v.2.2:Int)=n;generalize(v.1:Int)=vk;generalize(v.2.1:Int)=ve;generalize(t.1:Int)=tk;intro h1 h2;unfold bK at h1 h2;dsimp only[az,Row.den]at*;exact aE (by omega) (by omega)
      rw[hw];rw[Tl]at hf;by_cases uP:bK t.1 0 (acc+v.2.2)
      .rw[ai (by grind)];exact .some (.some (key _ Tl uP))
      .rw[aj (by grind)];rw[ai uP]at hf;refine .some ?_
       show _=_
       rw[<-hf]
     .have hb:(0<=(v.2.2:Int)/\(v.2.2:Int)<=1)/\0<=acc/\acc<=1/\(t.1:Int)=1:=by
       have h1:=(show yR 37 t.1 t.2 from ht).2
       have h2:bK t.1 0 acc:=by
        rcases Om with h|h
        .grind
        .exact h
       rw[Ug]at hp;revert h1 h2 hp;generalize(v.2.2:Int)=n;generalize(v.2.1:Int)=ve;generalize(t.1:Int)=tk;intro h3 h1 h2;unfold bK at h2 h3;simp at h1;dsimp only[az,Row.den]at*;omega
      obtain⟨⟨b1,b2⟩,b3,b4,b5⟩:=hb
      have Tl:fold 37 acc v.2.2 (decide (k=0))=(if v.2.2<acc then v.2.2 else acc:Int):=by
       have b2':(v.2.2:Int)=0\/(v.2.2:Int)=1:=by revert b1 b2;generalize(v.2.2:Int)=n;intro b1 b2;dsimp only[az,Row.den]at*;omega
       have b4':acc=0\/acc=1:=by omega
       rcases b2' with e1|e1<;>rcases b4' with e2|e2<;>simp[fold,e1,e2]
      refine .some (.some (key _ Tl ?_));refine .inl ⟨b5,rfl,?_⟩
      grind
     .have Tl:fold 38 acc v.2.2 (decide (k=0))=(if acc<v.2.2 then v.2.2 else acc:Int):=by simp[fold]
      have h2:bK t.1 0 acc:=by
       rcases Om with h|h
       .grind
       .exact h
      refine .some (.some (key _ Tl ?_))
      grind
     .have h3:bK t.1 0 v.2.2:=by rw[Ug,VK,Y8]at hp;exact hp
      by_cases hc:((k:Int)=0)\/acc<v.2.2
      .have Tl:fold 39 acc v.2.2 (decide (k=0))=v.2.2:=by
        have:k=0\/acc<v.2.2:=hc.imp (λh=>by omega) id;simp[fold,this]
       rw[aj (by simpa using hc)]
       have hv3:v=(t.1,t.2,v.2.2):=by rw[<-Ug,<-VK]
       rw[hv3];exact .some (.some (key _ Tl h3))
      .have Tl:fold 39 acc v.2.2 (decide (k=0))=acc:=by
        have:¬(k=0\/acc<v.2.2):=(by grind)
        simp[fold,this]
       rw[ai (by simpa using hc)];refine .some (.some (key _ Tl ?_))
       rcases Om with h|h
       all_goals grind
    .rw[ai hh]at hf;rw[aj (by simp[hh])];refine .some ?_
     show _=_
     rw[<-hf]
  .rw[List.getElem?_eq_none (by omega)]at hf;rw[aj (by simp;omega)];refine .some ?_
   show _=_
   rw[<-hf]
end L.P
namespace L.P
theorem lR{n:Int}(h0:0<=n)(h1:n<18446744073709551616):aqQ.wrap n=n:=by
 simp[IntKind.wrap,asm,IntKind.signed];omega
theorem lF(n:Int):aqQ.wrap n=n%18446744073709551616:=by
 simp[IntKind.wrap,asm,IntKind.signed]
def oV(n:Int):0<=aqQ.wrap n/\aqQ.wrap n<18446744073709551616:=by rw[lF];omega
def LS(a:Int):cg .u64 a 32=a/4294967296:=by
 unfold cg;rw[show min (32:Int).toNat aqQ.bits=32 from rfl];exact asw _ (by decide)
def ab9(a:Int):cg .u64 a 16=a/65536:=by
 unfold cg;rw[show min (16:Int).toNat aqQ.bits=16 from rfl];exact asw _ (by decide)
def aiq(a:Int):cg .u64 a 8=a/256:=by
 unfold cg;rw[show min (8:Int).toNat aqQ.bits=8 from rfl];exact asw _ (by decide)
def ES:ByteArray:=(⟨#[0,1,2,2,3,3,3,3,4,4,4,4,4,4,4,4,5,5,5,5,5,5,5,5,5,5,5,5,5,5,5,5,6,6,6,6,6,6,6,6,6,6,6,6,6,6,6,6,6,6,6,6,6,6,6,6,6,6,6,6,6,6,6,6,7,7,7,7,7,7,7,7,7,7,7,7,7,7,7,7,7,7,7,7,7,7,7,7,7,7,7,7,7,7,7,7,7,7,7,7,7,7,7,7,7,7,7,7,7,7,7,7,7,7,7,7,7,7,7,7,7,7,7,7,7,7,7,7,8,8,8,8,8,8,8,8,8,8,8,8,8,8,8,8,8,8,8,8,8,8,8,8,8,8,8,8,8,8,8,8,8,8,8,8,8,8,8,8,8,8,8,8,8,8,8,8,8,8,8,8,8,8,8,8,8,8,8,8,8,8,8,8,8,8,8,8,8,8,8,8,8,8,8,8,8,8,8,8,8,8,8,8,8,8,8,8,8,8,8,8,8,8,8,8,8,8,8,8,8,8,8,8,8,8,8,8,8,8,8,8,8,8,8,8,8,8,8,8,8,8,8,8,8,8,8,8]⟩:ByteArray)
def Wq(n:Nat):Bool:=match lH ES n with
 |some k=>decide (0<=k)&&decide (k<=8)&&decide (n<2 ^ k.toNat)&&(aqV n 0||(decide (1<=k)&&decide (2 ^ (k.toNat-1)<=n)))
 |none=>ag
def Vg:(aq0 256).all Wq=af:=by kernel_rfl
def Ei{n:Nat}(h:n<256):∃k:Nat,lH ES n=aa (k:Int)/\k<=8/\n<2 ^ k/\(n≠0->1<=k/\2 ^ (k-1)<=n):=by
 have:=List.all_eq_true.1 Vg n (List.mem_range.2 h);unfold Wq at this;split at this
 case h_2=>cases this
 rename_i k hk;simp only[arY,Bool.or_eq_true,aw,Nat.beq_eq]at this;obtain⟨⟨⟨h1,h2⟩,h3⟩,h4⟩:=this;refine⟨k.toNat,by rw[hk,Int.toNat_of_nonneg h1],by omega,h3,λhn=>?_⟩
 rcases h4 with h4|h4
 .exact absurd h4 hn
 .exact⟨by omega,h4.2⟩
def YE{m b k:Nat}(h:m/2 ^ b<2 ^ k):m<2 ^ (b+k):=by
 rw[arp (Nat.two_pow_pos b)]at h;rw[aso,arm];exact h
def YF{m b k:Nat}(hk:1<=k)(h:2 ^ (k-1)<=m/2 ^ b):2 ^ (b+k-1)<=m:=by
 rw[Nat.le_div_iff_mul_le (Nat.two_pow_pos b)]at h;rw[show b+k-1=k-1+b by omega,aso];exact h
def Hl{N m:Nat}(hm:m<18446744073709551616):∃L:Nat,M.mc N m=aa (L:Int)/\L<=64/\m<2 ^ L/\(m≠0->1<=L/\2 ^ (L-1)<=m):=by
 have fin:∀(b q:Nat)(w:Int),q=m/2 ^ b->w=b->b<=56->q<256->(m≠0->q≠0)->∃L:Nat,((lH ES (IntKind.u8.wrap (q:Int))).bind λx4=>aa (aqO.wrap (w+aqO.wrap x4)))=aa (L:Int)/\L<=64/\m<2 ^ L/\(m≠0->1<=L/\2 ^ (L-1)<=m):=by
  intro b q w hq hw hb h1 h2;subst hq;subst hw;obtain⟨k,g1,g2,g3,g4⟩:=Ei h1
  have hu:IntKind.u8.wrap ((m/2 ^ b:Nat):Int)=((m/2 ^ b:Nat):Int):=by
   simp only[IntKind.wrap,asm,IntKind.signed];generalize m/2 ^ b=q at h1⊢;simp;omega
  refine⟨b+k,?_,by omega,YE g3,λeG=>?_⟩
  .rw[hu,g1,aqN,Ar (by omega),<-Int.natCast_add,Ar (by omega)]
  .obtain⟨g5,g6⟩:=g4 (h2 eG);exact⟨by omega,YF g5 g6⟩
 have e32:((m:Int)/4294967296)=((m/2 ^ 32:Nat):Int):=by rw[show(2 ^ 32:Nat)=4294967296 from rfl];omega
 have d48:m/2 ^ 32/2 ^ 16=m/2 ^ 48:=by rw[ast,<-aso]
 have d40:m/2 ^ 32/2 ^ 8=m/2 ^ 40:=by rw[ast,<-aso]
 have d56:m/2 ^ 48/2 ^ 8=m/2 ^ 56:=by rw[ast,<-aso]
 have d24:m/2 ^ 16/2 ^ 8=m/2 ^ 24:=by rw[ast,<-aso]
 have c16:∀q:Nat,((q:Int)/65536)=((q/2 ^ 16:Nat):Int):=λq=>by rw[show(2 ^ 16:Nat)=65536 from rfl];omega
 have c8:∀q:Nat,((q:Int)/256)=((q/2 ^ 8:Nat):Int):=λq=>by rw[show(2 ^ 8:Nat)=256 from rfl];omega
 unfold M.mc;rw[show(⟨#[0,1,2,2,3,3,3,3,4,4,4,4,4,4,4,4,5,5,5,5,5,5,5,5,5,5,5,5,5,5,5,5,6,6,6,6,6,6,6,6,6,6,6,6,6,6,6,6,6,6,6,6,6,6,6,6,6,6,6,6,6,6,6,6,7,7,7,7,7,7,7,7,7,7,7,7,7,7,7,7,7,7,7,7,7,7,7,7,7,7,7,7,7,7,7,7,7,7,7,7,7,7,7,7,7,7,7,7,7,7,7,7,7,7,7,7,7,7,7,7,7,7,7,7,7,7,7,7,8,8,8,8,8,8,8,8,8,8,8,8,8,8,8,8,8,8,8,8,8,8,8,8,8,8,8,8,8,8,8,8,8,8,8,8,8,8,8,8,8,8,8,8,8,8,8,8,8,8,8,8,8,8,8,8,8,8,8,8,8,8,8,8,8,8,8,8,8,8,8,8,8,8,8,8,8,8,8,8,8,8,8,8,8,8,8,8,8,8,8,8,8,8,8,8,8,8,8,8,8,8,8,8,8,8,8,8,8,8,8,8,8,8,8,8,8,8,8,8,8,8,8,8,8,8,8,8]⟩:ByteArray)=ES from rfl];simp only[LS,ab9,aiq,e32,c16,c8];by_cases h1:4294967296<=m
 .have a1:decide ((4294967296:Int)<=(m:Int))=af:=by simp;omega
  simp only[a1,if_true,aqN,c16,d48];by_cases h2:65536<=m/2 ^ 32
  .have a2:decide ((65536:Int)<=((m/2 ^ 32:Nat):Int))=af:=by simp;omega
   simp only[a2,if_true,aqN,c8,d56];by_cases h3:256<=m/2 ^ 48
   .have a3:decide ((256:Int)<=((m/2 ^ 48:Nat):Int))=af:=by simp;omega
    simp only[a3,if_true,aqN];exact fin 56 _ _ rfl (by kernel_rfl) (by omega) (by omega) (by omega)
   .have a3:decide ((256:Int)<=((m/2 ^ 48:Nat):Int))=ag:=by simp;omega
    simp only[a3,aqT,if_false,aqN];exact fin 48 _ _ rfl (by kernel_rfl) (by omega) (by omega) (by omega)
  .have a2:decide ((65536:Int)<=((m/2 ^ 32:Nat):Int))=ag:=by simp;omega
   simp only[a2,aqT,if_false,aqN,c8,d40];by_cases h3:256<=m/2 ^ 32
   .have a3:decide ((256:Int)<=((m/2 ^ 32:Nat):Int))=af:=by simp;omega
    simp only[a3,if_true,aqN];exact fin 40 _ _ rfl (by kernel_rfl) (by omega) (by omega) (by omega)
   .have a3:decide ((256:Int)<=((m/2 ^ 32:Nat):Int))=ag:=by simp;omega
    simp only[a3,aqT,if_false,aqN];exact fin 32 _ _ rfl (by kernel_rfl) (by omega) (by omega) (by omega)
 .have a1:decide ((4294967296:Int)<=(m:Int))=ag:=by simp;omega
  simp only[a1,aqT,if_false,aqN,c16];by_cases h2:65536<=m
  .have a2:decide ((65536:Int)<=(m:Int))=af:=by simp;omega
   simp only[a2,if_true,aqN,c8,d24];by_cases h3:256<=m/2 ^ 16
   .have a3:decide ((256:Int)<=((m/2 ^ 16:Nat):Int))=af:=by simp;omega
    simp only[a3,if_true,aqN];exact fin 24 _ _ rfl (by kernel_rfl) (by omega) (by omega) (by omega)
   .have a3:decide ((256:Int)<=((m/2 ^ 16:Nat):Int))=ag:=by simp;omega
    simp only[a3,aqT,if_false,aqN];exact fin 16 _ _ rfl (by kernel_rfl) (by omega) (by omega) (by omega)
  .have a2:decide ((65536:Int)<=(m:Int))=ag:=by simp;omega
   simp only[a2,aqT,if_false,aqN,c8];by_cases h3:256<=m
   .have a3:decide ((256:Int)<=(m:Int))=af:=by simp;omega
    simp only[a3,if_true,aqN];exact fin 8 _ _ rfl (by kernel_rfl) (by omega) (by omega) (by omega)
   .have a3:decide ((256:Int)<=(m:Int))=ag:=by simp;omega
    simp only[a3,aqT,if_false,aqN];exact fin 0 m _ (by simp) (by kernel_rfl) (by omega) (by omega) (λh=>h)
def aca(rh:Int)(h:0<=rh):(if rh<4294967296 then(4294967296-rh).toNat else 4294967297)<aK:=by
 unfold aK
 split<;>omega
def On{hi lo y:Int}(h0:0<=hi)(h1:hi<y)(h2:y<18446744073709551616):∃r,M.dz aK hi lo y=aa r:=by
 have key:Wp (M.dz aK hi lo y) λ_=>True:=by
  unfold M.dz;rw[ai (by simp;omega),ai (by simp;omega)]
  refine Wp.dec (λ_=>?_) λeG=>?_
  .unfold n9 sV;rw[ai (by omega),ai (by omega)];exact .some trivial
  .obtain⟨m,rfl⟩:∃m:Nat,y=m:=⟨y.toNat,by omega⟩
   obtain⟨L,g1,g2,g3,g4⟩:=Hl (N:=aK) (m:=m) (by omega);obtain⟨g4,g5⟩:=g4 (by omega);unfold M.fG;rw[g1]
   have hL:aqQ.wrap (aqO.wrap ((64:Int)-(L:Int)))=((64-L:Nat):Int):=by
    rw[aE (by omega) (by omega),lR (by omega) (by omega)];omega
   have hL2:aqQ.wrap ((64:Int)-((64-L:Nat):Int))=(L:Int):=by rw[lR (by omega) (by omega)];omega
   simp only[aqN,hL,hL2]
   have jL:∀a:Int,uF .u64 a ((64-L:Nat):Int)=aa (w7 .u64 a ((64-L:Nat):Int)):=λa=>ai (by omega)
   have Ix:∀a:Int,yG .u64 a (L:Int)=aa (cg .u64 a (L:Int)):=λa=>ai (by omega)
   have YG:∀a:Int,yG .u64 a ((64-L:Nat):Int)=aa (cg .u64 a ((64-L:Nat):Int)):=λa=>ai (by omega)
   simp only[jL,Ix,YG,aqN,LS]
   have hy:9223372036854775808<=w7 .u64 (m:Int) ((64-L:Nat):Int)/\w7 .u64 (m:Int) ((64-L:Nat):Int)<18446744073709551616:=by
    unfold w7;rw[show min (((64-L:Nat):Int).toNat) aqQ.bits=64-L by simp[asm]]
    have e1:m*2 ^ (64-L)<2 ^ 64:=by
     calc m*2 ^ (64-L)<2 ^ L*2 ^ (64-L):=Nat.mul_lt_mul_of_pos_right g3 (Nat.two_pow_pos _)
      _=2 ^ 64:=by rw[<-aso];congr 1;omega
    have e2:2 ^ 63<=m*2 ^ (64-L):=by
     calc 2 ^ 63=2 ^ (L-1)*2 ^ (64-L):=by rw[<-aso];congr 1;omega
      _<=m*2 ^ (64-L):=aq4 _ g5
    have e3:((m:Int)*2 ^ (64-L))=((m*2 ^ (64-L):Nat):Int):=by simp
    rw[e3,lR (by omega) (by omega)];omega
   generalize w7 .u64 (m:Int) ((64-L:Nat):Int)=x4 at hy⊢
   have hyn:0<x4/4294967296/\x4/4294967296<4294967296:=by omega
   generalize x4/4294967296=yn at hyn⊢
   have quo:∀a:Int,n9 a yn=aa (aq1 a yn):=λa=>ai (by omega)
   simp only[quo,aqN]
   have inv:∀rh:Int,0<=rh->rh<18446744073709551616->¬4294967296<=aqQ.wrap (rh+yn)->(if aqQ.wrap (rh+yn)<4294967296 then(4294967296-aqQ.wrap (rh+yn)).toNat else 4294967297)<(if rh<4294967296 then(4294967296-rh).toNat else 4294967297):=by
    intro rh i1 i2 hc;rw[aj (by omega)];by_cases hr:rh<4294967296
    .rw[aj hr];have:aqQ.wrap (rh+yn)=rh+yn:=lR (by omega) (by omega);rw[this]at hc⊢;omega
    .rw[ai hr];have:=oV (rh+yn);omega
   simp only[aS,mC,aqN]
   refine Wp.seq (λ_=>True) (Wp.seq (λ_=>True) (Wp.loop (λs:Int×Int=>0<=s.2/\s.2<18446744073709551616) (λs=>if s.2<4294967296 then(4294967296-s.2).toNat else 4294967297) (oV _) (aca _ (oV _).1) ?_) λ_ _=> .some trivial) λj9 _=>?_
   .rintro⟨q,rh⟩ ⟨i1,i2⟩
    refine .some ?_;split
    .split
     .trivial
     .rename_i hc;exact⟨oV _,inv rh i1 i2 (by simpa using hc)⟩
    .trivial
   refine Wp.seq (λ_=>True) (Wp.seq (λ_=>True) (Wp.loop (λs:Int×Int=>0<=s.1/\s.1<18446744073709551616) (λs=>if s.1<4294967296 then(4294967296-s.1).toNat else 4294967297) (oV _) (aca _ (oV _).1) ?_) λ_ _=> .some trivial) λj14 _=> .some trivial
   .rintro⟨rh,q⟩ ⟨i1,i2⟩
    refine .some ?_;split
    .split
     .trivial
     .rename_i hc;exact⟨oV _,inv rh i1 i2 (by simpa using hc)⟩
    .trivial
 obtain⟨x,hx,_⟩:=key;exact⟨x,hx⟩
def pQ(N:Nat)(m:Int):M.fY N m=aa (decide (0<=m)&&decide (m<=5)):=by
 unfold M.fY;simp only[aS,aqN,ko]
def ux(N:Nat)(n l:Int):M.eJ N n l=aa (decide (l<n)||decide (n<aqO.wrap (0-l))):=by
 unfold M.eJ;simp only[aS,aqN,mC]
theorem lG(N:Nat){n:Int}(h: -4611686018427387904<=n/\n<=4611686018427387904):M.eh N n=aa (if n<0 then-n else n):=by
 unfold M.eh;simp only[aS];refine av aa ?_;by_cases hn:n<0
 .rw[aj (by simpa using hn),aj hn,lF n,lF];omega
 .rw[ai (by simpa using hn),ai hn,lR (by omega) (by omega)]
end L.P
namespace L.P
def Cd(c:Int):Prop:=c=0\/c=3\/c=12
def ET{c:Prop}[Decidable c]{x y:Int×Int}(hx:Cd x.2)(hy:Cd y.2):Cd (if c then x else y).2:=by
 split
 .exact hx
 .exact hy
def O6(x:Int):Cd (x,(0:Int)).2:= .inl rfl
def Cd3(x:Int):Cd (x,(3:Int)).2:= .inr (.inl rfl)
def nX{n l:Int}(hl:0<=l/\l<=9000000000000000000)(h:¬(decide (l<n)||decide (n<aqO.wrap (0-l)))=af): -l<=n/\n<=l:=by
 rw[aE (by omega) (by omega)]at h;simp at h;omega
def Wr(N:Nat)(a b c:Int)(d:Bool)(e:Int):Wp (M.dm N a b c d e) λ_=>True:=by
 unfold M.dm;simp only[aS,aqN];exact .some trivial
def Da(N:Nat)(a:Int)(b:Bool):Wp (M.jA N a b) λ_=>True:=by
 unfold M.jA;simp only[aS];exact .some trivial
def qN(N:Nat){a b m:Int}(hm:0<=m/\m<=5):Wp (M.eK N a b m) λr=>Cd r.2:=by
 unfold M.eK;rw[pQ];simp only[aqN,ux];rw[ai (by simp;omega)]
 refine Wp.dec (λ_=> .some (by simp[Cd])) λhb=>?_
 simp only[aS,aqN,mC]
 refine Wp.ite (λ_=> .some (by simp[Cd])) λhc=>?_
 rw[Bool.or_eq_true,not_or]at hc;have ha:=nX (by omega) hc.1;have u0:=nX (by omega) hc.2;rw[lG N ha,lG N u0];simp only[aqN]
 have eG:(if b<0 then-b else b)≠0:=by split<;>omega
 rw[show∀x,n9 x (if b<0 then-b else b)=aa (aq1 x (if b<0 then-b else b))from λx=>ai eG,show∀x,sV x (if b<0 then-b else b)=aa (aq3 x (if b<0 then-b else b))from λx=>ai eG];simp only[aqN]
 exact Wp.seq _ (Wr ..) λx _=>Wp.seq _ (Da ..) λy _=> .some (by simp[Cd])
def wL(N:Nat)(a b:Int):Wp (M.ef N a b) λr=>(0<=r.1/\r.1<18446744073709551616)/\0<=r.2/\r.2<18446744073709551616:=by
 unfold M.ef;exact .some ⟨oV _,oV _⟩
def AW{hi lo y:Int}(h0:0<=hi)(h1:hi<y)(h2:y<18446744073709551616):Wp (M.dz aK hi lo y) λ_=>True:=by
 obtain⟨r,hr⟩:=On (lo:=lo) h0 h1 h2;exact⟨r,hr,trivial⟩
def Oo{a b c m:Int}(hm:0<=m/\m<=5):Wp (M.mW aK a b c m) λr=>Cd r.2:=by
 unfold M.mW;rw[pQ];simp only[aqN,ux];rw[ai (by simp;omega)]
 refine Wp.dec (λ_=> .some (by simp[Cd])) λhb=>?_
 simp only[aS,aqN,mC]
 refine Wp.ite (λ_=> .some (by simp[Cd])) λhc=>?_
 simp only[Bool.or_eq_true,not_or]at hc;have ha:=nX (n:=a) (l:=1000000000000000) (by omega) (by simpa using hc.1);have u0:=nX (n:=b) (l:=1000000000) (by omega) (by simpa using hc.2.1);have hc':=nX (n:=c) (l:=1000000000) (by omega) (by simpa using hc.2.2);rw[lG _ (n:=a) (by omega),lG _ (n:=b) (by omega)];simp only[aqN]
 refine Wp.seq _ (wL ..) λr hr=>?_
 rw[lG _ (n:=c) (by omega)];simp only[aqN]
 refine Wp.dec (λ_=> .some (by simp[Cd])) λhd=>?_
 have aF:(if c<0 then-c else c)<18446744073709551616:=by split<;>omega
 refine Wp.seq _ (AW hr.1.1 (by omega) aF) λq _=>?_
 refine Wp.dec (λ_=> .some (by simp[Cd])) λ_=>?_
 refine Wp.seq _ (Wr ..) λx _=>?_
 refine Wp.dec (λ_=> .some (by simp[Cd])) λ_=>?_
 exact Wp.seq _ (Da ..) λy _=> .some (by simp[Cd])
def AX{a b m:Int}(hm:0<=m/\m<=5):Wp (M.fH aK a b m) λr=>Cd r.2:=by
 unfold M.fH;rw[pQ];simp only[aqN,ux];rw[ai (by simp;omega)]
 refine Wp.dec (λ_=> .some (by simp[Cd])) λhb=>?_
 simp only[aS,aqN,mC]
 refine Wp.ite (λ_=> .some (by simp[Cd])) λhc=>?_
 refine Wp.seq _ (qN _ hm) λr hr=>?_
 refine .some ?_;split
 .exact hr
 .split<;>simp[Cd]
def Db(N:Nat)(m:Int):M.kI N m=aa (decide (0<=m)&&decide (m<=5)):=pQ N m
def AY(N:Nat)(n l:Int):M.jr N n l=aa (decide (l<n)||decide (n<aqO.wrap (0-l))):=ux N n l
def LU{a b m:Int}(hm:0<=m/\m<=5):Wp (M.mX aK a b m) λr=>Cd r.2:=by
 unfold M.mX;rw[Db];simp only[aqN,AY];rw[ai (by simp;omega)];simp only[aS,aqN,mC]
 refine Wp.ite (λ_=> .some (by simp[Cd])) λhc=>?_
 refine Wp.seq _ (qN _ hm) λr hr=>?_
 refine .some ?_;split
 .exact hr
 .split<;>simp[Cd]
def Oq{a b m:Int}(hm:0<=m/\m<=5):Wp (M.ol aK a b m) λr=>Cd r.2:=by
 unfold M.ol
 exact Wp.seq _ (Oo hm) λr hr=> .some hr
def Hm(N:Nat)(a b c:Int)(d:Bool)(e:Int):Wp (M.jT N a b c d e) λ_=>True:=by
 unfold M.jT;simp only[aS,aqN];exact .some trivial
def EU{a b m:Int}(hm:0<=m/\m<=5):Wp (M.iY aK a b m) λr=>Cd r.2:=by
 unfold M.iY;rw[Db];simp only[aqN,AY];rw[ai (by simp;omega)]
 refine Wp.dec (λ_=> .some (by simp[Cd])) λhb=>?_
 simp only[aS,aqN,mC]
 refine Wp.ite (λ_=> .some (by simp[Cd])) λhc=>?_
 refine Wp.seq _ (wL ..) λr hr=>?_
 refine Wp.dec (λ_=> .some (by simp[Cd])) λhd=>?_
 refine Wp.seq _ (AW hr.1.1 (by omega) (oV _).2) λq _=>?_
 refine Wp.dec (λ_=> .some (by simp[Cd])) λ_=>?_
 refine Wp.seq _ (Wp.bind (Wp.mono (Hm ..) λx _=>?_)) λj7(_:True)=>?_
 .exact .some trivial
 .exact .some (by split<;>simp[Cd])
def yp(N:Nat)(r:aA.den)(d:Int):Wp (M.cH N r d) λ_=>True:=by
 unfold M.cH M.fi;simp only[aS,aqN];exact .some trivial
def yS(a b:Int):Wp (M.fy aK a b) λ_=>True:=by
 unfold M.fy;simp only[aS,aqN]
 refine Wp.seq _ (wL ..) λr hr=>?_
 refine Wp.dec (λ_=> .some trivial) λhd=>?_
 refine Wp.seq _ (AW hr.1.1 (by omega) (by omega)) λq _=>?_
 exact .some trivial
def Hn(N:Nat){a b m:Int}(hm:0<=m/\m<=5):Wp (M.gL N a b m) λr=>Cd r.2:=by
 unfold M.gL;simp only[aS,aqN]
 refine Wp.ite (λ_=> .some (by simp[Cd])) λhc=>?_
 refine Wp.seq _ (qN _ hm) λr hr=>?_
 exact .some (ET hr (ET (Cd3 _) (O6 _)))
def yq{t:bj.den}{d k m:Int}(hm:0<=m/\m<=5)(hk:t.2.1=((3,0):Int×Int))(hv:t.2.2.1=((4,0):Int×Int))(hl:t.2.2.2.length<=9223372036854775807):Wp (M.gM aK t d k m) λr=>Cd r.2:=by
 unfold M.gM;simp only[aS,aqN,mC];rw[ai (by simp;omega),ai (by rw[hk,hv];simp[mD])]
 refine Wp.ite (λ_=> .some (by simp[Cd])) λhc=>?_
 refine Wp.join (Wp.loop (λs:Int×Int×Int=>∃i:Nat,s.2.2=i/\i<=t.2.2.2.length) (λs=>(t.2.2.2.length-s.2.2).toNat) ⟨0,rfl,Nat.zero_le _⟩ (by simp only;unfold aK;omega) ?_)
 rintro⟨s1,s2,s3⟩ ⟨i,hi,rN⟩
 simp only at hi;subst hi
 refine Wp.dec (λh=>?_) λh=> .some ?_
 .have mO:i<t.2.2.2.length:=by simp only at h;omega
  refine Wp.join ?_;simp only;rw[aC mO];simp only[aqN]
  refine Wp.seq (λ_=>True) ?_ λj8 _=>?_
  .refine Wp.seq _ (yp ..) λy _=>?_
   exact .some trivial
  have nxt:∀a b:Int,yj (λj6:Int×Int=>aa (Sum.inl (j6.1,j6.2,aqO.wrap ((i:Int)+1)))) (CQ (λs:Int×Int×Int=>∃i:Nat,s.2.2=i/\i<=t.2.2.2.length) (λs=>(t.2.2.2.length-s.2.2).toNat) (s1,s2,(i:Int)) (yj (λj4:Int×Int=>(M.gL aK j4.1 j4.2 m).bind λy11=>aa (y11.1,y11.2)) λr:Int×Int=>Cd r.2)) (.inl (a,b)):=by
   intro a b;refine .some ?_;rw[aR (by omega)];exact⟨⟨i+1,rfl,mO⟩,by simp only;omega⟩
  refine Wp.ite (λ_=> .some (nxt _ _)) λ_=>?_
  refine Wp.seq _ (yS ..) λy _=>?_
  refine .some ?_;split
  .show Cd _
   simp[Cd]
  .exact nxt _ _
 .show Wp _ _
  exact Wp.seq _ (Hn _ hm) λr hr=> .some hr
def Se(l:List iW.den)(a b:Int)(hl:l.length<=9223372036854775807):Wp (M.cL aK l a b) λr=>r.2.1=af->0<=r.1/\r.1<l.length:=by
 unfold M.cL;refine Wp.loop (λs:Int×Int×Int=>∃i:Nat,s.1=i/\i<=l.length) (λs=>(l.length-s.1).toNat) ⟨0,rfl,Nat.zero_le _⟩ (by simp only;unfold aK;omega) ?_
 rintro⟨s1,s2,s3⟩ ⟨i,hi,rN⟩
 simp only at hi;subst hi
 refine Wp.dec (λh=>?_) λh=> .some λh=>by cases h
 have mO:i<l.length:=by simp only at h;omega
 simp only;rw[aC mO];simp only[aqN]
 refine Wp.seq (λ_=>True) ?_ λy _=>?_
 .unfold M.gK
  refine Wp.seq (λ_=>True) (Wp.seq _ (yp ..) λy _=>?_) λj _=> .some trivial
  simp only[aS];exact .some trivial
 .refine Wp.ite (λ_=> .some λ_=>⟨by simp only;omega,by simp only;omega⟩) λ_=> .some ?_
  rw[aR (by omega)];exact⟨⟨i+1,rfl,mO⟩,by simp only;omega⟩
def Dc(t:bj.den)(a b:Int)(hl:t.2.2.2.length<=9223372036854775807):Wp (M.k9 aK t a b) λr=>r.2=af->0<=r.1/\r.1<t.2.2.2.length:=by
 unfold M.k9
 exact Wp.seq _ (Se _ a b hl) λr hr=> .some hr
def uy(N:Nat)(d:Int):M.jB N d=aa (decide (0<=d)&&decide (d<=109572)):=by
 unfold M.jB;simp only[aS,aqN,ko]
def nY(N:Nat)(y m:Int):Wp (M.dE N y m) λr=>0<=r/\r<=31:=by
 unfold M.dE M.oZ;simp only[aS,aqN,mC,ko]
 refine Wp.ite (λ_=> .some (by omega)) λhc=>?_
 refine Wp.ite (λ_=> .some (by omega)) λ_=>?_
 have hm:1<=m/\m<=12:=by simp at hc;omega
 rw[aE (by omega) (by omega)]
 have:m=1\/m=2\/m=3\/m=4\/m=5\/m=6\/m=7\/m=8\/m=9\/m=10\/m=11\/m=12:=by omega
 rcases this with rfl|rfl|rfl|rfl|rfl|rfl|rfl|rfl|rfl|rfl|rfl|rfl<;>exact⟨_,rfl,by decide⟩
def sj(N:Nat)(y:Int):Wp (M.eM N y) λ_=>True:=by
 unfold M.eM M.kH;simp only[aqN];exact .some trivial
def tI(d:Int):Wp (M.eN aK d) λ_=>True:=by
 unfold M.eN;rw[uy];simp only[aqN]
 refine Wp.ite (λ_=> .some trivial) λhv=>?_
 have hd:0<=d/\d<=109572:=by simpa using hv
 have h0:aq1 d 366=d/366:=aq7 hd.1;have hw:aqO.wrap (d/366)=d/366:=aE (by omega) (by omega);have hw2:aqO.wrap (1900+d/366)=1900+d/366:=aE (by omega) (by omega);rw[h0,hw,hw2]
 refine Wp.seq (λ_=>True) (Wp.loop (λy:Int=>1900<=y/\y<=2199) (λy=>(2199-y).toNat) (by omega) (by unfold aK;omega) ?_) λy _=>?_
 .rintro y ⟨h1,h2⟩
  by_cases hy:y=2199
  .subst hy
   have e:M.eM aK (aqO.wrap ((2199:Int)+1))=aa 109573:=by show(_:Option Int)=_;kernel_rfl
   rw[e];simp only[aqN];rw[ai (by simp;omega)];exact .some trivial
  .refine Wp.seq _ (sj ..) λz _=>?_
   refine Wp.dec (λ_=> .some ?_) λ_=> .some trivial
   rw[aE (by omega) (by omega)];exact⟨by omega,by simp only;omega⟩
 .refine Wp.seq _ (sj ..) λz _=>?_
  refine Wp.loop (λs:Int×Int=>∃i:Nat,s.2=i/\i<=12) (λs=>(12-s.2).toNat) ⟨0,rfl,by omega⟩ (by simp only;unfold aK;omega) ?_
  rintro⟨a,b⟩ ⟨i,hi,rN⟩
  simp only at hi;subst hi
  refine Wp.dec (λh=>?_) λ_=> .some trivial
  refine Wp.seq _ (nY ..) λw _=>?_
  refine Wp.dec (λ_=> .some trivial) λ_=> .some ?_
  simp only at h⊢;rw[aR (by omega)];exact⟨⟨i+1,rfl,by omega⟩,by simp only;omega⟩
def Kg(y m d:Int):Wp (M.lb aK y m d) λr=>Cd r.2:=by
 unfold M.lb
 refine Wp.seq (λj=>j=ag->1<=m/\m<=12) ?_ λj hj=>?_
 .refine Wp.dec (λ_=> .some (λh=>by cases h)) λ_=>Wp.dec (λ_=> .some (λh=>by cases h)) λ_=>Wp.dec (λ_=> .some (λh=>by cases h)) λh1=>Wp.dec (λ_=> .some (λh=>by cases h)) λh2=>Wp.dec (λ_=> .some (λh=>by cases h)) λ_=>?_
  exact Wp.seq _ (nY ..) λw _=> .some λ_=>⟨by omega,by omega⟩
 .refine Wp.ite (λ_=> .some (by simp[Cd])) λhc=>?_
  have hm:=hj (by simpa using hc)
  refine Wp.seq _ (sj ..) λz _=>?_
  refine Wp.seq (λ_=>True) (Wp.loop (λs:Int×Int=>∃i:Nat,s.2=i/\i<=12) (λs=>(13-s.2).toNat) ⟨0,rfl,by omega⟩ (by simp only;unfold aK;omega) ?_) λw _=> .some (by simp[Cd])
  rintro⟨a,b⟩ ⟨i,hi,rN⟩
  simp only at hi;subst hi
  refine Wp.dec (λh=>?_) λ_=> .some trivial
  refine Wp.seq _ (nY ..) λw _=> .some ?_
  simp only at h⊢;rw[aE (n:=m-1) (by omega) (by omega)]at h;rw[aR (by omega)];exact⟨⟨i+1,rfl,by omega⟩,by simp only;omega⟩
def sq(d n:Int):Wp (M.dq aK d n) λr=>Cd r.2:=by
 unfold M.dq;rw[uy];simp only[aS,aqN,mC]
 refine Wp.ite (λ_=> .some (by simp[Cd])) λhc=>?_
 refine Wp.seq _ (tI ..) λy _=>?_
 refine Wp.ite (λ_=> .some (by simp[Cd])) λ_=>?_
 refine Wp.seq _ (nY ..) λw _=>?_
 exact Wp.seq _ (Kg ..) λr hr=> .some hr
def sG(a b:Int):Wp (M.eP aK a b) λ_=>True:=by
 unfold M.eP;rw[uy,uy];simp only[aS,aqN,mC]
 refine Wp.ite (λ_=> .some trivial) λ_=>?_
 refine Wp.seq _ (tI ..) λy _=>Wp.seq _ (tI ..) λz _=>?_
 refine Wp.seq (λ_=>True) (Wp.seq _ (sq ..) λr _=>?_) λj _=> .some trivial
 exact .some trivial
end L.P
namespace L.P
def ace(x a b:Int):(if decide (x=a)=af then aa (decide (x=a))else aa (decide (x=b)))=aa (decide (x=a\/x=b)):=by
 grind
def acf(x a b c:Int):(if decide (x=a)=af then aa (decide (x=a))else(if decide (x=b)=af then aa (decide (x=b))else aa (decide (x=c))))=aa (decide (x=a\/x=b\/x=c)):=by
 grind
def Vh(x a b c d:Int):(if decide (x=a)=af then aa (decide (x=a))else(if decide (x=b)=af then aa (decide (x=b))else(if decide (x=c)=af then aa (decide (x=c))else aa (decide (x=d)))))=aa (decide (x=a\/x=b\/x=c\/x=d)):=by
 grind
def ait(x a b c d e:Int):(if decide (x=a)=af then aa (decide (x=a))else(if decide (x=b)=af then aa (decide (x=b))else(if decide (x=c)=af then aa (decide (x=c))else(if decide (x=d)=af then aa (decide (x=d))else aa (decide (x=e))))))=aa (decide (x=a\/x=b\/x=c\/x=d\/x=e)):=by
 grind
theorem Wp.gT{α:Type}{l:List α}{i:Int}{Q:α->Prop}(h0:0<=i)(h1:i<l.length)(h:∀x,x∈l->idx l i=asE x->Q x):Wp (idx l i) Q:=by
 obtain⟨k,rfl⟩:∃k:Nat,i=k:=⟨i.toNat,by omega⟩
 have hk:k<l.length:=by omega
 exact⟨_,aC hk,h _ (aqS hk) (aC hk)⟩
def ar(op:Int):Int:=
 if(1<=op/\op<=9)\/(35<=op/\op<=39)then 0 else if op=10\/op=25\/(31<=op/\op<=34)then 1 else if(11<=op/\op<=24)\/(27<=op/\op<=30)then 2 else if op=26 then 3 else-1
theorem pg(N:Nat)(op:Int):M.fX N op=aa (ar op):=by
 by_cases h:1<=op/\op<=39
 .have:op=1\/op=2\/op=3\/op=4\/op=5\/op=6\/op=7\/op=8\/op=9\/op=10\/op=11\/op=12\/op=13\/op=14\/op=15\/op=16\/op=17\/op=18\/op=19\/op=20\/op=21\/op=22\/op=23\/op=24\/op=25\/op=26\/op=27\/op=28\/op=29\/op=30\/op=31\/op=32\/op=33\/op=34\/op=35\/op=36\/op=37\/op=38\/op=39:=by omega
  rcases this with rfl|rfl|rfl|rfl|rfl|rfl|rfl|rfl|rfl|rfl|rfl|rfl|rfl|rfl|rfl|rfl|rfl|rfl|rfl|rfl|rfl|rfl|rfl|rfl|rfl|rfl|rfl|rfl|rfl|rfl|rfl|rfl|rfl|rfl|rfl|rfl|rfl|rfl|rfl<;>(show(_:Option Int)=_;kernel_rfl)
 .have ha:ar op= -1:=by unfold ar;rw[ai (by omega),ai (by omega),ai (by omega),ai (by omega)]
  rw[ha]
  have ne:∀k:Int,1<=k->k<=39->decide (op=k)=ag:=λk h1 h2=>by simp;omega
  unfold M.fX;simp[ne]
def qJ(op:Int):ar op<=3:=by grind [P.ar]
def ph(env:b8.den):Prop:=env.2.2.2.1.length<=100/\∀t∈env.2.2.2.2.2,t.2.2.2.length<=9223372036854775807
def Fm(op m:Int):Prop:=0<=ar op/\(op=14\/op=15\/op=16->0<=m/\m<=5)/\(op=34->0<=m/\aq3 m 8<=5)/\(op=6->0<=m)
def Sf(N:Nat)(op:Int):Wp (M.iI N op) λ_=>True:=by
 unfold M.iI;simp only[aS,aqN];exact .some trivial
def Dd(N:Nat)(op m:Int):Wp (M.fh N (op,m)) λb=>b=af->Fm op m:=by
 unfold M.fh;simp only[pg,aqN]
 refine Wp.seq (λj=>j=ag->0<=ar op) ?_ λj hj=>?_
 .refine Wp.dec (λ_=> .some λh=>by cases h) λh=>?_
  refine Wp.kq (λ_=>Wp.seq _ (Sf ..) λy _=> .some λ_=>by omega) λ_=> .some λ_=>by omega
 .refine Wp.ite (λ_=> .some λh=>by cases h) λhc=>?_
  have ha:=hj (by simpa using hc);rw[acf];simp only[aqN,aS,ko]
  refine .some λhb=>?_
  grind [P.Fm]
def Exs(op m:Int)(env:b8.den):Prop:=
 (op=7->0<=m/\m<env.2.1.length)/\(op=8->0<=m/\m<env.2.2.1.length)/\(op=33->0<=m/\m<env.2.2.2.2.2.length)/\(op=34->aqO.wrap (aq1 m 8)<env.2.2.2.2.2.length)/\(op=36\/op=37\/op=38\/op=39->0<=m/\m<env.2.2.2.2.1.length)
def De(N:Nat)(op m:Int)(env:b8.den):Wp (M.kG N (op,m) env) λb=>b=af->Exs op m env:=by
 unfold M.kG Exs;simp only
 refine Wp.dec (λh=>?_) λh7=>?_
 .subst h;simp only[aS,aqN,ko];exact .some (by grind)
 refine Wp.dec (λh=>?_) λh8=>?_
 .subst h
  refine Wp.seq (λj=>j=af->0<=m/\m<env.2.2.1.length) ?_ λj hj=> .some (by grind)
  refine Wp.dec (λh0=>Wp.dec (λh1=>Wp.bind (Wp.gT h0 h1 λx _ _=> .some λ_=>⟨h0,h1⟩)) λ_=> .some λh=>by cases h) λ_=> .some λh=>by cases h
 refine Wp.dec (λh=>?_) λh33=>?_
 .subst h;simp only[aS,aqN,ko];exact .some (by grind)
 refine Wp.dec (λh=>?_) λUM=>?_
 .subst h;exact .some (by grind)
 rw[Vh];simp only[aqN]
 refine Wp.dec (λh=>?_) λh36=> .some (by grind)
 simp only[aS,aqN,ko];exact .some (by grind)
def Sg{N:Nat}(l:List Vl)(hl:l.length<=100000)(hN:100001<=N):Wp (M.dO N l) λb=>b=af->∀v∈l,bK v.1 v.2.1 v.2.2:=by
 unfold M.dO;refine Wp.loop (λs:Int=>∃i:Nat,s=i/\i<=l.length/\∀v∈l.take i,bK v.1 v.2.1 v.2.2) (λs=>(l.length-s).toNat) ⟨0,rfl,Nat.zero_le _,by simp⟩ (by omega) ?_
 rintro _ ⟨i,rfl,hi,hp⟩
 refine Wp.dec (λh=>?_) λh=> .some λ_=>?_
 .have mO:i<l.length:=by omega
  rw[aC mO];simp only[aqN,db]
  refine Wp.kq (λ_=> .some λh=>by cases h) λhq=> .some ?_
  rw[aR (by omega)];refine⟨⟨i+1,rfl,mO,λv hv=>?_⟩,by grind⟩
  grind [List.take_succ_eq_append_getElem]
 grind
def Ho(N:Nat)(a b:Vl):Wp (M.eH N a b) λ_=>True:=by
 unfold M.eH;simp only[aS,aqN];exact .some trivial
def YH(N:Nat)(a b:Int):Wp (M.c9 N a b) λ_=>True:=by
 unfold M.c9;simp only[gA,aS,aqN];exact .some trivial
def Vi(N:Nat)(op:Int)(a b:Vl):Wp (M.aZ N op a b) λ_=>True:=by
 unfold M.aZ M.eH;simp only[gA,aS,aqN];exact .some trivial
def Aws(op m:Int)(env:b8.den):Prop:=
 (op=34->∀t,idx env.2.2.2.2.2 (aqO.wrap (aq1 m 8))=aa t->t.2.1=((3,0):Int×Int)/\t.2.2.1=((4,0):Int×Int))/\(op=36\/op=37\/op=38\/op=39->∀t,idx env.2.2.2.2.1 m=aa t->Vf op t)
def Kh{N:Nat}{op m:Int}{args:List Vl}{env:b8.den}(hx:Exs op m env)(ha:(args.length:Int)=ar op)(UM:op=34->0<=aqO.wrap (aq1 m 8)):Wp (M.bX N (op,m) args env) λb=>b=af->Aws op m env:=by
 obtain⟨x7,x8,V8,x34,x36⟩:=hx;unfold M.bX Aws;dsimp only[az,Row.den]
 have no:∀{b:Bool},¬op=34->¬(op=36\/op=37\/op=38\/op=39)->b=af->(op=34->∀t,idx env.2.2.2.2.2 (aqO.wrap (aq1 m 8))=aa t->t.2.1=((3,0):Int×Int)/\t.2.2.1=((4,0):Int×Int))/\(op=36\/op=37\/op=38\/op=39->∀t,idx env.2.2.2.2.1 m=aa t->Vf op t):=λh1 h2 _=>⟨λe=>absurd e h1,λe=>absurd e h2⟩
 refine Wp.dec (λh=>?_) λh7=>?_
 .obtain⟨a,b⟩:=x7 h;exact Wp.bind (Wp.gT a b λx _ _=>by rw[db];exact .some (no (by omega) (by omega)))
 refine Wp.dec (λh=>?_) λh8=>?_
 .obtain⟨a,b⟩:=x8 h;exact Wp.bind (Wp.gT a b λx _ _=>by rw[db];exact .some (no (by omega) (by omega)))
 have aoe:1<=ar op->0<args.length:=λh=>by omega
 refine Wp.dec (λh=>?_) λh33=>?_
 .obtain⟨a,b⟩:=V8 h
  have h1:ar op=1:=by rw[h];decide
  refine Wp.bind (Wp.gT a b λx _ _=>?_)
  refine Wp.seq (λ_=>True) ?_ λj _=> .some (no (by omega) (by omega))
  refine Wp.bind (Wp.gT (arT 0) (by omega) λy _ _=>?_);rw[vH];simp only[aqN,aS];exact .some trivial
 refine Wp.dec (λh=>?_) λacg=>?_
 .have b:=x34 h
  have h1:ar op=1:=by rw[h];decide
  refine Wp.bind (Wp.gT (UM h) b λx _ hxx=>?_)
  refine Wp.seq (λj=>j=af->x.2.1=((3,0):Int×Int)/\x.2.2.1=((4,0):Int×Int)) ?_ λj hj=> .some λhb=>⟨λ_ t ht=>?_,λe=>by omega⟩
  .refine Wp.bind (Wp.gT (arT 0) (by omega) λy _ _=>?_);simp only[aS,ko]
   refine .some λhb=>?_
   simp only[arY,mD,aw]at hb;exact⟨hb.2.1,hb.2.2⟩
  .rw[hxx]at ht;obtain rfl:=aqP ht;exact hj hb
 rw[Vh];simp only[aqN]
 refine Wp.dec (λh=>?_) λh36=>?_
 .obtain⟨a,b⟩:=x36 h;refine Wp.bind (Wp.gT a b λx _ hxx=>?_);rw[rK]
  refine .some λhb=>⟨λe=>absurd e acg,λ_ t ht=>?_⟩
  rw[hxx]at ht;obtain rfl:=aqP ht;simpa using hb
 have no':∀b:Bool,b=af->_:=λb=>no (b:=b) acg h36
 refine Wp.dec (λh=>?_) λ_=>?_
 .refine Wp.bind (Wp.gT (arT 0) (by omega) λy _ _=>?_)
  exact Wp.seq _ (YH ..) λb _=> .some (no' b)
 refine Wp.dec (λh=>?_) λ_=>?_
 .refine Wp.bind (Wp.gT (arT 0) (by omega) λy _ _=>?_);refine Wp.bind (Wp.gT (by omega) (by omega) λz _ _=>?_)
  exact Wp.seq _ (Vi ..) λb _=> .some (no' b)
 refine Wp.dec (λh=>?_) λ_=> .some (no' _)
 refine Wp.seq (λ_=>True) ?_ λb _=> .some (no' b)
 refine Wp.bind (Wp.gT (arT 0) (by omega) λy _ _=>?_)
 refine Wp.dec (λ_=>?_) λ_=> .some trivial
 refine Wp.bind (Wp.gT (by omega) (by omega) λz _ _=>?_);refine Wp.bind (Wp.gT (by omega) (by omega) λz' _ _=>?_)
 exact Wp.seq _ (Ho ..) λb _=> .some trivial
def Ce(c:Int):Prop:=c=0\/c=3\/c=12\/c=6\/c=8
def Cd.e{c:Int}(h:Cd c):Ce c:=by unfold Cd at h;unfold Ce;omega
theorem Hp{op:Int}{t:Ty}{j:Nat}:{ms:List (List Vl)}->{first:Bool}->{acc c:Int}->nW op t j ms first acc= .inr c->c=3\/c=6\/c=8
 |[],_,_,_,h=>by cases h
 |l::ms,first,acc,c,h=>by
  rw[nW]at h;split at h
  .grind
  .split at h
   .grind
   .split at h
    .split at h
     .exact Hp h
     grind
    grind
def Vj(op:Int)(t:Ty)(j:Nat)(ms:List (List Vl)):Ce (Sd op t j ms).2:=by
 grind [P.Sd,P.Ce,P.Hp]
def nZ(N:Nat)(b:Bool):Wp (M.eL N b) λ_=>True:=by
 unfold M.eL;simp only[aS];exact .some trivial
def Si(op:Int)(a:Vl):Wp (M.jC aK op a) λ_=>True:=by
 unfold M.jC
 refine Wp.dec (λ_=> .some trivial) λ_=>?_
 refine Wp.dec (λ_=>Wp.seq _ (nZ ..) λ_ _=> .some trivial) λ_=>?_
 refine Wp.seq _ (tI ..) λy _=>?_
 simp only[aS];exact .some trivial
def Ki(N:Nat)(a b:Int):Wp (M.la N a b) λr=>Cd r.2:=by
 unfold M.la
 refine Wp.seq _ (wL ..) λr _=>?_
 simp only[aS,aqN];exact .some (ET (Cd3 _) (ET (O6 _) (O6 _)))
def Ot{op m:Int}{a b:Vl}(hm:op=14\/op=15\/op=16->0<=m/\m<=5)(mR:13<=op/\op<=16):Wp (M.jt aK (op,m) a b) λr=>Cd r.2:=by
 unfold M.jt;dsimp only[az,Row.den]
 refine Wp.seq (λj=>Cd j.1) ?_ λj hj=> .some hj
 refine Wp.dec (λ_=>Wp.seq _ (Ki ..) λr hr=> .some hr) λh13=>?_
 have Xh:=hm (by omega);simp only[aS,aqN,ko]
 refine Wp.ite (λ_=>Wp.seq _ (Oq Xh) λr hr=> .some hr) λ_=>?_
 refine Wp.dec (λ_=>Wp.seq _ (LU Xh) λr hr=> .some hr) λ_=>?_
 refine Wp.dec (λ_=>Wp.seq _ (AX Xh) λr hr=> .some hr) λ_=>?_
 refine Wp.dec (λ_=>Wp.seq _ (qN _ Xh) λr hr=> .some hr) λ_=>?_
 exact Wp.seq _ (EU Xh) λr hr=> .some hr
def Ou{op m:Int}{a b:Vl}(hm:op=14\/op=15\/op=16->0<=m/\m<=5):Wp (M.b9 aK (op,m) a b) λr=>Cd r.2:=by
 unfold M.b9;dsimp only[az,Row.den];rw[ace,Vh,ace];simp only[aqN]
 refine Wp.ite (λ_=> .some (O6 0)) λ_=>?_
 refine Wp.dec (λ_=> .some (O6 0)) λ_=>?_
 refine Wp.dec (λh=>Wp.seq _ (Ot hm (by omega)) λr hr=> .some hr) λ_=>?_
 refine Wp.dec (λ_=>?_) λ_=>?_
 .simp only[aS];exact .some (by split<;>exact O6 0)
 refine Wp.dec (λ_=>Wp.seq _ (nZ ..) λ_ _=> .some (O6 0)) λ_=>?_
 refine Wp.dec (λ_=>Wp.seq _ (nZ ..) λ_ _=> .some (O6 0)) λ_=>?_
 refine Wp.dec (λ_=>Wp.seq _ (nZ ..) λ_ _=> .some (O6 0)) λ_=>?_
 refine Wp.dec (λ_=>Wp.seq _ (nZ ..) λ_ _=> .some (O6 0)) λ_=>?_
 refine Wp.dec (λ_=>Wp.seq (λj=>j.1=0) (Wp.dec (λ_=>Wp.seq _ (nZ ..) λ_ _=> .some rfl) λ_=>Wp.seq _ (nZ ..) λ_ _=> .some rfl) λj hj=> .some (.inl hj)) λ_=>?_
 refine Wp.dec (λ_=>Wp.seq (λj=>j.1=0) (Wp.dec (λ_=>Wp.seq _ (nZ ..) λ_ _=> .some rfl) λ_=>Wp.seq _ (nZ ..) λ_ _=> .some rfl) λj hj=> .some (.inl hj)) λ_=>?_
 refine Wp.dec (λ_=>Wp.seq _ (sq ..) λr hr=> .some hr) λ_=>?_
 refine Wp.dec (λ_=> .some (O6 0)) λ_=>?_
 exact Wp.seq _ (sG ..) λr _=> .some (O6 0)
def Kj{op m:Int}{args:List Vl}{env:b8.den}(he:ph env)(hf:Fm op m)(hx:Exs op m env)(ha:(args.length:Int)=ar op)(haw:Aws op m env)(UM:op=34->0<=aqO.wrap (aq1 m 8)):Wp (M.cn aK (op,m) args env) λr=>Ce r.2:=by
 obtain⟨x7,x8,V8,x34,x36⟩:=hx;obtain⟨f0,f14,f34,_⟩:=hf;obtain⟨w34,w36⟩:=haw;have Tm:Ce 0:= .inl rfl;unfold M.cn;dsimp only[az,Row.den];rw[ait,Vh];simp only[aqN]
 refine Wp.dec (λ_=> .some Tm) λ_=>?_
 refine Wp.dec (λ_=> .some Tm) λ_=>?_
 refine Wp.dec (λh=>Wp.bind (Wp.gT (x7 h).1 (x7 h).2 λx _ _=> .some Tm)) λ_=>?_
 refine Wp.dec (λh=>Wp.bind (Wp.gT (x8 h).1 (x8 h).2 λx _ _=> .some Tm)) λ_=>?_
 refine Wp.dec (λ_=> .some Tm) λ_=>?_
 refine Wp.dec (λ_=> .some Tm) λ_=>?_
 refine Wp.dec (λh=>?_) λ_=>?_
 .obtain⟨a,b⟩:=x36 h
  obtain⟨j,rfl⟩:∃j:Nat,m=j:=⟨m.toNat,by omega⟩
  have hj:j<env.2.2.2.2.1.length:=by omega
  rw[tH (by unfold aK;omega) h hj he.1 (w36 h _ (aC hj))];exact .some (Vj ..)
 refine Wp.dec (λh=>?_) λ_=>?_
 .have h1:ar op=1:=by rw[h];decide
  refine Wp.bind (Wp.gT (V8 h).1 (V8 h).2 λx hx _=>?_);refine Wp.bind (Wp.gT (arT 0) (by omega) λy _ _=>?_)
  refine Wp.seq _ (Dc _ _ _ (he.2 x hx)) λr hr=>?_
  refine Wp.ite (λ_=> .some (by unfold Ce;omega)) λhc=>?_
  obtain⟨a,b⟩:=hr (by simpa using hc);exact Wp.bind (Wp.gT a b λz _ _=> .some Tm)
 refine Wp.dec (λh=>?_) λ_=>?_
 .have h1:ar op=1:=by rw[h];decide
  refine Wp.bind (Wp.gT (UM h) (x34 h) λx hx hxx=>?_);refine Wp.bind (Wp.gT (arT 0) (by omega) λy _ _=>?_);obtain⟨k1,k2⟩:=w34 h x hxx;obtain⟨m1,m2⟩:=f34 h
  have:0<=aq3 m 8:=by rw[aq8 m1];omega
  exact Wp.seq _ (yq ⟨this,m2⟩ k1 k2 (he.2 x hx)) λr hr=> .some hr.e
 refine Wp.dec (λh=>?_) λ_=>?_
 .refine Wp.bind (Wp.gT (arT 0) (by omega) λy _ _=>?_)
  exact Wp.seq _ (Si ..) λr _=> .some Tm
 refine Wp.dec (λh=>?_) λ_=>?_
 .refine Wp.bind (Wp.gT (arT 0) (by omega) λy _ _=>?_);refine Wp.bind (Wp.gT (by omega) (by omega) λz _ _=>?_)
  exact Wp.seq _ (Ou f14) λr hr=> .some hr.e
 have h3:ar op=3:=by
  have:¬ar op=0:=by unfold ar;split<;>(try split)<;>(try split)<;>(try split)<;>omega
  have:=qJ op;omega
 refine Wp.bind (Wp.gT (arT 0) (by omega) λy _ _=>?_)
 refine Wp.dec (λ_=>Wp.bind (Wp.gT (by omega) (by omega) λz _ _=> .some Tm)) λ_=>Wp.bind (Wp.gT (by omega) (by omega) λz _ _=> .some Tm)
structure aci(r:Vl×Int):Prop where
 ok:r.2=0->bK r.1.1 r.1.2.1 r.1.2.2
 bad:r.2≠0->r.1=((0,0,0):Int×Int×Int)
 code:r.2=0\/r.2=2\/r.2=3\/r.2=6\/r.2=8\/r.2=12
def Sj{n:Ty}{args:List Vl}{env:b8.den}(he:ph env)(hn:WF aA n)(hl:args.length<=100000):Wp (M.gN aK n args env) aci:=by
 obtain⟨op,m⟩:=n;have hm:=hn.2;unfold M.gN
 have err:∀c:Int,c≠0->(c=2\/c=3\/c=6\/c=8\/c=12)->aci (((0:Int),((0:Int),(0:Int))),c):=λc h1 h2=>⟨λh=>absurd h h1,λ_=>rfl, .inr h2⟩
 refine Wp.seq (λj=>j=ag->Fm op m/\(args.length:Int)=ar op) ?_ λj hj=>?_
 .refine Wp.seq _ (Dd ..) λy hy=>?_
  refine Wp.ite (λ_=> .some λh=>by cases h) λhc=>?_
  rw[pg];exact .some (by grind)
 refine Wp.ite (λ_=> .some (err 2 (by decide) (by omega))) λhc=>?_
 obtain⟨hf,ha⟩:=hj (by simpa using hc)
 refine Wp.seq _ (De ..) λy hy=>?_
 refine Wp.ite (λ_=> .some (err 6 (by decide) (by omega))) λFg=>?_
 have hx:=hy (by simpa using Fg)
 have UM:op=34->0<=aqO.wrap (aq1 m 8):=λe=>by
  have h0:=(hf.2.2.1 e).1;have h1:(m:Int)<=9223372036854775807:=hm.2;rw[aq7 h0];dsimp only[az,Row.den]at h0 h1⊢
  grind [aE]
 refine Wp.seq (λj=>j=ag->Aws op m env) ?_ λj5 hj5=>?_
 .refine Wp.seq _ (Sg _ hl (by unfold aK;omega)) λy _=>?_
  refine Wp.ite (λ_=> .some λh=>by cases h) λ_=>?_
  exact Wp.seq _ (Kh hx ha UM) λz hz=> .some λh=>hz (by simpa using h)
 refine Wp.ite (λ_=> .some (err 8 (by decide) (by omega))) λP5=>?_
 have haw:=hj5 (by simpa using P5)
 refine Wp.seq _ (Kj he hf hx ha haw UM) λr hr=>?_
 refine Wp.kq (λh=> .some (err _ h (by unfold Ce at hr;omega))) λ_=>?_
 rw[db];simp only[aqN]
 refine Wp.kq (λ_=> .some (err 3 (by decide) (by omega))) λhp=> .some ⟨λ_=>hp,λh=>absurd rfl h, .inl rfl⟩
end L.P
namespace L.P
abbrev dc(l:List Nat):List Int:=l.map (λn:Nat=>(n:Int))
def xH(a:Int)(i:Nat)(sk:List Nat):Nat:=if a=0 then i else sk.getD (sk.length-a.toNat) 0
def iQ:List Ty->Nat->List Nat->List Nat->(Nat×Int)⊕(List Nat×List Nat)
 |[],_,st,sk=> .inr (st,sk)
 |n::e,i,st,sk=>
  if ar n.1<0 then .inl (i,2)else if(sk.length:Int)<ar n.1 then .inl (i,5)else
  if 12<sk.length-(ar n.1).toNat+1 then .inl (i,16)else iQ e (i+1) (st++[xH (ar n.1) i sk]) (sk.take (sk.length-(ar n.1).toNat)++[xH (ar n.1) i sk])
def o9(e:List Ty):Int×Int×List Int:=
 if 48<e.length then(0,4,[])else if e.length=0 then(0,5,[])else match iQ e 0 [] []with
  | .inl (i,c)=>(i,c,[])
  | .inr (st,sk)=>if 1<sk.length then(e.length,4,[])else(0,0,dc st)
def Eu(st:List Nat)(m:Nat)(v:Nat):bH (dc st++aqW (m+1) (0:Int)) (st.length:Int) (v:Int)=dc (st++[v])++aqW m (0:Int):=by
 grind [bH]
def xK(st:List Nat)(m:Nat)(u v:Nat):bH (dc (st++[u])++aqW m (0:Int)) (st.length:Int) (v:Int)=dc (st++[v])++aqW m (0:Int):=by
 unfold bH
 simp_all
def sr(e:List Ty):M.gI aK e=aa (o9 e):=by
 apply Wp.eq;unfold M.gI o9
 refine Wp.dec (λh=> .some ?_) λh1=>?_
 .grind
 rw[ai (show¬48<e.length by omega)]
 refine Wp.dec (λh=> .some ?_) λh2=>?_
 .grind
 rw[ai (show¬e.length=0 by omega)]
 have QJ:qh (e.length:Int) (0:Int)=aa (aqW e.length 0):=by
  unfold qh;rw[aj (by omega),aqX]
 rw[QJ];simp only[aqN];refine Wp.join (Wp.loop (λs:Int×List Int×List Int=>∃st sk:List Nat,s=((st.length:Int),dc st++aqW (e.length-st.length) 0,dc sk)/\st.length<=e.length/\sk.length<=12/\iQ (e.drop st.length) st.length st sk=iQ e 0 [] []) (λs=>(e.length-s.1).toNat) ⟨[],[],by simp,by simp,by simp,by simp⟩ (by simp only;unfold aK;omega) ?_)
 rintro _ ⟨st,sk,rfl,jJ,hsk,bP⟩
 simp only
 refine Wp.dec (λhk=>?_) λhk=> .some ?_
 case refine_2=>
  have hd:e.drop st.length=[]:=List.drop_of_length_le (by omega);rw[hd]at bP;rw[<-bP]
  have h0:e.length-st.length=0:=by omega
  rw[h0];simp only[iQ,List.replicate_zero,List.append_nil]
  show Wp _ _
  refine Wp.dec (λh=> .some ?_) λh=> .some ?_
  all_goals grind
 have jn:st.length<e.length:=by omega
 have hd:e.drop st.length=e[st.length]::e.drop (st.length+1):=aqZ jn
 obtain⟨m,hm⟩:∃m,e.length-st.length=m+1:=⟨e.length-st.length-1,by omega⟩
 rw[hd]at bP;rw[aC jn,hm];simp only[aqN,pg];generalize mR:(e[st.length].1:Int)=op;rw[iQ]at bP;rw[mR]at bP;have Rv:=qJ op
 refine Wp.dec (λh=> .some ?_) λN2=>?_
 .rw[aj h]at bP
  show _=_
  rw[<-bP]
 rw[ai N2]at bP
 refine Wp.dec (λh=> .some ?_) λhlen=>?_
 .rw[aj (by simpa using h)]at bP
  show _=_
  rw[<-bP]
 have hlen:¬(sk.length:Int)<ar op:=by simpa using hlen
 rw[ai hlen]at bP
 obtain⟨a,ha⟩:∃a:Nat,ar op=a:=⟨(ar op).toNat,by omega⟩
 rw[ha]at bP N2 hlen Rv⊢
 have ah3:a<=sk.length:=by omega
 have e6:idx (dc st++aqW (m+1) (0:Int)) (st.length:Int)=aa 0:=by
  rw[aC (by simp)];rw[arJ (by simp)];simp
 rw[e6]
 have hw:aqO.wrap (((dc sk).length:Int)-(a:Int))=((sk.length-a:Nat):Int):=by
  rw[List.length_map,aE (by omega) (by omega)];omega
 have hs:xH (a:Int) st.length sk=(if a=0 then st.length else sk.getD (sk.length-a) 0):=by
  unfold xH;by_cases h0:a=0
  .subst h0;simp
  .grind
 simp only[aqN,Eu,hw];refine Wp.seq (· =dc (st++[xH (a:Int) st.length sk])++aqW m (0:Int)) ?_ ?_
 .refine Wp.dec (λh=>?_) λh=>?_
  .have aF:sk.length-a<(dc sk).length:=by simp;omega
   rw[aC aF]
   have e9:idx (dc (st++[st.length])++aqW m (0:Int)) (st.length:Int)=aa (st.length:Int):=by
    rw[aC (by simp)];rw[arE (by simp)];simp
   simp only[aqN,e9,List.getElem_map,xK];refine .some ?_
   grind
  .refine .some ?_
   grind
 .rintro _ rfl
  generalize xH (a:Int) st.length sk=s at bP⊢
  have IC:iE (dc sk) (0:Int) ((sk.length-a:Nat):Int)=aa (dc (sk.take (sk.length-a))):=by
   rw[pU (by simp)];simp
  have e11:idx (dc (st++[s])++aqW m (0:Int)) (st.length:Int)=aa (s:Int):=by
   rw[aC (by simp)];rw[arE (by simp)];simp
  have Yk:cD (dc (sk.take (sk.length-a))) [(s:Int)]=aa (dc (sk.take (sk.length-a)++[s])):=by
   rw[eZ (by simp;omega)];simp
  rw[IC];simp only[aqN,e11,Yk]
  have hl:(dc (sk.take (sk.length-a)++[s])).length=sk.length-a+1:=by simp
  rw[hl];rw[aqX]at bP
  refine Wp.dec (λh=> .some ?_) λh=> .some ?_
  .rw[aj (by omega)]at bP
   show _=_
   rw[<-bP]
  .rw[ai (by omega)]at bP;rw[aR (by omega)];refine⟨⟨st++[s],sk.take (sk.length-a)++[s],?_,by simp;omega,by simp;omega,?_⟩,by grind⟩
   all_goals grind
inductive Ch(st:List Nat):Nat->List Nat->Prop
 |nil:Ch st 0 []
 |snoc {i s:Nat} {l:List Nat} (h:st[i]? =aa s) (hs:s<=i) (c:Ch st s l):Ch st (i+1) (l++[s])
def Ch.mono{st dK:List Nat}(hs:∀i s:Nat,st[i]? =aa s->dK[i]? =aa s){i:Nat}{l:List Nat}(h:Ch st i l):Ch dK i l:=by
 induction h with
 |nil=>exact .nil
 |snoc h1 h2 _ ih=>exact .snoc (hs _ _ h1) h2 ih
def wM{st:List Nat}{x i s:Nat}(h:st[i]? =aa s):(st++[x])[i]? =aa s:=by
 grind
def Ch.lt{st:List Nat}{i:Nat}{l:List Nat}(h:Ch st i l):∀x∈l,x<i:=by
 induction h<;>grind
def Ch.take{st:List Nat}{i:Nat}{l:List Nat}(h:Ch st i l):∀m(hm:m<l.length),Ch st l[m] (l.take m):=by
 induction h<;>grind
def Ch.J5{st:List Nat}{i:Nat}{l l':List Nat}(h:Ch st i l)(h':Ch st i l'):l=l':=by
 induction h generalizing l' with
 |nil=>cases h'<;>grind
 | @snoc i s l h1 h2 c ih=>
   cases h'<;>grind
structure Hq(e:List Ty)(st:List Nat):Prop where
 len:st.length=e.length
 node:∀p(h:p<e.length),0<=ar e[p].1/\∃l,Ch st p l/\(ar e[p].1).toNat<=l.length/\l.length-(ar e[p].1).toNat+1<=12/\st[p]? =aa (xH (ar e[p].1) p l)
theorem Hq.nil:Hq [] []:=⟨rfl,λp h=>by simp at h⟩
def Hq.snoc{e:List Ty}{st:List Nat}(v:Hq e st){n:Ty}{sk:List Nat}(h0:0<=ar n.1)(hc:Ch st e.length sk)(ha:(ar n.1).toNat<=sk.length)(hd:sk.length-(ar n.1).toNat+1<=12):Hq (e++[n]) (st++[xH (ar n.1) e.length sk]):=by
 refine⟨by simp[v.len],λp hp=>?_⟩;by_cases h:p<e.length
 .rw[arE h];obtain⟨h1,l,h2,h3,h4,h5⟩:=v.node p h;exact⟨h1,l,h2.mono λ_ _ h=>wM h,h3,h4,wM h5⟩
 .have:p=e.length:=by simp at hp;omega
  subst this;rw[arJ (by omega)];simp only[Nat.sub_self,List.getElem_cons_zero];refine⟨h0,sk,hc.mono λ_ _ h=>wM h,ha,hd,?_⟩
  grind [P.Hq.len]
def YI{a:Int}{i:Nat}{st l:List Nat}(h0:0<=a)(hc:Ch st i l)(ha:a.toNat<=l.length):xH a i l<=i:=by
 unfold xH;split
 .grind
 .have aF:l.length-a.toNat<l.length:=by omega
  simp only[List.getD,aqR aF,Option.getD_some];exact ash (hc.lt _ (aqS aF))
def Ch.next{st l:List Nat}{i:Nat}{a:Int}(h0:0<=a)(hc:Ch st i l)(ha:a.toNat<=l.length)(hs:st[i]? =aa (xH a i l)):Ch st (i+1) (l.take (l.length-a.toNat)++[xH a i l]):=by
 refine .snoc hs (YI h0 hc ha) ?_;unfold xH;by_cases h:a=0
 .simp_all
 .have aF:l.length-a.toNat<l.length:=by omega
  rw[ai h];simp only[List.getD,aqR aF,Option.getD_some];exact hc.take _ aF
def Hr:∀(Tn pre:List Ty)(st sk dK Rf:List Nat),Hq pre st->Ch st pre.length sk->iQ Tn pre.length st sk= .inr (dK,Rf)->Hq (pre++Tn) dK/\Ch dK (pre++Tn).length Rf
 |[],pre,st,sk,dK,Rf,v,c,h=>by
  grind [P.iQ]
 |n::Tn,pre,st,sk,dK,Rf,v,c,h=>by
  rw[iQ]at h;split at h
  .cases h
  split at h
  .cases h
  split at h
  .cases h
  rename_i h1 h2 h3
  have h0:0<=ar n.1:=by omega
  have ha:(ar n.1).toNat<=sk.length:=by omega
  have v':=v.snoc h0 c ha (by omega)
  have c1:Ch (st++[xH (ar n.1) pre.length sk]) pre.length sk:=c.mono λ_ _ h=>wM h
  have hs:(st++[xH (ar n.1) pre.length sk])[pre.length]? =aa (xH (ar n.1) pre.length sk):=by
   rw[<-v.len,List.getElem?_append_right (by omega)];simp[v.len]
  have c':=c1.next h0 ha hs;have:=Hr Tn (pre++[n]) _ _ dK Rf v' (by simpa using c') (by simpa using h)
  grind
def Hs{e:List Ty}{st:List Nat}(v:Hq e st):∀(Tn pre:List Ty)(sk:List Nat),pre++Tn=e->Ch st pre.length sk->∃Rf,iQ Tn pre.length (st.take pre.length) sk= .inr (st,Rf)/\Ch st e.length Rf
 |[],pre,sk,he,c=>by
  rw[List.append_nil]at he;subst he;exact⟨sk,by rw[iQ,<-v.len,List.take_length],c⟩
 |n::Tn,pre,sk,he,c=>by
  subst he;obtain⟨h0,l,h1,h2,h3,h4⟩:=v.node pre.length (by simp);rw[arJ (by omega)]at h0 h2 h3 h4;simp only[Nat.sub_self,List.getElem_cons_zero]at h0 h2 h3 h4;obtain rfl:=h1.J5 c;rw[iQ,ai (by omega),ai (by omega),ai (by omega)];have c':=c.next h0 h2 h4;obtain⟨Rf,g1,g2⟩:=Hs v Tn (pre++[n]) _ (by simp) (by simpa using c')
  grind [List.take_succ_eq_append_getElem]
end L.P
namespace L.P
def opsL(st:List Nat):Nat->Nat->List Nat
 |0,_=>[]
 |a+1,i=>opsL st a (st.getD (i-1) 0)++[i-1]
def AZ(st:List Nat):∀a i,(opsL st a i).length=a
 |0,_=>rfl
 |a+1,i=>by simp[opsL,AZ st a]
def YJ{st l:List Nat}{i:Nat}(c:Ch st i l):∀a,a<=l.length->(∀o∈opsL st a i,o<i/\(if h:l.length-a<l.length then l[l.length-a]else i)<=o/\∃s,st[o]? =aa s/\s<=o/\(if h:l.length-a<l.length then l[l.length-a]else i)<=s):=by
 induction c with
 |nil=>intro a ha o ho;simp at ha;subst ha;simp[opsL]at ho
 | @snoc i s l h1 h2 c ih=>
   intro a ha o ho
   cases a with
   |zero=>simp[opsL]at ho
   |succ a=>
    have aF:(l++[s]).length-(a+1)<(l++[s]).length:=by simp;omega
    rw[dif_pos aF]
    have e1:(l++[s])[(l++[s]).length-(a+1)]=(if h:l.length-a<l.length then l[l.length-a]else s):=by
     split
     .grind
     .grind
    rw[e1]
    have hg:st.getD (i+1-1) 0=s:=by simp[List.getD,h1]
    rw[opsL,hg]at ho;simp at ha
    have hle:(if h:l.length-a<l.length then l[l.length-a]else s)<=s:=by
     split
     .rename_i h;exact ash (c.lt _ (aqS h))
     .exact aqU _
    grind
def Hq.ops{e:List Ty}{st:List Nat}(v:Hq e st){p:Nat}(h:p<e.length):∀o∈opsL st (ar e[p].1).toNat p,o<p/\∃s t,st[o]? =aa s/\s<=o/\st[p]? =aa t/\t<=s:=by
 obtain⟨h0,l,h1,h2,_,h4⟩:=v.node p h;intro o ho;obtain⟨g1,g2,s,g3,g4,g5⟩:=YJ h1 _ h2 o ho;refine⟨g1,s,_,g3,g4,h4,?_⟩
 grind [P.xH]
def z3:Vl:=((0,0,0):Int×Int×Int)
def lK(g:Nat->Vl×Int):List Nat->List Vl⊕Int
 |[]=> .inl []
 |o::os=>if(g o).2=0 then(match lK g os with
  | .inl vs=> .inl ((g o).1::vs)
  | .inr c=> .inr c)else .inr (g o).2
def l7(r:Vl×Int):Vl×Int:=if r.2≠0 then(z3,r.2)else if(r.1.1:Int)=1/\bK r.1.1 r.1.2.1 r.1.2.2 then(r.1,0)else(z3,8)
def Sk(g:Nat->Vl×Int)(n:Ty)(ops:List Nat):Vl×Int:=
 if(n.2:Int)≠0 then(z3,2)else
 if(l7 (g (ops.getD 0 0))).2≠0 then(z3,(l7 (g (ops.getD 0 0))).2)else
 if(n.1:Int)=26/\((l7 (g (ops.getD 0 0))).1.2.2:Int)=1 then g (ops.getD 1 0)else
 if(n.1:Int)=26 then g (ops.getD 2 0)else
 if((n.1:Int)=23)=(((l7 (g (ops.getD 0 0))).1.2.2:Int)=0)then((l7 (g (ops.getD 0 0))).1,0)else l7 (g (ops.getD 1 0))
def su(op:Int):Prop:=op=23\/op=24\/op=26
instance(op:Int):Decidable (su op):=by unfold su;infer_instance
noncomputable def ma(ap:Ty->List Vl->Vl×Int)(e:List Ty)(st:List Nat):Nat->Nat->Vl×Int
 |0,_=>(z3,0)
 |f+1,i=>if su (e.getD i ((0,0):Int×Int)).1 then Sk (ma ap e st f) (e.getD i ((0,0):Int×Int)) (opsL st (ar (e.getD i ((0,0):Int×Int)).1).toNat i)
  else match lK (ma ap e st f) (opsL st (ar (e.getD i ((0,0):Int×Int)).1).toNat i)with
   | .inl vs=>ap (e.getD i ((0,0):Int×Int)) vs
   | .inr c=>(z3,c)
def Ht{e:List Ty}{st:List Nat}(v:Hq e st)(hl:e.length<=100000)(env:b8.den){i:Nat}(hi:i<e.length):M.fQ aK (e,(dc st,env)) (i:Int)=aa (dc (opsL st (ar e[i].1).toNat i)):=by
 apply Wp.eq;obtain⟨h0,l,hc,ha,hd,_⟩:=v.node i hi;unfold M.fQ;simp only;rw[aC hi];simp only[aqN,pg]
 obtain⟨a,hea⟩:∃a:Nat,ar e[i].1=a:=⟨(ar e[i].1).toNat,by omega⟩
 have hle:=qJ e[i].1;rw[hea]at ha hle⊢;rw[aqX]at ha⊢
 have QJ:qh (a:Int) (0:Int)=aa (aqW a 0):=by
  unfold qh;rw[aj (by omega),aqX]
 rw[QJ];simp only[aqN,List.length_replicate];refine Wp.loop (λs:Int×Int×List Int=>∃b p:Nat,∃dn l':List Nat,s=((p:Int)-1,(b:Int)-1,aqW b (0:Int)++dc dn)/\b<=a/\p<=i/\opsL st a i=opsL st b p++dn/\Ch st p l'/\b<=l'.length) (λs=>(s.2.1+1).toNat) ⟨a,i,[],l,?_,aqU _,aqU _,by simp,hc,ha⟩ ?_ ?_
 .rw[aE (by omega) (by omega),aE (by omega) (by omega)];simp
 .simp only;rw[aE (n:=(a:Int)-1) (by omega) (by omega)];unfold aK;omega
 .rintro _ ⟨b,p,dn,l',rfl,h1,h2,h3,h4,h5⟩
  simp only
  refine Wp.dec (λhb=>?_) λhb=> .some ?_
  .obtain⟨b,rfl⟩:∃m,b=m+1:=⟨b-1,by omega⟩
   cases h4 with
   |nil=>simp at h5
   | @snoc p u l' g1 g2 c=>
     simp at h5;have hp:p<st.length:=(aq9.1 g1).1
     have e5:idx (aqW (b+1) (0:Int)++dc dn) (((b+1:Nat):Int)-1)=aa 0:=by
      rw[show((b+1:Nat):Int)-1=(b:Int) by omega,aC (by simp;omega),arE (by simp)];simp
     have e6:idx (dc st) (((p+1:Nat):Int)-1)=aa (u:Int):=by
      rw[show((p+1:Nat):Int)-1=(p:Int) by omega,aC (by simpa using hp)];have:=(aq9.1 g1).2;simp[this]
     rw[e5,e6];simp only[aqN];rw[aE (n:=(u:Int)-1) (by omega) (by omega),aE (n:=(((b+1:Nat):Int)-1)-1) (by omega) (by omega)];refine .some ⟨⟨b,u,p::dn,l',?_,by omega,by omega,?_,c,h5⟩,by simp only;omega⟩
     .have e7:bH (aqW (b+1) (0:Int)++dc dn) (((b+1:Nat):Int)-1) (((p+1:Nat):Int)-1)=aqW b (0:Int)++dc (p::dn):=by
       unfold bH;rw[show(((b+1:Nat):Int)-1).toNat=b by omega,show((p+1:Nat):Int)-1=(p:Int) by omega,List.replicate_succ',arQ,List.set_append_right _ _ (by simp)];simp
      rw[e7];simp only[Prod.mk.injEq,and_true,true_and];omega
     .rw[h3,opsL]
      have:st.getD (p+1-1) 0=u:=by simp[List.getD,g1]
      rw[this];simp
  .obtain rfl:b=0:=by omega
   show _=_
   rw[h3];simp[opsL]
noncomputable def EV(env:b8.den)(n:Ty)(args:List Vl):Vl×Int:=(M.gN aK n args env).getD (z3,0)
def Ws{env:b8.den}(he:ph env){n:Ty}(hn:WF aA n){args:List Vl}(hl:args.length<=100000):M.gN aK n args env=aa (EV env n args):=by
 obtain⟨r,hr,_⟩:=Sj (n:=n) (args:=args) he hn hl;unfold EV;rw[hr];rfl
def A0{N:Nat}{x:bV.den}{o:Int}{r:Vl×Int}(h:M.cr aK N x o=aa r):M.dY aK (N+1) x o=aa (l7 r):=by
 unfold M.dY l7;rw[h];simp only[aqN,db];by_cases h0:r.2=0
 .by_cases h1:(r.1.1:Int)=1
  .by_cases h2:bK r.1.1 r.1.2.1 r.1.2.2
   .rw[h1]at h2;simp[h0,h1,h2]
   .rw[h1]at h2;simp[h0,h1,h2,z3]
  .simp[h0,h1,z3]
 .simp[h0,z3]
def pj{g:Nat->Vl×Int}:∀(os:List Nat)(k:Nat),k<=os.length->∀vs,lK g (os.take k)= .inl vs->lK g os=(match lK g (os.drop k)with
 | .inl ws=> .inl (vs++ws)
 | .inr c=> .inr c)
 |os,0,_,vs,h=>by
  grind [P.lK]
 |[],k+1,h,_,_=>by simp at h
 |o::os,k+1,hk,vs,h=>by
  rw[List.take_succ_cons,lK]at h;split at h
  .rename_i h0
   cases hq:lK g (os.take k)with
   |inr c=>rw[hq]at h;cases h
   |inl ws=>
    rw[hq]at h;cases h;have:=pj os k (by simpa using hk) ws hq;rw[lK,aj h0,this,List.drop_succ_cons]
    cases lK g (os.drop k)<;>rfl
  .cases h
def Vk{e:List Ty}{st:List Nat}(v:Hq e st)(hl:e.length<=100000){env:b8.den}(he:ph env)(hw:∀n∈e,WF aA n):∀(f N i:Nat),i<f->i<e.length->3*f<=N->M.cr aK N (e,(dc st,env)) (i:Int)=aa (ma (EV env) e st f i):=by
 intro f
 induction f with
 |zero=>intro N i h;omega
 |succ f ih=>
  intro N i hif hi hN
  obtain⟨N,rfl⟩:∃m,N=m+3:=⟨N-3,by omega⟩
  have YK:=v.ops hi
  have hge:e.getD i ((0,0):Int×Int)=e[i]:=by simp[List.getD,hi]
  have hlen:=AZ st (ar e[i].1).toNat i;have Rv:=qJ e[i].1
  have uY:∀M',3*f<=M'->∀o∈opsL st (ar e[i].1).toNat i,M.cr aK M' (e,(dc st,env)) (o:Int)=aa (ma (EV env) e st f o):=by
   intro M' hM' o ho;obtain⟨g1,_⟩:=YK o ho;exact ih M' o (by omega) (by omega) hM'
  unfold ma M.cr;rw[hge,Ht v hl env hi];simp only;rw[aC hi];simp only[aqN];rw[acf];simp only[aqN];have hwf:=hw e[i] (aqS hi);generalize aiy:opsL st (ar e[i].1).toNat i=ops at*;by_cases hz:su e[i].1
  .rw[aj hz,aj (by simpa[su]using hz)]
   have ha2:2<=ops.length/\((e[i].1:Int)=26->3<=ops.length):=by
    have:2<=ar e[i].1/\((e[i].1:Int)=26->ar e[i].1=3):=by
     revert hz;generalize(e[i].1:Int)=op;intro hz
     rcases hz with rfl|rfl|rfl<;>decide
    refine⟨by omega,λh=>?_⟩;have:=this.2 h;omega
   have gd:∀k(hk:k<ops.length),idx (dc ops) (k:Int)=aa ((ops.getD k 0:Nat):Int)/\ops.getD k 0∈ops:=by
    intro k hk
    have:ops.getD k 0=ops[k]:=by simp[List.getD,hk]
    rw[this];refine⟨?_,aqS hk⟩;rw[aC (by simpa using hk)];simp
   obtain⟨i0,m0⟩:=gd 0 (by omega);obtain⟨i1,m1⟩:=gd 1 (by omega);unfold M.jZ;rw[show((0:Nat):Int)=0 from rfl]at i0;rw[show((1:Nat):Int)=1 from rfl]at i1;rw[i0,i1];simp only[aqN];rw[A0 (uY N (by omega) _ m0),A0 (uY N (by omega) _ m1),uY (N+1) (by omega) _ m1];simp only[aqN,aS,ko];unfold Sk;generalize hb:l7 (ma (EV env) e st f (ops.getD 0 0))=b;by_cases h2:(e[i].2:Int)=0
   .rw[ai (by simp[h2])];by_cases Ry:b.2=0
    .rw[ai (by simp[Ry])];by_cases Vm:(e[i].1:Int)=26
     .obtain⟨i2,m2⟩:=gd 2 (by have:=ha2.2 Vm;omega);rw[show((2:Nat):Int)=2 from rfl]at i2;rw[i2];simp only[aqN];rw[uY (N+1) (by omega) _ m2];by_cases hn:(b.1.2.2:Int)=1
      .simp[h2,Ry,Vm,hn]
      .simp[h2,Ry,Vm,hn]
     .by_cases h23:(e[i].1:Int)=23<;>by_cases hn:(b.1.2.2:Int)=0<;>simp[h2,Ry,Vm,h23,hn]
    .simp[h2,Ry,z3]
   .simp[h2,z3]
  .rw[ai hz,ai (by simpa[su]using hz)]
   have QJ:qh ((dc ops).length:Int) ((0:Int),((0:Int),(0:Int)))=aa (aqW ops.length z3):=by
    unfold qh;rw[aj (by simp;omega)];simp[z3]
   rw[QJ];simp only[aqN];apply Wp.eq;refine Wp.join (Wp.loop (λs:Int×List Vl=>∃vs:List Vl,s=((vs.length:Int),vs++aqW (ops.length-vs.length) z3)/\vs.length<=ops.length/\lK (ma (EV env) e st f) (ops.take vs.length)= .inl vs) (λs=>(ops.length-s.1).toNat) ⟨[],by simp,by simp,by simp[lK]⟩ (by simp only;unfold aK;omega) ?_)
   rintro _ ⟨vs,rfl,Y4,hva⟩
   simp only;have uL:=pj ops vs.length Y4 vs hva
   refine Wp.dec (λhk=>?_) λhk=> .some ?_
   .have jn:vs.length<ops.length:=by simp at hk;omega
    have YL:vs.length<(dc ops).length:=by simpa using jn
    rw[aC YL];simp only[aqN,List.getElem_map];rw[uY (N+2) (by omega) _ (aqS jn)];simp only[aqN];have hd:ops.drop vs.length=ops[vs.length]::ops.drop (vs.length+1):=aqZ jn;rw[hd,lK]at uL;have ht:ops.take (vs.length+1)=ops.take vs.length++[ops[vs.length]]:=List.take_succ_eq_append_getElem jn
    obtain⟨r,hr⟩:∃r,ma (EV env) e st f ops[vs.length]=r:=⟨_,rfl⟩
    rw[hr]at uL⊢;by_cases h0:r.2=0
    .rw[ai (by simp[h0])]
     obtain⟨m,hm⟩:∃m,ops.length-vs.length=m+1:=⟨ops.length-vs.length-1,by omega⟩
     rw[hm]
     have e8:idx (vs++aqW (m+1) z3) (vs.length:Int)=aa z3:=by
      rw[aC (by simp),arJ (by omega)];simp
     have e9:bH (vs++aqW (m+1) z3) (vs.length:Int) r.1=(vs++[r.1])++aqW m z3:=by
      unfold bH;rw[aqX,List.set_append_right _ _ (by omega),List.replicate_succ];simp
     rw[e8];simp only[aqN,e9];rw[aR (by omega)]
     have n5:lK (ma (EV env) e st f) [ops[vs.length]]= .inl [r.1]:=by
      simp only[lK,hr];rw[aj h0]
     have P0:=pj (g:=ma (EV env) e st f) (ops.take (vs.length+1)) vs.length (by simp;omega) vs (by rw[List.take_take,ar1 (by omega)];exact hva);rw[ht,List.drop_append_of_le_length (by simp;omega),List.drop_of_length_le (by simp;omega),List.nil_append,n5]at P0;refine .some ⟨⟨vs++[r.1],?_,by simp;omega,?_⟩,by simp only;omega⟩
     .have:ops.length-(vs++[r.1]).length=m:=by simp;omega
      rw[this];simp
     .rw[show(vs++[r.1]).length=vs.length+1 by simp,ht];exact P0
    .rw[aj (by simp[h0])];rw[ai h0]at uL;refine .some ?_
     show _=_
     rw[uL];rfl
   .have Zq:ops.drop vs.length=[]:=List.drop_of_length_le (by simp at hk;omega);rw[Zq,lK]at uL;rw[uL]
    have h0:ops.length-vs.length=0:=by simp at hk;omega
    rw[h0];simp only[List.replicate_zero,List.append_nil]
    show Wp ((M.gN aK e[i] vs env).bind λy11=>aa (y11.1,y11.2)) _
    rw[Ws he hwf (by omega)];exact .some rfl
end L.P
namespace L.P
structure Whole(e:List Ty)(st:List Nat):Prop where
 val:Hq e st
 ne:e≠[]
 le:e.length<=48
 one:st[e.length-1]? =aa 0
 res:o9 e=(0,0,dc st)
def Df:∀(e:List Ty)(i:Nat)(st sk:List Nat)(j:Nat)(c:Int),iQ e i st sk= .inl (j,c)->c=2\/c=5\/c=16
 |[],_,_,_,_,_,h=>by rw[iQ]at h;cases h
 |n::e,i,st,sk,j,c,h=>by
  rw[iQ]at h;split at h
  .cases h;exact .inl rfl
  split at h
  .cases h;exact .inr (.inl rfl)
  split at h
  .cases h;exact .inr (.inr rfl)
  exact Df e _ _ _ j c h
def Ch.Vn{st l:List Nat}{n:Nat}(h:Ch st n l)(hl:l=[]):n=0:=by
 cases h with
 |nil=>rfl
 |snoc=>simp at hl
def Ch.Sl{st l:List Nat}{n:Nat}(h:Ch st n l)(hl:n=0):l=[]:=by
 cases h with
 |nil=>rfl
 |snoc=>omega
theorem Ch.one{st l:List Nat}{n:Nat}(h:Ch st n l)(hn:0<n):l.length<=1↔st[n-1]? =aa 0:=by
 cases h with
 |nil=>omega
 | @snoc i s l h1 h2 c=>
   rw[Nat.add_sub_cancel,h1];constructor
   .intro hl;have:l=[]:=List.length_eq_zero_iff.1 (by rw[List.length_append,List.length_singleton]at hl;omega);rw[c.Vn this]
   .intro hs
    have h0:s=0:=by simpa using hs
    rw[h0]at c;rw[c.Sl rfl];simp
def Sm{e:List Ty}{st:List Nat}(v:Hq e st)(eG:e≠[])(hl:e.length<=48)(h1:st[e.length-1]? =aa 0):Whole e st:=by
 have qe:0<e.length:=List.length_pos_iff.2 eG;refine⟨v,eG,hl,h1,?_⟩;obtain⟨sk,g1,g2⟩:=Hs v e [] [] rfl .nil;simp only[List.length_nil,List.take_zero]at g1;unfold o9;rw[ai (by omega),ai (by omega),g1];simp only;rw[ai];have:=(g2.one qe).2 h1;omega
def A3(e:List Ty):(o9 e).2.1≠0\/∃st,Whole e st:=by
 unfold o9;split
 .left;show(4:Int)≠0;decide
 rename_i hl;split
 .left;show(5:Int)≠0;decide
 rename_i eG
 cases hs:iQ e 0 [] []with
 |inl p=>
  left
  obtain⟨j,c⟩:=p
  show c≠0
  have:=Df _ _ _ _ _ _ hs;omega
 |inr p=>
  obtain⟨st,sk⟩:=p;obtain⟨v,c⟩:=Hr e [] [] [] st sk Hq.nil .nil hs;simp only[List.nil_append]at v c;by_cases h1:1<sk.length
  .left
   simp only[aj h1];decide
  .right
   exact⟨st,Sm v (λh=>eG (by rw[h];rfl)) (by omega) ((c.one (by omega)).1 (by omega))⟩
def A4{e:List Ty}{st:List Nat}(w:Whole e st){env:b8.den}(he:ph env)(hw:∀n∈e,WF aA n):M.jU aK e env=aa (ma (EV env) e st e.length (e.length-1)):=by
 have qe:0<e.length:=List.length_pos_iff.2 w.ne;have hle:=w.le;unfold M.jU M.qx;rw[sr,w.res];simp only[aqN];rw[ai (by simp)];unfold M.lM;rw[show aqO.wrap ((e.length:Int)-1)=((e.length-1:Nat):Int) by rw[aE (by omega) (by omega)];omega];rw[Vk w.val (by omega) he hw e.length aK (e.length-1) (by omega) (by omega) (by unfold aK;omega)];rfl
def Hu{e:List Ty}(h:(o9 e).2.1≠0)(env:b8.den):M.jU aK e env=aa (z3,(o9 e).2.1):=by
 unfold M.jU M.qx;rw[sr];simp only[aqN];rw[aj (by simp[h])];rfl
end L.P
namespace L.P
end L.P
namespace L.P
end L.P
namespace L.P
def C3(c:Int):Prop:=c=0\/c=3\/c=6\/c=12
def Cd.c3{c:Int}(h:Cd c):C3 c:=by unfold Cd at h;unfold C3;omega
end L.P
namespace L.P
end L.P
end Go.Proofs.YtfeahmiobbjklaaGreatDoor
