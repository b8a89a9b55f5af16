/- Joined texts: KB KT PT3 KR KA KA2 PQ PQ2. -/
import Derived.Test.YtfjgcenlllgonaaGreatDoorU10
open _root_.Bool renaming false->ag,true->af,eq_iff_iff->aoO,false_eq_true->aoC,not_false->apd,not_true->aoX,and_eq_true->apQ
open _root_.Option renaming some->aa,bind_some->aoy,some->aqv
open _root_.Decidable renaming not_not->apT
open _root_.Int renaming le_refl->apR,lt_or_le->apZ,natCast_mul->apy,tdiv->aoM,tdiv_eq_ediv_of_nonneg->aoN,tmod->aoP,tmod_eq_emod_of_nonneg->aoQ,reduceEq->apG,toNat_natCast->aoF
open _root_.Go.IntKind renaming i64->aoz,u64->aoD
open _root_.List renaming getElem_mem->aoG,mem_append->ao7,mem_singleton->aoY,take_succ_eq_append_getElem->apf,drop_eq_getElem_cons->ao2,getElem?_eq_getElem->aoA,all_eq_true->aqf,getElem_of_mem->aoS,length_eq_one_iff->aqm,getD->apb,length_set->ap6,replicate->aoE,replicate_succ->apr,set_append_right->apw,length_append->aoH,length_singleton->aoT,length_take->ao0
open _root_.Nat renaming add_mul->apl,div_add_mod->apX,div_le_self->apP,div_lt_iff_lt_mul->apo,mul_comm->apt,zero_le->aoR,lt_or_ge->aph,zero_add->apn,le_refl->aoJ,min_eq_left->apC
open _root_.Sum renaming inl->ao4,inr->aoV
open _root_.Option.some renaming inj->aoB
namespace Go.Proofs.YtfjgcenlllgonaaGreatDoor
open Go Go.RowKit
set_option maxRecDepth 100000
set_option linter.unusedSimpArgs false
set_option linter.unusedVariables false
set_option linter.defProp false
namespace L.P
theorem GB{S S' X X':Type}{body:S->Option (S⊕X)}{body':S'->Option (S'⊕X')}(φ:S->S')(ψ:X->X')(h:∀s,body' (φ s)=(body s).map (Sum.map φ ψ)):∀(N:Nat)(s:S),Loop body' N (φ s)=(Loop body N s).map ψ
 |0,_=>rfl
 |N+1,s=>by
  unfold Loop;rw[h s]
  cases body s with
  |none=>rfl
  |some x=>cases x with
   |inl s'=>exact GB φ ψ h N s'
   |inr x=>rfl
def Cn(r:Ty)(d:Int):Prop:=0<=(r.1:Int)/\(r.1:Int)<=r.2/\(r.2:Int)<=109573/\(r.1:Int)<=d/\d<r.2
instance(r:Ty)(d:Int):Decidable (Cn r d):=by unfold Cn;infer_instance
theorem contains_eq(N:Nat)(r:aA.den)(d:Int):M.bV N r d=aa (decide (Cn r d)):=by
 unfold M.bV M.ff;obtain⟨(a:Int),(b:Int)⟩:=r;simp only[aK,aoy,iy];refine aw aa ?_;rw[aoO,ax]
 show _↔0<=a/\a<=b/\b<=109573/\a<=d/\d<b
 by_cases h1:0<=a<;>by_cases h2:a<=b<;>by_cases h3:b<=109573<;>by_cases h4:a<=d<;>by_cases h5:d<b<;>simp[h1,h2,h3,h4,h5]
theorem sa(N:Nat)(r:aA.den)(d:Int):M.eZ N r d=aa (decide (Cn r d)):=contains_eq N r d
theorem GC(N:Nat)(t:aP.den)(d k:Int):M.kS N t d k=M.np N t d k:=by
 unfold M.kS M.cT M.np
 have:=GB (S:=Int) (S':=Int×Int×Int) (X:=Int×Bool) (X':=Int×Bool×Int×Int)
  (body:=λs1=>(if(decide (s1<(t.2.2.2.length:Int)))=af then(idx t.2.2.2 s1).bind λx2=>(M.ot N x2 d k).bind λy3=>(if y3=af then aa (aoV (s1,af))else aa (ao4 (aoz.wrap (s1+(1:Int)))))else aa (aoV ((0:Int),ag))))
  (body':=λs1=>(if(decide (s1.1<(t.2.2.2.length:Int)))=af then(idx t.2.2.2 s1.1).bind λx2=>(M.gG N x2 s1.2.1 s1.2.2).bind λy3=>(if y3.1=af then aa (aoV (s1.1,af,y3.2.1,y3.2.2))else aa (ao4 (aoz.wrap (s1.1+(1:Int)),y3.2.1,y3.2.2)))else aa (aoV ((0:Int),ag,s1.2.1,s1.2.2))))
  (λs=>(s,d,k)) (λx=>(x.1,x.2,d,k)) ?_ N 0
 .rw[this]
  cases Loop _ N (0:Int)with
  |none=>rfl
  |some x=>rfl
 .intro s;dsimp only;by_cases c:s<(t.2.2.2.length:Int)
  .rw[aj (by simpa using c),aj (by simpa using c)]
   cases idx t.2.2.2 s with
   |none=>rfl
   |some x=>
    unfold M.gG M.ot;rw[aoy,aoy,contains_eq,sa];simp only[aK,aoy,Option.map_some]
    cases(if decide (Cn x.1 d)=af then if decide (x.2.1<=k)=af then decide (k<x.2.2.1)else ag else ag)<;>rfl
  .rw[ai (by simpa using c),ai (by simpa using c)];rfl
def CT(l:Nat)(n:Int):Int×Int×Bool:=
 if 1000000000000000<l*n.natAbs/1000000 then(0,0,ag)else(sg (decide (n<0)) (l*n.natAbs/1000000),sg (decide (n<0)) (l*n.natAbs%1000000),af)
theorem yv{l:Nat}{n:Int}(hl:l<=1000000000000000)(hn: -9223372036854775808<=n/\n<=9223372036854775807):M.fu aG (l:Int) n=aa (CT l n):=by
 unfold M.fu CT
 have e1:((if(decide (n<(0:Int)))=af then aa (aoD.wrap (0-(aoD.wrap n)))else aa (aoD.wrap n)):Option Int)=aa ((n.natAbs:Nat):Int):=by
  by_cases c:n<0
  .rw[aj (by simpa using c),jU,jU];refine aw aa ?_;omega
  .rw[ai (by simpa using c),kI (by omega) (by omega)];refine aw aa ?_;omega
 rw[e1,aoy,qH (a:=l) (by omega),wk aG (by omega) (by omega),aoy]
 obtain⟨P,hP⟩:∃P,P=l*n.natAbs:=⟨_,rfl⟩
 rw[<-hP];dsimp only;by_cases h1:1000000<=P/18446744073709551616
 .rw[aj (by simp;omega),aj (by omega)]
 .rw[ai (by simp;omega),show(1000000:Int)=((1000000:Nat):Int)from rfl,Af (by omega) (by omega) (by omega),aoy]
  have e2:P/18446744073709551616*18446744073709551616+P%18446744073709551616=P:=by omega
  rw[e2];dsimp only;by_cases h2:1000000000000000<P/1000000
  .rw[aj (by simp;omega),aj h2]
  .rw[ai (by simp;omega),ai h2,mK (by omega),mK (by omega),aE (by omega) (by omega),aE (by omega) (by omega)];unfold sg
   by_cases c:n<0<;>simp[c]
theorem rn(N:Nat){l:Nat}{n:Int}(hl:l<=1000000000000000)(hn: -9223372036854775808<=n/\n<=9223372036854775807):M.ju N (l:Int) n=aa (CT l n):=by
 unfold M.ju CT
 have e1:((if(decide (n<(0:Int)))=af then aa (aoD.wrap ((aoD.wrap (aoz.wrap (0-(aoz.wrap (n+(1:Int))))))+(1:Int)))else aa (aoD.wrap n)):Option Int)=aa ((n.natAbs:Nat):Int):=by
  by_cases c:n<0
  .rw[aj (by simpa using c),aE (n:=n+1) (by omega) (by omega),aE (n:=0-(n+1)) (by omega) (by omega),kI (n:=0-(n+1)) (by omega) (by omega),kI (by omega) (by omega)];refine aw aa ?_;omega
  .rw[ai (by simpa using c),kI (by omega) (by omega)];refine aw aa ?_;omega
 rw[e1,aoy]
 obtain⟨m,hm,hmb⟩:∃m,m=n.natAbs/\m<=9223372036854775808:=⟨_,rfl,by omega⟩
 rw[<-hm]
 have t1:aoM (m:Int) 1000000=((m/1000000:Nat):Int):=by rw[aoN (by omega)];omega
 have t2:aoP (m:Int) 1000000=((m%1000000:Nat):Int):=by rw[aoQ (by omega)];omega
 have t3:aoM (l:Int) 1000000=((l/1000000:Nat):Int):=by rw[aoN (by omega)];omega
 have t4:aoP (l:Int) 1000000=((l%1000000:Nat):Int):=by rw[aoQ (by omega)];omega
 rw[t1,t2,t3,t4]
 obtain⟨A,hA,hAb⟩:∃A,A=m/1000000/\A<=10000000000000:=⟨_,rfl,by omega⟩
 obtain⟨B,hB,hBb⟩:∃B,B=m%1000000/\B<1000000:=⟨_,rfl,by omega⟩
 have hAB:m=A*1000000+B:=by omega
 rw[<-hA,<-hB,qH (a:=A) (by omega),mK (a:=A) (by omega),mK (a:=B) (by omega)];have DB:l%1000000*B<=999999*999999:=Nat.mul_le_mul (by omega) (by omega);have amD:l/1000000*B<=1000000000*999999:=Nat.mul_le_mul (by omega) (by omega)
 have hP:l*m=1000000*(l*A+l/1000000*B)+l%1000000*B:=by
  have e:=apX l 1000000
  have e3:l*B=1000000*(l/1000000*B)+l%1000000*B:=by
   rw[<-Nat.mul_assoc,<-apl,e]
  have e4:l*(A*1000000+B)=1000000*(l*A)+l*B:=by
   rw[Nat.mul_add,<-Nat.mul_assoc,apt (l*A)]
  rw[hAB,e4,e3];omega
 have hq:l*m/1000000=l*A+l/1000000*B+l%1000000*B/1000000:=by rw[hP];omega
 have hr:l*m%1000000=l%1000000*B%1000000:=by rw[hP];omega
 rw[hq,hr];by_cases h0:0<A/\1000000000000000/A<l
 .have FX:1000000000000000<l*A:=by
   rw[apo h0.1]at h0;exact h0.2
  obtain⟨K,hK⟩:∃K,K=1000000000000000/A:=⟨_,rfl⟩
  have hKb:K<=1000000000000000:=hK▸apP _ _;rw[<-hK]at h0;rw[aj (by simp;omega),show(1000000000000000:Int)=((1000000000000000:Nat):Int)from rfl,sG _ _ (by omega),<-hK,aoy,aoy,mK (by omega),aj (by simp;omega),aj (by omega)]
 .have oC:l*A<=1000000000000000:=by
   rcases Nat.eq_zero_or_pos A with e|e
   .rw[e];simp
   .have h9:l<=1000000000000000/A:=by omega
    rw[Nat.le_div_iff_mul_le e]at h9;exact h9
  have c0:((if(decide ((0:Int)<(A:Int)))=af then(nG (1000000000000000:Int) (A:Int)).bind λx3=>aa (decide ((aoz.wrap x3)<(l:Int)))else aa ag):Option Bool)=aa ag:=by
   by_cases e:A=0
   .rw[ai (by simp;omega)]
   .obtain⟨K,hK⟩:∃K,K=1000000000000000/A:=⟨_,rfl⟩
    have hKb:K<=1000000000000000:=hK▸apP _ _;rw[<-hK]at h0;rw[aj (by simp;omega),show(1000000000000000:Int)=((1000000000000000:Nat):Int)from rfl,sG _ _ e,<-hK,aoy,mK (by omega)];refine aw aa ?_;rw[az];omega
  rw[c0,aoy,ai (by simp)]
  have u1:aoM ((l%1000000*B:Nat):Int) 1000000=((l%1000000*B/1000000:Nat):Int):=by rw[aoN (by omega)];omega
  have u2:aoP ((l%1000000*B:Nat):Int) 1000000=((l%1000000*B%1000000:Nat):Int):=by rw[aoQ (by omega)];omega
  rw[<-apy l A,<-apy (l%1000000) B,mK (a:=l/1000000) (by omega),<-apy (l/1000000) B,mK (a:=l*A) (by omega),mK (a:=l/1000000*B) (by omega),mK (a:=l%1000000*B) (by omega),u1,u2,mK (a:=l%1000000*B/1000000) (by omega),<-Int.natCast_add,mK (a:=l*A+l/1000000*B) (by omega),<-Int.natCast_add,mK (by omega)];by_cases h2:1000000000000000<l*A+l/1000000*B+l%1000000*B/1000000
  .rw[aj (by rw[ax];omega),aj h2]
  .rw[ai (by rw[ax];omega),ai h2,aE (by omega) (by omega),aE (by omega) (by omega)];unfold sg
   by_cases c:n<0<;>simp[c]
theorem Xe(l:Nat)(n:Int):(-1000000000000000<=(CT l n).1/\(CT l n).1<=1000000000000000)/\-1000000<=(CT l n).2.1/\(CT l n).2.1<=1000000:=by
 unfold CT;split
 .exact⟨by decide,by decide⟩
 .have h:=An (decide (n<0)) (l*n.natAbs/1000000);have h':=An (decide (n<0)) (l*n.natAbs%1000000)
  refine⟨?_,?_⟩<;>simp only<;>omega
def RS(X m:Int):Int:=sg (decide (X<0)) (r8 m (decide (X<0)) (X.natAbs/1000000) (X.natAbs%1000000) 1000000)
theorem Qr(X m:Int):((RS X m).natAbs=X.natAbs/1000000\/(RS X m).natAbs=X.natAbs/1000000+1):=by
 unfold RS;rw[An];have:=r9 m (decide (X<0)) (X.natAbs/1000000) (X.natAbs%1000000) 1000000;omega
theorem GD(m:Int)(neg:Bool)(q r d k:Nat):r8 m neg (q+2*k) r d=r8 m neg q r d+2*k:=by
 have:DU m neg (q+2*k) r d=DU m neg q r d:=by
  unfold DU;rw[show(q+2*k)%2=q%2 by omega]
 unfold r8;rw[this]
 split<;>omega
theorem Qs{X Z m t:Int}(h:X=Z+2*t*1000000)(hs:t=0\/(0<t/\0<=Z)\/(t<0/\Z<0)):RS X m=2*t+RS Z m:=by
 rcases hs with c|⟨c1,c2⟩|⟨c1,c2⟩
 .subst c
  have:X=Z:=by omega
  rw[this];omega
 .unfold RS;rw[aq (show¬X<0 by omega),aq (show¬Z<0 by omega)]
  have e:X.natAbs/1000000=Z.natAbs/1000000+2*t.natAbs:=by omega
  have e':X.natAbs%1000000=Z.natAbs%1000000:=by omega
  rw[e,e',GD];unfold sg;simp only[aoC,if_false];omega
 .unfold RS;rw[ao (show X<0 by omega),ao c2]
  have e:X.natAbs/1000000=Z.natAbs/1000000+2*t.natAbs:=by omega
  have e':X.natAbs%1000000=Z.natAbs%1000000:=by omega
  rw[e,e',GD];unfold sg;simp only[if_true];omega
theorem GF{Z m:Int}(hm:ry m)(h: -4000000000000000000<=Z/\Z<=4000000000000000000):KI Z 1000000 m=(RS Z m,0):=by
 rw[Am hm (by omega) (by unfold jb;omega),I5 Z (by omega)];rfl
theorem MZ{w r m:Int}(hm:ry m)(hw: -2000000000000000000<=w/\w<=2000000000000000000)(hr: -1000000000000<=r/\r<=1000000000000):M.ou aG w r m=aa (RS (w*1000000+r) m):=by
 apply Wp.eq;unfold M.ou
 obtain⟨X,hX⟩:∃X,X=w*1000000+r:=⟨_,rfl⟩
 rw[<-hX]
 refine Wp.seq (λs:Int×Int=>s.1*1000000+s.2=X/\(-2000000000009000000<=s.1/\s.1<=2000000000009000000)/\0<=s.2/\s.2<=1000000000000) (Wp.loop (λs:Int×Int=>s.1*1000000+s.2=X/\(-2000000000009000000<=s.1/\s.1<=2000000000009000000)/\-1000000000000<=s.2/\s.2<=1000000000000) (λs=>((1000000000000-s.2)/1000000).toNat) ⟨hX.symm,by simp only;omega,by simp only;omega⟩ (by simp only;unfold aG;omega) ?_) λs hs=>?_
 .rintro⟨a,b⟩ ⟨h1,h2,h3⟩
  simp only at h1 h2 h3⊢
  have LQ: -2000000000008000000<=a/\a<=2000000000008000000:=by omega
  refine Wp.dec (λh=> .some ?_) λh=> .some ⟨h1,h2,by omega,by simp only;omega⟩
  rw[aE (by omega) (by omega),aE (by omega) (by omega)];exact⟨⟨by simp only;omega,by simp only;omega,by simp only;omega⟩,by simp only;omega⟩
 obtain⟨a,b⟩:=s;obtain⟨h1,h2,h3⟩:=hs;simp only at h1 h2 h3⊢
 refine Wp.seq (λs:Int×Int=>s.1*1000000+s.2=X/\(-2000000000009000000<=s.1/\s.1<=2000000000020000000)/\0<=s.2/\s.2<1000000) (Wp.loop (λs:Int×Int=>s.1*1000000+s.2=X/\(-2000000000009000000<=s.1/\s.1+s.2/1000000<=2000000000020000000)/\0<=s.2/\s.2<=1000000000000) (λs=>(s.2/1000000).toNat) ⟨h1,by simp only;omega,by simp only;omega⟩ (by simp only;unfold aG;omega) ?_) λs hs=>?_
 .rintro⟨a,b⟩ ⟨h1,h2,h3⟩
  simp only at h1 h2 h3⊢
  refine Wp.dec (λh=> .some ?_) λh=> .some ⟨h1,by simp only;omega,by simp only;omega⟩
  rw[aE (by omega) (by omega),aE (by omega) (by omega)];exact⟨⟨by simp only;omega,by simp only;omega,by simp only;omega⟩,by simp only;omega⟩
 obtain⟨F,R⟩:=s;obtain⟨h1,h2,h3⟩:=hs;simp only at h1 h2 h3⊢
 obtain⟨R,rfl⟩:∃n:Nat,R=n:=⟨R.toNat,by omega⟩
 have hc:=tD (X:=X) (F:=F) (R:=R) (D:=1000000) (neg:=decide (X<0)) (by omega) (by omega) (λh=>by simp;omega) (λh=>by simp;omega)
 refine Wp.dec (λh=>?_) λh=>Wp.dec (λg=> .some ?_) λg=>?_
 .have hx:¬X<0:=by omega
  obtain⟨f,rfl⟩:∃n:Nat,F=n:=⟨F.toNat,by omega⟩
  rw[show(1000000:Int)=((1000000:Nat):Int)from rfl,oR aG m ag (by omega) (by omega) (by omega),aoy];refine .some ?_
  show _=_
  unfold RS;rw[aq hx]
  rcases hc with⟨_,c1,c2⟩|⟨c,_⟩|⟨c,_⟩
  .rw[<-c2,show X.natAbs/1000000=f by omega]
  .rw[aq hx]at c;cases c
  .rw[aq hx]at c;cases c
 .have hx:X<0:=by omega
  show _=_
  unfold RS;rw[ao hx]
  rcases hc with⟨c,_⟩|⟨_,c1,c2,c3⟩|⟨_,c1,c2,c3⟩
  .rw[ao hx]at c;cases c
  .rw[c1,Aj _ _ _ (by omega),c3];unfold sg;simp
  .omega
 .have hx:X<0:=by omega
  rcases hc with⟨c,_⟩|⟨_,c1,c2,c3⟩|⟨_,c1,c2,c3⟩
  .rw[ao hx]at c;cases c
  .omega
  .have hq:X.natAbs/1000000<=2000000000020000000:=by omega
   rw[aE (n:=0-F) (by omega) (by omega),aE (n:=0-F-1) (by omega) (by omega),aE (by omega) (by omega)];rw[show(0:Int)-F-1=((X.natAbs/1000000:Nat):Int) by omega,show(1000000:Int)-(R:Int)=((X.natAbs%1000000:Nat):Int) by omega,show(1000000:Int)=((1000000:Nat):Int)from rfl,oR aG m af (by omega) (by omega) (by omega),aoy];refine .some ?_
   show _=_
   unfold RS;rw[ao hx]
def RB(X m:Int):Int×Int:=if jb (RS X m) 1000000000000000 then(0,3)else(RS X m,0)
theorem GG(N:Nat){w r m:Int}(hm:ry m)(hw: -2000000000000000000<=w/\w<=2000000000000000000)(hr: -1000000000000<=r/\r<=1000000000000):M.gH N w r m=aa (RB (w*1000000+r) m):=by
 unfold M.gH
 obtain⟨Q,ρ,hQ,Sp,e1,e2,e3⟩:∃Q ρ:Int,aoM r 1000000=Q/\aoP r 1000000=ρ/\Q*1000000+ρ=r/\(-1000000<ρ/\ρ<1000000)/\(-1000001<Q/\Q<1000001):=by
  refine⟨_,_,rfl,rfl,?_,?_,?_⟩
  .have:=Int.mul_tdiv_add_tmod r 1000000;omega
  .rcases apZ r 0 with c|c
   .have h1:=Int.neg_tmod r 1000000;have h2:=aoQ (a:= -r) (b:=1000000) (by omega);omega
   .have h2:=aoQ (a:=r) (b:=1000000) (by omega);omega
  .rcases apZ r 0 with c|c
   .have h1:=Int.neg_tdiv r 1000000;have h2:=aoN (a:= -r) (b:=1000000) (by omega);omega
   .have h2:=aoN (a:=r) (b:=1000000) (by omega);omega
 rw[hQ,Sp,aE (n:=Q) (by omega) (by omega),aE (n:=w+Q) (by omega) (by omega)]
 obtain⟨W,hW⟩:∃W,W=w+Q:=⟨_,rfl⟩
 obtain⟨X,hX⟩:∃X,X=w*1000000+r:=⟨_,rfl⟩
 rw[<-hW,<-hX]
 have hXW:X=W*1000000+ρ:=by omega
 have hR:=Qr X m;simp only[aK,aoy,jD];unfold RB;by_cases c:W< -2000000000000000\/2000000000000000<W
 .rw[aj (by simpa using c),aj (by unfold jb;omega)]
 .rw[ai (by simpa using c)]
  obtain⟨p,hp,Yj,Uh⟩:∃p:Int,(if(decide ((1:Int)<W))=af then(aoz.wrap ((aoP W (2:Int))+(2:Int)))else(if(decide (W<(-1:Int)))=af then(aoz.wrap ((aoP W (2:Int))-(2:Int)))else(aoP W (2:Int))))=p/\(-3<=p/\p<=3)/\∃t:Int,W=p+2*t/\(t=0\/(0<t/\1<W/\1<p)\/(t<0/\W< -1/\p< -1)):=by
   rcases apZ W 0 with d|d
   .have h1:=Int.neg_tmod W 2;have h2:=aoQ (a:= -W) (b:=2) (by omega)
    have h3:aoP W 2= -((-W)%2):=by omega
    rw[ai (by simp;omega),h3];by_cases d2:W< -1
    .rw[aj (by simpa using d2),aE (by omega) (by omega)];exact⟨_,rfl,by omega,(W+2+(-W)%2)/2,by omega,by omega⟩
    .rw[ai (by simpa using d2)];exact⟨_,rfl,by omega,0,by omega, .inl rfl⟩
   .have h3:aoP W 2=W%2:=aoQ d;rw[h3];by_cases d2:1<W
    .rw[aj (by simpa using d2),aE (by omega) (by omega)];exact⟨_,rfl,by omega,(W-2-W%2)/2,by omega,by omega⟩
    .rw[ai (by simpa using d2),ai (by simp;omega)];exact⟨_,rfl,by omega,0,by omega, .inl rfl⟩
  obtain⟨t,ht,hs⟩:=Uh;rw[hp,aE (n:=p*1000000) (by omega) (by omega),aE (n:=p*1000000+ρ) (by omega) (by omega),qv,GF hm (by omega),aoy];have hsh:=Qs (X:=X) (Z:=p*1000000+ρ) (m:=m) (t:=t) (by omega) (by omega);have hRZ:=Qr (p*1000000+ρ) m;rw[ai (by simp)];dsimp only;rw[aE (n:=W-p) (by omega) (by omega),aE (n:=W-p+RS (p*1000000+ρ) m) (by omega) (by omega),show W-p+RS (p*1000000+ρ) m=RS X m by omega];by_cases g:jb (RS X m) 1000000000000000
  .rw[aj (by unfold jb at g;simp;omega),aj g]
  .rw[ai (by unfold jb at g;simp;omega),ai g]
theorem M1{S J R:Type}{b b':S->Option (S⊕(J⊕R))}{N:Nat}{s0:S}{k k':J->Option R}(P:J->Prop)(hb:∀s,b s=b' s)(h:Wp (Loop b' N s0) λx=>match x with
 | .inl j=>P j
 | .inr _=>True)(hk:∀j,P j->k j=k' j):bx (Loop b N s0) k=bx (Loop b' N s0) k':=by
 rw[show b=b' from funext hb];obtain⟨x,e,hx⟩:=h;rw[e]
 cases x with
 |inl j=>exact hk j hx
 |inr r=>rfl
theorem Tu{α:Type}{l:List α}{i:Int}{x:α}(h:idx l i=aa x):x∈l:=by
 obtain⟨_,e⟩:=(ee (Q:=λy=>y=x)).1 ⟨x,h,rfl⟩;exact e▸aoG _
theorem Bp{t:aP.den}(hl:t.2.2.2.length<=1000)(hw:∀r∈t.2.2.2,-9223372036854775808<=(r.2.2.2:Int)/\(r.2.2.2:Int)<=9223372036854775807)(d c m:Int):M.gI aG t d c m=M.nq aG t d c m:=by
 unfold M.gI M.nq;rw[DW,rm,aoy,aoy];by_cases hm:ry m
 case neg=>simp only[hm,decide_false,apd,if_true]
 simp only[hm,decide_true,aoX,aoC,if_false]
 obtain⟨j2,Nu⟩:∃j,((if(!(px aA t.2.1 ((3:Int),(0:Int))))=af then aa af else aa (!(px aA t.2.2.1 ((4:Int),(0:Int))))):Option Bool)=aa j:=by
  split<;>exact⟨_,rfl⟩
 rw[Nu,aoy,aoy]
 cases j2 with
 |true=>rfl
 |false=>
  simp only[aoC,if_false]
  have aJ:((if(decide (c<(-1000000000000000:Int)))=af then aa af else aa (decide ((1000000000000000:Int)<c))):Option Bool)=aa (decide (jb c 1000000000000000)):=by
   rw[aK,jD];refine aw aa ?_;rw[aoO,Bool.or_eq_true,ax,ax,ax];unfold jb;omega
  rw[qt aG c (by omega),aJ,aoy,aoy];by_cases hc:jb c 1000000000000000
  .simp only[hc,decide_true,if_true]
  simp only[hc,decide_false,aoC,if_false];unfold jb at hc;refine M1 (λj:Int×Int=>(-1000000000000000000<=j.1/\j.1<=1000000000000000000)/\-1000000000<=j.2/\j.2<=1000000000) ?_ ?_ ?_
  .rintro⟨a,b,i⟩
   dsimp only;by_cases h:i<(t.2.2.2.length:Int)
   .rw[aj (by simpa using h),aj (by simpa using h)];refine aw (λo=>bx o _) ?_
    cases hx:idx t.2.2.2 i with
    |none=>rfl
    |some x=>
     simp only[aoy,contains_eq,sa];have hn:=hw x (Tu hx)
     obtain⟨T,hT,hTc⟩:∃T:Int,T=(if c<x.2.2.1 then c else x.2.2.1)/\T<=c:=⟨_,rfl,by split<;>omega⟩
     obtain⟨F,hF,hF0⟩:∃F:Int,F=(if x.2.1<(0:Int)then(0:Int)else x.2.1)/\0<=F:=⟨_,rfl,by
      split
      .exact apR 0
      .rename_i g;exact Int.not_lt.1 g⟩
     rw[<-hT,<-hF];by_cases hC:Cn x.1 d
     .by_cases hTF:T<=F
      .simp[hC,hTF]
      .simp only[hC,hTF,decide_true,decide_false,aoX,aoC,if_false,aoy];rw[aE (by omega) (by omega)]
       obtain⟨l,Rt⟩:∃l:Nat,T-F=l:=⟨(T-F).toNat,by omega⟩
       rw[Rt,yv (by omega) hn,rn aG (by omega) hn]
     .by_cases hTF:T<=F
      .simp[hC,hTF]
      .simp[hC,hTF]
   .rw[ai (by simpa using h),ai (by simpa using h)]
  .refine Wp.loop (λs:Int×Int×Int=>∃i:Nat,s.2.2=i/\i<=t.2.2.2.length/\(-1000000000000000*(i:Int)<=s.1/\s.1<=1000000000000000*(i:Int))/\-1000000*(i:Int)<=s.2.1/\s.2.1<=1000000*(i:Int)) (λs=>(t.2.2.2.length-s.2.2).toNat) ⟨0,rfl,aoR _,by simp only;omega,by simp only;omega⟩ (by simp only;unfold aG;omega) ?_
   rintro⟨a,b,_⟩ ⟨i,rfl,hi,h1,h2⟩
   simp only at h1 h2;dsimp only
   refine Wp.dec (λh=>?_) λh=> .some ⟨by simp only;omega,by simp only;omega⟩
   have gh:i<t.2.2.2.length:=by omega
   simp only[aD gh,aoy,sa];have hn:=hw _ (aoG gh);generalize t.2.2.2[i]=x at hn⊢
   obtain⟨T,hT,hTc⟩:∃T:Int,T=(if c<x.2.2.1 then c else x.2.2.1)/\T<=c:=⟨_,rfl,by split<;>omega⟩
   obtain⟨F,hF,hF0⟩:∃F:Int,F=(if x.2.1<(0:Int)then(0:Int)else x.2.1)/\0<=F:=⟨_,rfl,by
    split
    .exact apR 0
    .rename_i g;exact Int.not_lt.1 g⟩
   rw[<-hT,<-hF]
   have next:∀a' b':Int,(-1000000000000000<=a'/\a'<=1000000000000000)->(-1000000<=b'/\b'<=1000000)->∃k:Nat,aoz.wrap ((i:Int)+1)=(k:Int)/\k<=t.2.2.2.length/\i<k/\(-1000000000000000*(k:Int)<=a+a'/\a+a'<=1000000000000000*(k:Int))/\-1000000*(k:Int)<=b+b'/\b+b'<=1000000*(k:Int):=by
    intro a' b' g1 g2;exact⟨i+1,aL (by omega),by omega,by omega,by omega,by omega⟩
   by_cases hg:T<=F\/¬Cn x.1 d
   .have e:((if decide (T<=F)=af then aa af else aa (!decide (Cn x.1 d))):Option Bool)=aa af:=by
     rcases hg with g|g
     .simp[g]
     .simp[g]
    rw[e,aoy];simp only[if_true];refine Wp.join (.some (.some ?_))
    obtain⟨k,q1,q2,q3,q4,q5⟩:=next 0 0 (by omega) (by omega)
    exact⟨⟨k,q1,q2,by simp only;omega,by simp only;omega⟩,by simp only;omega⟩
   .have e:((if decide (T<=F)=af then aa af else aa (!decide (Cn x.1 d))):Option Bool)=aa ag:=by
     simp only[not_or,apT]at hg;simp[hg.1,hg.2]
    simp only[not_or,apT]at hg;rw[e,aoy];simp only[aoC,if_false];rw[aE (n:=T-F) (by omega) (by omega)]
    obtain⟨l,Rt⟩:∃l:Nat,T-F=l:=⟨(T-F).toNat,by omega⟩
    rw[Rt,rn aG (by omega) hn,aoy];have hr:=Xe l x.2.2.2;refine Wp.join ?_
    cases(CT l x.2.2.2).2.2 with
    |false=>exact .some trivial
    |true=>
     simp only[aoX,aoC,if_false];refine .some (.some ?_)
     obtain⟨k,q1,q2,q3,q4,q5⟩:=next (CT l x.2.2.2).1 (CT l x.2.2.2).2.1 hr.1 hr.2
     refine⟨⟨k,q1,q2,?_,?_⟩,by simp only;omega⟩
     .simp only;rw[aE (by omega) (by omega)];exact q4
     .simp only;rw[aE (by omega) (by omega)];exact q5
  .rintro⟨w,r⟩ ⟨h1,h2⟩
   simp only at h1 h2;dsimp only;rw[GG aG hm (by omega) (by omega),MZ hm (by omega) (by omega),aoy,aoy,qt aG _ (by omega),aoy];unfold RB;by_cases g:jb (RS (w*1000000+r) m) 1000000000000000
   .rw[aj g,aj (by simpa using g)]
   .rw[ai g,ai (by simpa using g)]
end L.P
namespace L.P
def lp(y:Int):Prop:=y%4=0/\(y%100≠0\/y%400=0)
instance(y:Int):Decidable (lp y):=by unfold lp;infer_instance
def uE(y m:Int):Int:=if m=2 then(if lp y then 29 else 28)else if m=4\/m=6\/m=9\/m=11 then 30 else if m=1\/m=3\/m=5\/m=7\/m=8\/m=10\/m=12 then 31 else 0
def Ru(y:Int):Int:=if lp y then 366 else 365
def ly(y:Int):Int:=y/4-y/100+y/400
def ys(y:Int):Int:=(y-1900)*365+ly (y-1)-460
def ms(y:Int):Nat->Int
 |0=>0
 |k+1=>ms y k+uE y (((k+1:Nat)):Int)
theorem qw(y m:Int):0<=uE y m/\uE y m<=31:=by unfold uE;split<;>(try split)<;>(try split)<;>omega
theorem Tv(y:Int){m:Int}(h:1<=m/\m<=12):28<=uE y m:=by unfold uE;split<;>(try split)<;>(try split)<;>omega
theorem KQ(y:Int){m:Int}(h:m<1\/12<m):uE y m=0:=by unfold uE;rw[ai (by omega),ai (by omega),ai (by omega)]
theorem wy(y:Int):ys (y+1)=ys y+Ru y:=by
 unfold Ru;by_cases h:lp y
 .rw[aj h];unfold lp at h;unfold ys ly;omega
 .rw[ai h];unfold lp at h;unfold ys ly;omega
theorem ys0:ys 1900=0:=by decide
theorem yN{y y':Int}(h:y<=y'):ys y<=ys y':=by
 unfold ys ly;omega
theorem DZ(y:Int):365<=Ru y/\Ru y<=366:=by unfold Ru;split<;>omega
theorem uo(y:Int){i j:Nat}(h:i<=j):ms y i<=ms y j:=by
 induction j with
 |zero=>have:i=0:=by omega
        subst this;omega
 |succ j ih=>
  rcases aph i (j+1)with h1|h1
  .have:=ih (by omega);have:=qw y ((j+1:Nat):Int)
   show ms y i<=ms y j+uE y ((j+1:Nat):Int)
   omega
  .have:i=j+1:=by omega
   subst this;omega
theorem GH(y:Int):ms y 12=Ru y:=by
 unfold Ru
 by_cases h:lp y<;>simp[ms,uE,h]
theorem tE(y:Int){i:Nat}(h:i<=12):0<=ms y i/\ms y i<=366:=by
 have h1:=uo y (aoR i);have h2:=uo y h;rw[GH]at h2;have:=DZ y;have:ms y 0=0:=rfl;omega
theorem xv{y:Int}(h:1900<=y/\y<=2200):0<=ys y/\ys y<=109573:=by
 unfold ys ly;omega
theorem KR{y d:Int}(hd:d<=109572)(h:ys y<=d):y<=2199:=by
 unfold ys ly at h;omega
theorem KS(N:Nat){y:Int}(h:0<=y):M.oH N y=aa (decide (lp y)):=by
 unfold M.oH;rw[aoQ h,aoQ h,aoQ h];simp only[aK,aoy,jD,iy];refine aw aa ?_;rw[aoO,ax];unfold lp;simp
theorem GI(N:Nat){y:Int}(h:0<=y):M.pn N y=aa (decide (lp y)):=KS N h
theorem D1(N:Nat){y:Int}(h:0<=y)(m:Int):M.dJ N y m=aa (uE y m):=by
 unfold M.dJ;rw[KS N h];by_cases hm:1<=m/\m<=12
 .have:m=1\/m=2\/m=3\/m=4\/m=5\/m=6\/m=7\/m=8\/m=9\/m=10\/m=11\/m=12:=by omega
  by_cases hl:lp y
  .rcases this with rfl|rfl|rfl|rfl|rfl|rfl|rfl|rfl|rfl|rfl|rfl|rfl<;>simp[uE,hl]<;>rfl
  .rcases this with rfl|rfl|rfl|rfl|rfl|rfl|rfl|rfl|rfl|rfl|rfl|rfl<;>simp[uE,hl]<;>rfl
 .rw[KQ y (by omega)];simp only[aK,aoy,jD];rw[aj (by simp;omega)]
theorem yO(N:Nat){y:Int}(h:0<=y)(m:Int):M.dV N y m=aa (uE y m):=by
 unfold M.dV uE;rw[GI N h];by_cases h2:m=2
 .subst h2
  by_cases hl:lp y<;>simp[hl]
 .rw[ai (by simpa using h2),ai h2];by_cases h4:m=4\/m=6\/m=9\/m=11
  .rw[aj h4]
   rcases h4 with rfl|rfl|rfl|rfl<;>simp
  .rw[ai h4];simp only[not_or]at h4;by_cases h1:m=1\/m=3\/m=5\/m=7\/m=8\/m=10\/m=12
   .rw[aj h1]
    rcases h1 with rfl|rfl|rfl|rfl|rfl|rfl|rfl<;>simp
   .rw[ai h1];simp only[not_or]at h1;simp[h1,h4]
theorem KT(N:Nat){y:Int}(h:0<=y):M.gv N y=aa (Ru y):=by
 unfold M.gv Ru;rw[GI N h]
 by_cases hl:lp y<;>simp[hl]
theorem Qt(N:Nat){y:Int}(h:1900<=y/\y<=2300):M.eT N y=aa (ys y):=by
 unfold M.eT M.kA;rw[aE (n:=y-1) (by omega) (by omega),aoN (by omega),aoN (by omega),aoN (by omega)];simp only[aoy];refine aw aa ?_
 have e:∀z:Int,-1000000000<=z->z<=1000000000->aoz.wrap z=z:=λz h1 h2=>aE (by omega) (by omega)
 rw[show aoz.wrap (aoz.wrap (aoz.wrap (aoM 1899 4)-aoz.wrap (aoM 1899 100))+aoz.wrap (aoM 1899 400))=460 by decide];rw[e ((y-1)/4) (by omega) (by omega),e ((y-1)/100) (by omega) (by omega),e ((y-1)/400) (by omega) (by omega),e (y-1900) (by omega) (by omega),e ((y-1900)*365) (by omega) (by omega),e ((y-1)/4-(y-1)/100) (by omega) (by omega),e ((y-1)/4-(y-1)/100+(y-1)/400) (by omega) (by omega),e ((y-1900)*365+((y-1)/4-(y-1)/100+(y-1)/400)) (by omega) (by omega),e _ (by omega) (by omega)];rfl
def NL(d:Int)(r:Int×Int×Int):Prop:=(1900<=r.1/\r.1<=2199)/\∃j:Nat,r.2.1=((j+1:Nat):Int)/\j<12/\1<=r.2.2/\r.2.2<=uE r.1 ((j+1:Nat):Int)/\d=ys r.1+ms r.1 j+r.2.2-1
theorem NL.year{d:Int}{r:Int×Int×Int}(h:NL d r):ys r.1<=d/\d<ys (r.1+1):=by
 obtain⟨h1,j,h2,h3,h4,h5,h6⟩:=h;have a:=tE r.1 (i:=j) (by omega);have b:=uo r.1 (show j+1<=12 by omega);rw[GH]at b;have c:ms r.1 (j+1)=ms r.1 j+uE r.1 ((j+1:Nat):Int):=rfl;have e:=wy r.1;omega
theorem NL.Qu{d:Int}{r s:Int×Int×Int}(h:NL d r)(g:NL d s):r=s:=by
 have hy:r.1=s.1:=by
  have a:=h.year;have b:=g.year
  rcases Int.lt_trichotomy r.1 s.1 with c|c|c
  .have:=yN (show r.1+1<=s.1 by omega);omega
  .exact c
  .have:=yN (show s.1+1<=r.1 by omega);omega
 obtain⟨y,m,k⟩:=r;obtain⟨y',m',k'⟩:=s;simp only at hy;subst hy;obtain⟨h1,j,h2,h3,h4,h5,h6⟩:=h;obtain⟨g1,i,g2,g3,g4,g5,g6⟩:=g;simp only at h1 h2 h3 h4 h5 h6 g1 g2 g3 g4 g5 g6
 have hj:j=i:=by
  rcases Nat.lt_trichotomy j i with c|c|c
  .have a:ms y (j+1)=ms y j+uE y ((j+1:Nat):Int):=rfl;have b:=uo y (show j+1<=i from c);omega
  .exact c
  .have a:ms y (i+1)=ms y i+uE y ((i+1:Nat):Int):=rfl;have b:=uo y (show i+1<=j from c);omega
 subst hj
 have:k=k':=by omega
 rw[h2,g2,this]
theorem dv(d:Int):((if(decide ((0:Int)<=d))=af then aa (decide (d<=(109572:Int)))else aa ag):Option Bool)=aa (decide (0<=d/\d<=109572)):=by
 rw[aK,iy,Bool.decide_and]
theorem Ao(N:Nat)(d:Int):M.jq N d=aa (decide (0<=d/\d<=109572)):=by
 unfold M.jq;rw[dv];rfl
theorem oc(N:Nat)(d:Int):M.kC N d=aa (decide (0<=d/\d<=109572)):=by
 unfold M.kC;rw[dv];rfl
theorem uq{d:Int}(hd:0<=d/\d<=109572):Wp (M.eU aG d) (NL d):=by
 unfold M.eU;rw[Ao,aoy,ai (by simpa using hd),aoN hd.1,aE (n:=d/366) (by omega) (by omega),aE (n:=1900+d/366) (by omega) (by omega)]
 refine Wp.seq (λy=>(1900<=y/\y<=2199)/\ys y<=d/\d<ys (y+1)) (Wp.loop (λy:Int=>(1900<=y/\y<=2199)/\ys y<=d) (λy=>(2199-y).toNat) ⟨by omega,by unfold ys ly;omega⟩ (by unfold aG;omega) ?_) λy hy=>?_
 .rintro y ⟨h1,h2⟩
  rw[aE (by omega) (by omega),Qt aG (by omega),aoy]
  refine Wp.dec (λh=> .some ?_) λh=> .some ⟨h1,h2,by omega⟩
  have:=KR hd.2 h;exact⟨⟨by omega,h⟩,by simp only;omega⟩
 .obtain⟨h1,h2,h3⟩:=hy;have hr:=xv (y:=y) (by omega);rw[Qt aG (by omega),aoy,aE (n:=d-ys y) (by omega) (by omega)];refine Wp.loop (λs:Int×Int=>∃i:Nat,s.2=i/\i<=12/\s.1=d-ys y-ms y i/\0<=s.1) (λs=>(12-s.2).toNat) ⟨0,rfl,by omega,by show d-ys y=d-ys y-0;omega,by simp only;omega⟩ (by simp only;unfold aG;omega) ?_
  rintro⟨a,b⟩ ⟨i,hi,yp,ha,h0⟩
  simp only at hi ha h0;subst hi ha;have hm:=tE y yp;have e:=wy y
  refine Wp.dec (λh=>?_) λh=>?_
  .have hi:i<12:=by simp only at h;omega
   rw[aL (by omega),D1 aG (by omega),aoy];have NJ:=qw y ((i+1:Nat):Int)
   refine Wp.dec (λg=> .some ?_) λg=> .some ?_
   .simp only at g;refine⟨h1,i,rfl,hi,?_,?_,?_⟩
    .show 1<=aoz.wrap _
     rw[aE (by omega) (by omega)];omega
    .show aoz.wrap _<=uE y ((i+1:Nat):Int)
     rw[aE (by omega) (by omega)];omega
    .show d=ys y+ms y i+aoz.wrap _-1
     rw[aE (by omega) (by omega)];omega
   .simp only at g⊢;rw[aE (by omega) (by omega)];refine⟨⟨i+1,rfl,hi,?_,by simp only;omega⟩,by simp only;omega⟩
    show _=d-ys y-(ms y i+uE y ((i+1:Nat):Int))
    simp only;omega
  .have:i=12:=by simp only at h;omega
   subst this;rw[GH]at h0;omega
theorem Bq{d:Int}(hd:0<=d/\d<=109572):Wp (M.jm aG d) (NL d):=by
 unfold M.jm;rw[oc,aoy,ai (by simpa using hd)]
 refine Wp.seq (λs:Int×Int=>(1900<=s.2/\s.2<=2199)/\s.1=d-ys s.2/\0<=s.1/\s.1<Ru s.2) (Wp.loop (λs:Int×Int=>(1900<=s.2/\s.2<=2199)/\s.1=d-ys s.2/\0<=s.1) (λs=>(2199-s.2).toNat) ⟨⟨by show(1900:Int)<=1900;omega,by show(1900:Int)<=2199;omega⟩,by show d=d-ys 1900;rw[ys0];omega,hd.1⟩ (by simp only;unfold aG;omega) ?_) λs hs=>?_
 .rintro⟨t,y⟩ ⟨h1,h2,h3⟩
  simp only at h1 h2 h3⊢;subst h2;have e:=wy y;have hr:=xv (y:=y) (by omega);have hdy:=DZ y;rw[KT aG (by omega),aoy]
  refine Wp.dec (λh=>?_) λh=> .some ⟨h1,rfl,h3,by simp only;omega⟩
  rw[aoy];refine .some ?_;rw[aE (by omega) (by omega),aE (by omega) (by omega)];have:=KR (y:=y+1) hd.2 (by omega);exact⟨⟨by simp only;omega,by simp only;omega,by simp only;omega⟩,by simp only;omega⟩
 .obtain⟨t,y⟩:=s;obtain⟨h1,h2,h3,h4⟩:=hs;simp only at h1 h2 h3 h4⊢;subst h2;have hr:=xv (y:=y) (by omega)
  refine Wp.seq (λs:Int×Int=>∃i:Nat,s.2=((i+1:Nat):Int)/\i<12/\s.1=d-ys y-ms y i/\0<=s.1/\s.1<uE y ((i+1:Nat):Int)) (Wp.loop (λs:Int×Int=>∃i:Nat,s.2=((i+1:Nat):Int)/\i<12/\s.1=d-ys y-ms y i/\0<=s.1) (λs=>(12-s.2).toNat) ⟨0,rfl,by omega,by show d-ys y=d-ys y-0;omega,by simp only;omega⟩ (by simp only;unfold aG;omega) ?_) λs hs=>?_
  .rintro⟨a,b⟩ ⟨i,hi,yp,ha,h0⟩
   simp only at hi ha h0⊢;subst hi ha;have hm:=tE y (i:=i) (by omega);rw[yO aG (by omega),aoy];have NJ:=qw y ((i+1:Nat):Int)
   refine Wp.dec (λg=>?_) λg=> .some ⟨i,rfl,yp,rfl,h0,by simp only;omega⟩
   rw[aoy];refine .some ?_;rw[aE (by omega) (by omega),aL (by omega)];have UA:ms y (i+1)=ms y i+uE y ((i+1:Nat):Int):=rfl
   have gh:i+1<12:=by
    rcases aph (i+1) 12 with c|c
    .exact c
    .have:i+1=12:=by omega
     rw[this,GH]at UA;rw[this]at g;omega
   exact⟨⟨i+1,rfl,gh,by simp only;omega,by simp only;omega⟩,by simp only;omega⟩
  .obtain⟨a,b⟩:=s;obtain⟨i,hi,yp,ha,h0,h5⟩:=hs;simp only at hi ha h0 h5⊢;subst hi ha;have hm:=tE y (i:=i) (by omega);refine .some ⟨h1,i,rfl,yp,?_,?_,?_⟩
   .show 1<=aoz.wrap _
    rw[aE (by omega) (by omega)];omega
   .show aoz.wrap _<=uE y ((i+1:Nat):Int)
    rw[aE (by omega) (by omega)];omega
   .show d=ys y+ms y i+aoz.wrap _-1
    rw[aE (by omega) (by omega)];omega
theorem Ap(d:Int):M.eU aG d=M.jm aG d:=by
 by_cases hd:0<=d/\d<=109572
 .obtain⟨r,e,h⟩:=uq hd;obtain⟨s,f,g⟩:=Bq hd;rw[e,f,h.Qu g]
 .unfold M.eU M.jm;rw[Ao,oc,aoy,aoy,aj (by simp;omega),aj (by simp;omega)]
def Aq(y m k:Int):Prop:=1900<=y/\y<=2199/\1<=m/\m<=12/\1<=k/\k<=uE y m
instance(y m k:Int):Decidable (Aq y m k):=by unfold Aq;infer_instance
def FY(y m k:Int):Int×Int:=if Aq y m k then(ys y+ms y (m-1).toNat+k-1,0)else(0,3)
theorem I8(y m k:Int):M.kU aG y m k=aa (FY y m k):=by
 apply Wp.eq;unfold M.kU FY
 refine Wp.seq (λj=>j=decide (¬Aq y m k)) ?_ λj hj=>?_
 .unfold Aq
  refine Wp.dec (λ_=> .some (by symm;simp;omega)) λ_=>Wp.dec (λ_=> .some (by symm;simp;omega)) λ_=>Wp.dec (λ_=> .some (by symm;simp;omega)) λh1=>Wp.dec (λ_=> .some (by symm;simp;omega)) λh2=>Wp.dec (λ_=> .some (by symm;simp;omega)) λ_=>?_
  rw[D1 aG (by omega),aoy];refine .some ?_;rw[aoO];simp;omega
 .subst hj;by_cases h:Aq y m k
  .rw[ai (by simpa using h),aj h];obtain⟨h1,h2,h3,h4,h5,h6⟩:=h;have hr:=xv (y:=y) (by omega);rw[Qt aG (by omega),aoy,aE (n:=m-1) (by omega) (by omega)]
   refine Wp.seq (λz=>z=ys y+ms y (m-1).toNat) (Wp.loop (λs:Int×Int=>∃i:Nat,s.2=i/\(i:Int)<=m-1/\s.1=ys y+ms y i) (λs=>(m-s.2).toNat) ⟨0,rfl,by omega,by show ys y=ys y+0;omega⟩ (by simp only;unfold aG;omega) ?_) λz hz=>?_
   .rintro⟨a,b⟩ ⟨i,hi,yp,ha⟩
    simp only at hi ha⊢;subst hi ha
    refine Wp.dec (λg=>?_) λg=> .some ?_
    .have hm:=tE y (i:=i) (by omega);have NJ:=qw y ((i+1:Nat):Int);rw[aL (by omega),D1 aG (by omega),aoy];refine .some ?_;rw[aE (by omega) (by omega)];refine⟨⟨i+1,rfl,by omega,?_⟩,by simp only;omega⟩
     show _=ys y+(ms y i+uE y ((i+1:Nat):Int))
     simp only;omega
    .show _=_
     rw[show(m-1).toNat=i by omega]
   .subst hz;have hm:=tE y (i:=(m-1).toNat) (by omega);have NJ:=qw y m;rw[aE (n:=ys y+ms y (m-1).toNat+k) (by omega) (by omega),aE (by omega) (by omega)];exact .some rfl
  .rw[aj (by simpa using h),ai h];exact .some rfl
theorem GJ(y m k:Int):M.ow aG y m k=aa (FY y m k):=by
 apply Wp.eq;unfold M.ow FY
 refine Wp.seq (λj=>j=decide (¬Aq y m k)) ?_ λj hj=>?_
 .unfold Aq
  refine Wp.dec (λ_=> .some (by symm;simp;omega)) λ_=>Wp.dec (λ_=> .some (by symm;simp;omega)) λ_=>Wp.dec (λ_=> .some (by symm;simp;omega)) λh1=>?_
  rw[yO aG (by omega),aoy];refine .some ?_;rw[aoO];by_cases hm:1<=m/\m<=12
  .simp;omega
  .have:=KQ y (m:=m) (by omega);simp;omega
 .subst hj;by_cases h:Aq y m k
  .rw[ai (by simpa using h),aj h];obtain⟨h1,h2,h3,h4,h5,h6⟩:=h;have NJ:=qw y m;have hr:=xv (y:=y) (by omega);rw[aE (n:=k-1) (by omega) (by omega)]
   refine Wp.seq (λz=>z=ys y+k-1) (Wp.loop (λs:Int×Int=>(1900<=s.2/\s.2<=y)/\s.1=ys s.2+k-1) (λs=>(y-s.2).toNat) ⟨⟨by show(1900:Int)<=1900;omega,h1⟩,by show k-1=ys 1900+k-1;rw[ys0];omega⟩ (by simp only;unfold aG;omega) ?_) λz hz=>?_
   .rintro⟨a,b⟩ ⟨hb,ha⟩
    simp only at hb ha⊢;subst ha
    refine Wp.dec (λg=>?_) λg=> .some ?_
    .have hq:=xv (y:=b) (by omega);have hdy:=DZ b;have e:=wy b;rw[KT aG (by omega),aoy];refine .some ?_;rw[aE (by omega) (by omega),aE (by omega) (by omega)];exact⟨⟨by simp only;omega,by simp only;omega⟩,by simp only;omega⟩
    .show _=_
     rw[show b=y by omega]
   .subst hz;refine Wp.loop (λs:Int×Int=>∃i:Nat,s.2=((i+1:Nat):Int)/\(i:Int)<=m-1/\s.1=ys y+k-1+ms y i) (λs=>(m-s.2).toNat) ⟨0,rfl,by omega,by show ys y+k-1=ys y+k-1+0;omega⟩ (by simp only;unfold aG;omega) ?_
    rintro⟨a,b⟩ ⟨i,hi,yp,ha⟩
    simp only at hi ha⊢;subst hi ha
    refine Wp.dec (λg=>?_) λg=> .some ?_
    .have hm:=tE y (i:=i) (by omega);have NJ:=qw y ((i+1:Nat):Int);rw[yO aG (by omega),aoy];refine .some ?_;rw[aE (by omega) (by omega),aL (by omega)];refine⟨⟨i+1,rfl,by omega,?_⟩,by simp only;omega⟩
     show _=ys y+k-1+(ms y i+uE y ((i+1:Nat):Int))
     simp only;omega
    .show _=_
     rw[show(m-1).toNat=i by omega];refine Prod.ext ?_ rfl;simp only;omega
  .rw[aj (by simpa using h),ai h];exact .some rfl
def xw(r:Int×Int×Int)(n:Int):Int×Int:=
 if(r.1-1900)*12+r.2.1-1+n<0\/3599<(r.1-1900)*12+r.2.1-1+n then(0,3)else
  FY (1900+((r.1-1900)*12+r.2.1-1+n)/12) (((r.1-1900)*12+r.2.1-1+n)%12+1) (if uE (1900+((r.1-1900)*12+r.2.1-1+n)/12) (((r.1-1900)*12+r.2.1-1+n)%12+1)<r.2.2 then uE (1900+((r.1-1900)*12+r.2.1-1+n)/12) (((r.1-1900)*12+r.2.1-1+n)%12+1)else r.2.2)
def M2(d n:Int):Prop:=(0<=d/\d<=109572)/\-3600<=n/\n<=3600
theorem Ar(d n:Int):((if(!decide (0<=d/\d<=109572))=af then aa af else(if(decide (n<(-3600:Int)))=af then aa af else aa (decide ((3600:Int)<n)))):Option Bool)=aa (decide (¬((0<=d/\d<=109572)/\-3600<=n/\n<=3600))):=by
 simp only[aK,jD];refine aw aa ?_;rw[aoO];simp;omega
theorem NL.mon{d:Int}{r:Int×Int×Int}(h:NL d r):1<=r.2.1/\r.2.1<=12/\1<=r.2.2/\r.2.2<=31:=by
 obtain⟨h1,j,h2,h3,h4,h5,h6⟩:=h;have:=qw r.1 ((j+1:Nat):Int);omega
theorem wz(d n:Int):(M2 d n/\∃r,NL d r/\M.eU aG d=aa r/\M.dA aG d n=aa (xw r n))\/(¬M2 d n/\M.dA aG d n=aa (0,3)):=by
 unfold M.dA;rw[Ao,aoy,Ar,aoy];by_cases h:(0<=d/\d<=109572)/\-3600<=n/\n<=3600
 .refine .inl ⟨h,?_⟩;rw[ai (by simp;omega)];obtain⟨⟨y,m,k⟩,e,hr⟩:=uq h.1;refine⟨_,hr,e,?_⟩;rw[e,aoy];have hy:=hr.1;have hm:=hr.mon;simp only at hy hm⊢
  have w:∀z:Int,-1000000000<=z->z<=1000000000->aoz.wrap z=z:=λz h1 h2=>aE (by omega) (by omega)
  rw[w (y-1900) (by omega) (by omega),w ((y-1900)*12) (by omega) (by omega),w ((y-1900)*12+m) (by omega) (by omega),w ((y-1900)*12+m-1) (by omega) (by omega),w ((y-1900)*12+m-1+n) (by omega) (by omega)];unfold xw;simp only[aK,jD,aoy];by_cases c:(y-1900)*12+m-1+n<0\/3599<(y-1900)*12+m-1+n
  .rw[aj (by simpa using c),aj c]
  .rw[ai (by simpa using c),ai c]
   obtain⟨K,hK⟩:∃K,K=(y-1900)*12+m-1+n:=⟨_,rfl⟩
   rw[<-hK]at c⊢;rw[aoN (by omega),aoQ (by omega),w (K/12) (by omega) (by omega),w (1900+K/12) (by omega) (by omega),w (K%12+1) (by omega) (by omega),D1 aG (by omega),aoy,I8,aoy]
 .exact .inr ⟨h,by rw[aj (by simp;omega)]⟩
theorem tF(d n:Int):M.dA aG d n=M.eA aG d n:=by
 have key:∀r:Int×Int×Int,NL d r->M.eU aG d=aa r->M2 d n->M.eA aG d n=aa (xw r n):=by
  rintro⟨y,m,k⟩ hr e h
  unfold M.eA;unfold M2 at h;rw[oc,aoy,Ar,aoy,ai (by simp;omega),<-Ap,e,aoy];have hy:=hr.1;have hm:=hr.mon;simp only at hy hm⊢
  have w:∀z:Int,-1000000000<=z->z<=1000000000->aoz.wrap z=z:=λz h1 h2=>aE (by omega) (by omega)
  rw[w (12*y) (by omega) (by omega),w (12*y+m) (by omega) (by omega),w (12*y+m-1) (by omega) (by omega),w (12*y+m-1+n) (by omega) (by omega)]
  obtain⟨K,hK⟩:∃K,K=(y-1900)*12+m-1+n:=⟨_,rfl⟩
  have e1:12*y+m-1+n=K+22800:=by omega
  rw[e1,aoN (by omega),aoQ (by omega),w ((K+22800)/12) (by omega) (by omega),w ((K+22800)%12+1) (by omega) (by omega),yO aG (by omega),aoy,GJ,aoy]
  have e2:(K+22800)/12=1900+K/12:=by omega
  have e3:(K+22800)%12=K%12:=by omega
  rw[e2,e3];unfold xw;simp only;rw[<-hK];by_cases c:K<0\/3599<K
  .rw[aj c];unfold FY;rw[ai (by unfold Aq;omega)]
  .rw[ai c]
 rcases wz d n with⟨h,r,hr,e,f⟩|⟨h,f⟩
 .rw[f,key r hr e h]
 .rw[f];unfold M.eA;unfold M2 at h;rw[oc,aoy,Ar,aoy,aj (by simp;omega)]
theorem ur{a:Int}{r:Int×Int×Int}(hr:NL a r)(j:Nat):(r.1+j<=2199/\(xw r (12*j)).2=0/\ys (r.1+j)<=(xw r (12*j)).1/\(xw r (12*j)).1<ys (r.1+j+1)/\(j=0->(xw r (12*j)).1=a))\/(2199<r.1+j/\(xw r (12*j)).2=3):=by
 obtain⟨y,m,k⟩:=r;obtain⟨h1,i,h2,h3,h4,h5,h6⟩:=hr;simp only at h1 h2 h3 h4 h5 h6⊢;subst h2;unfold xw;simp only
 obtain⟨K,hK⟩:∃K,K=(y-1900)*12+((i+1:Nat):Int)-1+12*(j:Int):=⟨_,rfl⟩
 rw[<-hK];by_cases c:K<0\/3599<K
 .rw[aj c];exact .inr ⟨by omega,rfl⟩
 .rw[ai c]
  have e1:1900+K/12=y+j:=by omega
  have e2:K%12+1=((i+1:Nat):Int):=by omega
  rw[e1,e2];have p:=Tv (y+j) (m:=((i+1:Nat):Int)) (by omega)
  obtain⟨k',dT,q1,q2,q3⟩:∃k',k'=(if uE (y+j) ((i+1:Nat):Int)<k then uE (y+j) ((i+1:Nat):Int)else k)/\1<=k'/\k'<=uE (y+j) ((i+1:Nat):Int)/\(j=0->k'=k):=by
   refine⟨_,rfl,?_,?_,?_⟩
   .split<;>omega
   .split<;>omega
   .intro hj;subst hj;rw[ai];rw[show y+((0:Nat):Int)=y by omega];omega
  rw[<-dT];unfold FY;rw[aj (by unfold Aq;omega)];refine .inl ⟨by omega,rfl,?_,?_,?_⟩
  .simp only;rw[show(((i+1:Nat):Int)-1).toNat=i by omega];have:=tE (y+j) (i:=i) (by omega);omega
  .simp only;rw[show(((i+1:Nat):Int)-1).toNat=i by omega];have b:=uo (y+j) (show i+1<=12 by omega);rw[GH]at b;have c:ms (y+j) (i+1)=ms (y+j) i+uE (y+j) ((i+1:Nat):Int):=rfl;have e:=wy (y+j);omega
  .intro hj;simp only;rw[show(((i+1:Nat):Int)-1).toNat=i by omega,q3 hj,hj,show y+((0:Nat):Int)=y by omega];omega
theorem wA(a b:Int):M.eW aG a b=M.gJ aG a b:=by
 unfold M.eW M.gJ;rw[Ao,Ao,oc,oc];simp only[aoy];by_cases ha:0<=a/\a<=109572
 case neg=>
  rw[aq ha];rfl
 by_cases hb:0<=b/\b<=109572
 case neg=>
  rw[ao ha,aq hb];rfl
 rw[ao ha,ao hb];simp only[aoX,aoC,if_false,aoy];obtain⟨r,er,hr⟩:=uq ha;obtain⟨s,es,hs⟩:=uq hb;have hry:=hr.1;have hsy:=hs.1;have hra:=hr.year;have S0:=hs.year
 have am:∀j:Nat,j<=300->M.dA aG a (12*(j:Int))=aa (xw r (12*j)):=by
  intro j hj
  rcases wz a (12*j)with⟨_,r',_,e',f⟩|⟨h,_⟩
  .rw[er]at e';obtain rfl:=aoB e';exact f
  .exact absurd (show M2 a (12*j)from⟨ha,by omega,by omega⟩) h
 have loop:∀n:Nat,n<=299->(∀j:Nat,1<=j->j<=n->(xw r (12*j)).2=0/\(xw r (12*j)).1<=b)->¬((xw r (12*((n+1:Nat):Int))).2=0/\(xw r (12*((n+1:Nat):Int))).1<=b)->
  (Loop (S:=Int) (X:=Int) (λs4=>(M.eA aG a (aoz.wrap ((12:Int)*(aoz.wrap (s4+(1:Int)))))).bind λy5=>((if(!decide (y5.2=(0:Int)))=af then aa af else aa (decide (b<y5.1))):Option (Bool)).bind λj6=>
    (if j6=af then aa (aoV s4)else aa (ao4 (aoz.wrap (s4+(1:Int)))))) aG (0:Int))=aa (n:Int):=by
  intro n hn h1 h2;apply Wp.eq;refine Wp.loop (λs:Int=>∃k:Nat,s=k/\k<=n) (λs=>(n-s).toNat) ⟨0,rfl,aoR _⟩ (by unfold aG;omega) ?_
  rintro _ ⟨k,rfl,hk⟩
  rw[aL (by omega),aE (by omega) (by omega),<-tF,am (k+1) (by omega),aoy];by_cases c:(xw r (12*((k+1:Nat):Int))).2=0/\(xw r (12*((k+1:Nat):Int))).1<=b
  .have A8:k<n:=by
    rcases aph k n with g|g
    .exact g
    .have:k=n:=by omega
     subst this;exact absurd c h2
   rw[ai (by rw[ao c.1];decide),aoy,ai (by rw[aq (Int.not_lt.2 c.2)];decide)];exact .some ⟨⟨k+1,rfl,A8⟩,by simp only;omega⟩
  .have A8:k=n:=by
    rcases aph k n with g|g
    .exact absurd (h1 (k+1) (by omega) (by omega)) c
    .omega
   subst A8;by_cases c1:(xw r (12*((k+1:Nat):Int))).2=0
   .rw[ai (by rw[ao c1];decide),aoy,aj (ao (Int.not_le.1 λg=>c ⟨c1,g⟩))];exact .some rfl
   .rw[aj (by simpa using c1),aoy,aj rfl];exact .some rfl
 by_cases LQ:b<a
 .rw[aj (by simpa using LQ)]
  have:=loop 0 (by omega) (λj h1 h2=>by omega) (by
   rintro⟨c1,c2⟩
   rcases ur hr 1 with⟨_,_,h3,_⟩|⟨_,h3⟩
   .have e:r.1+((1:Nat):Int)=r.1+1:=by omega
    rw[e]at h3;simp only[apn]at c2;omega
   .simp only[apn]at c1
    omega)
  exact this.symm
 .rw[ai (by simpa using LQ),er,es,aoy,aoy,aE (n:=s.1-r.1) (by omega) (by omega)]
  have hle:r.1<=s.1:=by
   rcases apZ s.1 r.1 with c|c
   .have:=yN (show s.1+1<=r.1 by omega);omega
   .exact c
  obtain⟨Y,hY⟩:∃Y:Nat,s.1-r.1=Y:=⟨(s.1-r.1).toNat,by omega⟩
  have hY3:Y<=299:=by omega
  rw[hY,aE (n:=12*(Y:Int)) (by omega) (by omega),am Y (by omega),aoy]
  have low:∀j:Nat,1<=j->j<Y->(xw r (12*j)).2=0/\(xw r (12*j)).1<=b:=by
   intro j h1 h2
   rcases ur hr j with⟨_,g2,_,g4,_⟩|⟨g1,_⟩
   .have:=yN (show r.1+j+1<=s.1 by omega);exact⟨g2,by omega⟩
   .omega
  have high:¬((xw r (12*((Y+1:Nat):Int))).2=0/\(xw r (12*((Y+1:Nat):Int))).1<=b):=by
   rintro⟨c1,c2⟩
   rcases ur hr (Y+1)with⟨_,_,g3,_⟩|⟨_,g2⟩
   .have e:r.1+((Y+1:Nat):Int)=s.1+1:=by omega
    rw[e]at g3;omega
   .omega
  by_cases c:(xw r (12*(Y:Int))).2=0/\(xw r (12*(Y:Int))).1<=b
  .rw[ai (by rw[ao c.1];decide),aoy,ai (by rw[aq (Int.not_lt.2 c.2)];decide),aoy,ai (by omega)];refine(loop Y hY3 (λj h1 h2=>?_) high).symm
   rcases aph j Y with g|g
   .exact low j h1 g
   .have:j=Y:=by omega
    subst this;exact c
  .have pC:1<=Y:=by
    rcases Nat.eq_zero_or_pos Y with g|g
    .subst g
     rcases ur hr 0 with⟨_,g2,_,_,g5⟩|⟨g1,_⟩
     .exact absurd ⟨g2,by rw[g5 rfl];omega⟩ c
     .omega
    .exact g
   have fin:((if(!decide ((xw r (12*(Y:Int))).2=(0:Int)))=af then aa af else aa (decide (b<(xw r (12*(Y:Int))).1))):Option Bool)=aa af:=by
    by_cases c1:(xw r (12*(Y:Int))).2=0
    .rw[ai (by rw[ao c1];decide)];exact aw aa (ao (Int.not_le.1 λg=>c ⟨c1,g⟩))
    .rw[aj (by simpa using c1)]
   rw[fin,aoy,aj rfl,aoy,aE (by omega) (by omega),ai (by omega)];have:=loop (Y-1) (by omega) (λj h1 h2=>low j h1 (by omega)) (by rw[show Y-1+1=Y by omega];exact c);rw[this];refine aw aa ?_;omega
end L.P
namespace L.P
theorem Qv(x a b:Int):(if decide (x=a)=af then aa (decide (x=a))else aa (decide (x=b)))=aa (decide (x=a\/x=b)):=by
 by_cases h:x=a<;>simp[h]
theorem D2(x a b c:Int):(if decide (x=a)=af then aa (decide (x=a))else(if decide (x=b)=af then aa (decide (x=b))else aa (decide (x=c))))=aa (decide (x=a\/x=b\/x=c)):=by
 rw[Qv]
 by_cases h:x=a<;>simp[h]
theorem Qw(x a b c d:Int):(if decide (x=a)=af then aa (decide (x=a))else(if decide (x=b)=af then aa (decide (x=b))else(if decide (x=c)=af then aa (decide (x=c))else aa (decide (x=d)))))=aa (decide (x=a\/x=b\/x=c\/x=d)):=by
 rw[D2]
 by_cases h:x=a<;>simp[h]
theorem ahb(x a b c d e:Int):(if decide (x=a)=af then aa (decide (x=a))else(if decide (x=b)=af then aa (decide (x=b))else(if decide (x=c)=af then aa (decide (x=c))else(if decide (x=d)=af then aa (decide (x=d))else aa (decide (x=e))))))=aa (decide (x=a\/x=b\/x=c\/x=d\/x=e)):=by
 rw[Qw]
 by_cases h:x=a<;>simp[h]
theorem Wp.gV{α:Type}{l:List α}{i:Int}{Q:α->Prop}(h0:0<=i)(h1:i<l.length)(h:∀x,x∈l->idx l i=aqv x->Q x):Wp (idx l i) Q:=by
 obtain⟨k,rfl⟩:∃k:Nat,i=k:=⟨i.toNat,by omega⟩
 have hk:k<l.length:=by omega
 exact⟨_,aD hk,h _ (aoG hk) (aD hk)⟩
def ar(op:Int):Int:=
 if(1<=op/\op<=9)\/(35<=op/\op<=39)then 0 else if op=10\/op=25\/(31<=op/\op<=34)then 1 else if(11<=op/\op<=24)\/(27<=op/\op<=30)then 2 else if op=26 then 3 else-1
theorem eJ(N:Nat)(op:Int):M.dN N op=aa (ar op):=by
 by_cases h:1<=op/\op<=39
 .have:op=1\/op=2\/op=3\/op=4\/op=5\/op=6\/op=7\/op=8\/op=9\/op=10\/op=11\/op=12\/op=13\/op=14\/op=15\/op=16\/op=17\/op=18\/op=19\/op=20\/op=21\/op=22\/op=23\/op=24\/op=25\/op=26\/op=27\/op=28\/op=29\/op=30\/op=31\/op=32\/op=33\/op=34\/op=35\/op=36\/op=37\/op=38\/op=39:=by omega
  rcases this with rfl|rfl|rfl|rfl|rfl|rfl|rfl|rfl|rfl|rfl|rfl|rfl|rfl|rfl|rfl|rfl|rfl|rfl|rfl|rfl|rfl|rfl|rfl|rfl|rfl|rfl|rfl|rfl|rfl|rfl|rfl|rfl|rfl|rfl|rfl|rfl|rfl|rfl|rfl<;>(show(_:Option Int)=_;kernel_rfl)
 .have ha:ar op= -1:=by unfold ar;rw[ai (by omega),ai (by omega),ai (by omega),ai (by omega)]
  rw[ha]
  have ne:∀k:Int,1<=k->k<=39->decide (op=k)=ag:=λk h1 h2=>by simp;omega
  unfold M.dN;simp[ne]
theorem kE(op:Int):ar op<=3:=by unfold ar;split<;>(try split)<;>(try split)<;>(try split)<;>omega
def qx(env:cz.den):Prop:=env.2.2.2.1.length<=100/\∀t∈env.2.2.2.2.2,t.2.2.2.length<=9223372036854775807
def Fm(op m:Int):Prop:=0<=ar op/\(op=14\/op=15\/op=16->0<=m/\m<=5)/\(op=34->0<=m/\aoP m 8<=5)/\(op=6->0<=m)
theorem GK(N:Nat)(op:Int):Wp (M.gB N op) λ_=>True:=by
 unfold M.gB;simp only[aK,aoy];exact .some trivial
theorem uv(N:Nat)(op m:Int):Wp (M.dD N (op,m)) λb=>b=af->Fm op m:=by
 unfold M.dD;simp only[eJ,aoy]
 refine Wp.seq (λj=>j=ag->0<=ar op) ?_ λj hj=>?_
 .refine Wp.dec (λ_=> .some λh=>by cases h) λh=>?_
  refine Wp.uA (λ_=>Wp.seq _ (GK ..) λy _=> .some λ_=>by omega) λ_=> .some λ_=>by omega
 .refine Wp.ite (λ_=> .some λh=>by cases h) λhc=>?_
  have ha:=hj (by simpa using hc);rw[D2];simp only[aoy,aK,iy]
  refine .some λhb=>?_
  unfold Fm;by_cases h1:op=14\/op=15\/op=16
  .rw[aj (by simpa using h1)]at hb;simp at hb;exact⟨ha,λ_=>hb,λe=>by omega,λe=>by omega⟩
  .rw[ai (by simpa using h1)]at hb;by_cases h2:op=34
   .rw[aj (by simpa using h2)]at hb;simp at hb;exact⟨ha,λe=>absurd e h1,λ_=>hb,λe=>by omega⟩
   .rw[ai (by simpa using h2)]at hb;by_cases h3:op=6
    .rw[aj (by simpa using h3)]at hb;simp at hb;exact⟨ha,λe=>absurd e h1,λe=>absurd e h2,λ_=>hb⟩
    .exact⟨ha,λe=>absurd e h1,λe=>absurd e h2,λe=>absurd e h3⟩
def Exs(op m:Int)(env:cz.den):Prop:=
 (op=7->0<=m/\m<env.2.1.length)/\(op=8->0<=m/\m<env.2.2.1.length)/\(op=33->0<=m/\m<env.2.2.2.2.2.length)/\(op=34->aoz.wrap (aoM m 8)<env.2.2.2.2.2.length)/\(op=36\/op=37\/op=38\/op=39->0<=m/\m<env.2.2.2.2.1.length)
theorem xx(N:Nat)(op m:Int)(env:cz.den):Wp (M.fi N (op,m) env) λb=>b=af->Exs op m env:=by
 unfold M.fi Exs;simp only
 refine Wp.dec (λh=>?_) λh7=>?_
 .subst h;simp only[aK,aoy,iy]
  exact .some λhb=>⟨λ_=>by simpa using hb,λe=>by omega,λe=>by omega,λe=>by omega,λe=>by omega⟩
 refine Wp.dec (λh=>?_) λh8=>?_
 .subst h
  refine Wp.seq (λj=>j=af->0<=m/\m<env.2.2.1.length) ?_ λj hj=> .some λhb=>⟨λe=>by omega,λ_=>hj hb,λe=>by omega,λe=>by omega,λe=>by omega⟩
  refine Wp.dec (λh0=>Wp.dec (λh1=>Wp.bind (Wp.gV h0 h1 λx _ _=> .some λ_=>⟨h0,h1⟩)) λ_=> .some λh=>by cases h) λ_=> .some λh=>by cases h
 refine Wp.dec (λh=>?_) λh33=>?_
 .subst h;simp only[aK,aoy,iy]
  exact .some λhb=>⟨λe=>by omega,λe=>by omega,λ_=>by simpa using hb,λe=>by omega,λe=>by omega⟩
 refine Wp.dec (λh=>?_) λKu=>?_
 .subst h
  exact .some λhb=>⟨λe=>by omega,λe=>by omega,λe=>by omega,λ_=>by simpa using hb,λe=>by omega⟩
 rw[Qw];simp only[aoy]
 refine Wp.dec (λh=>?_) λh36=> .some λ_=>⟨λe=>absurd e h7,λe=>absurd e h8,λe=>absurd e h33,λe=>absurd e Ku,λe=>absurd e h36⟩
 simp only[aK,aoy,iy]
 exact .some λhb=>⟨λe=>absurd e h7,λe=>absurd e h8,λe=>absurd e h33,λe=>absurd e Ku,λ_=>by simpa using hb⟩
theorem GL{N:Nat}(l:List Vl)(hl:l.length<=100000)(hN:100001<=N):Wp (M.cV N l) λb=>b=af->∀v∈l,bz v.1 v.2.1 v.2.2:=by
 unfold M.cV;refine Wp.loop (λs:Int=>∃i:Nat,s=i/\i<=l.length/\∀v∈l.take i,bz v.1 v.2.1 v.2.2) (λs=>(l.length-s).toNat) ⟨0,rfl,aoR _,by simp⟩ (by omega) ?_
 rintro _ ⟨i,rfl,hi,hp⟩
 refine Wp.dec (λh=>?_) λh=> .some λ_=>?_
 .have gh:i<l.length:=by omega
  rw[aD gh];simp only[aoy,da]
  refine Wp.uA (λ_=> .some λh=>by cases h) λhq=> .some ?_
  rw[aL (by omega)];refine⟨⟨i+1,rfl,gh,λv hv=>?_⟩,by simp only;omega⟩;rw[apf gh]at hv
  rcases ao7.1 hv with hv|hv
  .exact hp v hv
  .rw[aoY.1 hv];exact hq
 .rw[List.take_of_length_le (by omega)]at hp;exact hp
theorem GM(N:Nat)(a b:Vl):Wp (M.eL N a b) λ_=>True:=by
 unfold M.eL;simp only[aK,aoy];exact .some trivial
theorem Xf(N:Nat)(a b:Int):Wp (M.dp N a b) λ_=>True:=by
 unfold M.dp;simp only[gn,aK,aoy];exact .some trivial
theorem Tw(N:Nat)(op:Int)(a b:Vl):Wp (M.aZ N op a b) λ_=>True:=by
 unfold M.aZ M.eL;simp only[gn,aK,aoy];exact .some trivial
def Aws(op m:Int)(env:cz.den):Prop:=
 (op=34->∀t,idx env.2.2.2.2.2 (aoz.wrap (aoM m 8))=aa t->t.2.1=((3,0):Int×Int)/\t.2.2.1=((4,0):Int×Int))/\(op=36\/op=37\/op=38\/op=39->∀t,idx env.2.2.2.2.1 m=aa t->To op t)
theorem As{N:Nat}{op m:Int}{args:List Vl}{env:cz.den}(hx:Exs op m env)(ha:(args.length:Int)=ar op)(Ku:op=34->0<=aoz.wrap (aoM m 8)):Wp (M.bT N (op,m) args env) λb=>b=af->Aws op m env:=by
 obtain⟨x7,x8,Rl,Zf,x36⟩:=hx;unfold M.bT Aws;dsimp only[aB,Row.den]
 have no:∀{b:Bool},¬op=34->¬(op=36\/op=37\/op=38\/op=39)->b=af->(op=34->∀t,idx env.2.2.2.2.2 (aoz.wrap (aoM m 8))=aa t->t.2.1=((3,0):Int×Int)/\t.2.2.1=((4,0):Int×Int))/\(op=36\/op=37\/op=38\/op=39->∀t,idx env.2.2.2.2.1 m=aa t->To op t):=λh1 h2 _=>⟨λe=>absurd e h1,λe=>absurd e h2⟩
 refine Wp.dec (λh=>?_) λh7=>?_
 .obtain⟨a,b⟩:=x7 h;exact Wp.bind (Wp.gV a b λx _ _=>by rw[da];exact .some (no (by omega) (by omega)))
 refine Wp.dec (λh=>?_) λh8=>?_
 .obtain⟨a,b⟩:=x8 h;exact Wp.bind (Wp.gV a b λx _ _=>by rw[da];exact .some (no (by omega) (by omega)))
 have amJ:1<=ar op->0<args.length:=λh=>by omega
 refine Wp.dec (λh=>?_) λh33=>?_
 .obtain⟨a,b⟩:=Rl h
  have h1:ar op=1:=by rw[h];decide
  refine Wp.bind (Wp.gV a b λx _ _=>?_)
  refine Wp.seq (λ_=>True) ?_ λj _=> .some (no (by omega) (by omega))
  refine Wp.bind (Wp.gV (apR 0) (by omega) λy _ _=>?_);rw[vt];simp only[aoy,aK];exact .some trivial
 refine Wp.dec (λh=>?_) λaaz=>?_
 .have b:=Zf h
  have h1:ar op=1:=by rw[h];decide
  refine Wp.bind (Wp.gV (Ku h) b λx _ hxx=>?_)
  refine Wp.seq (λj=>j=af->x.2.1=((3,0):Int×Int)/\x.2.2.1=((4,0):Int×Int)) ?_ λj hj=> .some λhb=>⟨λ_ t ht=>?_,λe=>by omega⟩
  .refine Wp.bind (Wp.gV (apR 0) (by omega) λy _ _=>?_);simp only[aK,iy]
   refine .some λhb=>?_
   simp only[apQ,px,ax]at hb;exact⟨hb.2.1,hb.2.2⟩
  .rw[hxx]at ht;obtain rfl:=aoB ht;exact hj hb
 rw[Qw];simp only[aoy]
 refine Wp.dec (λh=>?_) λh36=>?_
 .obtain⟨a,b⟩:=x36 h;refine Wp.bind (Wp.gV a b λx _ hxx=>?_);rw[rl]
  refine .some λhb=>⟨λe=>absurd e aaz,λ_ t ht=>?_⟩
  rw[hxx]at ht;obtain rfl:=aoB ht;simpa using hb
 have no':∀b:Bool,b=af->_:=λb=>no (b:=b) aaz h36
 refine Wp.dec (λh=>?_) λ_=>?_
 .refine Wp.bind (Wp.gV (apR 0) (by omega) λy _ _=>?_)
  exact Wp.seq _ (Xf ..) λb _=> .some (no' b)
 refine Wp.dec (λh=>?_) λ_=>?_
 .refine Wp.bind (Wp.gV (apR 0) (by omega) λy _ _=>?_);refine Wp.bind (Wp.gV (by omega) (by omega) λz _ _=>?_)
  exact Wp.seq _ (Tw ..) λb _=> .some (no' b)
 refine Wp.dec (λh=>?_) λ_=> .some (no' _)
 refine Wp.seq (λ_=>True) ?_ λb _=> .some (no' b)
 refine Wp.bind (Wp.gV (apR 0) (by omega) λy _ _=>?_)
 refine Wp.dec (λ_=>?_) λ_=> .some trivial
 refine Wp.bind (Wp.gV (by omega) (by omega) λz _ _=>?_);refine Wp.bind (Wp.gV (by omega) (by omega) λz' _ _=>?_)
 exact Wp.seq _ (GM ..) λb _=> .some trivial
def Ce(c:Int):Prop:=c=0\/c=3\/c=12\/c=6\/c=8
theorem Cd.e{c:Int}(h:Cd c):Ce c:=by unfold Cd at h;unfold Ce;omega
theorem GN{op:Int}{t:Ty}{j:Nat}:{ms:List (List Vl)}->{first:Bool}->{acc c:Int}->nA op t j ms first acc= .inr c->c=3\/c=6\/c=8
 |[],_,_,_,h=>by cases h
 |l::ms,first,acc,c,h=>by
  rw[nA]at h;split at h
  .cases h;exact .inr (.inl rfl)
  .split at h
   .cases h;exact .inr (.inl rfl)
   .split at h
    .split at h
     .exact GN h
     .cases h;exact .inl rfl
    .cases h;exact .inr (.inr rfl)
theorem Tx(op:Int)(t:Ty)(j:Nat)(ms:List (List Vl)):Ce (Qk op t j ms).2:=by
 unfold Qk;split
 .unfold Ce;omega
 .split
  .unfold Ce;omega
  .rename_i c hc;have:=GN hc
   show Ce c
   unfold Ce;omega
theorem nD(N:Nat)(b:Bool):Wp (M.eR N b) λ_=>True:=by
 unfold M.eR;simp only[aK];exact .some trivial
theorem Qx(op:Int)(a:Vl):Wp (M.jr aG op a) λ_=>True:=by
 unfold M.jr
 refine Wp.dec (λ_=> .some trivial) λ_=>?_
 refine Wp.dec (λ_=>Wp.seq _ (nD ..) λ_ _=> .some trivial) λ_=>?_
 refine Wp.seq _ (tC ..) λy _=>?_
 simp only[aK];exact .some trivial
theorem I9(N:Nat)(a b:Int):Wp (M.kT N a b) λr=>Cd r.2:=by
 unfold M.kT
 refine Wp.seq _ (wm ..) λr _=>?_
 simp only[aK,aoy];exact .some (DS (Cd3 _) (DS (NK _) (NK _)))
theorem M3{op m:Int}{a b:Vl}(hm:op=14\/op=15\/op=16->0<=m/\m<=5)(gx:13<=op/\op<=16):Wp (M.ji aG (op,m) a b) λr=>Cd r.2:=by
 unfold M.ji;dsimp only[aB,Row.den]
 refine Wp.seq (λj=>Cd j.1) ?_ λj hj=> .some hj
 refine Wp.dec (λ_=>Wp.seq _ (I9 ..) λr hr=> .some hr) λh13=>?_
 have NA:=hm (by omega);simp only[aK,aoy,iy]
 refine Wp.ite (λ_=>Wp.seq _ (MX NA) λr hr=> .some hr) λ_=>?_
 refine Wp.dec (λ_=>Wp.seq _ (KG NA) λr hr=> .some hr) λ_=>?_
 refine Wp.dec (λ_=>Wp.seq _ (Ah NA) λr hr=> .some hr) λ_=>?_
 refine Wp.dec (λ_=>Wp.seq _ (qs _ NA) λr hr=> .some hr) λ_=>?_
 exact Wp.seq _ (DT NA) λr hr=> .some hr
theorem M4{op m:Int}{a b:Vl}(hm:op=14\/op=15\/op=16->0<=m/\m<=5):Wp (M.cm aG (op,m) a b) λr=>Cd r.2:=by
 unfold M.cm;dsimp only[aB,Row.den];rw[Qv,Qw,Qv];simp only[aoy]
 refine Wp.ite (λ_=> .some (NK 0)) λ_=>?_
 refine Wp.dec (λ_=> .some (NK 0)) λ_=>?_
 refine Wp.dec (λh=>Wp.seq _ (M3 hm (by omega)) λr hr=> .some hr) λ_=>?_
 refine Wp.dec (λ_=>?_) λ_=>?_
 .simp only[aK];exact .some (by split<;>exact NK 0)
 refine Wp.dec (λ_=>Wp.seq _ (nD ..) λ_ _=> .some (NK 0)) λ_=>?_
 refine Wp.dec (λ_=>Wp.seq _ (nD ..) λ_ _=> .some (NK 0)) λ_=>?_
 refine Wp.dec (λ_=>Wp.seq _ (nD ..) λ_ _=> .some (NK 0)) λ_=>?_
 refine Wp.dec (λ_=>Wp.seq _ (nD ..) λ_ _=> .some (NK 0)) λ_=>?_
 refine Wp.dec (λ_=>Wp.seq (λj=>j.1=0) (Wp.dec (λ_=>Wp.seq _ (nD ..) λ_ _=> .some rfl) λ_=>Wp.seq _ (nD ..) λ_ _=> .some rfl) λj hj=> .some (.inl hj)) λ_=>?_
 refine Wp.dec (λ_=>Wp.seq (λj=>j.1=0) (Wp.dec (λ_=>Wp.seq _ (nD ..) λ_ _=> .some rfl) λ_=>Wp.seq _ (nD ..) λ_ _=> .some rfl) λj hj=> .some (.inl hj)) λ_=>?_
 refine Wp.dec (λ_=>Wp.seq _ (r7 ..) λr hr=> .some hr) λ_=>?_
 refine Wp.dec (λ_=> .some (NK 0)) λ_=>?_
 exact Wp.seq _ (sz ..) λr _=> .some (NK 0)
theorem Au{op m:Int}{args:List Vl}{env:cz.den}(he:qx env)(hf:Fm op m)(hx:Exs op m env)(ha:(args.length:Int)=ar op)(haw:Aws op m env)(Ku:op=34->0<=aoz.wrap (aoM m 8)):Wp (M.bW aG (op,m) args env) λr=>Ce r.2:=by
 obtain⟨x7,x8,Rl,Zf,x36⟩:=hx;obtain⟨f0,f14,f34,_⟩:=hf;obtain⟨w34,w36⟩:=haw;have Rv:Ce 0:= .inl rfl;unfold M.bW;dsimp only[aB,Row.den];rw[ahb,Qw];simp only[aoy]
 refine Wp.dec (λ_=> .some Rv) λ_=>?_
 refine Wp.dec (λ_=> .some Rv) λ_=>?_
 refine Wp.dec (λh=>Wp.bind (Wp.gV (x7 h).1 (x7 h).2 λx _ _=> .some Rv)) λ_=>?_
 refine Wp.dec (λh=>Wp.bind (Wp.gV (x8 h).1 (x8 h).2 λx _ _=> .some Rv)) λ_=>?_
 refine Wp.dec (λ_=> .some Rv) λ_=>?_
 refine Wp.dec (λ_=> .some Rv) λ_=>?_
 refine Wp.dec (λh=>?_) λ_=>?_
 .obtain⟨a,b⟩:=x36 h
  obtain⟨j,rfl⟩:∃j:Nat,m=j:=⟨m.toNat,by omega⟩
  have hj:j<env.2.2.2.2.1.length:=by omega
  rw[tB (by unfold aG;omega) h hj he.1 (w36 h _ (aD hj))];exact .some (Tx ..)
 refine Wp.dec (λh=>?_) λ_=>?_
 .have h1:ar op=1:=by rw[h];decide
  refine Wp.bind (Wp.gV (Rl h).1 (Rl h).2 λx hx _=>?_);refine Wp.bind (Wp.gV (apR 0) (by omega) λy _ _=>?_)
  refine Wp.seq _ (Cw _ _ _ (he.2 x hx)) λr hr=>?_
  refine Wp.ite (λ_=> .some (by unfold Ce;omega)) λhc=>?_
  obtain⟨a,b⟩:=hr (by simpa using hc);exact Wp.bind (Wp.gV a b λz _ _=> .some Rv)
 refine Wp.dec (λh=>?_) λ_=>?_
 .have h1:ar op=1:=by rw[h];decide
  refine Wp.bind (Wp.gV (Ku h) (Zf h) λx hx hxx=>?_);refine Wp.bind (Wp.gV (apR 0) (by omega) λy _ _=>?_);obtain⟨k1,k2⟩:=w34 h x hxx;obtain⟨m1,m2⟩:=f34 h
  have:0<=aoP m 8:=by rw[aoQ m1];omega
  exact Wp.seq _ (xW ⟨this,m2⟩ k1 k2 (he.2 x hx)) λr hr=> .some hr.e
 refine Wp.dec (λh=>?_) λ_=>?_
 .refine Wp.bind (Wp.gV (apR 0) (by omega) λy _ _=>?_)
  exact Wp.seq _ (Qx ..) λr _=> .some Rv
 refine Wp.dec (λh=>?_) λ_=>?_
 .refine Wp.bind (Wp.gV (apR 0) (by omega) λy _ _=>?_);refine Wp.bind (Wp.gV (by omega) (by omega) λz _ _=>?_)
  exact Wp.seq _ (M4 f14) λr hr=> .some hr.e
 have h3:ar op=3:=by
  have:¬ar op=0:=by unfold ar;split<;>(try split)<;>(try split)<;>(try split)<;>omega
  have:=kE op;omega
 refine Wp.bind (Wp.gV (apR 0) (by omega) λy _ _=>?_)
 refine Wp.dec (λ_=>Wp.bind (Wp.gV (by omega) (by omega) λz _ _=> .some Rv)) λ_=>Wp.bind (Wp.gV (by omega) (by omega) λz _ _=> .some Rv)
structure Tz(r:Vl×Int):Prop where
 ok:r.2=0->bz r.1.1 r.1.2.1 r.1.2.2
 bad:r.2≠0->r.1=((0,0,0):Int×Int×Int)
 code:r.2=0\/r.2=2\/r.2=3\/r.2=6\/r.2=8\/r.2=12
theorem tG{n:Ty}{args:List Vl}{env:cz.den}(he:qx env)(hn:WF aA n)(hl:args.length<=100000):Wp (M.cr aG n args env) Tz:=by
 obtain⟨op,m⟩:=n;have hm:=hn.2;unfold M.cr
 have err:∀c:Int,c≠0->(c=2\/c=3\/c=6\/c=8\/c=12)->Tz (((0:Int),((0:Int),(0:Int))),c):=λc h1 h2=>⟨λh=>absurd h h1,λ_=>rfl, .inr h2⟩
 refine Wp.seq (λj=>j=ag->Fm op m/\(args.length:Int)=ar op) ?_ λj hj=>?_
 .refine Wp.seq _ (uv ..) λy hy=>?_
  refine Wp.ite (λ_=> .some λh=>by cases h) λhc=>?_
  rw[eJ]
  exact .some λh=>⟨hy (by simpa using hc),by simpa using h⟩
 refine Wp.ite (λ_=> .some (err 2 (by decide) (by omega))) λhc=>?_
 obtain⟨hf,ha⟩:=hj (by simpa using hc)
 refine Wp.seq _ (xx ..) λy hy=>?_
 refine Wp.ite (λ_=> .some (err 6 (by decide) (by omega))) λCO=>?_
 have hx:=hy (by simpa using CO)
 have Ku:op=34->0<=aoz.wrap (aoM m 8):=λe=>by
  have h0:=(hf.2.2.1 e).1;have h1:(m:Int)<=9223372036854775807:=hm.2;rw[aoN h0];dsimp only[aB,Row.den]at h0 h1⊢;rw[aE (by omega) (by omega)];omega
 refine Wp.seq (λj=>j=ag->Aws op m env) ?_ λj5 hj5=>?_
 .refine Wp.seq _ (GL _ hl (by unfold aG;omega)) λy _=>?_
  refine Wp.ite (λ_=> .some λh=>by cases h) λ_=>?_
  exact Wp.seq _ (As hx ha Ku) λz hz=> .some λh=>hz (by simpa using h)
 refine Wp.ite (λ_=> .some (err 8 (by decide) (by omega))) λSe=>?_
 have haw:=hj5 (by simpa using Se)
 refine Wp.seq _ (Au he hf hx ha haw Ku) λr hr=>?_
 refine Wp.uA (λh=> .some (err _ h (by unfold Ce at hr;omega))) λ_=>?_
 rw[da];simp only[aoy]
 refine Wp.uA (λ_=> .some (err 3 (by decide) (by omega))) λhp=> .some ⟨λ_=>hp,λh=>absurd rfl h, .inl rfl⟩
end L.P
namespace L.P
theorem vu(N:Nat)(k:Int):M.k8 N k=aa (if k=1 then(0,1)else if k=2 then(-1000000000000,1000000000000)else if k=3 then(-1000000000000000,1000000000000000)else if k=4 then(-1000000000,1000000000)else if k=5 then(0,109572)else if k=6 then(0,15)else(0,-1)):=by
 unfold M.k8;simp only[aK,ax]
theorem e8(N:Nat)(v:Vl):M.cO N v=aa (decide (bz v.1 v.2.1 v.2.2)):=by
 revert v;rintro⟨(k:Int),(e:Int),(n:Int)⟩
 unfold M.cO;rw[vu];simp only[aK,aoy,jD,iy];refine aw aa ?_;by_cases h1:k=1
 .subst h1;rw[aoO];simp[bz];try(dsimp only[aB,Row.den]at*;omega)
 by_cases h2:k=2
 .subst h2;rw[aoO];simp[bz];try(dsimp only[aB,Row.den]at*;omega)
 by_cases h3:k=3
 .subst h3;rw[aoO];simp[bz];try(dsimp only[aB,Row.den]at*;omega)
 by_cases h4:k=4
 .subst h4;rw[aoO];simp[bz];try(dsimp only[aB,Row.den]at*;omega)
 by_cases h5:k=5
 .subst h5;rw[aoO];simp[bz];try(dsimp only[aB,Row.den]at*;omega)
 by_cases h6:k=6
 .subst h6;rw[aoO];simp[bz];try(dsimp only[aB,Row.den]at*;omega)
 simp[bz,h1,h2,h3,h4,h5,h6];try omega
theorem Qy(N:Nat)(v:Vl)(t:Ty):M.uc N v t=aa (decide (Qj v t)):=by
 unfold M.uc;rw[e8];simp only[aK,aoy,iy];refine aw aa ?_;rw[aoO];simp[xU]
theorem GO(N:Nat)(op:Int)(t:Ty):M.oo N op t=aa (decide (To op t)):=by
 unfold M.oo;simp only[aK,aoy,jD,iy];refine aw aa ?_;obtain⟨(k:Int),(e:Int)⟩:=t;rw[aoO]
 show _↔decide (yt op k e)=af
 unfold yt
 by_cases h0:e=0<;>by_cases h1:op=36<;>by_cases h2:op=39<;>simp[h0,h1,h2]<;>try(dsimp only[aB,Row.den]at*;omega)
theorem wB(N:Nat)(k n:Int):M.c9 N k n=aa (if bz k 0 n then((k,0,n),0)else((0,0,0),3)):=by
 unfold M.c9;rw[e8];simp only[aoy];by_cases h:bz k 0 n
 .simp[h]
 .simp[h]
theorem Qz{N:Nat}{op acc n:Int}{first:Bool}(h36:op=36->-9000000000000000000<=acc+n/\acc+n<=9000000000000000000)(h37:op=37->(0<=n/\n<=1)/\0<=acc/\acc<=1)(gx:op=36\/op=37\/op=38\/op=39):M.rP N op acc n first=aa (fold op acc n first):=by
 unfold M.rP fold
 rcases gx with rfl|rfl|rfl|rfl
 .have:=h36 rfl;simp[aE (n:=acc+n) (by omega) (by omega)]
 .obtain⟨⟨a1,a2⟩,a3,a4⟩:=h37 rfl
  have b2':n=0\/n=1:=by omega
  have b4':acc=0\/acc=1:=by omega
  rcases b2' with rfl|rfl<;>rcases b4' with rfl|rfl<;>simp[aE]
 .simp only[aK,apG,decide_false,decide_true,aoC,if_false,if_true]
  by_cases h:acc<n<;>simp[h]
 .simp only[aK,apG,decide_false,decide_true,aoC,if_false,if_true,aoy,jD]
  by_cases h:first=af\/acc<n
  .rw[aj h,aj (by simpa using h)]
  .rw[ai h,ai (by simpa using h)]
def KU(op:Int)(t:Ty)(j:Nat)(ms:List (List Vl)):Vl×Int:=
 if To op t then(if op=39/\ms=[]then((0,0,0),6)else match nA op t j ms af (tA op)with
  | .inl a=>if bz t.1 0 a then((t.1,0,a),0)else((0,0,0),3)
  | .inr c=>((0,0,0),c))else((0,0,0),8)
theorem GP{N:Nat}(hN:100001<=N){op:Int}(gx:op=36\/op=37\/op=38\/op=39){j:Nat}{env:cz.den}(hj:j<env.2.2.2.2.1.length)(hm:env.2.2.2.1.length<=100):
 M.oq N (op,(j:Int)) env=aa (KU op env.2.2.2.2.1[j] j env.2.2.2.1):=by
 obtain⟨d,ip,df,ms,ts,tb⟩:=env;simp only at hj hm⊢;apply Wp.eq;unfold M.oq;simp only;rw[aD hj];simp only[aoy,GO];generalize ts[j]=t;unfold KU;by_cases ht:To op t
 case neg=>
  rw[aj (by simp[ht]),ai ht];exact .some rfl
 rw[ai (by simp[ht]),aj ht];have JH:(t.2:Int)=0:=(show yt op t.1 t.2 from ht).1
 have e1:(if decide (op=37)=af then aa (1:Int)else aa (0:Int))=aa (tA op):=by
  unfold tA;by_cases h:op=37<;>simp[h]
 rw[e1];simp only[aoy,aK,iy,wB]
 refine Wp.join (Wp.loop (λs:Int×Int=>∃k:Nat,∃acc:Int,s=(acc,(k:Int))/\k<=ms.length/\KD op t (decide (k=0)) acc/\nA op t j (ms.drop k) (decide (k=0)) acc=nA op t j ms af (tA op)) (λs=>(ms.length-s.2).toNat)
  ⟨0,tA op,rfl,aoR _,KE gx ht,rfl⟩ (by simp only;omega) ?_)
 rintro _ ⟨k,acc,rfl,hk,MU,hf⟩
 simp only
 refine Wp.dec (λh=>?_) λh=> .some ?_
 case refine_2=>
  have hd:ms.drop k=[]:=List.drop_of_length_le (by omega);rw[hd]at hf
  show Wp _ _
  by_cases Rr:op=39/\ms=[]
  .rw[aj Rr];refine .some ?_;rw[aj (by simpa using Rr)]
  .rw[ai Rr,<-hf];refine .some ?_;rw[ai (by simpa using Rr)];simp only[nA]
 have dT:k<ms.length:=by omega
 have dS:¬(op=39/\ms=[]):=λh=>by rw[h.2]at dT;simp at dT
 rw[ai dS];have hd:ms.drop k=ms[k]::ms.drop (k+1):=ao2 dT;rw[hd]at hf;rw[aD dT];simp only[aoy];rw[nA]at hf;by_cases hl:j<ms[k].length
 .rw[aoA hl]at hf;simp only at hf;rw[aD hl];simp only[aoy,aK,jD,Qy];generalize ms[k][j]=v at hf⊢;by_cases hv:(v.1:Int)=0
  .rw[aj hv]at hf;rw[aj (by simp[hv])];refine .some ?_
   show _=_
   rw[<-hf]
  .rw[ai hv]at hf;rw[ai (by simp[hv];omega)];by_cases hh:Qj v t
   .rw[aj hh]at hf;rw[ai (by simp[hh])]
    obtain⟨hp,Md,Js⟩:=(show xU _ _ _ _ _ from hh)
    have US:(op=36->-9000000000000000000<=acc+v.2.2/\acc+v.2.2<=9000000000000000000)/\(op=37->(0<=(v.2.2:Int)/\(v.2.2:Int)<=1)/\0<=acc/\acc<=1):=by
     have h1:=(show yt op t.1 t.2 from ht).2
     have h2:op≠39->bz t.1 0 acc:=λdS=>by
      rcases MU with h|h
      .exact absurd h.1 dS
      .exact h
     rw[Md]at hp;revert h1 h2 hp;generalize(v.2.2:Int)=n;generalize(v.2.1:Int)=ve;generalize(t.1:Int)=tk;intro h3 h1 h2;refine⟨λe=>?_,λe=>?_⟩
     .have h2:=h2 (by omega);unfold bz at h2 h3;dsimp only[aB,Row.den]at*;omega
     .subst e;have h2:=h2 (by omega);unfold bz at h2 h3;simp at h1;dsimp only[aB,Row.den]at*;omega
    rw[show(decide ((k:Int)=0))=decide (k=0)from by rw[decide_eq_decide];omega];rw[Qz US.1 US.2 gx];simp only[aoy];by_cases pU:bz t.1 0 (fold op acc v.2.2 (decide (k=0)))
    .rw[aj pU]at hf⊢;simp only[decide_true,aoX,aoC,if_false];rw[aL (by omega)];refine .some ⟨⟨k+1,_,rfl,dT, .inr pU,?_⟩,by simp only;omega⟩;rw[show decide (k+1=0)=ag by simp];exact hf
    .rw[ai pU]at hf⊢;simp only[apG,decide_false,apd,if_true];refine .some ?_
     show _=_
     rw[<-hf]
   .rw[ai hh]at hf;rw[aj (by simp[hh])];refine .some ?_
    show _=_
    rw[<-hf]
 .rw[List.getElem?_eq_none (by omega)]at hf;rw[aj (by simp;omega)];refine .some ?_
  show _=_
  rw[<-hf]
theorem Cz(N:Nat)(op:Int)(gx:35<=op/\op<=39):M.dN N op=aa 0:=by
 have:op=35\/op=36\/op=37\/op=38\/op=39:=by omega
 rcases this with rfl|rfl|rfl|rfl|rfl<;>(show(_:Option _)=_;kernel_rfl)
theorem Br(N:Nat)(op:Int)(gx:35<=op/\op<=39):M.fj N op=aa 0:=by
 have:op=35\/op=36\/op=37\/op=38\/op=39:=by omega
 rcases this with rfl|rfl|rfl|rfl|rfl<;>(show(_:Option _)=_;kernel_rfl)
theorem QA(N:Nat)(op:Int)(gx:35<=op/\op<=39):M.gB N op=aa (!decide (op=35)):=by
 have:op=35\/op=36\/op=37\/op=38\/op=39:=by omega
 rcases this with rfl|rfl|rfl|rfl|rfl<;>(show(_:Option _)=_;kernel_rfl)
theorem GQ(N:Nat)(op:Int)(gx:35<=op/\op<=39):M.jI N op=aa (!decide (op=35)):=by
 have:op=35\/op=36\/op=37\/op=38\/op=39:=by omega
 rcases this with rfl|rfl|rfl|rfl|rfl<;>(show(_:Option _)=_;kernel_rfl)
theorem Ja(N:Nat)(op n:Int)(gx:35<=op/\op<=39):M.dD N (op,n)=aa (!(decide (op=35)&& !decide (n=0))):=by
 unfold M.dD;simp only[Cz N op gx,QA N op gx]
 have:op=35\/op=36\/op=37\/op=38\/op=39:=by omega
 rcases this with rfl|rfl|rfl|rfl|rfl<;>by_cases h:n=0<;>simp[h]
theorem Jb(N:Nat)(op n:Int)(gx:35<=op/\op<=39):M.k9 N (op,n) 0=aa (!(decide (op=35)&& !decide (n=0))):=by
 unfold M.k9;simp only[Br N op gx,GQ N op gx]
 have:op=35\/op=36\/op=37\/op=38\/op=39:=by omega
 rcases this with rfl|rfl|rfl|rfl|rfl<;>by_cases h:n=0<;>simp[h]
theorem Jc(N:Nat)(op n:Int)(env:cz.den)(gx:35<=op/\op<=39):M.fi N (op,n) env=aa (decide (op=35)||(decide (0<=n)&&decide (n<(env.2.2.2.2.1.length:Int)))):=by
 unfold M.fi
 have:op=35\/op=36\/op=37\/op=38\/op=39:=by omega
 rcases this with rfl|rfl|rfl|rfl|rfl<;>by_cases h:0<=n<;>simp[h]
theorem M5(N:Nat)(op n:Int)(env:cz.den)(gx:35<=op/\op<=39):M.oK N (op,n) env=aa (decide (op=35)||(decide (0<=n)&&decide (n<(env.2.2.2.2.1.length:Int)))):=by
 unfold M.oK
 have:op=35\/op=36\/op=37\/op=38\/op=39:=by omega
 rcases this with rfl|rfl|rfl|rfl|rfl<;>by_cases h:0<=n<;>simp[h]
theorem all_nil{N:Nat}(hN:100001<=N):M.cV N ([]:List Vl)=aa af:=by
 obtain⟨N,rfl⟩:∃m,N=m+1:=⟨N-1,by omega⟩
 unfold M.cV Loop;simp
def TA(op n:Int)(env:cz.den):Vl×Int:=
 if op=35 then(if n=0 then((2,0,(env.2.2.2.1.length:Int)),0)else((0,0,0),2))else match env.2.2.2.2.1[n.toNat]? with
  |some t=>if 0<=n then KU op t n.toNat env.2.2.2.1 else((0,0,0),6)
  |none=>((0,0,0),6)
theorem CA{op:Int}{t:Ty}{j:Nat}:{ms:List (List Vl)}->{first:Bool}->{acc c:Int}->nA op t j ms first acc= .inr c->c=3\/c=6\/c=8
 |[],_,_,_,h=>by cases h
 |l::ms,first,acc,c,h=>by
  rw[nA]at h;split at h
  .cases h;exact .inr (.inl rfl)
  .split at h
   .cases h;exact .inr (.inl rfl)
   .split at h
    .split at h
     .exact CA h
     .cases h;exact .inl rfl
    .cases h;exact .inr (.inr rfl)
theorem M6{N:Nat}(hN:100001<=N)(op n:Int)(env:cz.den)(gx:35<=op/\op<=39)(hm:env.2.2.2.1.length<=100):M.cr N (op,n) ([]:List Vl) env=aa (TA op n env):=by
 unfold M.cr;simp only[Ja N op n gx,Cz N op gx,Jc N op n env gx,all_nil hN,aoy,aK,jD];unfold TA;by_cases Kk:op=35
 .subst Kk;by_cases h0:n=0
  .subst h0
   have e1:M.bT N ((35:Int),(0:Int)) ([]:List Vl) env=aa af:=by unfold M.bT;simp
   have e2:M.bW N ((35:Int),(0:Int)) ([]:List Vl) env=aa ((2,0,(env.2.2.2.1.length:Int)),0):=by unfold M.bW;simp
   have e3:bz 2 0 (env.2.2.2.1.length:Int):=by unfold bz;omega
   simp[e1,e2,da,e3]
  .simp[h0]
 .have Jd:op=36\/op=37\/op=38\/op=39:=by omega
  have e1:M.bT N (op,n) ([]:List Vl) env=(idx env.2.2.2.2.1 n).bind λx=>M.gE N op x:=by
   unfold M.bT
   rcases Jd with rfl|rfl|rfl|rfl<;>simp
  have e2:M.bW N (op,n) ([]:List Vl) env=M.gq N (op,n) env:=by
   unfold M.bW
   rcases Jd with rfl|rfl|rfl|rfl<;>simp<;>(cases M.gq N _ env<;>rfl)
  by_cases hn:0<=n
  .obtain⟨j,rfl⟩:∃j:Nat,n=j:=⟨n.toNat,by omega⟩
   by_cases hj:j<env.2.2.2.2.1.length
   .rw[e1,e2,aD hj];simp only[aoy,rl,aoF,aoA hj,aj hn,KU];by_cases ht:To op env.2.2.2.2.1[j]
    .rw[tB hN Jd hj hm ht,aj ht];unfold Qk
     by_cases Rr:op=39/\env.2.2.2.1=[]
     .obtain⟨rfl,UA⟩:=Rr;simp[hj,ht,UA]
     .rw[ai Rr,ai Rr]
      cases hmf:nA op env.2.2.2.2.1[j] j env.2.2.2.1 af (tA op)with
      |inr c=>
       have hc:¬c=0:=by rcases CA hmf with rfl|rfl|rfl<;>decide
       simp[Kk,hj,ht,hc]
      |inl a=>
       by_cases hp:bz env.2.2.2.2.1[j].1 0 a
       .simp[Kk,hj,ht,da,hp]
       .simp[Kk,hj,ht,da,hp]
    .simp[Kk,hj,ht]
   .simp[Kk,hj]
  .rw[e1,e2]
   cases env.2.2.2.2.1[n.toNat]? <;>simp[Kk,hn]
theorem Bt{N:Nat}(hN:100001<=N)(op n:Int)(env:cz.den)(gx:35<=op/\op<=39)(hm:env.2.2.2.1.length<=100):M.kD N (op,n) ([]:List Vl) env=aa (TA op n env):=by
 obtain⟨N,rfl⟩:∃m,N=m+1:=⟨N-1,by omega⟩
 unfold M.kD;simp only[List.length_nil,Int.ofNat_zero,Jb _ op n gx,M5 _ op n env gx,aoy];unfold Loop;simp only[bx,Int.lt_irrefl,decide_false,aoC,if_false,aoy,aK,iy,decide_true,if_true];unfold TA;by_cases Kk:op=35
 .subst Kk;by_cases h0:n=0
  .subst h0
   have e2:M.cW (N+1) ((35:Int),(0:Int)) env=aa ((2,0,(env.2.2.2.1.length:Int)),0):=by
    have e3:bz 2 0 (env.2.2.2.1.length:Int):=by unfold bz;omega
    unfold M.cW;simp[wB,e3]
   simp[e2]
  .simp[h0]
 .have Jd:op=36\/op=37\/op=38\/op=39:=by omega
  by_cases hn:0<=n
  .obtain⟨j,rfl⟩:∃j:Nat,n=j:=⟨n.toNat,by omega⟩
   by_cases hj:j<env.2.2.2.2.1.length
   .rw[GP hN Jd hj hm];simp only[aoF,aoA hj,aj hn]
    have h1:36<=op:=by omega
    simp[Kk,hj,h1,gx.2]
   .simp[Kk,hj]
  .cases env.2.2.2.2.1[n.toNat]? <;>simp[Kk,hn]
end L.P
namespace L.P
theorem GR{op:Int}(h:1<=op/\op<=39):op=1\/op=2\/op=3\/op=4\/op=5\/op=6\/op=7\/op=8\/op=9\/op=10\/op=11\/op=12\/op=13\/op=14\/op=15\/op=16\/op=17\/op=18\/op=19\/op=20\/op=21\/op=22\/op=23\/op=24\/op=25\/op=26\/op=27\/op=28\/op=29\/op=30\/op=31\/op=32\/op=33\/op=34\/op=35\/op=36\/op=37\/op=38\/op=39:=by omega
theorem uw(N:Nat)(op:Int):M.fj N op=aa (ar op):=by
 unfold M.fj ar;simp only[aK,aoy,jD,iy];by_cases h:1<=op/\op<=39
 .rcases GR h with rfl|rfl|rfl|rfl|rfl|rfl|rfl|rfl|rfl|rfl|rfl|rfl|rfl|rfl|rfl|rfl|rfl|rfl|rfl|rfl|rfl|rfl|rfl|rfl|rfl|rfl|rfl|rfl|rfl|rfl|rfl|rfl|rfl|rfl|rfl|rfl|rfl|rfl|rfl<;>rfl
 .have ne:∀k:Int,1<=k->k<=39->decide (op=k)=ag:=λk h1 h2=>by simp;omega
  have e:(if(1<=op/\op<=9)\/(35<=op/\op<=39)then(0:Int)else if op=10\/op=25\/(31<=op/\op<=34)then 1 else if(11<=op/\op<=24)\/(27<=op/\op<=30)then 2 else if op=26 then 3 else-1)= -1:=by
   rw[ai (by omega),ai (by omega),ai (by omega),ai (by omega)]
  rw[e]
  rcases(show op<1\/39<op by omega)with g|g
  .have l:∀k:Int,1<=k->decide (k<=op)=ag:=λk h1=>by simp;omega
   simp[ne,l]
  .have l:∀k:Int,k<=39->decide (op<=k)=ag:=λk h1=>by simp;omega
   simp[ne,l]
theorem CB(N:Nat)(op:Int):M.gB N op=M.jI N op:=by
 by_cases h:1<=op/\op<=39
 .rcases GR h with rfl|rfl|rfl|rfl|rfl|rfl|rfl|rfl|rfl|rfl|rfl|rfl|rfl|rfl|rfl|rfl|rfl|rfl|rfl|rfl|rfl|rfl|rfl|rfl|rfl|rfl|rfl|rfl|rfl|rfl|rfl|rfl|rfl|rfl|rfl|rfl|rfl|rfl|rfl<;>rfl
 .have ne:∀k:Int,1<=k->k<=39->decide (op=k)=ag:=λk h1 h2=>by simp;omega
  unfold M.gB M.jI;simp only[aK,aoy,jD,iy]
  rcases(show op<1\/39<op by omega)with g|g
  .have l:∀k:Int,1<=k->decide (k<=op)=ag:=λk h1=>by simp;omega
   simp[ne,l]
  .have l:∀k:Int,k<=39->decide (op<=k)=ag:=λk h1=>by simp;omega
   simp[ne,l]
theorem M7(N:Nat)(op m l:Int)(hl:0<=l){y:Bool}(hy:M.dD N (op,m)=aa y):M.k9 N (op,m) l=aa (y&&decide (l=ar op)):=by
 unfold M.dD at hy;unfold M.k9;rw[eJ,CB]at hy;rw[uw];simp only[aoy]at hy⊢
 obtain⟨u,hu⟩:∃u,M.jI N op=aa u:=by
  rw[<-CB];obtain⟨u,hu,_⟩:=GK N op;exact⟨u,hu⟩
 rw[hu]at hy⊢;by_cases c:l=ar op
 .subst c;rw[ai (by simp;omega)]at hy;rw[ai (by simp),hy];simp
 .rw[aj (by simp;omega),aoy,aj rfl];simp[c]
theorem GS(N:Nat)(n:Ty)(env:cz.den):M.fi N n env=M.oK N n env:=rfl
def zv:Vl:=((0,0,0):Int×Int×Int)
def fin(r:Vl×Int):Vl×Int:=if(r.2:Int)=0 then(if bz r.1.1 r.1.2.1 r.1.2.2 then(r.1,0)else(zv,3))else(zv,r.2)
noncomputable def fN(op m:Int)(args:List Vl)(env:cz.den):Option (Vl×Int):=
 ((M.bT aG ((op,m):Int×Int) args env).bind λy7=>aa (!y7)).bind λj5=>if j5=af then aa (zv,(8:Int))else
   (M.bW aG ((op,m):Int×Int) args env).bind λy8=>(if(!decide (y8.2=(0:Int)))=af then aa (zv,y8.2)else(M.ed aG y8.1).bind λy9=>(if(!y9)=af then aa (zv,(3:Int))else aa (y8.1,(0:Int))))
theorem kJ{op m:Int}{args:List Vl}{env:cz.den}{C:Prop}[Decidable C]{r:Vl×Int}(ha:M.bT aG ((op,m):Int×Int) args env=aa (decide C))(hc:C->M.bW aG ((op,m):Int×Int) args env=aa r):fN op m args env=aa (if C then fin r else(zv,8)):=by
 unfold fN;rw[ha];by_cases c:C
 .rw[aj c,hc c];unfold fin;rw[ao c];simp only[aoy,da,aoX,aoC,if_false];by_cases h0:(r.2:Int)=0
  .rw[ai (by simpa using h0),aj h0];by_cases hp:bz r.1.1 r.1.2.1 r.1.2.2
   .rw[ai (by simpa using hp),aj hp]
   .rw[aj (by simpa using hp),ai hp]
  .rw[aj (by simpa using h0),ai h0]
 .rw[ai c,aq c];rfl
theorem fO(N:Nat)(k n:Int):M.c9 N k n=aa (fin ((k,0,n),0)):=by
 rw[wB];rfl
theorem oS(N:Nat)(k n e:Int):M.iG N k n e=aa (fin ((k,0,n),e)):=by
 unfold M.iG fin;by_cases h:e=0
 .rw[ai (by simpa using h),wB,aoy];subst h;simp only[if_true];rfl
 .rw[aj (by simpa using h),ai h];rfl
theorem di(N:Nat)(k:Int):M.dq N k=aa (decide (2<=k/\k<=4)):=by
 unfold M.dq;simp only[aK,aoy,jD];refine aw aa ?_;rw[aoO];simp;omega
theorem iz(N:Nat)(a b:Vl):M.eL N a b=aa (decide ((a.1:Int)=b.1/\(a.2.1:Int)=b.2.1)):=by
 unfold M.eL;simp only[aK,aoy,iy,Bool.decide_and]
theorem pQ(N:Nat)(b:Bool):M.eR N b=aa (1,0,if b=af then 1 else 0):=by
 unfold M.eR;cases b<;>rfl
theorem fy(N:Nat)(b:Bool):M.fM N b=aa (fin ((1,0,if b=af then 1 else 0),0)):=by
 unfold M.fM fin;cases b<;>rfl
theorem xY{α:Type}(a:α):idx [a] (0:Int)=aa a:=rfl
theorem QB{α:Type}(a b:α):idx [a,b] (0:Int)=aa a:=rfl
theorem QC{α:Type}(a b:α):idx [a,b] (1:Int)=aa b:=rfl
theorem QD{α:Type}(a b c:α):idx [a,b,c] (0:Int)=aa a:=rfl
theorem QE{α:Type}(a b c:α):idx [a,b,c] (1:Int)=aa b:=rfl
theorem QF{α:Type}(a b c:α):idx [a,b,c] (2:Int)=aa c:=rfl
theorem xy{α β:Type}(o:Option (α×β)):(o.bind λy=>aa (y.1,y.2))=o:=by cases o<;>rfl
theorem tH{v:Vl}(h:bz v.1 v.2.1 v.2.2):fin (v,0)=(v,0):=by
 unfold fin;rw[aj rfl,aj h]
theorem TB(k:Int):(if 2<=k/\k<=4 then aa af else aa (decide (k=5)))=aa (decide (2<=k)&&decide (k<=5)):=by
 by_cases h:2<=k/\k<=4
 .rw[aj h,ao h.1,ao (show k<=5 by omega)];rfl
 .rw[ai h];refine aw aa ?_;rw[aoO,apQ,ax,ax,ax];omega
theorem two{op m:Int}{a b:Vl}{env:cz.den}(gx:11<=op/\op<=30){C:Prop}[Decidable C]{r:Vl×Int}(h1:M.aZ aG op a b=aa (decide C))(h2:C->M.cm aG ((op,m):Int×Int) a b=aa r)
 (h3:M.aX aG ((op,m):Int×Int) a b=aa (if C then fin r else(zv,8))):fN op m [a,b] env=M.aX aG ((op,m):Int×Int) a b:=by
 have ne:∀k:Int,k<11\/30<k->decide (op=k)=ag:=λk h=>by simp;omega
 rw[h3]
 refine kJ ?_ λc=>?_
 .unfold M.bT;simp only[ne 7 (by omega),ne 8 (by omega),ne 33 (by omega),ne 34 (by omega),ne 36 (by omega),ne 37 (by omega),ne 38 (by omega),ne 39 (by omega),aoC,if_false,aoy,QB,QC,h1];rfl
 .unfold M.bW;simp only[ne 1 (by omega),ne 2 (by omega),ne 3 (by omega),ne 4 (by omega),ne 5 (by omega),ne 6 (by omega),ne 7 (by omega),ne 8 (by omega),ne 9 (by omega),ne 33 (by omega),ne 34 (by omega),ne 35 (by omega),ne 36 (by omega),ne 37 (by omega),ne 38 (by omega),ne 39 (by omega),aoC,if_false,aoy,QB,QC,h2 c];rfl
theorem aaC(m ka ea na kb eb nb:Int)(env:cz.den):fN 11 m [((ka,ea,na):Int×Int×Int),((kb,eb,nb):Int×Int×Int)] env=M.aX aG ((11,m):Int×Int) ((ka,ea,na):Int×Int×Int) ((kb,eb,nb):Int×Int×Int):=by
 refine two (by omega) (C:=(ka=kb/\ea=eb)/\2<=ka/\ka<=4) (r:=((ka,0,aoz.wrap (na+nb)),0)) ?_ (λ_=>?_) ?_
 .unfold M.aZ;simp[iz,gn]
  by_cases h1:ka=kb<;>by_cases h2:ea=eb<;>simp[h1,h2]
 .unfold M.cm;simp
 .unfold M.aX M.dc;by_cases h1:ka=kb
  .subst h1;by_cases h2:ea=eb
   .subst h2;by_cases h3:2<=ka/\ka<=4
    .have g:¬(2<=ka->4<ka):=by omega
     simp[h3,g,di,fO,fy,zv]
    .have g:2<=ka->4<ka:=by omega
     simp[h3,g,di,fO,fy,zv]
   .simp[h2,di,fO,fy,zv]
  .simp[h1,di,fO,fy,zv]
theorem aaD(m ka ea na kb eb nb:Int)(env:cz.den):fN 12 m [((ka,ea,na):Int×Int×Int),((kb,eb,nb):Int×Int×Int)] env=M.aX aG ((12,m):Int×Int) ((ka,ea,na):Int×Int×Int) ((kb,eb,nb):Int×Int×Int):=by
 refine two (by omega) (C:=(ka=kb/\ea=eb)/\2<=ka/\ka<=4) (r:=((ka,0,aoz.wrap (na-nb)),0)) ?_ (λ_=>?_) ?_
 .unfold M.aZ;simp[iz,gn]
  by_cases h1:ka=kb<;>by_cases h2:ea=eb<;>simp[h1,h2]
 .unfold M.cm;simp
 .unfold M.aX M.dc;by_cases h1:ka=kb
  .subst h1;by_cases h2:ea=eb
   .subst h2;by_cases h3:2<=ka/\ka<=4
    .have g:¬(2<=ka->4<ka):=by omega
     simp[h3,g,di,fO,fy,zv]
    .have g:2<=ka->4<ka:=by omega
     simp[h3,g,di,fO,fy,zv]
   .simp[h2,di,fO,fy,zv]
  .simp[h1,di,fO,fy,zv]
theorem aaE(m ka ea na kb eb nb:Int)(ha:bz ka ea na)(hb:bz kb eb nb)(env:cz.den):fN 17 m [((ka,ea,na):Int×Int×Int),((kb,eb,nb):Int×Int×Int)] env=M.aX aG ((17,m):Int×Int) ((ka,ea,na):Int×Int×Int) ((kb,eb,nb):Int×Int×Int):=by
 refine two (by omega) (C:=(ka=kb/\ea=eb)/\2<=ka/\ka<=5) (r:=(if decide (True)=decide (nb<na)then((kb,eb,nb):Vl)else((ka,ea,na):Vl),0)) ?_ (λ_=>?_) ?_
 .unfold M.aZ;simp[iz,gn]
  by_cases h1:ka=kb<;>by_cases h2:ea=eb<;>simp[h1,h2]
  exact TB kb
 .unfold M.cm
  by_cases h:nb<na<;>simp[h]
 .unfold M.aX M.dc;have fa:=tH (v:=((ka,ea,na):Int×Int×Int)) ha;have fb:=tH (v:=((kb,eb,nb):Int×Int×Int)) hb;by_cases h1:ka=kb
  .subst h1;by_cases h2:ea=eb
   .subst h2
    have dS:∀k:Int,k<2\/5<k->¬(2<=k/\k<=5):=λk h=>by omega
    by_cases h3:2<=ka/\ka<=5
    .have gg:((M.dq aG ka).bind λlz=>(if(!lz)=af then aa (!decide (ka=(5:Int)))else aa ag):Option Bool)=aa ag:=by
      rw[di,aoy];by_cases h5:ka=5
      .subst h5;simp
      .rw[ai];simp;omega
     simp only[gg]
     rcases Int.lt_trichotomy na nb with g|g|g
     .have g':¬nb<na:=by omega
      simp[h3,g,g',fa,fb]
     .subst g;simp[h3,fa]
     .have g':¬na<nb:=by omega
      simp[h3,g,g',fa,fb]
    .have gg:((M.dq aG ka).bind λlz=>(if(!lz)=af then aa (!decide (ka=(5:Int)))else aa ag):Option Bool)=aa af:=by
      rw[di,aoy,aj]
      .simp;omega
      .simp;omega
     simp only[gg];simp[h3,zv]
   .simp[h2,zv]
  .simp[h1,zv]
theorem aaF(m ka ea na kb eb nb:Int)(ha:bz ka ea na)(hb:bz kb eb nb)(env:cz.den):fN 18 m [((ka,ea,na):Int×Int×Int),((kb,eb,nb):Int×Int×Int)] env=M.aX aG ((18,m):Int×Int) ((ka,ea,na):Int×Int×Int) ((kb,eb,nb):Int×Int×Int):=by
 refine two (by omega) (C:=(ka=kb/\ea=eb)/\2<=ka/\ka<=5) (r:=(if decide (False)=decide (nb<na)then((kb,eb,nb):Vl)else((ka,ea,na):Vl),0)) ?_ (λ_=>?_) ?_
 .unfold M.aZ;simp[iz,gn]
  by_cases h1:ka=kb<;>by_cases h2:ea=eb<;>simp[h1,h2]
  exact TB kb
 .unfold M.cm
  by_cases h:nb<na<;>simp[h]
 .unfold M.aX M.dc;have fa:=tH (v:=((ka,ea,na):Int×Int×Int)) ha;have fb:=tH (v:=((kb,eb,nb):Int×Int×Int)) hb;by_cases h1:ka=kb
  .subst h1;by_cases h2:ea=eb
   .subst h2
    have dS:∀k:Int,k<2\/5<k->¬(2<=k/\k<=5):=λk h=>by omega
    by_cases h3:2<=ka/\ka<=5
    .have gg:((M.dq aG ka).bind λlz=>(if(!lz)=af then aa (!decide (ka=(5:Int)))else aa ag):Option Bool)=aa ag:=by
      rw[di,aoy];by_cases h5:ka=5
      .subst h5;simp
      .rw[ai];simp;omega
     simp only[gg]
     rcases Int.lt_trichotomy na nb with g|g|g
     .have g':¬nb<na:=by omega
      simp[h3,g,g',fa,fb]
     .subst g;simp[h3,fa]
     .have g':¬na<nb:=by omega
      simp[h3,g,g',fa,fb]
    .have gg:((M.dq aG ka).bind λlz=>(if(!lz)=af then aa (!decide (ka=(5:Int)))else aa ag):Option Bool)=aa af:=by
      rw[di,aoy,aj]
      .simp;omega
      .simp;omega
     simp only[gg];simp[h3,zv]
   .simp[h2,zv]
  .simp[h1,zv]
theorem ahe(m ka ea na kb eb nb:Int)(env:cz.den):fN 19 m [((ka,ea,na):Int×Int×Int),((kb,eb,nb):Int×Int×Int)] env=M.aX aG ((19,m):Int×Int) ((ka,ea,na):Int×Int×Int) ((kb,eb,nb):Int×Int×Int):=by
 refine two (by omega) (C:=ka=kb/\ea=eb) (r:=((1,0,if(decide (na=nb))=af then 1 else 0),0)) ?_ (λ_=>?_) ?_
 .unfold M.aZ;simp[iz]
 .unfold M.cm;simp[pQ]
 .unfold M.aX M.dc;by_cases h1:ka=kb
  .subst h1;by_cases h2:ea=eb
   .subst h2;simp[fy]
   .simp[h2,zv]
  .simp[h1,zv]
theorem ahf(m ka ea na kb eb nb:Int)(env:cz.den):fN 20 m [((ka,ea,na):Int×Int×Int),((kb,eb,nb):Int×Int×Int)] env=M.aX aG ((20,m):Int×Int) ((ka,ea,na):Int×Int×Int) ((kb,eb,nb):Int×Int×Int):=by
 refine two (by omega) (C:=ka=kb/\ea=eb) (r:=((1,0,if(!decide (na=nb))=af then 1 else 0),0)) ?_ (λ_=>?_) ?_
 .unfold M.aZ;simp[iz]
 .unfold M.cm;simp[pQ]
 .unfold M.aX M.dc;by_cases h1:ka=kb
  .subst h1;by_cases h2:ea=eb
   .subst h2;simp[fy]
   .simp[h2,zv]
  .simp[h1,zv]
theorem ahg(m ka ea na kb eb nb:Int)(env:cz.den):fN 21 m [((ka,ea,na):Int×Int×Int),((kb,eb,nb):Int×Int×Int)] env=M.aX aG ((21,m):Int×Int) ((ka,ea,na):Int×Int×Int) ((kb,eb,nb):Int×Int×Int):=by
 refine two (by omega) (C:=(ka=kb/\ea=eb)/\2<=ka/\ka<=5) (r:=((1,0,if decide (na<nb)=af then 1 else 0),0)) ?_ (λ_=>?_) ?_
 .unfold M.aZ;simp[iz,gn]
  by_cases h1:ka=kb<;>by_cases h2:ea=eb<;>simp[h1,h2]
  exact TB kb
 .unfold M.cm;simp[pQ]
 .unfold M.aX M.dc;by_cases h1:ka=kb
  .subst h1;by_cases h2:ea=eb
   .subst h2;by_cases h3:2<=ka/\ka<=5
    .have gg:((M.dq aG ka).bind λlz=>(if(!lz)=af then aa (!decide (ka=(5:Int)))else aa ag):Option Bool)=aa ag:=by
      rw[di,aoy];by_cases h5:ka=5
      .subst h5;simp
      .rw[ai];simp;omega
     simp only[gg];simp[h3,fy]
    .have gg:((M.dq aG ka).bind λlz=>(if(!lz)=af then aa (!decide (ka=(5:Int)))else aa ag):Option Bool)=aa af:=by
      rw[di,aoy,aj]
      .simp;omega
      .simp;omega
     simp only[gg];simp[h3,zv]
   .simp[h2,zv]
  .simp[h1,zv]
theorem ahh(m ka ea na kb eb nb:Int)(env:cz.den):fN 22 m [((ka,ea,na):Int×Int×Int),((kb,eb,nb):Int×Int×Int)] env=M.aX aG ((22,m):Int×Int) ((ka,ea,na):Int×Int×Int) ((kb,eb,nb):Int×Int×Int):=by
 refine two (by omega) (C:=(ka=kb/\ea=eb)/\2<=ka/\ka<=5) (r:=((1,0,if decide (na<=nb)=af then 1 else 0),0)) ?_ (λ_=>?_) ?_
 .unfold M.aZ;simp[iz,gn]
  by_cases h1:ka=kb<;>by_cases h2:ea=eb<;>simp[h1,h2]
  exact TB kb
 .unfold M.cm;simp[pQ]
 .unfold M.aX M.dc;by_cases h1:ka=kb
  .subst h1;by_cases h2:ea=eb
   .subst h2;by_cases h3:2<=ka/\ka<=5
    .have gg:((M.dq aG ka).bind λlz=>(if(!lz)=af then aa (!decide (ka=(5:Int)))else aa ag):Option Bool)=aa ag:=by
      rw[di,aoy];by_cases h5:ka=5
      .subst h5;simp
      .rw[ai];simp;omega
     simp only[gg];simp[h3,fy]
    .have gg:((M.dq aG ka).bind λlz=>(if(!lz)=af then aa (!decide (ka=(5:Int)))else aa ag):Option Bool)=aa af:=by
      rw[di,aoy,aj]
      .simp;omega
      .simp;omega
     simp only[gg];simp[h3,zv]
   .simp[h2,zv]
  .simp[h1,zv]
theorem aaG(m ka ea na kb eb nb:Int)(ha:bz ka ea na)(hb:bz kb eb nb)(env:cz.den):fN 23 m [((ka,ea,na):Int×Int×Int),((kb,eb,nb):Int×Int×Int)] env=M.aX aG ((23,m):Int×Int) ((ka,ea,na):Int×Int×Int) ((kb,eb,nb):Int×Int×Int):=by
 refine two (by omega) (C:=ka=1/\kb=1) (r:=((1,0,if na=1/\nb=1 then 1 else 0),0)) ?_ (λ_=>?_) ?_
 .unfold M.aZ
  by_cases h1:ka=1<;>simp[h1]
 .unfold M.cm
  by_cases h1:na=1<;>simp[h1,pQ]
 .unfold M.aX M.dc;unfold bz at ha hb;by_cases h1:ka=1
  .subst h1;by_cases h2:kb=1
   .subst h2
    obtain⟨rfl,ha1,ha2⟩:ea=0/\0<=na/\na<=1:=by omega
    obtain⟨rfl,Hh,AZ⟩:eb=0/\0<=nb/\nb<=1:=by omega
    have hna:na=0\/na=1:=by omega
    have Rh:nb=0\/nb=1:=by omega
    rcases hna with rfl|rfl<;>rcases Rh with rfl|rfl<;>simp[fy,aE]
   .have h3:¬(1:Int)=kb:=λe=>h2 e.symm
    simp[h2,h3,zv]
  .by_cases h2:ka=kb
   .subst h2
    by_cases h3:ea=eb<;>simp[h1,h3,zv]
   .simp[h1,h2,zv]
theorem ahj(m ka ea na kb eb nb:Int)(ha:bz ka ea na)(hb:bz kb eb nb)(env:cz.den):fN 24 m [((ka,ea,na):Int×Int×Int),((kb,eb,nb):Int×Int×Int)] env=M.aX aG ((24,m):Int×Int) ((ka,ea,na):Int×Int×Int) ((kb,eb,nb):Int×Int×Int):=by
 refine two (by omega) (C:=ka=1/\kb=1) (r:=((1,0,if na=1\/nb=1 then 1 else 0),0)) ?_ (λ_=>?_) ?_
 .unfold M.aZ
  by_cases h1:ka=1<;>simp[h1]
 .unfold M.cm
  by_cases h1:na=1<;>simp[h1,pQ]
 .unfold M.aX M.dc;unfold bz at ha hb;by_cases h1:ka=1
  .subst h1;by_cases h2:kb=1
   .subst h2
    obtain⟨rfl,ha1,ha2⟩:ea=0/\0<=na/\na<=1:=by omega
    obtain⟨rfl,Hh,AZ⟩:eb=0/\0<=nb/\nb<=1:=by omega
    have hna:na=0\/na=1:=by omega
    have Rh:nb=0\/nb=1:=by omega
    rcases hna with rfl|rfl<;>rcases Rh with rfl|rfl<;>simp[fy,aE]
   .have h3:¬(1:Int)=kb:=λe=>h2 e.symm
    simp[h2,h3,zv]
  .by_cases h2:ka=kb
   .subst h2
    by_cases h3:ea=eb<;>simp[h1,h3,zv]
   .simp[h1,h2,zv]
theorem M8(m ka ea na kb eb nb:Int)(env:cz.den):fN 27 m [((ka,ea,na):Int×Int×Int),((kb,eb,nb):Int×Int×Int)] env=M.aX aG ((27,m):Int×Int) ((ka,ea,na):Int×Int×Int) ((kb,eb,nb):Int×Int×Int):=by
 refine two (by omega) (C:=ka=5/\kb=2) (r:=((ka,0,aoz.wrap (na+nb)),0)) ?_ (λ_=>?_) ?_
 .unfold M.aZ
  by_cases h1:ka=5<;>simp[h1]
 .unfold M.cm;simp
 .unfold M.aX M.mE;by_cases h1:ka=5
  .subst h1
   by_cases h2:kb=2<;>simp[h2,fO,zv]
  .simp[h1,zv]
theorem ahk(d n:Int):∃r,M.dA aG d n=aa r/\M.eA aG d n=aa r:=by
 obtain⟨r,e,_⟩:=r7 d n;exact⟨r,e,by rw[<-tF,e]⟩
theorem aaH(d:Int):∃r,M.eU aG d=aa r/\M.jm aG d=aa r:=by
 obtain⟨r,e,_⟩:=tC d;exact⟨r,e,by rw[<-Ap,e]⟩
theorem ahl(a b:Int):∃r,M.eW aG a b=aa r/\M.gJ aG a b=aa r:=by
 obtain⟨r,e,_⟩:=sz a b;exact⟨r,e,by rw[<-wA,e]⟩
theorem GU(m ka ea na kb eb nb:Int)(env:cz.den):fN 28 m [((ka,ea,na):Int×Int×Int),((kb,eb,nb):Int×Int×Int)] env=M.aX aG ((28,m):Int×Int) ((ka,ea,na):Int×Int×Int) ((kb,eb,nb):Int×Int×Int):=by
 obtain⟨y,e1,e2⟩:=ahk na nb;refine two (by omega) (C:=ka=5/\kb=2) (r:=((5,0,y.1),y.2)) ?_ (λ_=>?_) ?_
 .unfold M.aZ
  by_cases h1:ka=5<;>simp[h1]
 .unfold M.cm;simp[e1]
 .unfold M.aX M.mE;by_cases h1:ka=5
  .subst h1
   by_cases h2:kb=2<;>simp[h2,e2,oS,zv]
  .simp[h1,zv]
theorem Xg(m ka ea na kb eb nb:Int)(env:cz.den):fN 29 m [((ka,ea,na):Int×Int×Int),((kb,eb,nb):Int×Int×Int)] env=M.aX aG ((29,m):Int×Int) ((ka,ea,na):Int×Int×Int) ((kb,eb,nb):Int×Int×Int):=by
 refine two (by omega) (C:=ka=5/\kb=5) (r:=((2,0,aoz.wrap (nb-na)),0)) ?_ (λ_=>?_) ?_
 .unfold M.aZ
  by_cases h1:ka=5<;>simp[h1]
 .unfold M.cm;simp
 .unfold M.aX M.mE;by_cases h1:ka=5
  .subst h1
   by_cases h2:kb=5<;>simp[h2,fO,zv]
  .simp[h1,zv]
theorem TC(m ka ea na kb eb nb:Int)(env:cz.den):fN 30 m [((ka,ea,na):Int×Int×Int),((kb,eb,nb):Int×Int×Int)] env=M.aX aG ((30,m):Int×Int) ((ka,ea,na):Int×Int×Int) ((kb,eb,nb):Int×Int×Int):=by
 obtain⟨y,e1,e2⟩:=ahl na nb;refine two (by omega) (C:=ka=5/\kb=5) (r:=((2,0,y),0)) ?_ (λ_=>?_) ?_
 .unfold M.aZ
  by_cases h1:ka=5<;>simp[h1]
 .unfold M.cm;simp[e1]
 .unfold M.aX M.mE;by_cases h1:ka=5
  .subst h1
   by_cases h2:kb=5<;>simp[h2,e2,fO,zv]
  .simp[h1,zv]
def UT(a b:Int):Int×Int:=if 1000000000000000<a.natAbs*b.natAbs then(0,3)else(a*b,0)
theorem QG(a b:Int):sg (ng a b) (a.natAbs*b.natAbs)=a*b:=by
 rcases apZ a 0 with c1|c1
 .obtain⟨x,rfl⟩:∃x:Nat,a= -(x:Int):=⟨a.natAbs,by omega⟩
  rcases apZ b 0 with c2|c2
  .obtain⟨y,rfl⟩:∃y:Nat,b= -(y:Int):=⟨b.natAbs,by omega⟩
   unfold sg ng;rw[ao c1,ao c2,Int.natAbs_neg,Int.natAbs_neg,Int.neg_mul_neg];simp
  .obtain⟨y,rfl⟩:∃y:Nat,b=(y:Int):=⟨b.natAbs,by omega⟩
   unfold sg ng;rw[ao c1,aq (show¬(y:Int)<0 by omega),Int.natAbs_neg,Int.neg_mul];simp
 .obtain⟨x,rfl⟩:∃x:Nat,a=(x:Int):=⟨a.natAbs,by omega⟩
  rcases apZ b 0 with c2|c2
  .obtain⟨y,rfl⟩:∃y:Nat,b= -(y:Int):=⟨b.natAbs,by omega⟩
   unfold sg ng;rw[aq (show¬(x:Int)<0 by omega),ao c2,Int.natAbs_neg,Int.mul_neg];simp
  .obtain⟨y,rfl⟩:∃y:Nat,b=(y:Int):=⟨b.natAbs,by omega⟩
   unfold sg ng;rw[aq (show¬(x:Int)<0 by omega),aq (show¬(y:Int)<0 by omega)];simp
theorem Je{a b:Int}(ha: -1000000000000000<=a/\a<=1000000000000000)(hb: -1000000000000000<=b/\b<=1000000000000000):M.kT aG a b=aa (UT a b):=by
 unfold M.kT UT;rw[DX ha,DX hb,wk aG (by omega) (by omega),aoy];have hm:=QG a b
 obtain⟨P,hP,hPb⟩:∃P,P=a.natAbs*b.natAbs/\P<=1000000000000000*1000000000000000:=⟨_,rfl,Nat.mul_le_mul (by omega) (by omega)⟩
 rw[<-hP]at hm⊢;dsimp only;by_cases h:1000000000000000<P
 .have e:((if(!decide (((P/18446744073709551616:Nat):Int)=(0:Int)))=af then aa af else aa (decide ((1000000000000000:Int)<((P%18446744073709551616:Nat):Int)))):Option Bool)=aa af:=by
   by_cases g:P/18446744073709551616=0
   .rw[ai (by simp;omega)];refine aw aa ?_;rw[ax];omega
   .rw[aj (by simp;omega)]
  rw[e,aoy,aj rfl,aj h]
 .have e:((if(!decide (((P/18446744073709551616:Nat):Int)=(0:Int)))=af then aa af else aa (decide ((1000000000000000:Int)<((P%18446744073709551616:Nat):Int)))):Option Bool)=aa ag:=by
   rw[ai (by simp;omega)];refine aw aa ?_;rw[az];omega
  rw[e,aoy,ai (by simp),ai h,Nat.mod_eq_of_lt (by omega),mK (by omega),aE (by omega) (by omega),<-hm]
  show(if ng a b=af then _ else _)=_
  unfold sg
  cases ng a b<;>simp
theorem GV{a b k:Int}(ha: -1000000000000000<=a/\a<=1000000000000000)(hb: -1000000000000<=b/\b<=1000000000000)(hk:k=2\/k=3):M.ov aG k a b=aa (fin ((k,0,(UT a b).1),(UT a b).2)):=by
 unfold M.ov;have hm:=QG a b;have hs:=I4 (ng a b) (a.natAbs*b.natAbs);rw[hm]at hs
 obtain⟨L,hL,hbd⟩:∃L:Nat,M.k8 aG k=aa (-(L:Int),(L:Int))/\(k=2/\L=1000000000000\/k=3/\L=1000000000000000):=by
  rcases hk with rfl|rfl
  .exact⟨1000000000000,by rw[vu];rfl, .inl ⟨rfl,rfl⟩⟩
  .exact⟨1000000000000000,by rw[vu];rfl, .inr ⟨rfl,rfl⟩⟩
 have ab:∀x:Int,-1000000000000000<=x/\x<=1000000000000000->((if(decide (x<(0:Int)))=af then aa (aoz.wrap ((0:Int)-x))else aa x):Option Int)=aa ((x.natAbs:Nat):Int):=by
  intro x hx;by_cases c:x<0
  .rw[aj (by simpa using c),aE (by omega) (by omega)];refine aw aa ?_;omega
  .rw[ai (by simpa using c)];refine aw aa ?_;omega
 rw[hL,aoy,ab a ha,ab b (by omega),aoy,aoy]
 obtain⟨A,hA⟩:∃A,A=a.natAbs:=⟨_,rfl⟩
 obtain⟨B,hB⟩:∃B,B=b.natAbs:=⟨_,rfl⟩
 obtain⟨P,hP⟩:∃P,P=A*B:=⟨_,rfl⟩
 rw[<-hA,<-hB,<-hP]at hs;have hPb:P<=1000000000000000*1000000000000:=hP▸Nat.mul_le_mul (by omega) (by omega);rw[<-hA,<-hB];dsimp only
 have g1:((if(!decide ((B:Int)=(0:Int)))=af then(nG (L:Int) (B:Int)).bind λx5=>aa (decide ((aoz.wrap x5)<(A:Int)))else aa ag):Option Bool)=aa (decide (L<P)):=by
  by_cases h0:B=0
  .rw[ai (by simp;omega)];refine aw aa ?_
   symm
   rw[az,hP,h0];omega
  .rw[aj (by simp;omega),sG _ _ h0,aoy];have hq:=apP L B;rw[mK (by omega)];refine aw aa ?_;rw[aoO,ax,ax,hP];have:=apo (x:=L) (y:=A) (show 0<B by omega);rw[<-this];omega
 rw[g1,aoy]
 have hPR:UT a b=if 1000000000000000<P then(0,3)else(a*b,0):=by
  unfold UT;rw[<-hA,<-hB,<-hP]
 by_cases h:L<P
 .rw[aj (by simpa using h)];refine aw aa ?_;by_cases h2:1000000000000000<P
  .rw[hPR,aj h2];rfl
  .rw[hPR,ai h2];unfold fin;dsimp only;rw[aj rfl,ai]
   .rfl
   .unfold bz;omega
 .have LQ: -1000000000000000<=a*b/\a*b<=1000000000000000:=by omega
  rw[ai (by simpa using h),aE (by omega) (by omega),fO,aoy,hPR,ai (show¬1000000000000000<P by omega)]
theorem aaI(m ka ea na kb eb nb:Int)(ha:bz ka ea na)(hb:bz kb eb nb)(env:cz.den):fN 13 m [((ka,ea,na):Int×Int×Int),((kb,eb,nb):Int×Int×Int)] env=M.aX aG ((13,m):Int×Int) ((ka,ea,na):Int×Int×Int) ((kb,eb,nb):Int×Int×Int):=by
 refine two (by omega) (C:=kb=2/\(ka=2\/ka=3)) (r:=((ka,0,(UT na nb).1),(UT na nb).2)) ?_ (λhC=>?_) ?_
 .unfold M.aZ
  by_cases h1:kb=2<;>by_cases h2:ka=2<;>simp[h1,h2]
 .unfold M.cm M.ji;unfold bz at ha hb;have:=Je (a:=na) (b:=nb) (by omega) (by omega);simp[this]
 .unfold M.aX M.lb;by_cases h1:kb=2
  .subst h1;by_cases h2:ka=2\/ka=3
   .unfold bz at ha hb;have:=GV (a:=na) (b:=nb) (k:=ka) (by omega) (by omega) h2
    rcases h2 with rfl|rfl<;>simp[this]
   .have h3:¬ka=2:=λe=>h2 (.inl e)
    have h4:¬ka=3:=λe=>h2 (.inr e)
    simp[h3,h4,zv]
  .simp[h1,zv]
theorem M9(m ka ea na kb eb nb:Int)(env:cz.den):fN 14 m [((ka,ea,na):Int×Int×Int),((kb,eb,nb):Int×Int×Int)] env=M.aX aG ((14,m):Int×Int) ((ka,ea,na):Int×Int×Int) ((kb,eb,nb):Int×Int×Int):=by
 have hmu:∃y,M.m5 aG na nb m=aa y/\M.rb aG na nb m=aa y:=by
  obtain⟨y,e⟩:∃y,M.m5 aG na nb m=aa y:=by
   by_cases h:ry m
   .obtain⟨y,e,_⟩:=KG (a:=na) (b:=nb) h;exact⟨y,e⟩
   .unfold M.m5;rw[Al,aq h];exact⟨_,rfl⟩
  exact⟨y,e,by rw[<-Ts,e]⟩
 obtain⟨y,e1,e2⟩:=hmu;refine two (by omega) (C:=kb=4/\(ka=3\/ka=4)) (r:=if ka=3 then((ka,0,(Tr na nb m).1),(Tr na nb m).2)else((ka,0,y.1),y.2)) ?_ (λhC=>?_) ?_
 .unfold M.aZ
  by_cases h1:kb=4<;>by_cases h2:ka=3<;>simp[h1,h2]
 .unfold M.cm M.ji
  by_cases h2:ka=3<;>simp[h2,MY,e1]
 .unfold M.aX M.lb;by_cases h1:kb=4
  .subst h1;by_cases h2:ka=3
   .subst h2;simp[I7,oS]
   .by_cases h3:ka=4
    .subst h3;simp[e2,oS]
    .simp[h2,h3,zv]
  .simp[h1,zv]
theorem aaJ(m ka ea na kb eb nb:Int)(env:cz.den):fN 15 m [((ka,ea,na):Int×Int×Int),((kb,eb,nb):Int×Int×Int)] env=M.aX aG ((15,m):Int×Int) ((ka,ea,na):Int×Int×Int) ((kb,eb,nb):Int×Int×Int):=by
 refine two (by omega) (C:=(kb=2/\(ka=2\/ka=3))\/(ka=3/\kb=3)) (r:=if kb=2 then((ka,0,(KI na nb m).1),(KI na nb m).2)else((4,0,(Qo na nb m).1),(Qo na nb m).2)) ?_ (λhC=>?_) ?_
 .unfold M.aZ;by_cases h1:kb=2
  .subst h1
   by_cases h2:ka=2<;>simp[h2]
  .by_cases h2:ka=3<;>simp[h1,h2]
 .unfold M.cm M.ji;by_cases h1:kb=2
  .subst h1;simp[qv]
  .simp[h1,DY]
 .unfold M.aX M.lb;by_cases h1:kb=2
  .subst h1;by_cases h2:ka=2
   .subst h2;simp[wu,oS]
   .by_cases h3:ka=3
    .subst h3;simp[wu,oS]
    .simp[h2,h3,zv]
  .by_cases h2:ka=3
   .subst h2;by_cases h3:kb=3
    .subst h3;simp[Bo,oS]
    .simp[h1,h3,zv]
   .simp[h1,h2,zv]
theorem Na(m ka ea na kb eb nb:Int)(env:cz.den):fN 16 m [((ka,ea,na):Int×Int×Int),((kb,eb,nb):Int×Int×Int)] env=M.aX aG ((16,m):Int×Int) ((ka,ea,na):Int×Int×Int) ((kb,eb,nb):Int×Int×Int):=by
 have hmu:∃y,M.fE aG na nb m=aa y/\M.lN aG na nb m=aa y:=by
  obtain⟨y,e⟩:∃y,M.fE aG na nb m=aa y:=by
   by_cases h:ry m
   .obtain⟨y,e,_⟩:=Ah (a:=na) (b:=nb) h;exact⟨y,e⟩
   .unfold M.fE;rw[wo,aq h];exact⟨_,rfl⟩
  exact⟨y,e,by rw[<-I6,e]⟩
 obtain⟨y,e1,e2⟩:=hmu;refine two (by omega) (C:=ka=3/\kb=3) (r:=((ka,0,y.1),y.2)) ?_ (λhC=>?_) ?_
 .unfold M.aZ
  by_cases h1:ka=3<;>simp[h1]
 .unfold M.cm M.ji;simp[e1]
 .unfold M.aX M.lb;by_cases h1:ka=3
  .subst h1;by_cases h2:kb=3
   .subst h2;simp[e2,oS]
   .simp[h2,zv]
  .simp[h1,zv]
theorem one{op m:Int}{a:Vl}{env:cz.den}(gx:op=10\/op=25\/op=31\/op=32){C:Prop}[Decidable C]{r:Vl}(h1:M.dp aG op a.1=aa (decide C))(h2:C->M.jr aG op a=aa r)
 (h3:M.cA aG ((op,m):Int×Int) a env=aa (if C then fin (r,0)else(zv,8))):fN op m [a] env=M.cA aG ((op,m):Int×Int) a env:=by
 rw[h3]
 refine kJ ?_ λc=>?_
 .unfold M.bT
  rcases gx with rfl|rfl|rfl|rfl<;>simp only[apG,decide_false,decide_true,aoC,if_false,if_true,aoy,xY,h1]<;>rfl
 .unfold M.bW
  rcases gx with rfl|rfl|rfl|rfl<;>simp only[apG,decide_false,decide_true,aoC,if_false,if_true,aoy,xY,h2 c]<;>rfl
theorem aaK(m ka ea na:Int)(env:cz.den):fN 10 m [((ka,ea,na):Int×Int×Int)] env=M.cA aG ((10,m):Int×Int) ((ka,ea,na):Int×Int×Int) env:=by
 refine one (by omega) (C:=2<=ka/\ka<=4) (r:=((ka,0,aoz.wrap (0-na)):Int×Int×Int)) ?_ (λ_=>?_) ?_
 .unfold M.dp;simp[gn]
 .unfold M.jr;simp
 .unfold M.cA;by_cases h3:2<=ka/\ka<=4
  .have g:¬(2<=ka->4<ka):=by omega
   simp[h3,g,di,fO]
  .have g:2<=ka->4<ka:=by omega
   simp[h3,g,di,zv]
theorem aaL(m ka ea na:Int)(env:cz.den):fN 25 m [((ka,ea,na):Int×Int×Int)] env=M.cA aG ((25,m):Int×Int) ((ka,ea,na):Int×Int×Int) env:=by
 refine one (by omega) (C:=ka=1) (r:=((1,0,if decide (na=0)=af then 1 else 0):Int×Int×Int)) ?_ (λ_=>?_) ?_
 .unfold M.dp;simp
 .unfold M.jr;simp[pQ]
 .unfold M.cA
  by_cases h3:ka=1<;>simp[h3,fy,zv]
theorem Xh(m ka ea na:Int)(env:cz.den):fN 31 m [((ka,ea,na):Int×Int×Int)] env=M.cA aG ((31,m):Int×Int) ((ka,ea,na):Int×Int×Int) env:=by
 obtain⟨y,e1,e2⟩:=aaH na;refine one (by omega) (C:=ka=5) (r:=((2,0,y.1):Int×Int×Int)) ?_ (λ_=>?_) ?_
 .unfold M.dp;simp
 .unfold M.jr;simp[e1]
 .unfold M.cA
  by_cases h3:ka=5<;>simp[h3,e2,fO,zv]
theorem TD(m ka ea na:Int)(env:cz.den):fN 32 m [((ka,ea,na):Int×Int×Int)] env=M.cA aG ((32,m):Int×Int) ((ka,ea,na):Int×Int×Int) env:=by
 obtain⟨y,e1,e2⟩:=aaH na;refine one (by omega) (C:=ka=5) (r:=((2,0,y.2.1):Int×Int×Int)) ?_ (λ_=>?_) ?_
 .unfold M.dp;simp
 .unfold M.jr;simp[e1]
 .unfold M.cA
  by_cases h3:ka=5<;>simp[h3,e2,fO,zv]
def TE(env:cz.den):Prop:=∀t∈env.2.2.2.2.2,t.2.2.2.length<=1000/\∀r∈t.2.2.2,-9223372036854775808<=(r.2.2.2:Int)/\(r.2.2.2:Int)<=9223372036854775807
theorem QH{m ka ea na:Int}{env:cz.den}(ht:TE env)(hm:0<=m/\m<env.2.2.2.2.2.length)(ha:bz ka ea na):fN 33 m [((ka,ea,na):Int×Int×Int)] env=M.cA aG ((33,m):Int×Int) ((ka,ea,na):Int×Int×Int) env:=by
 obtain⟨k,rfl⟩:∃k:Nat,m=k:=⟨m.toNat,by omega⟩
 have hk:k<env.2.2.2.2.2.length:=by omega
 obtain⟨t,hte,htm⟩:∃t,t=env.2.2.2.2.2[k]/\t∈env.2.2.2.2.2:=⟨_,rfl,aoG hk⟩
 have sB:=aD hk;rw[<-hte]at sB;obtain⟨y,ey,hy⟩:=Cw t env.1 na (by have:=(ht t htm).1;omega)
 have ey2:M.np aG t env.1 na=aa y:=by rw[<-GC];exact ey
 obtain⟨x,hx⟩:∃x:dM.den,y.2=af->idx t.2.2.2 y.1=aa x:=by
  by_cases h:y.2=af
  .obtain⟨h1,h2⟩:=hy h
   obtain⟨j,hj⟩:∃j:Nat,y.1=j:=⟨y.1.toNat,by omega⟩
   rw[hj]at h2⊢;exact⟨_,λ_=>aD (show j<t.2.2.2.length by omega)⟩
  .exact⟨(((0,0),0,0,0):(Int×Int)×Int×Int×Int),λe=>absurd e h⟩
 obtain⟨nm,⟨(tk:Int),(te:Int)⟩,⟨(vk:Int),(ve:Int)⟩,rows⟩:=t;dsimp only at ey ey2 hx sB
 have key:M.cA aG ((33,(k:Int)):Int×Int) ((ka,ea,na):Int×Int×Int) env=aa (if(ka=tk/\ea=te)/\1<=vk/\vk<=6 then fin (if y.2=af then(((vk,ve,x.2.2.2):Int×Int×Int),0)else(zv,6))else(zv,8)):=by
  unfold M.cA;simp only[apG,decide_false,decide_true,aoC,if_false,if_true,aoy,sB];unfold M.rQ;dsimp only
  have g:((if(!decide (ka=tk))=af then aa af else(if(!decide (ea=te))=af then aa af else(if(decide (vk<(1:Int)))=af then aa af else aa (decide ((6:Int)<vk))))):Option Bool)=aa (decide (¬((ka=tk/\ea=te)/\1<=vk/\vk<=6))):=by
   by_cases h1:ka=tk<;>by_cases h2:ea=te<;>by_cases h3:vk<1<;>simp[h1,h2,h3]<;>omega
  rw[g,aoy];by_cases hC:(ka=tk/\ea=te)/\1<=vk/\vk<=6
  .rw[ai (by rw[ax];exact λh=>h hC),aj hC,ey2,aoy]
   cases hb:y.2 with
   |false=>rfl
   |true=>
    simp only[aoX,aoC,if_false,if_true];rw[hx hb,aoy,e8,aoy];unfold fin;by_cases hp:bz vk ve x.2.2.2
    .rw[ai (by simpa using hp)];dsimp only;rw[aj rfl,aj hp];rfl
    .rw[aj (by simpa using hp)];dsimp only;rw[aj rfl,ai hp];rfl
  .rw[aj (ao hC),ai hC];rfl
 rw[key]
 refine kJ ?_ λhC=>?_
 .unfold M.bT;simp only[apG,decide_false,decide_true,aoC,if_false,if_true,aoy,sB,xY,vt]
  by_cases h1:ka=tk<;>by_cases h2:ea=te<;>by_cases h3:1<=vk<;>by_cases h4:vk<=6<;>simp[xU,ha,h1,h2,h3,h4]
  subst h1 h2;exact ha
 .unfold M.bW;simp only[apG,decide_false,decide_true,aoC,if_false,if_true,aoy,sB,xY,ey]
  cases hb:y.2 with
  |false=>rfl
  |true=>simp only[aoX,aoC,if_false,if_true,hx hb,aoy]
theorem Jf{m ka ea na:Int}{env:cz.den}(ht:TE env)(h0:0<=m)(hm:aoz.wrap (aoM m 8)<env.2.2.2.2.2.length)(hm2:m<=9223372036854775807)(h5:aoP m 8<=5):fN 34 m [((ka,ea,na):Int×Int×Int)] env=M.cA aG ((34,m):Int×Int) ((ka,ea,na):Int×Int×Int) env:=by
 have hd:aoM m 8=m/8:=aoN h0;rw[hd,aE (by omega) (by omega)]at hm
 obtain⟨k,hk⟩:∃k:Nat,m/8=k:=⟨(m/8).toNat,by omega⟩
 have dT:k<env.2.2.2.2.2.length:=by omega
 have hw:aoz.wrap (aoM m 8)=k:=by rw[hd,aE (by omega) (by omega),hk]
 obtain⟨t,hte,htm⟩:∃t,t=env.2.2.2.2.2[k]/\t∈env.2.2.2.2.2:=⟨_,rfl,aoG dT⟩
 have sB:=aD dT;rw[<-hte]at sB;have CK:=Bp (ht t htm).1 (ht t htm).2 env.1 na (aoP m 8)
 have aaN:t.2.1=((3,0):Int×Int)->t.2.2.1=((4,0):Int×Int)->∃y,M.gI aG t env.1 na (aoP m 8)=aa y:=λa b=>by
  obtain⟨y,e,_⟩:=xW (d:=env.1) (k:=na) (m:=aoP m 8) ⟨by rw[aoQ h0];omega,h5⟩ a b (by have:=(ht t htm).1;omega);exact⟨y,e⟩
 obtain⟨nm,⟨(tk:Int),(te:Int)⟩,⟨(vk:Int),(ve:Int)⟩,rows⟩:=t;dsimp only at CK aaN sB;have hC:(ka=3/\(tk=3/\te=0)/\vk=4/\ve=0)\/¬(ka=3/\(tk=3/\te=0)/\vk=4/\ve=0):=Decidable.em _
 rcases hC with hC|hC
 .obtain⟨rfl,⟨rfl,rfl⟩,rfl,rfl⟩:=hC;obtain⟨y,ey⟩:=aaN rfl rfl;rw[ey]at CK;rw[kJ (C:=True) (r:=((3,0,y.1),y.2))]
  .unfold M.cA;simp only[apG,decide_false,decide_true,aoC,if_false,if_true,aoy,hw,sB,<-CK,aoX,oS]
  .unfold M.bT;simp only[apG,decide_false,decide_true,aoC,if_false,if_true,aoy,hw,sB,xY];simp[px]
  .intro _;unfold M.bW;simp only[apG,decide_false,decide_true,aoC,if_false,if_true,aoy,hw,sB,xY,ey]
 .rw[kJ (C:=False) (r:=(zv,0))]
  .unfold M.cA;simp only[apG,decide_false,decide_true,aoC,if_false,if_true,aoy,hw,sB]
   have g:((if(!decide (ka=(3:Int)))=af then aa af else(if(!decide (tk=(3:Int)))=af then aa af else(if(!decide (te=(0:Int)))=af then aa af else(if(!decide (vk=(4:Int)))=af then aa af else aa (!decide (ve=(0:Int))))))):Option Bool)=aa af:=by
    by_cases h1:ka=3<;>by_cases h2:tk=3<;>by_cases h3:te=0<;>by_cases h4:vk=4<;>simp[h1,h2,h3,h4]at hC⊢<;>exact hC
   rw[g];rfl
  .unfold M.bT;simp only[apG,decide_false,decide_true,aoC,if_false,if_true,aoy,hw,sB,xY]
   by_cases h1:ka=3<;>by_cases h2:tk=3<;>by_cases h3:te=0<;>by_cases h4:vk=4<;>simp[h1,h2,h3,h4,px]at hC⊢<;>try exact hC
  .intro h;cases h
theorem ahp(m ka ea na kb eb nb kc ec nc:Int)(hb:bz kb eb nb)(hc:bz kc ec nc)(env:cz.den):fN 26 m [((ka,ea,na):Int×Int×Int),((kb,eb,nb):Int×Int×Int),((kc,ec,nc):Int×Int×Int)] env=
 (((if(!decide (ka=(1:Int)))=af then aa af else(if(!decide (kb=kc))=af then aa af else aa (!decide (eb=ec)))):Option (Bool)).bind λSJ=>(if SJ=af then aa (((0:Int),((0:Int),(0:Int))),(8:Int))else(if(decide (na=(1:Int)))=af then aa (((kb,eb,nb):Int×Int×Int),(0:Int))else aa (((kc,ec,nc):Int×Int×Int),(0:Int))))):=by
 have fb:=tH (v:=((kb,eb,nb):Int×Int×Int)) hb;have fc:=tH (v:=((kc,ec,nc):Int×Int×Int)) hc;rw[kJ (C:=ka=1/\kb=kc/\eb=ec) (r:=(if na=1 then((kb,eb,nb):Int×Int×Int)else((kc,ec,nc):Int×Int×Int),0))]
 .by_cases h1:ka=1<;>by_cases h2:kb=kc<;>by_cases h3:eb=ec<;>by_cases h4:na=1<;>simp[h1,h2,h3,h4,zv]
  all_goals first|(subst h2 h3;first|exact fb|exact fc)
 .unfold M.bT
  by_cases h1:ka=1<;>simp[h1,QD,QE,QF,iz]
 .intro _;unfold M.bW
  by_cases h1:na=1<;>simp[h1,QD,QE,QF]
theorem aaO{op m:Int}(h:1<=op/\op<=5)(env:cz.den):fN op m [] env=M.cW aG ((op,m):Int×Int) env:=by
 have gx:op=1\/op=2\/op=3\/op=4\/op=5:=by omega
 rw[kJ (C:=True) (r:=((op,0,m),0))]
 .unfold M.cW
  rcases gx with rfl|rfl|rfl|rfl|rfl<;>simp[fO]
 .unfold M.bT
  rcases gx with rfl|rfl|rfl|rfl|rfl<;>simp
 .intro _;unfold M.bW
  rcases gx with rfl|rfl|rfl|rfl|rfl<;>simp
theorem Xi(m:Int)(env:cz.den):fN 6 m [] env=M.cW aG ((6,m):Int×Int) env:=by
 rw[kJ (C:=True) (r:=((6,aoz.wrap (aoM m 16),aoP m 16),0))]
 .unfold M.cW fin
  by_cases hp:bz 6 (aoz.wrap (aoM m 16)) (aoP m 16)<;>simp[e8,hp,zv]
 .unfold M.bT;simp
 .intro _;unfold M.bW;simp
theorem Xj(m:Int)(env:cz.den):fN 9 m [] env=M.cW aG ((9,m):Int×Int) env:=by
 rw[kJ (C:=True) (r:=((5,0,env.1),0))]
 .unfold M.cW;simp[fO]
 .unfold M.bT;simp
 .intro _;unfold M.bW;simp
theorem TF{m:Int}{env:cz.den}(h:0<=m/\m<env.2.1.length):fN 7 m [] env=M.cW aG ((7,m):Int×Int) env:=by
 obtain⟨k,rfl⟩:∃k:Nat,m=k:=⟨m.toNat,by omega⟩
 have hx:=aD (l:=env.2.1) (k:=k) (by omega);generalize env.2.1[k]=x at hx;rw[kJ (C:=bz x.1 x.2.1 x.2.2) (r:=(x,0))]
 .unfold M.cW;by_cases hp:bz x.1 x.2.1 x.2.2
  .simp[hx,e8,hp,tH hp]
  .simp[hx,e8,hp,zv]
 .unfold M.bT;simp[hx,da]
 .intro _;unfold M.bW;simp[hx]
theorem aaP{m:Int}{env:cz.den}(h:0<=m/\m<env.2.2.1.length):fN 8 m [] env=M.cW aG ((8,m):Int×Int) env:=by
 obtain⟨k,rfl⟩:∃k:Nat,m=k:=⟨m.toNat,by omega⟩
 have hx:=aD (l:=env.2.2.1) (k:=k) (by omega);generalize env.2.2.1[k]=x at hx;rw[kJ (C:=bz x.1 x.2.1 x.2.2) (r:=(x,0))]
 .unfold M.cW;by_cases hp:bz x.1 x.2.1 x.2.2
  .simp[hx,e8,hp,tH hp]
  .simp[hx,e8,hp,zv]
 .unfold M.bT;simp[hx,da]
 .intro _;unfold M.bW;simp[hx]
end L.P
namespace L.P
def AP(l:List Vl):Bool:=l.all λv=>decide (bz v.1 v.2.1 v.2.2)
theorem Xk{l:List Vl}(h:AP l=af){v:Vl}(hv:v∈l):bz v.1 v.2.1 v.2.2:=ak (aqf.1 h v hv)
theorem UW{l:List Vl}{v:Vl}(hv:v∈l)(h:¬bz v.1 v.2.1 v.2.2):AP l=ag:=by
 unfold AP;rw[List.all_eq_false];exact⟨v,hv,by simp[h]⟩
theorem QI{l:List Vl}(h:∀k(hk:k<l.length),bz l[k].1 l[k].2.1 l[k].2.2):AP l=af:=by
 unfold AP;rw[aqf];intro v hv;obtain⟨k,hk,rfl⟩:=aoS hv;exact ao (h k hk)
theorem all_eq{l:List Vl}(hl:l.length<=100000):M.cV aG l=aa (AP l):=by
 apply Wp.eq;unfold M.cV;refine Wp.loop (λs:Int=>∃k:Nat,s=k/\k<=l.length/\∀j(hj:j<l.length),j<k->bz l[j].1 l[j].2.1 l[j].2.2) (λs=>(l.length-s).toNat) ⟨0,rfl,aoR _,λj _ h=>absurd h (Nat.not_lt_zero j)⟩ (by unfold aG;omega) ?_
 rintro _ ⟨k,rfl,hk,hp⟩
 refine Wp.dec (λh=>?_) λh=> .some (QI λj hj=>hp j hj (by omega)).symm
 have dT:k<l.length:=by omega
 rw[aD dT,aoy,da,aoy];by_cases c:bz l[k].1 l[k].2.1 l[k].2.2
 .rw[ai (by simpa using c),aL (by omega)];refine .some ⟨⟨k+1,rfl,dT,λj hj h=>?_⟩,by simp only;omega⟩
  rcases aph j k with g|g
  .exact hp j hj g
  .have:j=k:=by omega
   subst this;exact c
 .rw[aj (by simpa using c)];exact .some (UW (aoG dT) c).symm
theorem TG{l:List Vl}(hl:l.length<=100000)(kk:Unit->Option (Vl×Int)):bx (J:=Unit) (R:=aC.den×Int) (Loop (S:=Int) (X:=(Unit)⊕(aC.den×Int)) (λs4=>(if(decide (s4<(l.length:Int)))=af then(idx l s4).bind λx5=>(M.cO aG x5).bind λy6=>(if(!y6)=af then aa (aoV (aoV (((0:Int),((0:Int),(0:Int))),(8:Int))))else aa (ao4 (aoz.wrap (s4+(1:Int)))))else aa (aoV (ao4 ())))) aG (0:Int)) kk=if AP l=af then kk ()else aa (zv,8):=by
 have key:Wp (Loop (S:=Int) (X:=(Unit)⊕(aC.den×Int)) (λs4=>(if(decide (s4<(l.length:Int)))=af then(idx l s4).bind λx5=>(M.cO aG x5).bind λy6=>(if(!y6)=af then aa (aoV (aoV (((0:Int),((0:Int),(0:Int))),(8:Int))))else aa (ao4 (aoz.wrap (s4+(1:Int)))))else aa (aoV (ao4 ())))) aG (0:Int)) (λx=>x=if AP l=af then ao4 ()else aoV (zv,8)):=by
  refine Wp.loop (λs:Int=>∃k:Nat,s=k/\k<=l.length/\∀j(hj:j<l.length),j<k->bz l[j].1 l[j].2.1 l[j].2.2) (λs=>(l.length-s).toNat) ⟨0,rfl,aoR _,λj _ h=>absurd h (Nat.not_lt_zero j)⟩ (by unfold aG;omega) ?_
  rintro _ ⟨k,rfl,hk,hp⟩
  refine Wp.dec (λh=>?_) λh=> .some ?_
  .have dT:k<l.length:=by omega
   rw[aD dT,aoy,e8,aoy];by_cases c:bz l[k].1 l[k].2.1 l[k].2.2
   .rw[ai (by simpa using c),aL (by omega)];refine .some ⟨⟨k+1,rfl,dT,λj hj h=>?_⟩,by simp only;omega⟩
    rcases aph j k with g|g
    .exact hp j hj g
    .have:j=k:=by omega
     subst this;exact c
   .rw[aj (by simpa using c)];refine .some ?_
    show _=_
    rw[UW (aoG dT) c];rfl
  .show _=_
   rw[QI λj hj=>hp j hj (by omega)];rfl
 obtain⟨x,e,rfl⟩:=key;rw[e]
 cases AP l<;>rfl
theorem Jg{n:Ty}{args:List Vl}{env:cz.den}(he:qx env)(ht:TE env)(hn:WF aA n)(hl:args.length<=100000):M.cr aG n args env=M.kD aG n args env:=by
 obtain⟨(op:Int),(m:Int)⟩:=n;have Ya: -9223372036854775808<=m/\m<=9223372036854775807:=hn.2
 by_cases IT:(35<=op/\op<=39)/\args=[]
 .obtain⟨h,rfl⟩:=IT;rw[M6 (by unfold aG;omega) op m env h he.1,Bt (by unfold aG;omega) op m env h he.1]
 unfold M.cr M.kD;obtain⟨y,hy,hyf⟩:=uv aG op m;dsimp only;rw[M7 aG op m _ (by omega) hy,hy,eJ,aoy,aoy,aoy]
 cases y with
 |false=>rfl
 |true=>
  by_cases vz:(args.length:Int)=ar op
  case neg=>simp[vz,zv]
  have hf:=hyf rfl;obtain⟨x,hx,Ri⟩:=xx aG op m env;rw[<-GS,hx,aoy];simp only[vz,decide_true,aoX,Bool.and_self,aoC,if_false,aoy]
  cases x with
  |false=>rfl
  |true=>
   have Ri:=Ri rfl;simp only[aoX,aoC,if_false];rw[<-vz];rw[TG hl,all_eq hl,aoy]
   cases hA:AP args with
   |false=>rfl
   |true=>
    have pU:=λv hv=>Xk hA (v:=v) hv
    simp only[aoX,aoC,if_false,if_true]
    show fN op m args env=_
    have DI:=hf.1
    have gx:1<=op/\op<=39:=by
     unfold ar at DI;split at DI
     .omega
     .split at DI
      .omega
      .split at DI
       .omega
       .split at DI
        .omega
        .omega
    have OJ:=kE op
    have hlen:args.length=0\/args.length=1\/args.length=2\/args.length=3:=by omega
    rcases hlen with g|g|g|g
    .obtain rfl:=List.eq_nil_of_length_eq_zero g
     have Kk:¬(35<=op/\op<=39):=λh=>IT ⟨h,rfl⟩
     have e1:((if(decide ((36:Int)<=op))=af then aa (decide (op<=(39:Int)))else aa ag):Option Bool)=aa ag:=by
      rw[ai];simp;unfold ar at vz;simp at vz
      split at vz<;>omega
     have amP:op<=9:=by
      unfold ar at vz;simp at vz
      split at vz<;>(try split at vz)<;>(try split at vz)<;>(try split at vz)<;>omega
     simp only[List.length_nil,Int.ofNat_zero,decide_true,if_true,e1,aoy,aoC,if_false,xy]
     have:op=6\/op=7\/op=8\/op=9\/(1<=op/\op<=5):=by omega
     rcases this with rfl|rfl|rfl|rfl|h
     .exact Xi m env
     .exact TF (Ri.1 rfl)
     .exact aaP (Ri.2.1 rfl)
     .exact Xj m env
     .exact aaO h env
    .obtain⟨⟨(ka:Int),(ea:Int),(na:Int)⟩,rfl⟩:=aqm.1 g;have ha:bz ka ea na:=pU _ (aoY.2 rfl);rw[ai (by simp),aj (by simp),xY,aoy,xy]
     have ahq:op=10\/op=25\/op=31\/op=32\/op=33\/op=34:=by
      unfold ar at vz;simp at vz
      split at vz<;>(try split at vz)<;>(try split at vz)<;>(try split at vz)<;>omega
     rcases ahq with rfl|rfl|rfl|rfl|rfl|rfl
     .exact aaK ..
     .exact aaL ..
     .exact Xh ..
     .exact TD ..
     .exact QH ht (Ri.2.2.1 rfl) ha
     .exact Jf ht (hf.2.2.1 rfl).1 (Ri.2.2.2.1 rfl) Ya.2 (hf.2.2.1 rfl).2
    .obtain⟨⟨(ka:Int),(ea:Int),(na:Int)⟩,⟨(kb:Int),(eb:Int),(nb:Int)⟩,rfl⟩:∃a b,args=[a,b]:=by
      match args,g with
      |[a,b],_=>exact⟨a,b,rfl⟩
     have ha:bz ka ea na:=pU ((ka,ea,na):Int×Int×Int) (by simp);have hb:bz kb eb nb:=pU _ (List.mem_cons_of_mem _ (aoY.2 rfl));rw[ai (by simp),ai (by simp),aj (by simp),QB,QC,aoy,aoy,xy]
     have ahr:op=11\/op=12\/op=13\/op=14\/op=15\/op=16\/op=17\/op=18\/op=19\/op=20\/op=21\/op=22\/op=23\/op=24\/op=27\/op=28\/op=29\/op=30:=by
      unfold ar at vz;simp at vz
      split at vz<;>(try split at vz)<;>(try split at vz)<;>(try split at vz)<;>omega
     rcases ahr with rfl|rfl|rfl|rfl|rfl|rfl|rfl|rfl|rfl|rfl|rfl|rfl|rfl|rfl|rfl|rfl|rfl|rfl
     .exact aaC ..
     .exact aaD ..
     .exact aaI _ _ _ _ _ _ _ ha hb _
     .exact M9 ..
     .exact aaJ ..
     .exact Na ..
     .exact aaE _ _ _ _ _ _ _ ha hb _
     .exact aaF _ _ _ _ _ _ _ ha hb _
     .exact ahe ..
     .exact ahf ..
     .exact ahg ..
     .exact ahh ..
     .exact aaG _ _ _ _ _ _ _ ha hb _
     .exact ahj _ _ _ _ _ _ _ ha hb _
     .exact M8 ..
     .exact GU ..
     .exact Xg ..
     .exact TC ..
    .obtain⟨⟨(ka:Int),(ea:Int),(na:Int)⟩,⟨(kb:Int),(eb:Int),(nb:Int)⟩,⟨(kc:Int),(ec:Int),(nc:Int)⟩,rfl⟩:∃a b c,args=[a,b,c]:=by
      match args,g with
      |[a,b,c],_=>exact⟨a,b,c,rfl⟩
     have hb:bz kb eb nb:=pU ((kb,eb,nb):Int×Int×Int) (by simp);have hc:bz kc ec nc:=pU ((kc,ec,nc):Int×Int×Int) (by simp);rw[ai (by simp),ai (by simp),ai (by simp),QD,QE,QF,aoy,aoy,aoy]
     have ahs:op=26:=by
      unfold ar at vz;simp at vz
      split at vz<;>(try split at vz)<;>(try split at vz)<;>(try split at vz)<;>omega
     subst ahs;exact ahp m ka ea na kb eb nb kc ec nc hb hc env
end L.P
namespace L.P.Q
def z3:Vl:=((0,0,0):Int×Int×Int)
def cH(op:Int):Prop:=op=23\/op=24\/op=26
instance(op:Int):Decidable (cH op):=by unfold cH;infer_instance
noncomputable def qK(env:cz.den)(n:Ty)(args:List Vl):Vl×Int:=(M.cr aG n args env).getD (z3,0)
theorem UX{env:cz.den}(he:qx env){n:Ty}(hn:WF aA n){args:List Vl}(hl:args.length<=100000):M.cr aG n args env=aa (qK env n args):=by
 obtain⟨r,hr,_⟩:=tG (n:=n) (args:=args) he hn hl;unfold qK;rw[hr];rfl
theorem KV{env:cz.den}(he:qx env){n:Ty}(hn:WF aA n){args:List Vl}(hl:args.length<=100000):Tz (qK env n args):=by
 obtain⟨r,hr,h⟩:=tG (n:=n) (args:=args) he hn hl;unfold qK;rw[hr];exact h
theorem mH(N:Nat)(op:Int):M.fS N op=aa (decide (50<=op/\op<=53)):=by
 unfold M.fS
 by_cases h:50<=op<;>simp[h]
theorem od(N:Nat)(op:Int):M.dI N op=aa (decide (¬cH op/\(50<=op/\op<=53\/0<=ar op))):=by
 unfold M.dI;rw[D2,mH,eJ];simp only[aoy];unfold cH;by_cases h:op=23\/op=24\/op=26
 .simp[h]
 .by_cases h2:50<=op/\op<=53
  .simp[h,h2]
  .simp[h,h2]
def gd(D:List Int)(k:Nat):Int:=D.getD k (-1)
theorem kK{D:List Int}{t:Nat}(ht:t<D.length)(d:Int)(k:Nat):gd (D.set t d) k=if k=t then d else gd D k:=by
 unfold gd apb;by_cases h:k=t
 .subst h;rw[aj rfl,List.getElem?_set_self ht];rfl
 .rw[ai h,List.getElem?_set_ne (by omega)]
theorem fA{D:List Int}{t:Nat}(ht:t<D.length):idx D (t:Int)=aa (gd D t):=by
 rw[aD ht];simp[gd,apb,ht]
def Bd(D:List Int):Prop:=∀k,-1<=gd D k/\gd D k<=12
structure Mn(D D':List Int)(i:Nat):Prop where
 len:D'.length=D.length
 keep:∀k,0<=gd D k->gd D' k=gd D k
 low:∀k,k<=i->gd D' k=gd D k
theorem Mn.refl(D:List Int)(i:Nat):Mn D D i:=⟨rfl,λ_ _=>rfl,λ_ _=>rfl⟩
theorem Mn.trans{A B C:List Int}{i:Nat}(h:Mn A B i)(h':Mn B C i):Mn A C i:=
 ⟨h'.len.trans h.len,λk hk=>by rw[h'.keep k (by rw[h.keep k hk];exact hk),h.keep k hk],λk hk=>by rw[h'.low k hk,h.low k hk]⟩
theorem nE{N:Nat}{D:List Int}{t i:Nat}{d:Int}(ht:t<D.length)(sB:i<t)(hd:0<=d/\d<=12)(hB:Bd D):Wp (M.bl N (t:Int) d D) λr=>(r.1=0->Mn D r.2 i/\Bd r.2/\gd r.2 t=d)/\(gd D t= -1->r=(0,D.set t d)):=by
 unfold M.bl;rw[fA ht];simp only[aoy,aK];by_cases h0:0<=gd D t
 .rw[ao h0];simp only[if_true];by_cases h1:gd D t=d
  .rw[ai (by simp[h1])]
   refine .some ⟨λ_=>⟨⟨by simp[be],λk _=>?_,λk hk=>?_⟩,λk=>?_,?_⟩,λh=>by omega⟩<;>simp only[be,aoF,kK ht]
   .split
    .rename_i h;rw[h,h1]
    .rfl
   .rw[ai (by omega)]
   .split
    .omega
    .exact hB k
   .simp
  .rw[aj (by simp[h1])];exact .some ⟨λh=>by simp at h,λh=>by omega⟩
 .rw[aq h0];simp only[aoC,if_false]
  refine .some ⟨λ_=>⟨⟨by simp[be],λk hk=>?_,λk hk=>?_⟩,λk=>?_,?_⟩,λh=>by simp[be]⟩<;>simp only[be,aoF,kK ht]
  .rw[ai (λh=>by rw[h]at hk;exact h0 hk)]
  .rw[ai (by omega)]
  .split
   .omega
   .exact hB k
  .simp
def lF(len:Nat)(D:List Int)(j:Nat)(n:Ty):Prop:=
 ((n.1:Int)=51/\∃t:Nat,(n.2:Int)=t/\j<t/\t<=len/\gd D t=gd D j)\/
 (((n.1:Int)=50\/(n.1:Int)=52\/(n.1:Int)=53)/\1<=gd D j/\gd D (j+1)=gd D j-1/\∃t:Nat,(n.2:Int)=t/\j<t/\t<=len/\gd D t=if(n.1:Int)=50 then gd D j-1 else gd D j)\/
 ((n.1:Int)≠51/\¬((n.1:Int)=50\/(n.1:Int)=52\/(n.1:Int)=53)/\0<=ar n.1/\ar n.1<=gd D j/\gd D (j+1)=gd D j-ar n.1+1/\gd D j-ar n.1+1<=12)
theorem lF.mono{len j i:Nat}{D D':List Int}{n:Ty}(h:lF len D j n)(hj:0<=gd D j)(m:Mn D D' i):lF len D' j n:=by
 have e:=m.keep j hj
 rcases h with⟨h1,t,h2,h3,h4,h5⟩|⟨h1,h2,h3,t,h4,h5,h6,h7⟩|⟨h1,h2,h3,h4,h5,h6⟩
 .exact .inl ⟨h1,t,h2,h3,h4,by rw[m.keep t (by omega),h5,e]⟩
 .have e1:=m.keep (j+1) (by omega);have e2:=m.keep t (by rw[h7];split<;>omega);exact .inr (.inl ⟨h1,by omega,by omega,t,h4,h5,h6,by rw[e2,e];exact h7⟩)
 .have e1:=m.keep (j+1) (by omega);exact .inr (.inr ⟨h1,h2,h3,by omega,by omega,by omega⟩)
theorem D3{N:Nat}{code:List Ty}{D:List Int}{i:Nat}(hl:code.length<=128)(hi:i<code.length)(hD:D.length=code.length+1)(hB:Bd D)(h0:0<=gd D i):Wp (M.bO N code (i:Int) code[i] D) λr=>r.1=0->Mn D r.2 i/\Bd r.2/\lF code.length r.2 i code[i]/\¬cH code[i].1:=by
 unfold M.bO;generalize code[i]=n;obtain⟨(op:Int),(m:Int)⟩:=n;dsimp only[aB,Row.den]at*;have DI:=kE op;have hBi:=hB i;rw[od,mH,fA (by omega),eJ,D2];simp only[aoy,aK];by_cases c1:¬cH op/\(50<=op/\op<=53\/0<=ar op)
 case neg=>
  rw[aq c1];simp only[apd,if_true]
  exact .some λh=>by simp at h
 rw[ao c1];simp only[aoX,aoC,if_false];by_cases c2:50<=op/\op<=53
 .rw[ao c2];simp only[if_true];by_cases c3:m<=i\/(code.length:Int)<m
  .have:(if decide (m<=(i:Int))=af then af else decide ((code.length:Int)<m))=af:=by
    rcases c3 with c|c<;>simp[c]
   rw[aj this]
   exact .some λh=>by simp at h
  have hc:(if decide (m<=(i:Int))=af then af else decide ((code.length:Int)<m))=ag:=by
   rw[ai (by simp;omega)];simp;omega
  rw[ai (by rw[hc];simp)]
  obtain⟨t,rfl⟩:∃t:Nat,m=t:=⟨m.toNat,by omega⟩
  refine Wp.dec (λc4=>?_) λc4=>?_
  .refine Wp.seq _ (nE (t:=t) (i:=i) (by omega) (by omega) (by omega) hB) λr hr=> .some λh=>?_
   obtain⟨a1,a2,a3⟩:=hr.1 h;exact⟨a1,a2, .inl ⟨c4,t,rfl,by omega,by omega,by rw[a3,a1.low i (aoJ _)]⟩,c1.1⟩
  refine Wp.dec (λc5=>?_) λc5=>by omega
  refine Wp.dec (λc6=> .some λh=>by simp at h) λc6=>?_
  have w1:aoz.wrap (gd D i-1)=gd D i-1:=aE (by omega) (by omega);rw[w1,aL (by omega)]
  refine Wp.seq _ (nE (t:=i+1) (i:=i) (by omega) (by omega) (by omega) hB) λr hr=>?_
  refine Wp.uA (λc7=> .some λh=>absurd h c7) λc7=>?_
  obtain⟨a1,a2,a3⟩:=hr.1 c7;have DB:=a1.low i (aoJ _)
  refine Wp.seq _ (nE (D:=r.2) (t:=t) (i:=i) (by rw[a1.len];omega) (by omega) (by split<;>omega) a2) λr' yZ=> .some λh=>?_
  obtain⟨b1,b2,b3⟩:=yZ.1 h;refine⟨a1.trans b1,b2, .inr (.inl ⟨c5,?_,?_,t,rfl,by omega,by omega,?_⟩),c1.1⟩
  .rw[b1.low i (aoJ _)];show 1<=gd r.2 i;omega
  .show gd r'.2 (i+1)=gd r'.2 i-1
   rw[b1.low i (aoJ _),b1.keep (i+1) (by omega)];omega
  .show gd r'.2 t=if op=50 then gd r'.2 i-1 else gd r'.2 i
   rw[b1.low i (aoJ _),b3,DB]
   by_cases Ej:op=50<;>simp[Ej]
 .rw[aq c2];simp only[aoC,if_false]
  refine Wp.dec (λc4=>by omega) λc4=>?_
  refine Wp.dec (λc5=>by omega) λc5=>?_
  refine Wp.dec (λc6=> .some λh=>by simp at h) λc6=>?_
  have w1:aoz.wrap (gd D i-ar op)=gd D i-ar op:=aE (by omega) (by omega);have w2:aoz.wrap (gd D i-ar op+1)=gd D i-ar op+1:=aE (by omega) (by omega);rw[w1,w2]
  refine Wp.dec (λc7=> .some λh=>by simp at h) λc7=>?_
  rw[aL (by omega)]
  refine Wp.seq _ (nE (t:=i+1) (i:=i) (by omega) (by omega) (by omega) hB) λr hr=> .some λh=>?_
  obtain⟨a1,a2,a3⟩:=hr.1 h;have DB:=a1.low i (aoJ _);exact⟨a1,a2, .inr (.inr ⟨c4,c5,by show 0<=ar op;omega,by show ar op<=gd r.2 i;omega,by show gd r.2 (i+1)=gd r.2 i-ar op+1;omega,by show gd r.2 i-ar op+1<=12;omega⟩),c1.1⟩
structure Fits(code:List Ty)(F:List Int):Prop where
 pos:0<code.length
 le:code.length<=128
 len:F.length=code.length+1
 bd:Bd F
 first:gd F 0=0
 last:gd F code.length=1
 step:∀j(h:j<code.length),0<=gd F j->lF code.length F j code[j]/\¬cH code[j].1
theorem D4(n k:Nat):gd (aoE n (-1)) k= -1:=by
 unfold gd apb;by_cases h:k<n
 .simp[h]
 .rw[List.getElem?_eq_none (by simp;omega)];rfl
theorem GW(code:List Ty):Wp (M.fh aG code) λy=>y.2=0->∃F,Fits code F:=by
 unfold M.fh
 refine Wp.dec (λh=> .some λh=>by simp at h) λh1=>?_
 refine Wp.dec (λh=> .some λh=>by simp at h) λh2=>?_
 have hl:code.length<=128:=by omega
 have hp:0<code.length:=by omega
 rw[aL (by omega)]
 have Be:pw ((code.length+1:Nat):Int) (0:Int)=aa (aoE (code.length+1) 0):=by
  unfold pw;rw[aj (by omega),aoF]
 rw[Be];simp only[aoy];refine Wp.seq (· =aoE (code.length+1) (-1:Int)) ?_ ?_
 .refine Wp.loop (λs:Int×List Int=>∃k m:Nat,s=((k:Int),aoE k (-1)++aoE m 0)/\k+m=code.length+1) (λs=>(code.length+1-s.1).toNat) ⟨0,code.length+1,by simp,by omega⟩ (by unfold aG;simp only;omega) ?_
  rintro _ ⟨k,m,rfl,hk⟩
  simp only[List.length_replicate]
  refine Wp.dec (λh=>?_) λh=> .some ?_
  .obtain⟨m,rfl⟩:∃m',m=m'+1:=⟨m-1,by omega⟩
   rw[aD (by simp)];simp only[aoy];rw[aL (by omega)];refine .some ⟨⟨k+1,m,?_,by omega⟩,by simp only;omega⟩;refine Prod.ext rfl ?_;simp only[be,aoF];rw[apw _ _ (by simp),apr];simp[List.replicate_succ']
  .obtain rfl:m=0:=by omega
   obtain rfl:k=code.length+1:=by omega
   show _=_
   simp
 rintro _ rfl
 have e1:idx (aoE (code.length+1) (-1:Int)) 0=aa (-1):=by rw[apr];rfl
 rw[e1];simp only[aoy];have e0:be (aoE (code.length+1) (-1:Int)) (0:Int) (0:Int)=(aoE (code.length+1) (-1:Int)).set 0 0:=rfl;rw[e0]
 have g0:∀k,gd ((aoE (code.length+1) (-1:Int)).set 0 0) k=if k=0 then 0 else-1:=λk=>by
  rw[kK (by simp),D4]
 refine Wp.join (Wp.loop (λs:Int×Int×List Int=>∃i:Nat,s.2.1=i/\i<=code.length/\s.2.2.length=code.length+1/\Bd s.2.2/\gd s.2.2 0=0/\∀j(h:j<code.length),j<i->0<=gd s.2.2 j->lF code.length s.2.2 j code[j]/\¬cH code[j].1) (λs=>(code.length-s.2.1).toNat) ⟨0,rfl,aoR _,by simp,λk=>?_,?_,λj _ h=>by omega⟩ (by unfold aG;simp only;omega) ?_)
 .simp only[g0];split<;>omega
 .simp only[g0];rfl
 rintro⟨g,at',D⟩ ⟨i,vD,hi,hD,hB,hz,hs⟩
 dsimp only at vD hi hD hB hz hs⊢;subst vD
 refine Wp.dec (λaJ=>?_) λhge=> .some ?_
 .have aJ:i<code.length:=by omega
  rw[aL (by omega),aD aJ,fA (by omega)];simp only[aoy];refine Wp.join ?_
  refine Wp.dec (λIN=> .some ?_) λpC=>?_
  .refine Wp.some ?_;refine⟨⟨i+1,rfl,aJ,hD,hB,hz,λj h hj h0=>hs j h ?_ h0⟩,by simp only;omega⟩
   rcases aph j i with h'|h'
   .exact h'
   .have:j=i:=by omega
    subst this;dsimp only at h0;omega
  .refine Wp.seq _ (D3 hl aJ hD hB (by omega)) λr hr=>?_
   refine Wp.uA (λdS=> .some ?_) λsJ=> .some ?_
   .exact(λh=>absurd h dS:r.1=0->∃F,Fits code F)
   .obtain⟨a1,a2,a3,a4⟩:=hr sJ;refine Wp.some ?_;refine⟨⟨i+1,rfl,aJ,by rw[<-hD];exact a1.len,a2,by rw[<-hz];exact a1.low 0 (aoR _),λj h hj h0=>?_⟩,by simp only;omega⟩
    rcases aph j i with h'|h'
    .have e:=a1.low j (by omega)
     have h0':0<=gd D j:=by rw[<-e];exact h0
     obtain⟨b1,b2⟩:=hs j h h' h0';exact⟨b1.mono h0' a1,b2⟩
    .have:j=i:=by omega
     subst this;exact⟨a3,a4⟩
 .obtain rfl:i=code.length:=by omega
  show Wp ((idx D (code.length:Int)).bind _) _
  rw[fA (by omega)];simp only[aoy]
  refine Wp.dec (λh=> .some λh=>by simp at h) λh3=>?_
  refine Wp.dec (λh=> .some λh=>by simp at h) λh4=> .some λ_=>⟨D,hp,hl,hD,hB,hz,by omega,λj h h0=>hs j h h h0⟩
structure Cs(F D:List Int):Prop where
 len:D.length=F.length
 ok:∀k,gd D k= -1\/gd D k=gd F k
theorem Cs.set{F D:List Int}(c:Cs F D){t:Nat}(ht:t<F.length):Cs F (D.set t (gd F t)):=by
 refine⟨by rw[ap6,c.len],λk=>?_⟩;rw[kK (by rw[c.len];exact ht)];split
 .rename_i h;rw[h];exact .inr rfl
 .exact c.ok k
theorem pu{N:Nat}{F D:List Int}(c:Cs F D){t:Nat}(ht:t<F.length):M.bl N (t:Int) (gd F t) D=aa (0,D.set t (gd F t)):=by
 have htD:t<D.length:=by rw[c.len];exact ht
 unfold M.bl;rw[fA htD];simp only[aoy,aK]
 rcases c.ok t with h|h
 .rw[h];rfl
 .rw[h]
  by_cases h0:0<=gd F t<;>simp[h0,be]
theorem QJ{N:Nat}{code:List Ty}{F D:List Int}(f:Fits code F)(c:Cs F D){i:Nat}(hi:i<code.length)(h0:gd D i=gd F i)(hp:0<=gd F i):Wp (M.bO N code (i:Int) code[i] D) λr=>r.1=0/\Cs F r.2/\∃t,i<t/\t<=code.length/\0<=gd r.2 t:=by
 have hle:=f.le;have hFl:=f.len;have hDl:=c.len;have hb:=f.bd i;have Hh:=f.bd (i+1);obtain⟨hs,QK⟩:=f.step i hi hp;unfold M.bO;generalize code[i]=n at*;obtain⟨(op:Int),(m:Int)⟩:=n;dsimp only[aB,Row.den]at*;have DI:=kE op;rw[od,mH,fA (by omega),eJ,D2,h0];simp only[aoy]
 have e0:(50<=op/\op<=53\/0<=ar op)->(50<=op/\op<=53->(i:Int)<m/\m<=(code.length:Int))->(if(!decide (¬cH op/\(50<=op/\op<=53\/0<=ar op)))=af then aa af else(if decide (50<=op/\op<=53)=af then(if decide (m<=(i:Int))=af then aa af else aa (decide ((code.length:Int)<m)))else aa ag))=aa ag:=by
  intro g1 g2;rw[ao (show¬cH op/\(50<=op/\op<=53\/0<=ar op)from⟨QK,g1⟩),ai (by simp)];by_cases g:50<=op/\op<=53
  .obtain⟨g3,g4⟩:=g2 g;rw[ao g,aj rfl,aq (by omega),ai (by simp),aq (by omega)]
  .rw[aq g,ai (by simp)]
 rcases hs with⟨h1,t,h2,h3,h4,h5⟩|⟨h1,h2,h3,t,h4,h5,h6,h7⟩|⟨h1,h2,h3,h4,h5,h6⟩
 .dsimp only[aB,Row.den]at*;subst h2;rw[e0 (.inl (by omega)) (λ_=>by omega)];simp only[aoy,aoC,if_false]
  refine Wp.dec (λ_=>?_) λh=>absurd h1 h
  rw[<-h5,pu c (by omega)];refine .some ⟨rfl,c.set (by omega),t,h3,h4,?_⟩
  show 0<=gd (D.set t (gd F t)) t
  rw[kK (by omega),aj rfl];omega
 .dsimp only[aB,Row.den]at*;subst h4;rw[e0 (.inl (by omega)) (λ_=>by omega)];simp only[aoy,aoC,if_false]
  refine Wp.dec (λh=>by omega) λ_=>?_
  refine Wp.dec (λ_=>?_) λh=>absurd h1 h
  refine Wp.dec (λh=>by omega) λ_=>?_
  have w1:aoz.wrap (gd F i-1)=gd F (i+1):=by rw[aE (by omega) (by omega),h3]
  rw[w1,aL (by omega),pu c (by omega)];have c1:=c.set (t:=i+1) (by omega);simp only[aoy]
  refine Wp.uA (λh=>absurd trivial h) λ_=>?_
  have e7:(if decide (op=50)=af then aa (gd F (i+1))else aa (gd F i))=aa (gd F t):=by
   by_cases Ej:op=50
   .rw[ao Ej,aj rfl,h7,aj Ej,h3]
   .rw[aq Ej,ai (by simp),h7,ai Ej]
  rw[e7];simp only[aoy];rw[pu c1 (by omega)];have c2:=c1.set (t:=t) (by omega);refine .some ⟨rfl,c2,t,h5,h6,?_⟩
  show 0<=gd (((D.set (i+1) (gd F (i+1)))).set t (gd F t)) t
  rw[kK (by rw[ap6];omega),aj rfl,h7]
  split<;>omega
 .dsimp only[aB,Row.den]at*
  have gx:¬(50<=op/\op<=53):=by
   intro h
   have:op=50\/op=51\/op=52\/op=53:=by omega
   omega
  rw[e0 (.inr h3) (λh=>absurd h gx)];simp only[aoy,aoC,if_false]
  refine Wp.dec (λh=>absurd h h1) λ_=>?_
  refine Wp.dec (λh=>absurd h h2) λ_=>?_
  refine Wp.dec (λh=>by omega) λ_=>?_
  have w1:aoz.wrap (gd F i-ar op)=gd F i-ar op:=aE (by omega) (by omega)
  have w2:aoz.wrap (gd F i-ar op+1)=gd F (i+1):=by rw[aE (by omega) (by omega),h5]
  rw[w1,w2]
  refine Wp.dec (λh=>by omega) λ_=>?_
  rw[aL (by omega),pu c (by omega)];refine .some ⟨rfl,c.set (by omega),i+1,by omega,by omega,?_⟩
  show 0<=gd (D.set (i+1) (gd F (i+1))) (i+1)
  rw[kK (by omega),aj rfl];omega
theorem Fits.verify{code:List Ty}{F:List Int}(f:Fits code F):Wp (M.fh aG code) λy=>y.2=0:=by
 have hl:=f.le;have hp:=f.pos;have hFl:=f.len;unfold M.fh
 refine Wp.dec (λh=>by omega) λh1=>?_
 refine Wp.dec (λh=>by omega) λh2=>?_
 rw[aL (by omega)]
 have Be:pw ((code.length+1:Nat):Int) (0:Int)=aa (aoE (code.length+1) 0):=by
  unfold pw;rw[aj (by omega),aoF]
 rw[Be];simp only[aoy];refine Wp.seq (· =aoE (code.length+1) (-1:Int)) ?_ ?_
 .refine Wp.loop (λs:Int×List Int=>∃k m:Nat,s=((k:Int),aoE k (-1)++aoE m 0)/\k+m=code.length+1) (λs=>(code.length+1-s.1).toNat) ⟨0,code.length+1,by simp,by omega⟩ (by unfold aG;simp only;omega) ?_
  rintro _ ⟨k,m,rfl,hk⟩
  simp only[List.length_replicate]
  refine Wp.dec (λh=>?_) λh=> .some ?_
  .obtain⟨m,rfl⟩:∃m',m=m'+1:=⟨m-1,by omega⟩
   rw[aD (by simp)];simp only[aoy];rw[aL (by omega)];refine .some ⟨⟨k+1,m,?_,by omega⟩,by simp only;omega⟩;refine Prod.ext rfl ?_;simp only[be,aoF];rw[apw _ _ (by simp),apr];simp[List.replicate_succ']
  .obtain rfl:m=0:=by omega
   obtain rfl:k=code.length+1:=by omega
   show _=_
   simp
 rintro _ rfl
 have e1:idx (aoE (code.length+1) (-1:Int)) 0=aa (-1):=by rw[apr];rfl
 rw[e1];simp only[aoy];have e0:be (aoE (code.length+1) (-1:Int)) (0:Int) (0:Int)=(aoE (code.length+1) (-1:Int)).set 0 0:=rfl;rw[e0]
 have g0:∀k,gd ((aoE (code.length+1) (-1:Int)).set 0 0) k=if k=0 then 0 else-1:=λk=>by
  rw[kK (by simp),D4]
 refine Wp.join (Wp.loop (λs:Int×Int×List Int=>∃i:Nat,s.2.1=i/\i<=code.length/\Cs F s.2.2/\∃k,i<=k/\k<=code.length/\0<=gd s.2.2 k) (λs=>(code.length-s.2.1).toNat) ⟨0,rfl,aoR _,⟨by simp[hFl],λk=>?_⟩,0,aoJ _,aoR _,?_⟩ (by unfold aG;simp only;omega) ?_)
 .simp only[g0];split
  .rename_i h;rw[h,f.first];exact .inr rfl
  .exact .inl rfl
 .simp only[g0];decide
 rintro⟨g,at',D⟩ ⟨i,vD,hi,hc,k,Md,Js,hk3⟩
 dsimp only at vD hi hc hk3⊢;subst vD;have hDl:=hc.len
 refine Wp.dec (λaJ=>?_) λhge=> .some ?_
 .have aJ:i<code.length:=by omega
  rw[aL (by omega),aD aJ,fA (by omega)];simp only[aoy];refine Wp.join ?_
  refine Wp.dec (λIN=> .some ?_) λpC=>?_
  .refine Wp.some ⟨⟨i+1,rfl,aJ,hc,k,?_,Js,hk3⟩,by simp only;omega⟩;by_cases e:k=i
   .subst e;omega
   .omega
  have hgi:gd D i=gd F i:=(hc.ok i).resolve_left (by omega)
  refine Wp.seq _ (QJ f hc aJ hgi (by omega)) λr hr=>?_
  obtain⟨r1,r2,t,r3,r4,r5⟩:=hr
  refine Wp.uA (λh=>absurd r1 h) λ_=> .some ?_
  exact Wp.some ⟨⟨i+1,rfl,aJ,r2,t,r3,r4,r5⟩,by simp only;omega⟩
 .obtain rfl:i=code.length:=by omega
  show Wp ((idx D (code.length:Int)).bind _) _
  obtain rfl:k=code.length:=by omega
  rw[fA (by omega),(hc.ok _).resolve_left (by omega),f.last];exact .some rfl
end L.P.Q
namespace L.P.Q
def KW(n:Ty)(top:Vl):Bool:=decide (decide ((top.2.2:Int)=1)=decide ((n.1:Int)=53))
inductive gK(code:List Ty)(env:cz.den):Nat->List Vl->Vl×Int->Prop
 |done {v:Vl} {S:List Vl}:gK code env code.length (v::S) (v,0)
 |jump {p t:Nat} {S:List Vl} {r:Vl×Int} {n:Ty} (h:code[p]? =aa n) (nJ:(n.1:Int)=51) (ht:(n.2:Int)=t) (TH:p<t) (Hi:t<=code.length) (next:gK code env t S r):gK code env p S r
 |op {p a:Nat} {S:List Vl} {r:Vl×Int} {n:Ty} (h:code[p]? =aa n) (dS:¬(50<=(n.1:Int)/\(n.1:Int)<=53)) (ha:ar n.1=a) (hs:a<=S.length) (h0:(qK env n (S.drop (S.length-a))).2=0) (next:gK code env (p+1) (S.take (S.length-a)++[(qK env n (S.drop (S.length-a))).1]) r):gK code env p S r
 |fail {p a:Nat} {S:List Vl} {n:Ty} (h:code[p]? =aa n) (dS:¬(50<=(n.1:Int)/\(n.1:Int)<=53)) (ha:ar n.1=a) (hs:a<=S.length) (h0:(qK env n (S.drop (S.length-a))).2≠0):gK code env p S (z3,(qK env n (S.drop (S.length-a))).2)
 |cond {p t:Nat} {S:List Vl} {r:Vl×Int} {n:Ty} {top:Vl} (h:code[p]? =aa n) (gx:(n.1:Int)=50\/(n.1:Int)=52\/(n.1:Int)=53) (ht:(n.2:Int)=t) (TH:p<t) (Hi:t<=code.length) (hk:(top.1:Int)=1) (hv:(top.2.2:Int)=0\/(top.2.2:Int)=1) (next:gK code env (if KW n top=af then t else p+1) (if KW n top=ag\/(n.1:Int)=50 then S else S++[top]) r):gK code env p (S++[top]) r
 |cbad {p:Nat} {S:List Vl} {n:Ty} {top:Vl} (h:code[p]? =aa n) (gx:(n.1:Int)=50\/(n.1:Int)=52\/(n.1:Int)=53) (hk:¬((top.1:Int)=1/\((top.2.2:Int)=0\/(top.2.2:Int)=1))):gK code env p (S++[top]) (z3,8)
theorem Fits.runs{code:List Ty}{F:List Int}{env:cz.den}(f:Fits code F):∀(m p:Nat)(S:List Vl),code.length-p<=m->p<=code.length->gd F p=S.length->∃r,gK code env p S r:=by
 intro m
 induction m with
 |zero=>
  intro p S hm hp hS
  obtain rfl:p=code.length:=by omega
  have hl:=f.last
  cases S with
  |nil=>simp at hS;omega
  |cons v S=>exact⟨_, .done⟩
 |succ m ih=>
  intro p S hm hp hS;by_cases aJ:p<code.length
  case neg=>
   obtain rfl:p=code.length:=by omega
   have hl:=f.last
   cases S with
   |nil=>simp at hS;omega
   |cons v S=>exact⟨_, .done⟩
  have hge:=aoA aJ
  rcases(f.step p aJ (by omega)).1 with⟨h1,t,h2,h3,h4,h5⟩|⟨h1,h2,h3,t,h4,h5,h6,h7⟩|⟨h1,h2,h3,h4,h5,h6⟩
  .obtain⟨r,hr⟩:=ih t S (by omega) h4 (by omega);exact⟨r, .jump hge h1 h2 h3 h4 hr⟩
  .rcases List.eq_nil_or_concat S with rfl|⟨S',top,rfl⟩
   .simp at hS;omega
   simp only[List.concat_eq_append]at hS⊢;rw[aoH,aoT]at hS;by_cases hg:(top.1:Int)=1/\((top.2.2:Int)=0\/(top.2.2:Int)=1)
   .obtain⟨r,hr⟩:=ih (if KW code[p] top=af then t else p+1) (if KW code[p] top=ag\/(code[p].1:Int)=50 then S' else S'++[top]) (by split<;>omega) (by split<;>omega) (by
     by_cases hj:KW code[p] top=af
     .rw[aj hj,h7];by_cases Ej:(code[p].1:Int)=50
      .rw[aj Ej,aj (.inr Ej)];omega
      .rw[ai Ej,ai (by simp[hj,Ej]),aoH,aoT];omega
     .rw[ai hj,aj (.inl (by simpa using hj)),h3];omega)
    exact⟨r, .cond hge h1 h4 h5 h6 hg.1 hg.2 hr⟩
   .exact⟨_, .cbad hge h1 hg⟩
  .obtain⟨a,ha⟩:∃a:Nat,ar code[p].1=a:=⟨(ar code[p].1).toNat,by omega⟩
   have UY:¬(50<=(code[p].1:Int)/\(code[p].1:Int)<=53):=by
    generalize(code[p].1:Int)=o at h1 h2;dsimp only[aB,Row.den]at*;omega
   by_cases h0:(qK env code[p] (S.drop (S.length-a))).2=0
   .obtain⟨r,hr⟩:=ih (p+1) (S.take (S.length-a)++[(qK env code[p] (S.drop (S.length-a))).1]) (by omega) aJ (by
     rw[h5,aoH,ao0,aoT,apC (by omega)];omega)
    exact⟨r, .op hge UY ha (by omega) h0 hr⟩
   .exact⟨_, .fail hge UY ha (by omega) h0⟩
end L.P.Q
end Go.Proofs.YtfjgcenlllgonaaGreatDoor
