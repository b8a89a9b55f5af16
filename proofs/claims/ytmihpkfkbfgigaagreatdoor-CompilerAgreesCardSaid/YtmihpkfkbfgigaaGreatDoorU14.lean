/- Joined texts: CG CH CI. -/
import Derived.Test.YtmihpkfkbfgigaaGreatDoorU13
section
open _root_.Int renaming eq_ofNat_of_zero_le->al8,toNat_natCast->al1
open _root_.Go.IntKind renaming i64->alT
open _root_.List renaming getElem?_eq_getElem->alV,getElem_mem->al0,replicate->alX
open _root_.Option renaming bind_some->alS
open _root_.Option.some renaming inj->alU
open _root_.Sum renaming inr->amP
namespace Go.Proofs.YtmihpkfkbfgigaaGreatDoor
open Go Go.RowKit
set_option maxRecDepth 100000
set_option linter.unusedSimpArgs false
set_option linter.unusedVariables false
namespace L
theorem vB{l:Lw}(hw:WF bU l){x:gw}{d:Int}{m:NK}(hM:yr l x d m)(hs:iE x)(vf:WF aw x)(hv:∀i,∀hi:i<x.2.2.2.2.length,pP l x i x.2.2.2.2[i]=0){env:JM}(hE:FN l x d env)(mem a:Int):
 ∃(r:Int)(e:au.den)(r':Int)(e':au.den),M.eV aB x env mem a=some (r,e)/\M.bO aB m env mem a=some (r',e')/\
  (((e.1:Int)≠0/\e'=e)\/((e.1:Int)=0/\r= -1/\e'=((10:Int),(mem,(a,(-1:Int)))))\/((e.1:Int)=0/\r= -2/\e'=((11:Int),(mem,(a,(-1:Int)))))\/
    ((e.1:Int)=0/\(e'.1:Int)=0/\0<=r/\∃(R:jK)(v:Vl×Int)(c:List Ty)(n:Int),idx x.2.2.2.2 r=some R/\idx m.2.1.2.2.2 r'=some c/\idx m.2.2 r'=some r/\M.iy aB R.2.2.2.2.2.2.1 env=some v/\M.nh aB c env=some (v.1,n,v.2)/\
      (v.2=0->∃k:Nat,a=(k:Int)/\∃f,x.2.2.2.1[k]? =some f/\P.jR v.1 f.2))):=by
 obtain⟨p,q,e1,e2,hQ⟩:=Tp hw hM hs hE mem a
 cases hQ with
 |err h=>exact⟨_,_,_,_,e1,e2, .inl ⟨h,rfl⟩⟩
 |none h=>exact⟨_,_,_,_,e1,e2, .inr (.inl ⟨h,rfl,rfl⟩)⟩
 |two h=>exact⟨_,_,_,_,e1,e2, .inr (.inr (.inl ⟨h,rfl,rfl⟩))⟩
 | @PS e e' y i j hj h h' h0 ha hR=>
   obtain⟨g,c,_,i2,_,cc⟩:=hR.code;obtain⟨n,v,r1,r2⟩:=cc.run env (hE.ok hw) hE.agr;refine⟨_,_,_,_,e1,e2, .inr (.inr (.inr ⟨h,h',h0,x.2.2.2.2[j],v,c,n,?_,i2,hR.ind,r2,r1,fun hz=>?_⟩))⟩
   .rw[hR.num];exact ah hj
   .obtain⟨⟨k,hk,e3,r,t1,t2,t3⟩,_⟩:=rK vf hj (hv j hj);have J1:=vf.2.2.2.2.2 _ (al0 hj);obtain⟨w,ew,_,WB⟩:=P.V.PQ J1.2.2.2.2.2.2.1.2 t1 t2 (hE.ok hw) hE.agr;rw[r2]at ew;obtain rfl:=alU ew;refine⟨k,ha.symm.trans e3,_,alV hk,?_⟩;rw[<-t3];exact WB hz
theorem NL.set{D:List Vl}{fs:List Fd}(h:NL D fs){k:Nat}{v:Vl}{f:Fd}(hf:fs[k]? =some f)(hv:P.jR v f.2):NL (aH D (k:Int) v) fs:=by
 refine⟨by rw[fh];exact h.1,fun j w g hw hg=>?_⟩;unfold aH at hw;rw[al1,List.getElem?_set]at hw;by_cases e:k=j
 .subst e;rw[if_pos rfl]at hw;split at hw
  .obtain rfl:=alU hw;rw[hf]at hg;obtain rfl:=alU hg;exact .inl hv
  .cases hw
 .rw[if_neg e]at hw;exact h.2 j w g hw hg
theorem loops{l:Lw}(hw:WF bU l){x:gw}{d:Int}{m:NK}(hM:yr l x d m)(hs:iE x)(vf:WF aw x)(hv:∀i,∀hi:i<x.2.2.2.2.length,pP l x i x.2.2.2.2[i]=0){R R':Type}(E:List Vl->JM)(F:au.den->List Vl->R)(F':au.den->List Vl->R')(mem:Int)(Q:R->R'->Prop)
 (hEn:∀D,NL D x.2.2.2.1->FN l x d (E D))(hF:∀e D,(e.1:Int)≠0->Q (F e D) (F' e D)):
 kR (Loop (S:=Int×(List af.den)×List Int) (X:=((List af.den)×List Int)⊕R) (fun s5=>
(if(decide (s5.1<(m.2.1.1.length:Int)))=true then
bE (J:=(List af.den)×List Int) (R:=(Int×(List af.den)×List Int)⊕(((List af.den)×List Int)⊕R)) ((idx m.2.1.1 s5.1).bind fun x7=>
(idx (alX x.2.2.2.1.length true) x7).bind fun x8=>
(if(!x8)=true then
some (Sum.inl (s5.2.1,s5.2.2))
else
(M.eV aB x (E s5.2.1) mem x7).bind fun y9=>
(if(!decide (y9.2.1=(0:Int)))=true then
some (amP (amP (amP (F y9.2 s5.2.1))))
else
(if(decide (y9.1=(-1:Int)))=true then
some (amP (amP (amP (F ((10:Int),(mem,(x7,(-1:Int)))) s5.2.1))))
else
(if(decide (y9.1=(-2:Int)))=true then
some (amP (amP (amP (F ((11:Int),(mem,(x7,(-1:Int)))) s5.2.1))))
else
(idx x.2.2.2.2 y9.1).bind fun qn=>
(M.iy aB qn.2.2.2.2.2.2.1 (E s5.2.1)).bind fun lJ=>
(if(!decide (lJ.2=(0:Int)))=true then
some (amP (amP (amP (F (lJ.2,(mem,(x7,y9.1))) s5.2.1))))
else
(idx s5.2.1 x7).bind fun qA=>
(idx s5.2.2 x7).bind fun pe=>
some (Sum.inl (aH s5.2.1 x7 lJ.1,aH s5.2.2 x7 y9.1)))))))) fun j6=>
some (Sum.inl (alT.wrap (s5.1+(1:Int)),j6.1,j6.2))
else
some (amP (Sum.inl (s5.2.1,s5.2.2))))) aB ((0:Int),alX x.2.2.2.1.length ((0:Int),((0:Int),(0:Int))),alX x.2.2.2.1.length (0:Int)))
 (Loop (S:=Int×(List af.den)×List Int) (X:=((List af.den)×List Int)⊕R') (fun s4=>
(if(decide (s4.1<(m.2.1.1.length:Int)))=true then
(idx m.2.1.1 s4.1).bind fun x5=>
(M.bO aB m (E s4.2.1) mem x5).bind fun y6=>
(if(!decide (y6.2.1=(0:Int)))=true then
some (amP (amP (F' y6.2 s4.2.1)))
else
(idx m.2.1.2.2.2 y6.1).bind fun x7=>
(M.nh aB x7 (E s4.2.1)).bind fun y8=>
(if(!decide (y8.2.2=(0:Int)))=true then
(idx m.2.2 y6.1).bind fun x9=>
some (amP (amP (F' (y8.2.2,(mem,(x5,x9))) s4.2.1)))
else
(idx s4.2.1 x5).bind fun qn=>
(idx m.2.2 y6.1).bind fun o8=>
(idx s4.2.2 x5).bind fun qA=>
some (Sum.inl (alT.wrap (s4.1+(1:Int)),aH s4.2.1 x5 y8.1,aH s4.2.2 x5 o8))))
else
some (amP (Sum.inl (s4.2.1,s4.2.2))))) aB ((0:Int),alX x.2.2.2.1.length ((0:Int),((0:Int),(0:Int))),alX x.2.2.2.1.length (0:Int)))
 (JH (fun b b'=>b=b'/\NL b.1 x.2.2.2.1/\b.2.length=x.2.2.2.1.length) Q):=by
 have ho:=hM.prg.ord;have hZ:=hM.prg.all;have Db:=hs.2.2.1;dsimp only at ho hZ
 refine kR.count m.2.1.1.length (fun k s s'=>s=s'/\s.1=(k:Int)/\NL s.2.1 x.2.2.2.1/\s.2.2.length=x.2.2.2.1.length) (by omega) ⟨rfl,rfl,⟨by simp,fun k v f hk _=> .inr ?_⟩,by simp⟩ fun k s s' hk hJ=>?_
 .dsimp only at hk;rw[List.getElem?_replicate]at hk;split at hk
  .obtain rfl:=alU hk;rfl
  .cases hk
 .obtain⟨c,D,rl⟩:=s;obtain⟨j1,j2,j3,j4⟩:=hJ;dsimp only at j2 j3 j4;subst j1 j2
  refine kR.dec (fun aj=>?_) fun hge=> .some ⟨rfl,j3,j4⟩
  have aj:k<m.2.1.1.length:=by dsimp only at aj;omega
  dsimp only;obtain⟨⟨⟨a0,a1⟩,_⟩,_⟩:=ho k aj;obtain⟨q,hq⟩:=al8 a0
  have TV:q<x.2.2.2.1.length:=by omega
  rw[ah aj,alS,alS,hq]
  have hn:idx (alX x.2.2.2.1.length true) (q:Int)=some true:=by
   rw[ah (by simpa using TV)];simp
  rw[hn,alS,if_neg (by decide)];obtain⟨r,e,r',e',g1,g2,g⟩:=vB hw hM hs vf hv (hEn D j3) mem (q:Int);rw[g1,g2,alS,alS];dsimp only
  rcases g with⟨g,rfl⟩|⟨g,rfl,rfl⟩|⟨g,rfl,rfl⟩|⟨g,g',g0,Rr,v,cd,n,i1,i2,i3,r1,r2,ht⟩
  .rw[if_pos (by simpa using g),if_pos (by simpa using g)];exact⟨_,_,rfl,rfl,hF _ _ g⟩
  .rw[if_neg (by simpa using g),if_pos (by simp),if_pos (by simp)];exact⟨_,_,rfl,rfl,hF _ _ (by show(10:Int)≠0;decide)⟩
  .rw[if_neg (by simpa using g),if_neg (by simp),if_pos (by simp),if_pos (by simp)];exact⟨_,_,rfl,rfl,hF _ _ (by show(11:Int)≠0;decide)⟩
  .rw[if_neg (by simpa using g),if_neg (by rw[decide_eq_true_eq];omega),if_neg (by rw[decide_eq_true_eq];omega),if_neg (by simpa using g'),i1,i2,alS,alS,r1,r2,alS,alS];dsimp only;by_cases hz:(v.2:Int)=0
   .obtain⟨k',dZ,f,hf,XN⟩:=ht hz
    obtain rfl:q=k':=by omega
    rw[if_neg (by simpa using hz),if_neg (by simpa using hz),ah (show q<D.length by rw[j3.1];exact TV),alS,alS,i3,alS,ah (show q<rl.length by omega),alS,alS];exact⟨_,_,rfl,rfl,aj,rfl,bV (m:=m.2.1.1.length) (by omega) aj,j3.set hf XN,by dsimp only;rw[fh];exact j4⟩
   .rw[if_pos (by simpa using hz),if_pos (by simpa using hz),i3,alS];exact⟨_,_,rfl,rfl,hF _ _ hz⟩
def Mc(x:gw)(e e':au.den)(rs rs':List Int)(D D':List Vl):Prop:=e=e'/\rs=rs'/\D=D'/\((e.1:Int)=0->NL D x.2.2.2.1/\rs.length=x.2.2.2.1.length)
theorem oR{α:Type}(n:Nat)(v:α)(h:n<=100000):lB (n:Int) v=some (alX n v):=by
 unfold lB;rw[if_pos (by omega),al1]
theorem PT{l:Lw}(hw:WF bU l){x:gw}{d:Int}{m:NK}(hM:yr l x d m)(hs:iE x)(vf:WF aw x)(hv:∀i,∀hi:i<x.2.2.2.2.length,pP l x i x.2.2.2.2[i]=0)(X6:(dt l x).2.2.2.2.1=[])(mem:Int){vs:List Vl}(cx:Tn vs x.2.2.1):
 kR (M.eN aB x mem d vs l.2.1 (alX x.2.2.2.1.length true)) (M.eK aB m mem d vs l.2.1) fun p q=>Mc x p.1 q.1 p.2.2.2.2.2.1 q.2.2.2.2.1 p.2.2.2.2.2.2 q.2.2.2.2.2/\p.2.2.2.2.1=alX x.2.2.2.1.length true:=by
 have Db:=hs.2.2.1;have ho:=hM.prg.order;dsimp only at ho;unfold M.eN M.eK;rw[hM.scope,oR _ _ (by omega),oR _ _ (by omega),ho];simp only[alS];refine kR.join ((loops hw hM hs vf hv (fun D=>(d,(vs,(D,(([]:List (List af.den)),(([]:List aa.den),l.2.1)))))) (fun e D=>(e,d,vs,l.2.1,alX x.2.2.2.1.length true,([]:List Int),D)) (fun e D=>(e,d,vs,l.2.1,([]:List Int),D)) mem (fun p q=>Mc x p.1 q.1 p.2.2.2.2.2.1 q.2.2.2.2.1 p.2.2.2.2.2.2 q.2.2.2.2.2/\p.2.2.2.2.1=alX x.2.2.2.1.length true) (fun D hD=>⟨rfl,cx,hD,X6.symm,by simp,(fun D h=>by cases h),rfl⟩) (fun e D h=>⟨⟨rfl,rfl,rfl,fun g=>absurd g h⟩,rfl⟩)).mono fun u u' hu=>?_)
 cases u<;>cases u'
 .obtain⟨rfl,h1,h2⟩:=hu;exact .some ⟨⟨rfl,rfl,rfl,fun _=>⟨h1,h2⟩⟩,rfl⟩
 .exact hu.elim
 .exact hu.elim
 .exact hu
theorem Nk{l:Lw}(hw:WF bU l){x:gw}{d:Int}{m:NK}(hM:yr l x d m)(hs:iE x)(vf:WF aw x)(hv:∀i,∀hi:i<x.2.2.2.2.length,pP l x i x.2.2.2.2[i]=0)(mem:Int){vs:List Vl}(cx:Tn vs x.2.2.1){ms:List (List Vl)}(hl:ms.length<=100)(Nw:∀D∈ms,∀(k:Nat)(t:Ty),(dt l x).2.2.2.2.1[k]? =some t->∃v,D[k]? =some v/\(P.jR v t\/(v.1:Int)=0)):
 kR (M.eP aB x mem d vs l.2.1 ms (dt l x).2.2.2.2.1 (alX x.2.2.2.1.length true)) (M.eL aB m mem d vs l.2.1 ms (dt l x).2.2.2.2.1) fun p q=>Mc x p.1 q.1 p.2.2.2.2.2.2.2.1 q.2.2.2.2.2.2.1 p.2.2.2.2.2.2.2.2 q.2.2.2.2.2.2.2:=by
 have Db:=hs.2.2.1;have ho:=hM.prg.order;dsimp only at ho;unfold M.eP M.eL;rw[hM.scope,oR _ _ (by omega),oR _ _ (by omega),ho];simp only[alS];refine kR.join ((loops hw hM hs vf hv (fun D=>(d,(vs,(D,(ms,((dt l x).2.2.2.2.1,l.2.1)))))) (fun e D=>(e,d,vs,l.2.1,ms,(dt l x).2.2.2.2.1,alX x.2.2.2.1.length true,([]:List Int),D)) (fun e D=>(e,d,vs,l.2.1,ms,(dt l x).2.2.2.2.1,([]:List Int),D)) mem (fun p q=>Mc x p.1 q.1 p.2.2.2.2.2.2.2.1 q.2.2.2.2.2.2.1 p.2.2.2.2.2.2.2.2 q.2.2.2.2.2.2.2) (fun D hD=>⟨rfl,cx,hD,rfl,hl,Nw,rfl⟩) (fun e D h=>⟨rfl,rfl,rfl,fun g=>absurd g h⟩)).mono fun u u' hu=>?_)
 cases u<;>cases u'
 .obtain⟨rfl,h1,h2⟩:=hu;exact .some ⟨rfl,rfl,rfl,fun _=>⟨h1,h2⟩⟩
 .exact hu.elim
 .exact hu.elim
 .exact hu
end L
end Go.Proofs.YtmihpkfkbfgigaaGreatDoor
end
section
open _root_.Int renaming toNat_natCast->al1
open _root_.Go.IntKind renaming i64->alT
open _root_.List renaming append_assoc->amk,getElem?_eq_getElem->alV,getElem_mem->al0,replicate->alX,replicate_succ->amX,set_append_right->amz,take_length->amc
open _root_.Option renaming bind_some->alS,some->anE
open _root_.Sum renaming inr->amP
namespace Go.Proofs.YtmihpkfkbfgigaaGreatDoor
open Go Go.RowKit
set_option maxRecDepth 100000
set_option linter.unusedSimpArgs false
set_option linter.unusedVariables false
namespace L
theorem zI(l:List Int)(h:l.length<=100000):M.om aB l l=some true:=by
 apply Wp.eq;unfold M.om;rw[if_neg (by simp)]
 refine Wp.count (fun s=>s) l.length (fun _ _=>True) (by omega) rfl trivial fun k s hk hs _=>?_
 obtain rfl:s=_:=hs
 refine Wp.seq (fun j=>j=decide (k<l.length)) ?_ fun j hj=>?_
 .refine Wp.dec (fun h=> .some ?_) fun h=> .some ?_
  .simp
  .simp;omega
 .subst hj
  refine Wp.dec (fun aj=>?_) fun _=> .some rfl
  rw[ah aj,alS,alS,if_neg (by simp)];exact .some ⟨aj,bV (m:=l.length) (by omega) aj,trivial⟩
theorem uU(l:List Vl)(h:l.length<=100000):M.mj aB l l=some true:=by
 apply Wp.eq;unfold M.mj;rw[if_neg (by simp)]
 refine Wp.count (fun s=>s) l.length (fun _ _=>True) (by omega) rfl trivial fun k s hk hs _=>?_
 obtain rfl:s=_:=hs
 refine Wp.seq (fun j=>j=decide (k<l.length)) ?_ fun j hj=>?_
 .refine Wp.dec (fun h=> .some ?_) fun h=> .some ?_
  .simp
  .simp;omega
 .subst hj
  refine Wp.dec (fun aj=>?_) fun _=> .some rfl
  rw[ah aj,alS,alS,if_neg (by rw[xu];decide)];exact .some ⟨aj,bV (m:=l.length) (by omega) aj,trivial⟩
theorem JN(l:List ai.den)(h:l.length<=100000)(hm:∀r∈l,r.1.length<=100000/\r.2.length<=100000):M.gX aB l l=some true:=by
 apply Wp.eq;unfold M.gX;rw[if_neg (by simp)]
 refine Wp.count (fun s=>s) l.length (fun _ _=>True) (by omega) rfl trivial fun k s hk hs _=>?_
 obtain rfl:s=_:=hs
 refine Wp.seq (fun j=>j=decide (k<l.length)) ?_ fun j hj=>?_
 .refine Wp.dec (fun h=> .some ?_) fun h=> .some ?_
  .simp
  .simp;omega
 .subst hj
  refine Wp.dec (fun aj=>?_) fun _=> .some rfl
  have:=hm _ (al0 aj)
  have e:M.iN aB l[k] l[k]=some true:=by
   unfold M.iN;rw[uU _ this.1,alS,if_pos rfl,zI _ this.2];rfl
  rw[ah aj,alS,alS,e,alS,if_neg (by simp)];exact .some ⟨aj,bV (m:=l.length) (by omega) aj,trivial⟩
abbrev Rs:=au.den×List af.den×List Int×List ai.den
def Bd(p:Rs):Prop:=p.2.1.length<=100000/\p.2.2.1.length<=100000/\p.2.2.2.length<=100000/\∀r∈p.2.2.2,r.1.length<=100000/\r.2.length<=100000
theorem xK(e:au.den):Bd (e,([],([],[]))):=⟨by simp,by simp,by simp,fun r h=>by cases h⟩
theorem PU(n:Nat)(h:n<=100000){body:Int×List Bool->Option ((Int×List Bool)⊕List Bool)}(hb:∀(k:Nat)(l:List Bool),l.length=n->body ((k:Int),l)=if k<n then(if(k:Int)<(n:Int)then some (Sum.inl (((k+1:Nat):Int),aH l (k:Int) true))else none)else some (amP l)):Loop (S:=Int×List Bool) (X:=List Bool) body aB ((0:Int),alX n false)=some (alX n true):=by
 apply Wp.eq
 refine Wp.count (fun s=>s.1) n (fun k s=>s.2=alX k true++alX (n-k) false) (by omega) rfl (by simp) fun k s hk hs hJ=>?_
 obtain⟨c,l⟩:=s;dsimp only at hs hJ;subst hs
 have hl:l.length=n:=by rw[hJ];simp;omega
 rw[hb k l hl];by_cases h:k<n
 .rw[if_pos h,if_pos (by omega)];refine .some ⟨h,rfl,?_⟩;dsimp only;rw[hJ]
  obtain⟨q,hq⟩:∃q,n-k=q+1:=⟨n-k-1,by omega⟩
  rw[hq,show n-(k+1)=q by omega];unfold aH;rw[al1,amz _ _ (by simp),List.length_replicate,Nat.sub_self,amX,List.set_cons_zero,List.replicate_succ' (n:=k),amk];rfl
 .rw[if_neg h]
  have:k=n:=by omega
  subst this;refine .some (show l=alX k true from ?_);rw[hJ];simp
theorem zJ(fs:List Fd)(h:fs.length<=100000)(d:Int)(vs:List Vl)(T:List av.den):Loop (S:=Int×Int×(List af.den)×(List av.den)×List aa.den) (X:=Int×(List af.den)×(List av.den)×List aa.den) (fun s8=>
(if(decide (s8.1<(fs.length:Int)))=true then
(idx fs s8.1).bind fun x9=>
(bZ s8.2.2.2.2 ([x9.2]:List aa.den)).bind fun u7=>
some (Sum.inl (alT.wrap (s8.1+(1:Int)),s8.2.1,s8.2.2.1,s8.2.2.2.1,u7))
else
some (amP (s8.2.1,s8.2.2.1,s8.2.2.2.1,s8.2.2.2.2)))) aB ((0:Int),d,vs,T,([]:List aa.den))=some (d,vs,T,fs.map (·.2)):=by
 apply Wp.eq
 refine Wp.count (fun s=>s.1) fs.length (fun k s=>s.2=(d,vs,T,(fs.take k).map (·.2))) (by omega) rfl rfl fun k s hk hs hJ=>?_
 obtain⟨c,s⟩:=s;dsimp only at hs hJ;subst hs hJ
 refine Wp.dec (fun aj=>?_) fun hge=>?_
 .have aj:k<fs.length:=by dsimp only at aj;omega
  dsimp only;rw[ah aj,alS,bh (by simp;omega),alS];refine .some ⟨aj,bV (m:=fs.length) (by omega) aj,?_⟩
  show(d,vs,T,(fs.take k).map (·.2)++[fs[k].2])=(d,vs,T,(fs.take (k+1)).map (·.2))
  rw[List.take_add_one,alV aj,List.map_append];rfl
 .have hge:k=fs.length:=by dsimp only at hge;omega
  subst hge;refine .some ?_;rw[amc];rfl
theorem kR.left{α β γ:Type}{a:Option α}{b:Option β}{f:α->γ}{Q:γ->β->Prop}(h:kR a b fun x y=>Q (f x) y):kR (a.bind fun x=>anE (f x)) b Q:=by
 obtain⟨x,y,rfl,rfl,h⟩:=h;exact⟨_,_,rfl,rfl,h⟩
theorem PV{l:Lw}(hw:WF bU l)(kh:gZ l)(at_:Int)(c:eY.den)(h:¬Valid l):M.cm aB l at_ c false 0=some ((1:Int),((-1:Int),((-1:Int),(-1:Int)))):=by
 unfold M.cm;rw[vF l hw kh,alS,if_pos (by simpa using(show¬(ue l).1=0 from h))]
theorem PW{l:Lw}(hw:WF bU l)(kh:gZ l)(at_:Int)(c:eY.den)(h:Valid l)(ho:at_<0\/(l.2.2.length:Int)<=at_):M.cm aB l at_ c false 0=some ((6:Int),((-1:Int),((-1:Int),(-1:Int)))):=by
 unfold M.cm;rw[vF l hw kh,alS,if_neg (by simpa using(show(ue l).1=0 from h))];by_cases h1:at_<0
 .rw[if_pos (decide_eq_true h1),alS,if_pos rfl]
 .rw[if_neg (by simpa using h1),if_pos (decide_eq_true (ho.resolve_left h1)),alS,if_pos rfl]
theorem Tq{l:Lw}(hw:WF bU l)(kh:gZ l){k:Nat}(hk:k<l.2.2.length)(c:eY.den)(h:Valid l){y:Int×Int×Int}(hy:M.eI aB l (k:Int) c=some y):M.cm aB l (k:Int) c false 0=some (if(y.2.2:Int)=0 then((0:Int),((0:Int),((0:Int),(0:Int))))else(y.2.2,(y.1,((-1:Int),(-1:Int))))):=by
 unfold M.cm;rw[vF l hw kh,alS,if_neg (by simpa using(show(ue l).1=0 from h)),if_neg (by simp),if_neg (by rw[decide_eq_true_eq];omega),if_neg (by simp),alS,if_neg (by simp),hy,alS];by_cases h0:(y.2.2:Int)=0
 .rw[if_neg (by simpa using h0),if_pos h0]
 .rw[if_pos (by simpa using h0),if_neg h0]
theorem xL(n:Nat)(h:n<=100000):Loop (S:=Int×List Bool) (X:=List Bool) (fun s4=>
(if(decide (s4.1<(((alX n false).length:Nat):Int)))=true then
(idx s4.2 s4.1).bind fun x5=>
some (Sum.inl (alT.wrap (s4.1+(1:Int)),aH s4.2 s4.1 true))
else
some (amP s4.2))) aB ((0:Int),alX n false)=some (alX n true):=by
 refine PU n h fun k l hl=>?_
 dsimp only;rw[List.length_replicate];by_cases hk:k<n
 .rw[if_pos (decide_eq_true (by omega)),if_pos hk,if_pos (by omega),ah (by omega),alS,bV (m:=n) (by omega) hk]
 .rw[if_neg (by rw[decide_eq_true_eq];omega),if_neg hk]
end L
end Go.Proofs.YtmihpkfkbfgigaaGreatDoor
end
section
open _root_.Int renaming eq_ofNat_of_zero_le->al8,toNat_natCast->al1
open _root_.List renaming getElem?_eq_getElem->alV,getElem?_eq_some_iff->alW,getElem?_map->amD,getElem_mem->al0,getElem_of_mem->amb,mem_append->amf,mem_cons_self->amQ,replicate->alX
open _root_.Option renaming bind_some->alS,map_eq_some_iff->amY,some->anE
namespace Go.Proofs.YtmihpkfkbfgigaaGreatDoor
open Go Go.RowKit
set_option maxRecDepth 100000
set_option linter.unusedSimpArgs false
set_option linter.unusedVariables false
namespace L
theorem Hn{l:Lw}{x:gw}(h:¬(0:Int)<=x.2.1):(dt l x).2.2.2.2.1=[]:=by
 show(match l.2.2[(x.2.1:Int).toNat]? with|some y=>if 0<=(x.2.1:Int)then y.2.2.2.1.map (fun f:Fd=>f.2)else[]|none=>[])=[]
 split
 .rw[if_neg h]
 .rfl
theorem PX{l:Lw}{x:gw}{q:Nat}(hq:q<l.2.2.length)(h:(x.2.1:Int)=(q:Int)):(dt l x).2.2.2.2.1=l.2.2[q].2.2.2.1.map (fun f:Fd=>f.2):=by
 show(match l.2.2[(x.2.1:Int).toNat]? with|some y=>if 0<=(x.2.1:Int)then y.2.2.2.1.map (fun f:Fd=>f.2)else[]|none=>[])=_
 rw[h,al1,alV hq];dsimp only;rw[if_pos (show(0:Int)<=(q:Int)from Int.natCast_nonneg q)]
theorem kR.one{α β:Type}{a:Option α}{y:β}{A:α->Prop}{Q:α->β->Prop}(h:Wp a A)(k:∀x,A x->Q x y):kR a (anE y) Q:=by
 obtain⟨x,rfl,h⟩:=h;exact⟨_,_,rfl,rfl,k x h⟩
theorem Xk{l:Lw}(hv:Valid l){k:Nat}(hk:k<l.2.2.length)(h:(0:Int)<=l.2.2[k].2.1):∃q,∃hq:q<l.2.2.length,(l.2.2[k].2.1:Int)=(q:Int)/\(l.2.2[q].2.1:Int)= -1:=by
 have hb:=(hv.scope k hk).2.2.1;unfold pQ at hb;obtain⟨q,e⟩:=al8 h;have e':(l.2.2[k].2.1:Int)=(q:Int):=e;by_cases h1:(l.2.2[k].2.1:Int)= -1
 .have th:((q:Nat):Int)= -1:=e'.symm.trans h1;omega
 .have hb:=fun g=>hb ⟨h1,g⟩
  have hqk:q<k:=by
   by_cases g:(k:Int)<=l.2.2[k].2.1
   .exact absurd (.inr (.inl g)) hb
   .have g':¬(k:Int)<=(q:Int):=fun z=>g (e'▸z)
    omega
  have hq:q<l.2.2.length:=by omega
  refine⟨q,hq,e',?_⟩;by_cases g:(l.2.2[q].2.1:Int)= -1
  .exact g
  .refine absurd (.inr (.inr ⟨l.2.2[q],?_,g⟩)) hb;rw[e',al1,alV hq]
theorem Nl{l:Lw}(kh:gZ l)(hv:Valid l){k:Nat}(hk:k<l.2.2.length):∃ms:gw,M.il aB l (k:Int)=some (l.2.2[k],ms,alX l.2.2[k].2.2.2.1.length false,alX ms.2.2.2.1.length false)/\ms.2.2.2.1.length<=14/\((¬(0:Int)<=l.2.2[k].2.1/\ms.2.2.2.1=[])\/∃q,∃hq:q<l.2.2.length,(l.2.2[k].2.1:Int)=(q:Int)/\(l.2.2[q].2.1:Int)= -1/\ms=l.2.2[q]):=by
 have Db:=(kh.2.2.2.2.2 _ (al0 hk)).2.2.1;by_cases h:(0:Int)<=l.2.2[k].2.1
 .obtain⟨q,hq,e,e1⟩:=Xk hv hk h;have q14:=(kh.2.2.2.2.2 _ (al0 hq)).2.2.1;refine⟨l.2.2[q],?_,q14, .inr ⟨q,hq,e,e1,rfl⟩⟩
  have ei:idx l.2.2 l.2.2[k].2.1=some l.2.2[q]:=by
   rw[show idx l.2.2 l.2.2[k].2.1=idx l.2.2 (q:Int)from congrArg _ e,ah hq]
  unfold M.il;rw[ah hk,alS,oR _ _ (by omega),alS,if_pos (decide_eq_true h),ei,alS,oR _ _ (by omega),alS,alS]
 .refine⟨(ByteArray.empty,((0:Int),(([]:List Fd),(([]:List Fd),([]:List jK))))),?_,by simp, .inl ⟨h,rfl⟩⟩;unfold M.il;rw[ah hk,alS,oR _ _ (by omega),alS,if_neg (by simpa using h),alS];rfl
theorem Nn(l:Lw)(hw:WF bU l)(kh:gZ l)(at_:Int)(c:eY.den)(h1:c.2.1.length<=14)(h2:c.2.2.length<=10)(h3:∀vs∈c.2.2,vs.length<=14):kR (M.oK aB l at_ c) (M.jx aB l at_ c) fun p q=>p=q/\Bd q:=by
 unfold M.oK M.jx;rw[vF l hw kh,alS];by_cases hv:Valid l
 rotate_left
 .rw[PV hw kh at_ c hv,alS,if_pos (by simp),if_pos (by simpa using(show¬(ue l).1=0 from hv))];exact .some ⟨rfl,xK _⟩
 have N1:(ue l).1=0:=hv;rw[if_neg (show¬(!decide ((ue l).1=0))=true by simpa using N1)];by_cases ho:at_<0\/(l.2.2.length:Int)<=at_
 .rw[PW hw kh at_ c hv ho,alS,if_pos (by simp)]
  have hj:((if(decide (at_<(0:Int)))=true then some true else some (decide ((l.2.2.length:Int)<=at_))):Option Bool)=some true:=by
   by_cases g:at_<0
   .rw[if_pos (decide_eq_true g)]
   .rw[if_neg (by simpa using g),decide_eq_true (ho.resolve_left g)]
  rw[hj,alS,if_pos rfl];exact .some ⟨rfl,xK _⟩
 obtain⟨k,rfl⟩:=al8 (show 0<=at_ by omega)
 have hk:k<l.2.2.length:=by omega
 have hj:((if(decide ((k:Int)<(0:Int)))=true then some true else some (decide ((l.2.2.length:Int)<=(k:Int)))):Option Bool)=some false:=by
  rw[if_neg (by rw[decide_eq_true_eq];omega),decide_eq_false (by omega)]
 rw[hj,alS,if_neg (by decide)];obtain⟨y,hy,hyc⟩:=PR hv.enl kh hk c h1 h2 h3;rw[Tq hw kh hk c hv hy,hy,alS,alS];by_cases h0:(y.2.2:Int)=0
 rotate_left
 .rw[if_neg h0,if_pos (show(!decide ((y.2.2:Int)=0))=true by simpa using h0),if_pos (show(!decide ((y.2.2:Int)=0))=true by simpa using h0)];exact .some ⟨rfl,xK _⟩
 have hC:=hyc h0;rw[if_pos h0,if_neg (by simp),if_neg (by simpa using h0)];have rM:=kh.2.2.2.2.2 _ (al0 hk);have vf:=hw.2.2.2 _ (al0 hk);have WY:=(hv.scope k hk).2.2.2.2.2.2.1;have Db:=rM.2.2.1;obtain⟨m,em,hm⟩:=xJ l hw kh hv k hk c.1;obtain⟨ms,en,m14,Nw⟩:=Nl kh hv hk;rw[en,alS];dsimp only;rw[xL _ (by omega),alS,xL _ (by omega),alS];refine kR.left ?_;unfold M.kz;rw[zJ _ (by omega),alS]
 have X6:(dt l l.2.2[k]).2.2.2.2.1=ms.2.2.2.1.map (fun f:Fd=>f.2):=by
  rcases Nw with⟨g1,g2⟩|⟨q,hq,g1,_,rfl⟩
  .rw[Hn g1,g2];rfl
  .exact PX hq g1
 refine kR.join ?_;dsimp only
 refine kR.mono (Q:=JH (fun j j'=>∃(Ms:List (List Vl))(MR:List ai.den),j=(alX ms.2.2.2.1.length true,c.1,c.2.1,l.2.1,ms.2.2.2.1.map (fun f:Fd=>f.2),Ms,MR)/\j'=(c.1,c.2.1,l.2.1,MR,Ms,ms.2.2.2.1.map (fun f:Fd=>f.2))/\Ms.length<=100/\(∀D∈Ms,NL D ms.2.2.2.1)/\MR.length<=100/\∀r∈MR,r.1.length<=100000/\r.2.length<=100000) (fun p q=>(p.2.2.2.1,p.2.2.2.2.2.2.2.2.1,p.2.2.2.2.2.2.2.2.2.1,p.2.2.2.2.2.2.2.2.2.2.1)=q/\Bd q)) ?_ fun u u' hu=>?_
 .rw[ah hk,alS]
  rcases Nw with⟨g1,g2⟩|⟨q,hq,g1,gn,rfl⟩
  .rw[if_neg (by simpa using g1),g2]
   have hc0:c.2.2.length=0:=by
    rcases hc:c.2.2 with _|⟨vs,t⟩
    .rfl
    .obtain⟨q,_,e,_⟩:=hC.mem vs (by rw[hc];exact amQ ..);exact absurd (show(0:Int)<=l.2.2[k].2.1 from e▸Int.natCast_nonneg q) g1
   refine kR.one (A:=fun r=>r=Sum.inl (alX 0 true,c.1,c.2.1,l.2.1,([]:List Ty),([]:List (List Vl)),([]:List ai.den))) ?_ fun r hr=>?_
   .refine Wp.count (fun s=>s.1) 0 (fun _ s=>s.2=(alX 0 true,c.1,c.2.1,l.2.1,([]:List Ty),([]:List (List Vl)),([]:List ai.den))) (by omega) rfl rfl fun k s hk hs hJ=>?_
    obtain⟨i,s⟩:=s;dsimp only at hs hJ;subst hs hJ;rw[if_neg (by rw[decide_eq_true_eq,hc0];omega)];exact .some rfl
   .subst hr;exact⟨[],[],rfl,rfl,by simp,(fun D h=>by cases h),by simp,fun r h=>by cases h⟩
  .obtain⟨mm,emm,JQ⟩:=xJ l hw kh hv q hq c.1;have hsq:=kh.2.2.2.2.2 _ (al0 hq);have hwq:=hw.2.2.2 _ (al0 hq);have hrq:=(hv.scope q hq).2.2.2.2.2.2.1
   have hnq:(dt l l.2.2[q]).2.2.2.2.1=[]:=Hn (fun g=>by
    have:(0:Int)<=-1:=gn▸g
    omega)
   rw[if_pos (decide_eq_true (show(0:Int)<=l.2.2[k].2.1 from g1▸Int.natCast_nonneg q)),show M.cq aB l l.2.2[k].2.1 c.1=M.cq aB l (q:Int) c.1 by rw[g1],emm,alS,JQ.scope,zJ _ (by omega),alS];have h8:=hC.le
   refine kR.count c.2.2.length (fun i s s'=>∃(Ms:List (List Vl))(MR:List ai.den),s=((i:Int),alX l.2.2[q].2.2.2.1.length true,c.1,c.2.1,l.2.1,l.2.2[q].2.2.2.1.map (fun f:Fd=>f.2),Ms,MR)/\s'=((i:Int),c.1,c.2.1,l.2.1,l.2.2[q].2.2.2.1.map (fun f:Fd=>f.2),MR,Ms)/\Ms.length=i/\(∀D∈Ms,NL D l.2.2[q].2.2.2.1)/\MR.length=i/\∀r∈MR,r.1.length<=100000/\r.2.length<=100000) (by omega) ⟨[],[],rfl,rfl,rfl,(fun D h=>by cases h),rfl,fun r h=>by cases h⟩ fun i s s' hi hJ=>?_
   obtain⟨Ms,MR,rfl,rfl,j1,j2,j3,j4⟩:=hJ
   refine kR.dec (fun ad7=>?_) fun hge=> .some ⟨Ms,MR,rfl,rfl,by omega,j2,by omega,j4⟩
   have aj:i<c.2.2.length:=by dsimp only at ad7;omega
   dsimp only;rw[ah aj,alS,alS];obtain⟨q',nq,e',cx⟩:=hC.mem _ (al0 aj)
   obtain rfl:q'=q:=by
    have:((q':Nat):Int)=(q:Int):=e'.symm.trans g1;omega
   refine kR.seq _ (PT hw JQ hsq hwq hrq hnq (i:Int) cx) fun p p' hp=>?_
   obtain⟨⟨r1,r2,r3,r4⟩,r5⟩:=hp;rw[<-r1,<-r2,<-r3,r5];by_cases hz:(p.1.1:Int)=0
   .obtain⟨d1,d2⟩:=r4 hz;rw[if_neg (by simpa using hz),if_neg (by simpa using hz),bh (by simp;omega),alS,alS,bh (by simp;omega),alS,alS];refine .some ⟨aj,Ms++[p.2.2.2.2.2.2],MR++[(p.2.2.2.2.2.2,p.2.2.2.2.2.1)],?_,?_,by simp[j1],fun D hD=>?_,by simp[j3],fun r hr=>?_⟩
    .rw[bV (m:=c.2.2.length) (by omega) aj]
    .rw[bV (m:=c.2.2.length) (by omega) aj]
    .rcases amf.1 hD with h|h
     .exact j2 D h
     .obtain rfl:D=p.2.2.2.2.2.2:=by simpa using h
      exact d1
    .rcases amf.1 hr with h|h
     .exact j4 r h
     .obtain rfl:r=(p.2.2.2.2.2.2,p.2.2.2.2.2.1):=by simpa using h
      have:=d1.1;exact⟨by dsimp only;omega,by dsimp only;omega⟩
   .rw[if_pos (by simpa using hz),if_pos (by simpa using hz)];exact .some ⟨rfl,xK _⟩
 .cases u<;>cases u'
  .obtain⟨Ms,MR,rfl,rfl,k1,k2,k3,k4⟩:=hu
   show kR _ _ _
   dsimp only;rw[em,alS,<-X6]
   refine kR.seq _ (Nk hw hm rM vf WY (-1) hC.inp k1 fun D hD i t ht=>?_) fun p p' hp=>?_
   .rw[X6,amD]at ht;obtain⟨f,hf,rfl⟩:=amY.1 ht;have hD:=k2 D hD;have hl:=(alW.1 hf).1
    have r9:i<D.length:=by rw[hD.1];exact hl
    exact⟨_,alV r9,hD.2 i _ f (alV r9) hf⟩
   .obtain⟨r1,r2,r3,r4⟩:=hp;rw[<-r1,<-r2,<-r3];by_cases hz:(p.1.1:Int)=0
    .obtain⟨d1,d2⟩:=r4 hz;have:=d1.1;rw[if_neg (by simpa using hz),if_neg (by simpa using hz)];exact .some ⟨rfl,by dsimp only;omega,by dsimp only;omega,by dsimp only;omega,k4⟩
    .rw[if_pos (by simpa using hz),if_pos (by simpa using hz)];exact .some ⟨rfl,xK _⟩
  .exact hu.elim
  .exact hu.elim
  .exact hu
theorem Bg(c:eY.den):Wp (M.lf aB c) fun r=>r=true->c.2.1.length<=14/\c.2.2.length<=10/\∀vs∈c.2.2,vs.length<=14:=by
 unfold M.lf
 refine Wp.seq (fun j=>j=false->c.2.1.length<=14/\c.2.2.length<=10) ?_ fun j hj=>?_
 .refine Wp.dec (fun _=> .some fun h=>by cases h) fun h=> .some fun g=>?_
  have g:=of_decide_eq_false g;exact⟨by omega,by omega⟩
 refine Wp.ite (fun _=> .some fun h=>by cases h) fun hc=>?_
 obtain⟨g1,g2⟩:=hj (by simpa using hc)
 refine Wp.count (fun s=>s) c.2.2.length (fun k _=>∀i(h:i<c.2.2.length),i<k->c.2.2[i].length<=14) (by omega) rfl (fun i h g=>by omega) fun k s hk hs hJ=>?_
 obtain rfl:s=_:=hs
 refine Wp.dec (fun aj=>?_) fun hge=> .some fun _=>⟨g1,g2,fun vs TS=>?_⟩
 .have aj:k<c.2.2.length:=by omega
  rw[ah aj,alS]
  refine Wp.dec (fun _=> .some fun h=>by cases h) fun h=> .some ⟨aj,bV (m:=c.2.2.length) (by omega) aj,fun i hi Nt=>?_⟩
  by_cases e:i<k
  .exact hJ i hi e
  .obtain rfl:i=k:=by omega
   omega
 .obtain⟨i,hi,rfl⟩:=amb TS;exact hJ i hi (by omega)
theorem qG(l:Lw)(scope:Int)(c:eY.den)(hw:WF bU l)(_:WF ae scope)(_:WF eY c):M.jl aB l scope c=some true:=by
 apply Wp.eq;unfold M.jl
 refine Wp.seq (fun j=>j=false->gZ l/\c.2.1.length<=14/\c.2.2.length<=10/\∀vs∈c.2.2,vs.length<=14) ?_ fun j hj=>?_
 .refine Wp.seq _ (Ju l hw) fun y hy=>?_
  cases y with
  |false=>rw[if_pos (by decide)];exact .some fun h=>by cases h
  |true=>
   rw[if_neg (by decide)]
   refine Wp.seq _ (Bg c) fun z hz=> .some fun h=>⟨hy rfl,hz (by simpa using h)⟩
 rw[PK]
 cases j with
 |true=>rw[if_pos rfl];exact .some rfl
 |false=>
 rw[if_neg (by decide)];obtain⟨kh,g1,g2,g3⟩:=hj rfl;obtain⟨p,q,e1,e2,rfl,hb⟩:=Nn l hw kh scope c g1 g2 g3;rw[e1,e2,alS,alS]
 have hs:M.nE aB (p.2.1,(p.2.2.1,p.2.2.2)) (p.2.1,(p.2.2.1,p.2.2.2))=some true:=by
  unfold M.nE;rw[uU _ hb.1,alS,if_pos rfl,zI _ hb.2.1,alS,if_pos rfl,JN _ hb.2.2.1 hb.2.2.2];rfl
 rw[hs,alS,if_pos rfl,if_pos (xu ..)];exact .some rfl
end L
end Go.Proofs.YtmihpkfkbfgigaaGreatDoor
end
