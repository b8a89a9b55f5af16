/- Joined texts: PM5 PY3 PY5 PY6 P27c PQ PQ2. -/
import Derived.Test.YtmihpkfkbfgigaaGreatDoorU9
import Derived.Test.YtmihpkfkbfgigaaGreatDoorU1
section
open _root_.Bool renaming false_eq_true->ajp
open _root_.Int renaming le_refl->akA,toNat_natCast->ajr
open _root_.Go.IntKind renaming i64->ajj
open _root_.List renaming append_assoc->ajH,append_nil->akd,getD->ajN,getD_cons_succ->aky,getD_cons_zero->akx,getElem?_append_left->ajQ,getElem?_append_right->aj6,getElem?_eq_getElem->ajl,getElem?_eq_some_iff->ajn,getElem_append_left->ajv,getElem_append_right->ajA,getElem_mem->ajs,length_append->ajm,length_cons->ajy,length_map->ajM,length_set->akN,length_singleton->ajw,length_take->ajB,replicate->ajq,replicate_succ->ako,set_append_right->aj4,take_append_of_le_length->ajK,take_length->ajD
open _root_.Nat renaming add_assoc->akq,add_zero->akm,le_refl->ajo,zero_add->ajO,zero_le->ajI
open _root_.Option renaming bind_some->aji,getD_some->ajW
open _root_.Option.some renaming inj->ajk
namespace Go.Proofs.YtmihpkfkbfgigaaGreatDoor
open Go Go.RowKit
set_option maxRecDepth 100000
namespace L.P
def mj(g:Nat->Nat->Int->List (Ty×Int)):List Nat->Nat->Int->List (Ty×Int)
 |[],_,_=>[]
 |o::os,b,d=>g o b d++mj g os (b+(g o b d).length) (d+1)
def tS(g:Nat->Nat->Int->List (Ty×Int))(n:Ty)(os:List Nat)(b:Nat)(d:Int):List (Ty×Int):=
 g (os.getD 0 0) b d++(((if(n.1:Int)=24 then 53 else 52,((b+(g (os.getD 0 0) b d).length+1+(g (os.getD 1 0) (b+(g (os.getD 0 0) b d).length+1) d).length:Nat):Int)):Int×Int),d+1)::g (os.getD 1 0) (b+(g (os.getD 0 0) b d).length+1) d
def k9(g:Nat->Nat->Int->List (Ty×Int))(os:List Nat)(b:Nat)(d:Int):Nat:=
 b+(g (os.getD 0 0) b d).length+1+(g (os.getD 1 0) (b+(g (os.getD 0 0) b d).length+1) d).length+1
def Cf(g:Nat->Nat->Int->List (Ty×Int))(os:List Nat)(b:Nat)(d:Int):List (Ty×Int):=
 g (os.getD 0 0) b d++(((50,((k9 g os b d:Nat):Int)):Int×Int),d+1)::(g (os.getD 1 0) (b+(g (os.getD 0 0) b d).length+1) d++(((51,((k9 g os b d+(g (os.getD 2 0) (k9 g os b d) d).length:Nat):Int)):Int×Int),d+1)::g (os.getD 2 0) (k9 g os b d) d)
def cg(e:List Ty)(st:List Nat):Nat->Nat->Nat->Int->List (Ty×Int)
 |0,_,_,_=>[]
 |f+1,i,b,d=>
  if((e.getD i ((0,0):Int×Int)).1:Int)=23\/((e.getD i ((0,0):Int×Int)).1:Int)=24 then tS (cg e st f) (e.getD i ((0,0):Int×Int)) (opsL st (ar (e.getD i ((0,0):Int×Int)).1).toNat i) b d
  else if((e.getD i ((0,0):Int×Int)).1:Int)=26 then Cf (cg e st f) (opsL st (ar (e.getD i ((0,0):Int×Int)).1).toNat i) b d
  else mj (cg e st f) (opsL st (ar (e.getD i ((0,0):Int×Int)).1).toNat i) b d++[(e.getD i ((0,0):Int×Int),d+((ar (e.getD i ((0,0):Int×Int)).1).toNat:Nat))]
theorem zR(g:Nat->Nat->Int->List (Ty×Int)):∀(xs ys:List Nat)(b:Nat)(d:Int),mj g (xs++ys) b d=mj g xs b d++mj g ys (b+(mj g xs b d).length) (d+xs.length)
 |[],ys,b,d=>by simp[mj]
 |x::xs,ys,b,d=>by
  rw[List.cons_append,mj,mj,zR g xs ys];simp only[ajm,ajy,ajH];rw[show b+(g x b d).length+(mj g xs (b+(g x b d).length) (d+1)).length=b+((g x b d).length+(mj g xs (b+(g x b d).length) (d+1)).length) by omega,show d+1+(xs.length:Int)=d+((xs.length+1:Nat):Int) by omega]
theorem FO{st:List Nat}{g:Nat->Nat->Int->List (Ty×Int)}{P:Nat}(hg:∀(o s b:Nat)(d:Int),o<P->st[o]? =some s->s<=o->(g o b d).length<=2*(o+1-s)):∀(a i:Nat)(l:List Nat),Ch st i l->a<=l.length->i<=P->∀(b:Nat)(d:Int),(mj g (opsL st a i) b d).length<=2*(i-mi (a:Int) i l)
 |0,i,l,_,_,_,b,d=>by simp[opsL,mj]
 |a+1,i,l,c,ha,hi,b,d=>by
  cases c with
  |nil=>simp at ha
  | @snoc j s l h1 h2 c=>
    have hg':st.getD (j+1-1) 0=s:=by simp[ajN,h1]
    have e1:opsL st (a+1) (j+1)=opsL st a s++[j]:=by rw[opsL,hg'];rfl
    have MJ:a<=l.length:=by rw[ajm,ajw]at ha;omega
    have ih:=FO hg a s l c MJ (by omega) b d;have hj:=hg j s (b+(mj g (opsL st a s) b d).length) (d+(opsL st a s).length) (by omega) h1 h2
    have es:mi ((a+1:Nat):Int) (j+1) (l++[s])=if a=0 then s else mi (a:Int) s l:=by
     unfold mi
     have en:((a+1:Nat):Int).toNat=a+1:=by omega
     have e3:l.length+1-(a+1)=l.length-a:=by omega
     rw[if_neg (by omega),ajm,ajw,en,e3];by_cases h0:a=0
     .rw[if_pos h0,h0];simp[ajN]
     .have ao:l.length-a<l.length:=by omega
      rw[if_neg h0,if_neg (by omega),ajr];simp[ajN,ajQ ao]
    have hle:mi (a:Int) s l<=s:=zO (by omega) c (by omega)
    have Hl:a=0->mi (a:Int) s l=s:=fun h=>by unfold mi;rw[if_pos (by omega)]
    rw[e1,zR,ajm,es];simp only[mj,akd];split
    .rename_i h0;have:=Hl h0;omega
    .omega
theorem FP{g:Nat->Nat->Int->List (Ty×Int)}(hg:∀(o b b':Nat)(d d':Int),(g o b d).length=(g o b' d').length):∀(os:List Nat)(b b':Nat)(d d':Int),(mj g os b d).length=(mj g os b' d').length
 |[],_,_,_,_=>rfl
 |o::os,b,b',d,d'=>by
  rw[mj,mj,ajm,ajm,hg o b b' d d',FP hg os _ (b'+(g o b' d').length) _ (d'+1)]
theorem K7(e:List Ty)(st:List Nat):∀(f i b b':Nat)(d d':Int),(cg e st f i b d).length=(cg e st f i b' d').length
 |0,_,_,_,_,_=>rfl
 |f+1,i,b,b',d,d'=>by
  have ih:=K7 e st f;rw[cg,cg];split
  .unfold tS;simp only[ajm,ajy];rw[ih _ b b' d d',ih _ (b+_+1) (b'+((cg e st f ((opsL st (ar (e.getD i ((0,0):Int×Int)).1).toNat i).getD 0 0) b' d').length)+1) d d']
  split
  .unfold Cf;simp only[ajm,ajy];rw[ih _ b b' d d',ih _ (b+_+1) (b'+((cg e st f ((opsL st (ar (e.getD i ((0,0):Int×Int)).1).toNat i).getD 0 0) b' d').length)+1) d d',ih _ (k9 (cg e st f) _ b d) (k9 (cg e st f) (opsL st (ar (e.getD i ((0,0):Int×Int)).1).toNat i) b' d') d d']
  .simp only[ajm,ajy];rw[FP ih _ b b' d d']
theorem K8{e:List Ty}{st:List Nat}(w:Whole e st):∀(f i s b:Nat)(d:Int),i<e.length->st[i]? =some s->s<=i->(cg e st f i b d).length<=2*(i+1-s)
 |0,i,s,b,d,_,_,_=>by simp[cg]
 |f+1,i,s,b,d,hi,hs,hsi=>by
  obtain⟨v1,l,v2,v3,v4,v5⟩:=w.val.node i hi
  have hge:e.getD i ((0,0):Int×Int)=e[i]:=by simp only[ajN,ajl hi,ajW]
  have wZ:s=mi (ar e[i].1) i l:=by rw[hs]at v5;exact ajk v5
  obtain⟨a,ha⟩:∃a:Nat,ar e[i].1=a:=⟨(ar e[i].1).toNat,by omega⟩
  have key:=FO (st:=st) (g:=cg e st f) (P:=i) (fun o s b d ho Ni abl=>K8 w f o s b d (by omega) Ni abl) a i l v2 (by omega) (ajo _);have fZ:mi (a:Int) i l<=i:=zO (by omega) v2 (by omega);rw[ha]at wZ;rw[cg,hge]
  have han:(ar e[i].1).toNat=a:=by omega
  rw[han];have ih:=K7 e st f;have key:=key b d;split
  .rename_i fM
   have h2:a=2:=by
    have:ar e[i].1=2:=by rcases fM with h|h<;>rw[h]<;>rfl
    omega
   subst h2;obtain⟨o0,o1,Mg⟩:=Ei (cT st 2 i);rw[Mg]at key⊢;unfold tS;simp only[mj,akd,ajm,ajy,akx,aky]at key⊢;have:=ih o1 (b+(cg e st f o0 b d).length) (b+(cg e st f o0 b d).length+1) (d+1) d;omega
  split
  .rename_i fM
   have h3:a=3:=by
    have:ar e[i].1=3:=by rw[fM];rfl
    omega
   subst h3;obtain⟨o0,o1,o2,Mg⟩:=Cb (cT st 3 i);rw[Mg]at key⊢;unfold Cf;simp only[mj,akd,ajm,ajy,akx,aky]at key⊢;have h1:=ih o1 (b+(cg e st f o0 b d).length) (b+(cg e st f o0 b d).length+1) (d+1) d;have h2:=ih o2 (b+(cg e st f o0 b d).length+(cg e st f o1 (b+(cg e st f o0 b d).length) (d+1)).length) (k9 (cg e st f) [o0,o1,o2] b d) (d+1+1) d;omega
  .rw[ajm,ajw];omega
theorem K9{e:List Ty}{st:List Nat}(w:Whole e st){f i b:Nat}{d:Int}(hi:i<e.length):(cg e st f i b d).length<=96:=by
 obtain⟨v1,l,v2,v3,v4,v5⟩:=w.val.node i hi;have hle:=w.le;have:=K8 w f i _ b d hi v5 (zO v1 v2 v3);omega
theorem wu{α:Type}(p q:List α)(x y:α):aQ (p++x::q) (p.length:Int) y=p++y::q:=by
 unfold aQ;rw[ajr,aj4 _ _ (ajo _),Nat.sub_self];rfl
theorem zS{α:Type}(p q:List α)(x:α):idx (p++x::q) (p.length:Int)=some x:=by
 rw[ah (by simp)];simp
abbrev ins(l:List (Ty×Int)):List Ty:=l.map Prod.fst
theorem wy{e:List Ty}{st:List Nat}(w:Whole e st):∀(f i N:Nat),i<f->i<e.length->f<=N->∀(code:List Ty)(d:Int),code.length+400*f<=1000000->M.bo aE N e (i:Int) code=some (code++ins (cg e st f i code.length d))
 |0,_,_,h,_,_,_,_,_=>by omega
 |f+1,i,0,_,_,h,_,_,_=>by omega
 |f+1,i,N+1,hf,hi,hN,code,d,hc=>by
  have ih:=wy w f;have hle:=w.le
  have ao:∀o∈opsL st (ar e[i].1).toNat i,o<i:=fun o ho=>(w.val.ops hi o ho).1
  have U0:∀o∈opsL st (ar e[i].1).toNat i,∀b d,(cg e st f o b d).length<=96:=fun o ho b d=>K9 w (by have:=ao o ho;omega)
  have hge:e.getD i ((0,0):Int×Int)=e[i]:=by simp only[ajN,ajl hi,ajW]
  obtain⟨v1,_⟩:=w.val.node i hi;have Ie:=jP e[i].1;unfold M.bo;rw[Ca w hi,ah hi,cg,hge];simp only[aji];rw[oy];simp only[aji];have hlen:=cT st (ar e[i].1).toNat i;generalize Mg:opsL st (ar e[i].1).toNat i=os at*;by_cases CZ:(e[i].1:Int)=23\/(e[i].1:Int)=24
  .rw[decide_eq_true CZ,if_pos rfl,if_pos CZ]
   have h2:(ar e[i].1).toNat=2:=by rcases CZ with h|h<;>rw[h]<;>rfl
   obtain⟨o0,o1,rfl⟩:=Ei (l:=os) (by omega)
   have fM:(if decide ((e[i].1:Int)=24)=true then some (53:Int)else some (52:Int))=some (if(e[i].1:Int)=24 then(53:Int)else 52):=by
    by_cases h:(e[i].1:Int)=24<;>simp[h]
   rw[fM];have i0:idx (dq [o0,o1]) (0:Int)=some (o0:Int):=rfl;have i1:idx (dq [o0,o1]) (1:Int)=some (o1:Int):=rfl;have l0:=ao o0 (by simp);have l1:=ao o1 (by simp);have n0:=U0 o0 (by simp) code.length d;have r0:=ih o0 N (by omega) (by omega) (by omega) code d (by omega);generalize QZ:cg e st f o0 code.length d=g0 at*
   have xH:(code++ins g0).length=code.length+g0.length:=by simp
   generalize hx:(if(e[i].1:Int)=24 then(53:Int)else 52)=x;have r1:=ih o1 N (by omega) (by omega) (by omega) (code++ins g0++[((x,0):Int×Int)]) d (by rw[ajm,xH,ajw];omega);rw[show(code++ins g0++[((x,0):Int×Int)]).length=code.length+g0.length+1 by rw[ajm,xH,ajw]]at r1
   have hA:tS (cg e st f) e[i] [o0,o1] code.length d=g0++(((x,((code.length+g0.length+1+(cg e st f o1 (code.length+g0.length+1) d).length:Nat):Int)):Int×Int),d+1)::cg e st f o1 (code.length+g0.length+1) d:=by
    unfold tS;simp only[akx,aky,QZ,hx]
   rw[hA];generalize cg e st f o1 (code.length+g0.length+1) d=g1 at*;rw[i0,i1];simp only[aji];rw[r0];simp only[aji];rw[bL (by rw[xH,ajw];omega)];simp only[aji];rw[r1];simp only[aji];rw[ajH (code++ins g0),List.singleton_append,zS];simp only[aji];rw[wu]
   have hn:(((code++ins g0++((x,0):Int×Int)::ins g1:List Ty)).length:Int)=((code.length+g0.length+1+g1.length:Nat):Int):=by
    rw[ajm,xH];simp;omega
   rw[hn];simp[ins]
  rw[decide_eq_false CZ,if_neg (by simp),if_neg CZ];by_cases FJ:(e[i].1:Int)=26
  .rw[decide_eq_true FJ,if_pos rfl,if_pos FJ]
   have h3:(ar e[i].1).toNat=3:=by rw[FJ];rfl
   obtain⟨o0,o1,o2,rfl⟩:=Cb (l:=os) (by omega);have i0:idx (dq [o0,o1,o2]) (0:Int)=some (o0:Int):=rfl;have i1:idx (dq [o0,o1,o2]) (1:Int)=some (o1:Int):=rfl;have i2:idx (dq [o0,o1,o2]) (2:Int)=some (o2:Int):=rfl;have l0:=ao o0 (by simp);have l1:=ao o1 (by simp);have l2:=ao o2 (by simp);have n0:=U0 o0 (by simp) code.length d;have n1:=U0 o1 (by simp);have r0:=ih o0 N (by omega) (by omega) (by omega) code d (by omega);generalize QZ:cg e st f o0 code.length d=g0 at*
   have xH:(code++ins g0).length=code.length+g0.length:=by simp
   have r1:=ih o1 N (by omega) (by omega) (by omega) (code++ins g0++[((50,0):Int×Int)]) d (by rw[ajm,xH,ajw];omega);rw[show(code++ins g0++[((50,0):Int×Int)]).length=code.length+g0.length+1 by rw[ajm,xH,ajw]]at r1;have n1:=n1 (code.length+g0.length+1) d;generalize hg1:cg e st f o1 (code.length+g0.length+1) d=g1 at*;generalize hE:code.length+g0.length+1+g1.length+1=E
   have qX:k9 (cg e st f) [o0,o1,o2] code.length d=E:=by
    unfold k9;simp only[akx,aky,QZ,hg1];exact hE
   have hp:(code++ins g0++((50,(E:Int)):Int×Int)::ins g1).length=code.length+g0.length+1+g1.length:=by rw[ajm,xH];simp;omega
   have r2:=ih o2 N (by omega) (by omega) (by omega) (code++ins g0++((50,(E:Int)):Int×Int)::ins g1++[((51,0):Int×Int)]) d (by rw[ajm,hp,ajw];omega);rw[show(code++ins g0++((50,(E:Int)):Int×Int)::ins g1++[((51,0):Int×Int)]).length=E by rw[ajm,hp,ajw];omega]at r2
   have hI:Cf (cg e st f) [o0,o1,o2] code.length d=g0++(((50,(E:Int)):Int×Int),d+1)::(g1++(((51,((E+(cg e st f o2 E d).length:Nat):Int)):Int×Int),d+1)::cg e st f o2 E d):=by
    unfold Cf;rw[qX];simp only[akx,aky,QZ,hg1]
   rw[hI];generalize cg e st f o2 E d=g2 at*;rw[i0,i1,i2];simp only[aji];rw[r0];simp only[aji];rw[bL (by rw[xH,ajw];omega)];simp only[aji];rw[r1];simp only[aji]
   have hq:(code++ins g0++[((50,0):Int×Int)]++ins g1).length=code.length+g0.length+1+g1.length:=by rw[ajm,ajm,xH];simp
   rw[bL (by rw[hq,ajw];omega)];simp only[aji]
   have hz:code++ins g0++[((50,0):Int×Int)]++ins g1++[((51,0):Int×Int)]=(code++ins g0)++((50,0):Int×Int)::(ins g1++[((51,0):Int×Int)]):=by simp
   have Wk:((code++ins g0++[((50,0):Int×Int)]++ins g1++[((51,0):Int×Int)]).length:Int)=(E:Int):=by rw[ajm,hq,ajw];omega
   rw[Wk,hz,zS];simp only[aji];rw[wu]
   have CR:code++ins g0++((50,(E:Int)):Int×Int)::(ins g1++[((51,0):Int×Int)])=code++ins g0++((50,(E:Int)):Int×Int)::ins g1++[((51,0):Int×Int)]:=by simp
   rw[CR,r2];simp only[aji];rw[ajH (code++ins g0++_::ins g1),List.singleton_append,hq,<-hp,zS];simp only[aji];rw[wu]
   have hn:(((code++ins g0++((50,(E:Int)):Int×Int)::ins g1++((51,0):Int×Int)::ins g2:List Ty)).length:Int)=((E+g2.length:Nat):Int):=by
    rw[ajm,hp];simp;omega
   rw[hn];simp[ins]
  rw[decide_eq_false FJ,if_neg (by simp),if_neg FJ]
  have U1:Loop (S:=Int×List aa.den) (X:=List aa.den) (fun vV=>(if(decide (vV.1<((dq os).length:Int)))=true then(idx (dq os) vV.1).bind fun QC=>(M.bo aE N e QC vV.2).bind fun QD=>some (Sum.inl (ajj.wrap (vV.1+(1:Int)),QD))else some (Sum.inr vV.2))) aE ((0:Int),code)=some (code++ins (mj (cg e st f) os code.length d)):=by
   apply Wp.eq
   have ahk:os.length<=3:=by omega
   refine Wp.loop (fun s:Int×List Ty=>∃k:Nat,s.1=k/\k<=os.length/\s.2=code++ins (mj (cg e st f) (os.take k) code.length d)/\(mj (cg e st f) (os.take k) code.length d).length<=96*k) (fun s=>(os.length-s.1).toNat) ⟨0,rfl,ajI _,by simp[mj],by simp[mj]⟩ (by unfold aE;simp only;omega) ?_
   rintro⟨_,c⟩ ⟨k,rfl,hk,hcd,ahl⟩
   dsimp only at hcd⊢;subst hcd;rw[ajM]
   refine Wp.dec (fun h=>?_) fun h=> .some ?_
   .have dO:k<os.length:=by omega
    have hm:=ajs dO;have NM:=ao _ hm;rw[ah (by simpa using dO)];simp only[aji,List.getElem_map]
    have yf:(code++ins (mj (cg e st f) (os.take k) code.length d)).length=code.length+(mj (cg e st f) (os.take k) code.length d).length:=by simp
    rw[ih _ N (by omega) (by omega) (by omega) _ (d+(os.take k).length) (by rw[yf];omega),yf,az (by omega)]
    have JI:mj (cg e st f) (os.take (k+1)) code.length d=mj (cg e st f) (os.take k) code.length d++cg e st f os[k] (code.length+(mj (cg e st f) (os.take k) code.length d).length) (d+(os.take k).length):=by
     rw[List.take_succ_eq_append_getElem dO,zR];simp[mj]
    have ahm:=U0 _ hm (code.length+(mj (cg e st f) (os.take k) code.length d).length) (d+(os.take k).length);refine .some ⟨⟨k+1,rfl,dO,?_,?_⟩,by simp only;omega⟩
    .rw[JI];simp[ins]
    .rw[JI,ajm];omega
   .show _=_
    rw[List.take_of_length_le (by omega)]
  rw[U1];simp only[aji]
  have VN:(code++ins (mj (cg e st f) os code.length d)).length<=1000000:=by
   have:=K9 w (f:=f+1) (b:=code.length) (d:=d) hi;rw[cg,hge,if_neg CZ,if_neg FJ,Mg,ajm]at this;simp;omega
  rw[bL (by rw[ajw];omega)];simp[ins]
structure FOK(code:List Ty)(F:List Int):Prop where
 pos:0<code.length
 le:code.length<=128
 len:F.length=code.length+1
 bd:∀k,k<=code.length->0<=gd F k/\gd F k<=12
 first:gd F 0=0
 last:gd F code.length=1
 step:∀j(h:j<code.length),iW code.length F j code[j]/\¬bJ code[j].1
 reach:∀k,0<k->k<=code.length->∃j,∃h:j<code.length,j<k/\((j+1=k/\(code[j].1:Int)≠51)\/((50<=(code[j].1:Int)/\(code[j].1:Int)<=53)/\(code[j].2:Int)=k))
structure Cs(F D:List Int):Prop where
 len:D.length=F.length
 ok:∀k,gd D k= -1\/gd D k=gd F k
theorem Cs.set{F D:List Int}(c:Cs F D){t:Nat}(ht:t<F.length):Cs F (D.set t (gd F t)):=by
 refine⟨by rw[akN,c.len],fun k=>?_⟩;rw[gK (by rw[c.len];exact ht)];split
 .rename_i h;rw[h];exact .inr rfl
 .exact c.ok k
theorem mc{N:Nat}{F D:List Int}(c:Cs F D){t:Nat}(ht:t<F.length):M.aT N (t:Int) (gd F t) D=some (0,D.set t (gd F t)):=by
 have htD:t<D.length:=by rw[c.len];exact ht
 unfold M.aT;rw[jD htD];simp only[aji,aC]
 rcases c.ok t with h|h
 .rw[h];rfl
 .rw[h]
  by_cases h0:0<=gd F t<;>simp[h0,aQ]
def VO(F D:List Int)(i:Nat)(n:Ty):Prop:=((n.1:Int)≠51->gd D (i+1)=gd F (i+1))/\((50<=(n.1:Int)/\(n.1:Int)<=53)->∀t:Nat,(n.2:Int)=t->gd D t=gd F t)
structure Up(F D D':List Int)(i:Nat):Prop where
 low:∀k,k<=i->gd D' k=gd D k
 keep:∀k,gd D k=gd F k->gd D' k=gd F k
theorem Up.set{F D:List Int}{t i:Nat}(ht:t<D.length)(u6:i<t):Up F D (D.set t (gd F t)) i:=by
 refine⟨fun k hk=>?_,fun k hk=>?_⟩<;>rw[gK ht]
 .rw[if_neg (by omega)]
 .split
  .rename_i h;rw[h]
  .exact hk
theorem Up.trans{F A B C:List Int}{i:Nat}(h:Up F A B i)(h':Up F B C i):Up F A C i:=
 ⟨fun k hk=>(h'.low k hk).trans (h.low k hk),fun k hk=>h'.keep k (h.keep k hk)⟩
theorem El{N:Nat}{code:List Ty}{F D:List Int}(f:FOK code F)(c:Cs F D){i:Nat}(hi:i<code.length)(h0:gd D i=gd F i):Wp (M.bA N code (i:Int) code[i] D) fun r=>r.1=0/\Cs F r.2/\Up F D r.2 i/\VO F r.2 i code[i]:=by
 have hle:=f.le;have RV:=f.len;have hDl:=c.len;have hb:=f.bd i (by omega);have E2:=f.bd (i+1) (by omega);obtain⟨hs,Ii⟩:=f.step i hi;unfold M.bA VO;generalize code[i]=n at*;obtain⟨(op:Int),(m:Int)⟩:=n;dsimp only[ae,Row.den]at*;have Ie:=jP op;rw[mC,k8,jD (by omega),cw,uk,h0];simp only[aji]
 have e0:(50<=op/\op<=53\/0<=ar op)->(50<=op/\op<=53->(i:Int)<m/\m<=(code.length:Int))->(if(!decide (¬bJ op/\(50<=op/\op<=53\/0<=ar op)))=true then some true else(if decide (50<=op/\op<=53)=true then(if decide (m<=(i:Int))=true then some true else some (decide ((code.length:Int)<m)))else some false))=some false:=by
  intro g1 g2;rw[decide_eq_true (show¬bJ op/\(50<=op/\op<=53\/0<=ar op)from⟨Ii,g1⟩),if_neg (by simp)];by_cases g:50<=op/\op<=53
  .obtain⟨g3,g4⟩:=g2 g;rw[decide_eq_true g,if_pos rfl,decide_eq_false (by omega),if_neg (by simp),decide_eq_false (by omega)]
  .rw[decide_eq_false g,if_neg (by simp)]
 rcases hs with⟨h1,t,h2,h3,h4,h5⟩|⟨h1,h2,h3,t,h4,h5,h6,h7⟩|⟨h1,h2,h3,h4,h5,h6⟩
 .dsimp only[ae,Row.den]at*;subst h2;rw[e0 (.inl (by omega)) (fun _=>by omega)];simp only[aji,ajp,if_false]
  refine Wp.dec (fun _=>?_) fun h=>absurd h1 h
  rw[<-h5,mc c (by omega)];refine .some ⟨rfl,c.set (by omega),Up.set (by omega) h3,fun h=>absurd h1 h,fun _ u hu=>?_⟩
  obtain rfl:t=u:=by omega
  show gd (D.set t (gd F t)) t=_
  rw[gK (by omega),if_pos rfl]
 .dsimp only[ae,Row.den]at*;subst h4;rw[e0 (.inl (by omega)) (fun _=>by omega)];simp only[aji,ajp,if_false]
  refine Wp.dec (fun h=>by omega) fun _=>?_
  refine Wp.dec (fun _=>?_) fun h=>absurd h1 h
  refine Wp.dec (fun h=>by omega) fun _=>?_
  have w1:ajj.wrap (gd F i-1)=gd F (i+1):=by rw[aM (by omega) (by omega),h3]
  rw[w1,az (by omega),mc c (by omega)];have c1:=c.set (t:=i+1) (by omega);have u1:Up F D (D.set (i+1) (gd F (i+1))) i:=Up.set (by omega) (by omega);simp only[aji]
  refine Wp.jV (fun h=>absurd trivial h) fun _=>?_
  have e7:(if decide (op=50)=true then some (gd F (i+1))else some (gd F i))=some (gd F t):=by
   by_cases An:op=50
   .rw[decide_eq_true An,if_pos rfl,h7,if_pos An,h3]
   .rw[decide_eq_false An,if_neg (by simp),h7,if_neg An]
  rw[e7];simp only[aji];rw[mc c1 (by omega)];have c2:=c1.set (t:=t) (by omega);have u2:Up F (D.set (i+1) (gd F (i+1))) ((D.set (i+1) (gd F (i+1))).set t (gd F t)) i:=Up.set (by rw[akN];omega) h5;refine .some ⟨rfl,c2,u1.trans u2,fun _=>u2.keep _ (by rw[gK (by omega),if_pos rfl]),fun _ u hu=>?_⟩
  obtain rfl:t=u:=by omega
  show gd (((D.set (i+1) (gd F (i+1)))).set t (gd F t)) t=_
  rw[gK (by rw[akN];omega),if_pos rfl]
 .dsimp only[ae,Row.den]at*
  have fM:¬(50<=op/\op<=53):=by
   intro h
   have:op=50\/op=51\/op=52\/op=53:=by omega
   omega
  rw[e0 (.inr h3) (fun h=>absurd h fM)];simp only[aji,ajp,if_false]
  refine Wp.dec (fun h=>absurd h h1) fun _=>?_
  refine Wp.dec (fun h=>absurd h h2) fun _=>?_
  refine Wp.dec (fun h=>by omega) fun _=>?_
  have w1:ajj.wrap (gd F i-ar op)=gd F i-ar op:=aM (by omega) (by omega)
  have w2:ajj.wrap (gd F i-ar op+1)=gd F (i+1):=by rw[aM (by omega) (by omega),h5]
  rw[w1,w2]
  refine Wp.dec (fun h=>by omega) fun _=>?_
  rw[az (by omega),mc c (by omega)];exact .some ⟨rfl,c.set (by omega),Up.set (by omega) (by omega),fun _=>by show gd (D.set (i+1) (gd F (i+1))) (i+1)=_;rw[gK (by omega),if_pos rfl],fun h=>absurd h fM⟩
theorem Ij{code:List Ty}{F:List Int}(f:FOK code F):Wp (M.bH aE code) fun y=>y.2=0:=by
 have hl:=f.le;have hp:=f.pos;have RV:=f.len;unfold M.bH
 refine Wp.dec (fun h=>by omega) fun h1=>?_
 refine Wp.dec (fun h=>by omega) fun h2=>?_
 rw[az (by omega)]
 have uI:mI ((code.length+1:Nat):Int) (0:Int)=some (ajq (code.length+1) 0):=by
  unfold mI;rw[if_pos (by omega),ajr]
 rw[uI];simp only[aji];refine Wp.seq (· =ajq (code.length+1) (-1:Int)) ?_ ?_
 .refine Wp.loop (fun s:Int×List Int=>∃k m:Nat,s=((k:Int),ajq k (-1)++ajq m 0)/\k+m=code.length+1) (fun s=>(code.length+1-s.1).toNat) ⟨0,code.length+1,by simp,by omega⟩ (by unfold aE;simp only;omega) ?_
  rintro _ ⟨k,m,rfl,hk⟩
  simp only[List.length_replicate]
  refine Wp.dec (fun h=>?_) fun h=> .some ?_
  .obtain⟨m,rfl⟩:∃m',m=m'+1:=⟨m-1,by omega⟩
   rw[ah (by simp)];simp only[aji];rw[az (by omega)];refine .some ⟨⟨k+1,m,?_,by omega⟩,by simp only;omega⟩;refine Prod.ext rfl ?_;simp only[aQ,ajr];rw[aj4 _ _ (by simp),ako];simp[List.replicate_succ']
  .obtain rfl:m=0:=by omega
   obtain rfl:k=code.length+1:=by omega
   show _=_
   simp
 rintro _ rfl
 have e1:idx (ajq (code.length+1) (-1:Int)) 0=some (-1):=by rw[ako];rfl
 rw[e1];simp only[aji];have e0:aQ (ajq (code.length+1) (-1:Int)) (0:Int) (0:Int)=(ajq (code.length+1) (-1:Int)).set 0 0:=rfl;rw[e0]
 have g0:∀k,gd ((ajq (code.length+1) (-1:Int)).set 0 0) k=if k=0 then 0 else-1:=fun k=>by
  rw[gK (by simp),zP]
 refine Wp.join (Wp.loop (fun s:Int×Int×List Int=>∃i:Nat,s.2.1=i/\i<=code.length/\Cs F s.2.2/\(∀k,k<=i->gd s.2.2 k=gd F k)/\∀j(h:j<code.length),j<i->VO F s.2.2 j code[j]) (fun s=>(code.length-s.2.1).toNat) ⟨0,rfl,ajI _,⟨by simp[RV],fun k=>?_⟩,fun k hk=>?_,fun j _ h=>by omega⟩ (by unfold aE;simp only;omega) ?_)
 .simp only[g0];split
  .rename_i h;rw[h,f.first];exact .inr rfl
  .exact .inl rfl
 .obtain rfl:k=0:=by omega
  simp only[g0];rw[f.first];rfl
 rintro⟨g,at',D⟩ ⟨i,oi,hi,hc,rO,hf⟩
 dsimp only at oi hi hc rO hf⊢;subst oi;have hDl:=hc.len
 refine Wp.dec (fun ao=>?_) fun hge=> .some ?_
 .have ao:i<code.length:=by omega
  have hbi:=f.bd i hi;have hgi:=rO i (ajo _);rw[az (by omega),ah ao,jD (by omega)];simp only[aji];refine Wp.join ?_
  refine Wp.dec (fun h=>by omega) fun _=>?_
  refine Wp.seq _ (El f hc ao hgi) fun r hr=>?_
  obtain⟨r1,r2,r3,r4⟩:=hr
  refine Wp.jV (fun h=>absurd r1 h) fun _=> .some ?_
  have pW:∀j(h:j<code.length),j<i+1->VO F r.2 j code[j]:=fun j h hj=>by
   by_cases WZ:j=i
   .subst WZ;exact r4
   .obtain⟨a,b⟩:=hf j h (by omega);exact⟨fun g=>r3.keep _ (a g),fun g t ht=>r3.keep _ (b g t ht)⟩
  refine Wp.some ⟨⟨i+1,rfl,ao,r2,fun k hk=>?_,pW⟩,by simp only;omega⟩;by_cases Q0:k<=i
  .show gd r.2 k=_
   rw[r3.low k Q0,rO k Q0]
  .obtain rfl:k=i+1:=by omega
   obtain⟨j,h,hj,hq⟩:=f.reach (i+1) (by omega) (by omega);obtain⟨a,b⟩:=pW j h hj
   rcases hq with⟨q1,q2⟩|⟨q1,q2⟩
   .obtain rfl:j=i:=by omega
    exact a q2
   .exact b q1 (i+1) q2
 .obtain rfl:i=code.length:=by omega
  show Wp ((idx D (code.length:Int)).bind _) _
  rw[jD (by omega),rO _ (ajo _),f.last];exact .some rfl
theorem La{st:List Nat}:∀{i:Nat}{l:List Nat},Ch st i l->∀(a:Nat),a<=l.length->∀k(h:k<(opsL st a i).length),Ch st ((opsL st a i)[k]+1) (l.take (l.length-a+k+1)):=by
 intro i l c
 induction c with
 |nil=>
  intro a ha k h
  obtain rfl:a=0:=by simpa using ha
  simp[opsL]at h
 | @snoc j s l h1 h2 c ih=>
   intro a ha k h
   cases a with
   |zero=>simp[opsL]at h
   |succ a=>
    have hg:st.getD (j+1-1) 0=s:=by simp[ajN,h1]
    have e1:opsL st (a+1) (j+1)=opsL st a s++[j]:=by rw[opsL,hg];rfl
    rw[ajm,ajw]at ha⊢
    have hk:k<a+1:=by rw[cT]at h;exact h
    have e3:l.length+1-(a+1)+k+1=l.length-a+k+1:=by omega
    rw[e3];by_cases hka:k<a
    .have dO:k<(opsL st a s).length:=by rw[cT];exact hka
     have:(opsL st (a+1) (j+1))[k]=(opsL st a s)[k]:=by
      simp only[e1];rw[ajv dO]
     rw[this,ajK (by omega)];exact ih a (by omega) k dO
    .obtain rfl:k=a:=by omega
     have:(opsL st (k+1) (j+1))[k]=j:=by
      simp only[e1];rw[ajA (by rw[cT];exact ajo _)];simp[cT]
     rw[this,show l.length-k+k+1=(l++[s]).length by rw[ajm,ajw];omega,ajD];exact .snoc h1 h2 c
def Cg(st:List Nat)(i:Nat)(d:Int):Prop:=∃l,Ch st (i+1) l/\d+1<=l.length
theorem Cg.le{e:List Ty}{st:List Nat}(w:Whole e st){i:Nat}{d:Int}(hi:i<e.length)(h:Cg st i d):d+1<=12:=by
 obtain⟨l,c,hd⟩:=h;obtain⟨v1,l',v2,v3,v4,v5⟩:=w.val.node i hi;have:=(v2.next v1 v3 v5).NG c;rw[<-this]at hd;simp at hd;omega
theorem Cg.op{e:List Ty}{st:List Nat}(w:Whole e st){i:Nat}{d d':Int}(hi:i<e.length)(h:Cg st i d){k:Nat}(hk:k<(opsL st (ar e[i].1).toNat i).length)(hd:d'<=d+k):Cg st (opsL st (ar e[i].1).toNat i)[k] d':=by
 obtain⟨l,c,hl⟩:=h;obtain⟨v1,l',v2,v3,v4,v5⟩:=w.val.node i hi;have hu:=(v2.next v1 v3 v5).NG c;rw[<-hu]at hl;rw[ajm,ajB,ajw]at hl
 have dO:k<(ar e[i].1).toNat:=by rw[cT]at hk;exact hk
 refine⟨_,La v2 _ v3 k hk,?_⟩;rw[ajB];omega
structure Pc(code:List Ty)(F:List Int)(b b':Nat)(d d':Int):Prop where
 le:b<=b'
 inn:gd F b=d
 out:gd F b'=d'
 bd:∀k,b<=k->k<=b'->0<=gd F k/\gd F k<=12
 step:∀j(h:j<code.length),b<=j->j<b'->iW code.length F j code[j]/\¬bJ code[j].1
 reach:∀k,b<k->k<=b'->∃j,∃h:j<code.length,j<k/\((j+1=k/\(code[j].1:Int)≠51)\/((50<=(code[j].1:Int)/\(code[j].1:Int)<=53)/\(code[j].2:Int)=k))
theorem Pc.HV{code:List Ty}{F:List Int}{b c c':Nat}{d d' d'':Int}(h:Pc code F b c d d')(h':Pc code F c c' d' d''):Pc code F b c' d d'':=by
 refine⟨Nat.le_trans h.le h'.le,h.inn,h'.out,fun k k1 k2=>?_,fun j hj j1 j2=>?_,fun k k1 k2=>?_⟩
 .by_cases hk:k<=c
  .exact h.bd k k1 hk
  .exact h'.bd k (by omega) k2
 .by_cases hk:j<c
  .exact h.step j hj j1 hk
  .exact h'.step j hj (by omega) j2
 .by_cases hk:k<=c
  .exact h.reach k k1 hk
  .exact h'.reach k (by omega) k2
def At(code:List Ty)(F:List Int)(b:Nat)(l:List (Ty×Int)):Prop:=∀k(h:k<l.length),code[b+k]? =some l[k].1/\gd F (b+k)=l[k].2
theorem At.left{code:List Ty}{F:List Int}{b:Nat}{l m:List (Ty×Int)}(h:At code F b (l++m)):At code F b l:=fun k hk=>by
 have:=h k (by rw[ajm];omega);rw[ajv hk]at this;exact this
theorem At.right{code:List Ty}{F:List Int}{b:Nat}{l m:List (Ty×Int)}(h:At code F b (l++m)):At code F (b+l.length) m:=fun k hk=>by
 have:=h (l.length+k) (by rw[ajm];omega);rw[ajA (by omega)]at this;simp only[Nat.add_sub_cancel_left]at this;rw[akq];exact this
theorem At.head{code:List Ty}{F:List Int}{b:Nat}{x:Ty×Int}{m:List (Ty×Int)}(h:At code F b (x::m)):code[b]? =some x.1/\gd F b=x.2:=h 0 (by simp)
theorem At.tail{code:List Ty}{F:List Int}{b:Nat}{x:Ty×Int}{m:List (Ty×Int)}(h:At code F b (x::m)):At code F (b+1) m:=At.right (l:=[x]) h
theorem Pc.one{code:List Ty}{F:List Int}{b:Nat}{n:Ty}{a:Nat}{d:Int}(hn:code[b]? =some n)(ha:ar n.1=a)(Ii:¬bJ n.1)(hj:¬(50<=(n.1:Int)/\(n.1:Int)<=53))(hb:gd F b=d+a)(p5:gd F (b+1)=d+1)(h0:0<=d)(Pe:d+1<=12)(hda:d+a<=12):Pc code F b (b+1) (d+a) (d+1):=by
 obtain⟨hl,rfl⟩:=ajn.1 hn;refine⟨by omega,hb,p5,fun k k1 k2=>?_,fun j h j1 j2=>?_,fun k k1 k2=>?_⟩
 .rcases(show k=b\/k=b+1 by omega)with rfl|rfl
  .omega
  .omega
 .obtain rfl:j=b:=by omega
  refine⟨.inr (.inr ⟨fun h=>hj (by rw[h];decide),fun h=>hj ?_,by omega,by omega,by omega,by omega⟩),Ii⟩
  rcases h with h|h|h<;>rw[h]<;>decide
 .obtain rfl:k=b+1:=by omega
  exact⟨b,hl,by omega, .inl ⟨rfl,fun h=>hj (by rw[h];decide)⟩⟩
theorem Pc.ins{code:List Ty}{F:List Int}{b:Nat}{n:Ty}{d d':Int}(hn:code[b]? =some n)(hb:gd F b=d)(p5:gd F (b+1)=d')(h:0<=d/\d<=12)(h':0<=d'/\d'<=12)(hs:iW code.length F b n)(Ii:¬bJ n.1)(hr:∃j,∃h:j<code.length,j<b+1/\((j+1=b+1/\(code[j].1:Int)≠51)\/((50<=(code[j].1:Int)/\(code[j].1:Int)<=53)/\(code[j].2:Int)=((b+1:Nat):Int)))):Pc code F b (b+1) d d':=by
 obtain⟨hl,rfl⟩:=ajn.1 hn;refine⟨by omega,hb,p5,fun k k1 k2=>?_,fun j h j1 j2=>?_,fun k k1 k2=>?_⟩
 .rcases(show k=b\/k=b+1 by omega)with rfl|rfl
  .rw[hb];exact h
  .rw[p5];exact h'
 .obtain rfl:j=b:=by omega
  exact⟨hs,Ii⟩
 .obtain rfl:k=b+1:=by omega
  exact hr
theorem Lb{op:Int}(h:50<=op):ar op= -1:=by
 unfold ar;rw[if_neg (by omega),if_neg (by omega),if_neg (by omega),if_neg (by omega)]
theorem Pc.nil{code:List Ty}{F:List Int}{b:Nat}{d:Int}(hb:gd F b=d)(h:0<=d/\d<=12):Pc code F b b d d:=
 ⟨ajo _,hb,hb,fun k k1 k2=>by rw[show k=b by omega,hb];exact h,fun j _ j1 j2=>by omega,fun k k1 k2=>by omega⟩
theorem Lc{code:List Ty}{F:List Int}{g:Nat->Nat->Int->List (Ty×Int)}:∀(os:List Nat)(b:Nat)(d:Int),0<=d->d+os.length<=12->(∀(k:Nat)(hk:k<os.length)(b:Nat),At code F b (g os[k] b (d+k))->gd F (b+(g os[k] b (d+k)).length)=d+k+1->b+(g os[k] b (d+k)).length<=code.length->Pc code F b (b+(g os[k] b (d+k)).length) (d+k) (d+k+1))->At code F b (mj g os b d)->gd F (b+(mj g os b d).length)=d+os.length->b+(mj g os b d).length<=code.length->Pc code F b (b+(mj g os b d).length) d (d+os.length)
 |[],b,d,h0,Pe,_,_,ho,_=>by
  simp only[mj,List.length_nil,akm]at ho Pe⊢;simp at ho Pe
  have:d+((0:Nat):Int)=d:=by omega
  rw[this];exact Pc.nil ho ⟨h0,Pe⟩
 |o::os,b,d,h0,Pe,hg,hA,ho,hl=>by
  rw[mj]at hA ho hl⊢;rw[ajm]at ho hl⊢;rw[ajy]at ho Pe⊢
  have hr:=Lc os (b+(g o b d).length) (d+1) (by omega) (by omega) (fun k hk b'=>by
   have:=hg (k+1) (by rw[ajy];omega) b';rw[show d+((k+1:Nat):Int)=d+1+(k:Int) by omega]at this
   exact this) hA.right (by rw[akq,ho];omega) (by omega)
  have hx:=hg 0 (by simp) b;simp only[List.getElem_cons_zero,show d+((0:Nat):Int)=d by omega]at hx;have:=(hx hA.left hr.inn (by omega)).HV hr;rw[<-akq,show d+((os.length+1:Nat):Int)=d+1+(os.length:Int) by omega];exact this
theorem Pf{code:List Ty}{F:List Int}{e:List Ty}{st:List Nat}(w:Whole e st):∀(f i b:Nat)(d:Int),i<f->i<e.length->0<=d->Cg st i d->At code F b (cg e st f i b d)->gd F (b+(cg e st f i b d).length)=d+1->b+(cg e st f i b d).length<=code.length->Pc code F b (b+(cg e st f i b d).length) d (d+1)
 |0,_,_,_,h,_,_,_,_,_,_=>by omega
 |f+1,i,b,d,hf,hi,h0,xu,hA,ho,hl=>by
  have ih:=Pf (code:=code) (F:=F) w f;have Pe:=xu.le w hi
  have hge:e.getD i ((0,0):Int×Int)=e[i]:=by simp only[ajN,ajl hi,ajW]
  obtain⟨v1,_⟩:=w.val.node i hi
  have ao:∀o∈opsL st (ar e[i].1).toNat i,o<i:=fun o ho=>(w.val.ops hi o ho).1
  have fM:∀k(hk:k<(opsL st (ar e[i].1).toNat i).length)(d':Int),d'<=d+k->Cg st (opsL st (ar e[i].1).toNat i)[k] d':=fun k hk d' hd=>xu.op w hi hk hd
  have hlen:=cT st (ar e[i].1).toNat i;rw[cg,hge]at hA ho hl⊢;generalize opsL st (ar e[i].1).toNat i=os at*;by_cases CZ:(e[i].1:Int)=23\/(e[i].1:Int)=24
  .rw[if_pos CZ]at hA ho hl⊢
   have h2:(ar e[i].1).toNat=2:=by rcases CZ with h|h<;>rw[h]<;>rfl
   obtain⟨o0,o1,rfl⟩:=Ei (l:=os) (by omega);have l0:=ao o0 (by simp);have l1:=ao o1 (by simp);have p0:=ih o0 b d (by omega) (by omega) h0 (fM 0 (by simp) d (by omega));unfold tS at hA ho hl⊢;simp only[akx,aky]at hA ho hl⊢;generalize cg e st f o0 b d=g0 at*;have p1:=ih o1 (b+g0.length+1) d (by omega) (by omega) h0 (fM 1 (by simp) d (by omega));generalize cg e st f o1 (b+g0.length+1) d=g1 at*;rw[ajm,ajy]at ho hl⊢;have a0:=hA.left;have a1:=hA.right.head;have a2:=hA.right.tail
   have eE:b+(g0.length+(g1.length+1))=b+g0.length+1+g1.length:=by omega
   rw[eE]at ho hl⊢;have q1:=p1 a2 ho (by omega);have q0:=p0 a0 a1.2 (by omega)
   have yf:b+g0.length<code.length:=by omega
   have hx:(if(e[i].1:Int)=24 then(53:Int)else 52)=53\/(if(e[i].1:Int)=24 then(53:Int)else 52)=52:=by split<;>simp
   generalize(if(e[i].1:Int)=24 then(53:Int)else 52)=x at*;obtain⟨Q1,a12⟩:=a1;dsimp only at Q1 a12;have hc:code[b+g0.length]=((x,((b+g0.length+1+g1.length:Nat):Int)):Int×Int):=(ajn.1 Q1).2;refine q0.HV (Pc.HV (Pc.ins Q1 a12 q1.inn ⟨by omega,by omega⟩ ⟨by omega,by omega⟩ ?_ ?_ ?_) q1)
   .refine .inr (.inl ⟨?_,by omega,by rw[q1.inn,a12];omega,b+g0.length+1+g1.length,rfl,by omega,by omega,?_⟩)
    .show x=50\/x=52\/x=53
     omega
    .show gd F (b+g0.length+1+g1.length)=if x=50 then _ else _
     rw[if_neg (by omega),ho,a12]
   .show¬bJ x
    unfold bJ;omega
   .refine⟨b+g0.length,yf,by omega, .inl ⟨rfl,?_⟩⟩;rw[hc]
    show x≠51
    omega
  rw[if_neg CZ]at hA ho hl⊢;by_cases FJ:(e[i].1:Int)=26
  .rw[if_pos FJ]at hA ho hl⊢
   have h3:(ar e[i].1).toNat=3:=by rw[FJ];rfl
   obtain⟨o0,o1,o2,rfl⟩:=Cb (l:=os) (by omega);have l0:=ao o0 (by simp);have l1:=ao o1 (by simp);have l2:=ao o2 (by simp);have p0:=ih o0 b d (by omega) (by omega) h0 (fM 0 (by simp) d (by omega));unfold Cf at hA ho hl⊢;generalize hE:k9 (cg e st f) [o0,o1,o2] b d=E at*;unfold k9 at hE;simp only[akx,aky]at hA ho hl hE⊢;generalize cg e st f o0 b d=g0 at*;have p1:=ih o1 (b+g0.length+1) d (by omega) (by omega) h0 (fM 1 (by simp) d (by omega));generalize cg e st f o1 (b+g0.length+1) d=g1 at*;have p2:=ih o2 E d (by omega) (by omega) h0 (fM 2 (by simp) d (by omega));generalize cg e st f o2 E d=g2 at*;rw[ajm,ajy,ajm,ajy]at ho hl⊢
   have eE:b+(g0.length+(g1.length+(g2.length+1)+1))=E+g2.length:=by omega
   rw[eE]at ho hl⊢;have a0:=hA.left;obtain⟨Q1,a12⟩:=hA.right.head;have a2:=hA.right.tail;have a3:=a2.left;obtain⟨a41,VP⟩:=a2.right.head;have a5:=a2.right.tail;rw[hE]at a5;dsimp only at Q1 a12 a41 VP;have q2:=p2 a5 ho hl;have q1:=p1 a3 VP (by omega);have q0:=p0 a0 a12 (by omega)
   have yf:b+g0.length<code.length:=by omega
   have aho:b+g0.length+1+g1.length<code.length:=by omega
   have hc:code[b+g0.length]=((50,(E:Int)):Int×Int):=(ajn.1 Q1).2
   have j1:Pc code F (b+g0.length) (b+g0.length+1) (d+1) d:=by
    refine Pc.ins Q1 a12 q1.inn ⟨by omega,by omega⟩ ⟨by omega,by omega⟩ ?_ ?_ ?_
    .refine .inr (.inl ⟨.inl rfl,by omega,by rw[q1.inn,a12];omega,E,rfl,by omega,by omega,?_⟩)
     show gd F E=if(50:Int)=50 then _ else _
     rw[if_pos rfl,q2.inn,a12];omega
    .show¬bJ (50:Int)
     unfold bJ;omega
    .refine⟨b+g0.length,yf,by omega, .inl ⟨rfl,?_⟩⟩;rw[hc]
     show(50:Int)≠51
     decide
   have j2:Pc code F (b+g0.length+1+g1.length) (b+g0.length+1+g1.length+1) (d+1) d:=by
    refine Pc.ins a41 VP (by rw[hE];exact q2.inn) ⟨by omega,by omega⟩ ⟨by omega,by omega⟩ ?_ ?_ ?_
    .refine .inl ⟨rfl,E+g2.length,rfl,by omega,by omega,?_⟩;rw[ho,VP]
    .show¬bJ (51:Int)
     unfold bJ;omega
    .refine⟨b+g0.length,yf,by omega, .inr ⟨?_,?_⟩⟩
     .rw[hc];exact⟨(by decide:(50:Int)<=50),(by decide:(50:Int)<=53)⟩
     .rw[hc,hE]
   rw[hE]at j2;exact q0.HV (j1.HV (q1.HV (j2.HV q2)))
  rw[if_neg FJ]at hA ho hl⊢;rw[ajm,ajw]at ho hl⊢
  obtain⟨a,ha⟩:∃a:Nat,ar e[i].1=a:=⟨(ar e[i].1).toNat,by omega⟩
  have han:(ar e[i].1).toNat=a:=by omega
  rw[han]at hA hlen
  have hj:¬(50<=(e[i].1:Int)/\(e[i].1:Int)<=53):=by
   intro h;have:=Lb h.1;omega
  obtain⟨b1,b2⟩:=hA.right.head;dsimp only at b1 b2
  have hda:d+a<=12:=by
   by_cases ha0:a=0
   .omega
   .have hk:a-1<os.length:=by omega
    have hm:=ajs hk;have:=(fM (a-1) hk (d+((a-1:Nat):Int)) (by omega)).le w (by have:=ao _ hm;omega);omega
  rw[<-akq]at ho hl⊢
  have hq:=Lc (code:=code) (F:=F) (g:=cg e st f) os b d h0 (by omega) (fun k hk b' JX kO xH=>by
   have hm:=ajs hk;have NM:=ao _ hm
   exact ih os[k] b' (d+k) (by omega) (by omega) (by omega) (fM k hk _ (akA _)) JX kO xH) hA.left (by rw[b2,hlen]) (by omega)
  rw[hlen]at hq
  have Ii:¬bJ e[i].1:=by
   unfold bJ;intro h
   rcases h with h|h|h
   .exact CZ (.inl h)
   .exact CZ (.inr h)
   .exact FJ h
  exact hq.HV (Pc.one b1 ha Ii hj b2 ho h0 (by omega) hda)
def iD(e:List Ty)(st:List Nat):List (Ty×Int):=cg e st e.length (e.length-1) 0 0
def wz(e:List Ty)(st:List Nat):List Int:=(iD e st).map Prod.snd++[1]
theorem Ld{e:List Ty}{st:List Nat}(w:Whole e st):FOK (ins (iD e st)) (wz e st):=by
 have hp:0<e.length:=List.length_pos_iff.2 w.ne;have hle:=w.le;have U0:(iD e st).length<=96:=K9 w (by omega);have RJ:(ins (iD e st)).length=(iD e st).length:=ajM ..
 have hld:(wz e st).length=(iD e st).length+1:=by unfold wz;simp
 have hA:At (ins (iD e st)) (wz e st) 0 (iD e st):=fun k hk=>by
  rw[ajO];refine⟨by simp[ins,hk],?_⟩;unfold gd ajN wz;rw[ajQ (by simpa using hk)];simp[hk]
 have ho:gd (wz e st) (0+(iD e st).length)=0+1:=by
  rw[ajO];unfold gd ajN wz;rw[aj6 (by simp)];simp
 have room:Cg st (e.length-1) 0:=by
  obtain⟨v1,l,v2,v3,v4,v5⟩:=w.val.node (e.length-1) (by omega);exact⟨_,v2.next v1 v3 v5,by simp;omega⟩
 have p:Pc (ins (iD e st)) (wz e st) 0 (0+(iD e st).length) 0 (0+1):=Pf w e.length (e.length-1) 0 0 (by omega) (by omega) (by omega) room hA ho (by rw[RJ];exact Nat.le_of_eq (ajO _));rw[ajO]at p
 have bP:0<(iD e st).length:=by
  rcases Nat.eq_zero_or_pos (iD e st).length with h|h
  .have a:=p.inn;have b:=p.out;rw[h]at b;omega
  .exact h
 rw[<-RJ]at p;exact⟨by omega,by omega,by omega,fun k hk=>p.bd k (ajI _) hk,p.inn,p.out,fun j h=>p.step j h (ajI _) h,fun k k1 k2=>p.reach k k1 k2⟩
end L.P
end Go.Proofs.YtmihpkfkbfgigaaGreatDoor
end
section
open _root_.List renaming mem_cons->ajJ
open _root_.Option renaming bind_some->aji
namespace Go.Proofs.YtmihpkfkbfgigaaGreatDoor
open Go Go.RowKit
set_option maxRecDepth 100000
namespace L.P
def tf:List Vl->List Ty->Prop
 |[],[]=>True
 |v::vs,t::ts=>lY v t/\tf vs ts
 |[],_::_=>False
 |_::_,[]=>False
theorem tf.len:∀{vs:List Vl}{ts:List Ty},tf vs ts->vs.length=ts.length
 |[],[],_=>rfl
 |_::_,_::_,h=>by simp[tf.len h.2]
 |[],_::_,h=>h.elim
 |_::_,[],h=>h.elim
theorem tf.pl:∀{vs:List Vl}{ts:List Ty},tf vs ts->∀v∈vs,da v.1 v.2.1 v.2.2
 |[],[],_,v,h=>by simp at h
 |w::vs,t::ts,h,v,hv=>by
  rcases ajJ.1 hv with rfl|hv
  .exact h.1.1
  .exact tf.pl h.2 v hv
 |[],_::_,h,_,_=>h.elim
 |_::_,[],h,_,_=>h.elim
theorem FQ{vs:List Vl}{a:Ty}(h:tf vs [a]):∃v,vs=[v]/\lY v a:=by
 match vs,h with
 |[v],h=>exact⟨v,rfl,h.1⟩
theorem ov{vs:List Vl}{a b:Ty}(h:tf vs [a,b]):∃v w,vs=[v,w]/\lY v a/\lY w b:=by
 match vs,h with
 |[v,w],h=>exact⟨v,w,rfl,h.1,h.2.1⟩
theorem U2{vs:List Vl}{a b c:Ty}(h:tf vs [a,b,c]):∃v w x,vs=[v,w,x]/\lY v a/\lY w b/\lY x c:=by
 match vs,h with
 |[v,w,x],h=>exact⟨v,w,x,rfl,h.1,h.2.1,h.2.2.1⟩
def C0(op:Int):Prop:=10<=op/\op<=32
theorem RW{op:Int}(h:C0 op):¬op=7/\¬op=8/\¬op=33/\¬op=34/\¬(op=36\/op=37\/op=38\/op=39)/\¬(op=1\/op=2\/op=3\/op=4\/op=5)/\¬op=6/\¬op=9/\¬op=35:=by unfold C0 at h;omega
theorem Le{N:Nat}{op m:Int}{v:Vl}{env:cE.den}(h:C0 op):M.bt N (op,m) [v] env=M.cC N op v.1:=by
 obtain⟨h1,h2,h3,h4,h5,_⟩:=RW h;unfold M.bt;dsimp only[ae,Row.den];rw[pX,decide_eq_false h1,decide_eq_false h2,decide_eq_false h3,decide_eq_false h4,decide_eq_false h5];simp[mb]
theorem Ci{N:Nat}{op m:Int}{v w:Vl}{env:cE.den}(h:C0 op):M.bt N (op,m) [v,w] env=M.cK N op v w:=by
 obtain⟨h1,h2,h3,h4,h5,_⟩:=RW h;unfold M.bt;dsimp only[ae,Row.den];rw[pX,decide_eq_false h1,decide_eq_false h2,decide_eq_false h3,decide_eq_false h4,decide_eq_false h5];simp[mb,rQ]
theorem Lf{N:Nat}{op m:Int}{v w x:Vl}{env:cE.den}(h:C0 op)(hv:(v.1:Int)=1):M.bt N (op,m) [v,w,x] env=M.c9 N w x:=by
 obtain⟨h1,h2,h3,h4,h5,_⟩:=RW h;unfold M.bt;dsimp only[ae,Row.den];rw[pX,decide_eq_false h1,decide_eq_false h2,decide_eq_false h3,decide_eq_false h4,decide_eq_false h5];simp[mb,rQ,QY,hv]
theorem Lg{N:Nat}{op m:Int}{v:Vl}{env:cE.den}(h:C0 op):M.bB N (op,m) [v] env=(M.jA N op v).bind fun y=>some (y,(0:Int)):=by
 obtain⟨h1,h2,h3,h4,h5,h6,h7,h8,h9⟩:=RW h;unfold M.bB;dsimp only[ae,Row.den];rw[BW,pX,decide_eq_false h1,decide_eq_false h2,decide_eq_false h3,decide_eq_false h4,decide_eq_false h5,decide_eq_false h6,decide_eq_false h7,decide_eq_false h8,decide_eq_false h9];simp[mb]
theorem Cj{N:Nat}{op m:Int}{v w:Vl}{env:cE.den}(h:C0 op):M.bB N (op,m) [v,w] env=(M.fA N (op,m) v w).bind fun y=>some (y.1,y.2):=by
 obtain⟨h1,h2,h3,h4,h5,h6,h7,h8,h9⟩:=RW h;unfold M.bB;dsimp only[ae,Row.den];rw[BW,pX,decide_eq_false h1,decide_eq_false h2,decide_eq_false h3,decide_eq_false h4,decide_eq_false h5,decide_eq_false h6,decide_eq_false h7,decide_eq_false h8,decide_eq_false h9];simp[mb,rQ]
theorem Lh{N:Nat}{op m:Int}{v w x:Vl}{env:cE.den}(h:C0 op):M.bB N (op,m) [v,w,x] env=if(v.2.2:Int)=1 then some (w,(0:Int))else some (x,(0:Int)):=by
 obtain⟨h1,h2,h3,h4,h5,h6,h7,h8,h9⟩:=RW h;unfold M.bB;dsimp only[ae,Row.den];rw[BW,pX,decide_eq_false h1,decide_eq_false h2,decide_eq_false h3,decide_eq_false h4,decide_eq_false h5,decide_eq_false h6,decide_eq_false h7,decide_eq_false h8,decide_eq_false h9];simp[mb,rQ,QY]
theorem kI(N:Nat)(b:Bool):Wp (M.dx N b) fun y=>(y.1:Int)=1/\(y.2.1:Int)=0:=by
 unfold M.dx
 exact Wp.ite (fun _=> .some ⟨rfl,rfl⟩) fun _=> .some ⟨rfl,rfl⟩
theorem Li(op:Int)(a:Vl):Wp (M.jA aE op a) fun y=>(y.2.1:Int)=0/\(op=10->(y.1:Int)=a.1)/\(op=25->(y.1:Int)=1)/\(op=31\/op=32->(y.1:Int)=2):=by
 unfold M.jA
 refine Wp.dec (fun h=> .some ⟨rfl,fun _=>rfl,fun g=>by omega,fun g=>by omega⟩) fun h=>?_
 refine Wp.dec (fun h=>Wp.seq _ (kI ..) fun y hy=> .some ⟨hy.2,fun g=>by omega,fun _=>hy.1,fun g=>by omega⟩) fun h'=>?_
 refine Wp.seq _ (o9 ..) fun y _=>?_
 exact Wp.dec (fun _=> .some ⟨rfl,fun g=>absurd g h,fun g=>absurd g h',fun _=>rfl⟩) fun _=> .some ⟨rfl,fun g=>absurd g h,fun g=>absurd g h',fun _=>rfl⟩
theorem Ik{op m:Int}{a b:Vl}(hm:op=14\/op=15\/op=16->0<=m/\m<=5)(fM:13<=op/\op<=16):Wp (M.jK aE (op,m) a b) fun r=>Cd r.2/\(r.1.2.1:Int)=0/\(r.1.1:Int)=if op=15/\¬(b.1:Int)=2 then 4 else a.1:=by
 unfold M.jK;dsimp only[ae,Row.den]
 refine Wp.seq (fun j=>Cd j.1/\(j.2.2.1:Int)=0/\(j.2.1:Int)=if op=15/\¬(b.1:Int)=2 then 4 else a.1) ?_ fun j hj=> .some hj
 refine Wp.dec (fun h=>Wp.seq _ (wi ..) fun r hr=> .some ⟨hr,rfl,by rw[if_neg (by omega)]⟩) fun Tj=>?_
 have Ak:=hm (by omega);simp only[aC,aji,lP]
 refine Wp.ite (fun h=>Wp.seq _ (yo Ak) fun r hr=> .some ⟨hr,rfl,by rw[if_neg (by simp at h;omega)]⟩) fun _=>?_
 refine Wp.dec (fun h=>Wp.seq _ (FH Ak) fun r hr=> .some ⟨hr,rfl,by rw[if_neg (by omega)]⟩) fun K6=>?_
 refine Wp.dec (fun h=>Wp.seq _ (wc Ak) fun r hr=> .some ⟨hr,rfl,by rw[if_neg (by omega)]⟩) fun VQ=>?_
 refine Wp.dec (fun h=>Wp.seq _ (lz _ Ak) fun r hr=> .some ⟨hr,rfl,by rw[if_neg (fun g=>g.2 h)]⟩) fun h2=>?_
 exact Wp.seq _ (rM Ak) fun r hr=> .some ⟨hr,rfl,by rw[if_pos ⟨by omega,h2⟩]⟩
def bk(op p q:Int):Int:=
 if op=15/\¬q=2 then 4 else if op=11\/op=27\/op=12\/(13<=op/\op<=16)then p else if 19<=op/\op<=24 then 1 else if op=28 then 5 else 2
theorem NN{op p q:Int}(h:op=11\/op=27\/op=12):bk op p q=p:=by unfold bk;rw[if_neg (by omega),if_pos (by omega)]
theorem Il{op p q:Int}(h:13<=op/\op<=16):bk op p q=if op=15/\¬q=2 then 4 else p:=by unfold bk;rw[if_pos (c:=op=11\/op=27\/op=12\/(13<=op/\op<=16)) (by omega)]
theorem zT{op p q:Int}(h:19<=op/\op<=24):bk op p q=1:=by unfold bk;rw[if_neg (by omega),if_neg (by omega),if_pos h]
theorem U3{op p q:Int}(h:op=28):bk op p q=5:=by unfold bk;rw[if_neg (by omega),if_neg (by omega),if_neg (by omega),if_pos h]
theorem Q2{op p q:Int}(h:op=29\/op=30):bk op p q=2:=by unfold bk;rw[if_neg (by omega),if_neg (by omega),if_neg (by omega),if_neg (by omega)]
theorem Im{op m:Int}{a b:Vl}(hm:op=14\/op=15\/op=16->0<=m/\m<=5)(fM:¬(op=17\/op=18))(Ws:11<=op/\op<=30/\¬op=25/\¬op=26):Wp (M.fA aE (op,m) a b) fun r=>Cd r.2/\(r.1.2.1:Int)=0/\(r.1.1:Int)=bk op a.1 b.1:=by
 unfold M.fA;dsimp only[ae,Row.den];rw[oy,pX,oy];simp only[aji]
 refine Wp.dec (fun h=> .some ⟨yk 0,rfl,(NN (by omega)).symm⟩) fun _=>?_
 refine Wp.dec (fun h=> .some ⟨yk 0,rfl,(NN (by omega)).symm⟩) fun _=>?_
 refine Wp.dec (fun h=>Wp.seq _ (Ik hm (by omega)) fun r hr=> .some ⟨hr.1,hr.2.1,hr.2.2.trans (Il (by omega)).symm⟩) fun _=>?_
 refine Wp.dec (fun h=>absurd h fM) fun _=>?_
 refine Wp.dec (fun h=>Wp.seq _ (kI ..) fun y hy=> .some ⟨yk 0,hy.2,hy.1.trans (zT (by omega)).symm⟩) fun _=>?_
 refine Wp.dec (fun h=>Wp.seq _ (kI ..) fun y hy=> .some ⟨yk 0,hy.2,hy.1.trans (zT (by omega)).symm⟩) fun _=>?_
 refine Wp.dec (fun h=>Wp.seq _ (kI ..) fun y hy=> .some ⟨yk 0,hy.2,hy.1.trans (zT (by omega)).symm⟩) fun _=>?_
 refine Wp.dec (fun h=>Wp.seq _ (kI ..) fun y hy=> .some ⟨yk 0,hy.2,hy.1.trans (zT (by omega)).symm⟩) fun _=>?_
 refine Wp.dec (fun h=>Wp.seq (fun j:Int×Vl=>j.1=0/\(j.2.1:Int)=1/\(j.2.2.1:Int)=0) (Wp.dec (fun _=>Wp.seq _ (kI ..) fun _ hy=> .some ⟨rfl,hy⟩) fun _=>Wp.seq _ (kI ..) fun _ hy=> .some ⟨rfl,hy⟩) fun j hj=> .some ⟨.inl hj.1,hj.2.2,hj.2.1.trans (zT (by omega)).symm⟩) fun _=>?_
 refine Wp.dec (fun h=>Wp.seq (fun j:Int×Vl=>j.1=0/\(j.2.1:Int)=1/\(j.2.2.1:Int)=0) (Wp.dec (fun _=>Wp.seq _ (kI ..) fun _ hy=> .some ⟨rfl,hy⟩) fun _=>Wp.seq _ (kI ..) fun _ hy=> .some ⟨rfl,hy⟩) fun j hj=> .some ⟨.inl hj.1,hj.2.2,hj.2.1.trans (zT (by omega)).symm⟩) fun _=>?_
 refine Wp.dec (fun h=>Wp.seq _ (od ..) fun r hr=> .some ⟨hr,rfl,(U3 h).symm⟩) fun h28=>?_
 refine Wp.dec (fun h=> .some ⟨yk 0,rfl,(Q2 (by omega)).symm⟩) fun h29=>?_
 exact Wp.seq _ (ou ..) fun r _=> .some ⟨yk 0,rfl,(Q2 (by omega)).symm⟩
theorem Io{op m:Int}{a b:Vl}(fM:op=17\/op=18):Wp (M.fA aE (op,m) a b) fun r=>r.2=0/\(r.1=a\/r.1=b):=by
 unfold M.fA;dsimp only[ae,Row.den];rw[oy,pX,oy];simp only[aji]
 refine Wp.dec (fun h=>by omega) fun _=>?_
 refine Wp.dec (fun h=>by omega) fun _=>?_
 refine Wp.dec (fun h=>by omega) fun _=>?_
 refine Wp.dec (fun h=>?_) fun h=>absurd fM h
 exact Wp.ite (fun _=> .some ⟨rfl, .inr rfl⟩) fun _=> .some ⟨rfl, .inl rfl⟩
def C3(c:Int):Prop:=c=0\/c=3\/c=6\/c=12
theorem Cd.c3{c:Int}(h:Cd c):C3 c:=by unfold Cd at h;unfold C3;omega
def Lj(t:Ty)(y:Vl×Int):Prop:=C3 y.2/\(y.2=0->(y.1.1:Int)=t.1/\(y.1.2.1:Int)=t.2)
theorem Ck{v:Vl}{a:Ty}(h:lY v a)(h6:(a.1:Int)≠6):(a.2:Int)=0:=by
 obtain⟨(k:Int),(e:Int),(n:Int)⟩:=v;obtain⟨(p:Int),(q:Int)⟩:=a;obtain⟨h1,h2,h3⟩:=h;dsimp only[ae,Row.den]at*;unfold da at h1;omega
theorem FT(N:Nat)(v w:Vl):M.c9 N v w=some (decide ((v.1:Int)=w.1/\(v.2.1:Int)=w.2.1)):=by
 unfold M.c9;by_cases h:(v.1:Int)=w.1
 .simp[h]
 .simp[h]
theorem um{op:Int}{v w:Vl}{a b:Ty}(hv:lY v a)(hw:lY w b)
 (h:((op=11\/op=12)/\a=b/\FM a.1)\/(op=13/\(b.1:Int)=2/\((a.1:Int)=2\/(a.1:Int)=3))\/(op=14/\(b.1:Int)=4/\((a.1:Int)=3\/(a.1:Int)=4))\/(op=15/\(((b.1:Int)=2/\((a.1:Int)=2\/(a.1:Int)=3))\/((a.1:Int)=3/\(b.1:Int)=3)))\/(op=16/\(a.1:Int)=3/\(b.1:Int)=3)\/((op=17\/op=18\/op=21\/op=22)/\a=b/\(FM a.1\/(a.1:Int)=5))\/((op=19\/op=20)/\a=b)\/((op=23\/op=24)/\(a.1:Int)=1/\(b.1:Int)=1)\/((op=27\/op=28)/\(a.1:Int)=5/\(b.1:Int)=2)\/((op=29\/op=30)/\(a.1:Int)=5/\(b.1:Int)=5)):M.cK aE op v w=some true:=by
 obtain⟨(k:Int),(e:Int),(n:Int)⟩:=v;obtain⟨(k':Int),(e':Int),(n':Int)⟩:=w;obtain⟨(p:Int),(q:Int)⟩:=a;obtain⟨(p':Int),(q':Int)⟩:=b;obtain⟨_,h2,h3⟩:=hv;obtain⟨_,h5,h6⟩:=hw;dsimp only[ae,Row.den]at*;subst h2 h3 h5 h6;unfold M.cK;dsimp only[ae,Row.den];simp only[FT,lv]
 rcases h with⟨ho,vg,hn⟩|⟨ho,hb,ha⟩|⟨ho,hb,ha⟩|⟨ho,⟨hb,ha⟩|⟨ha,hb⟩⟩|⟨ho,ha,hb⟩|⟨ho,vg,hn⟩|⟨ho,vg⟩|⟨ho,ha,hb⟩|⟨ho,ha,hb⟩|⟨ho,ha,hb⟩
 .obtain⟨rfl,rfl⟩:k=k'/\e=e':=by simpa using vg
  rcases ho with rfl|rfl<;>rcases hn with rfl|rfl|rfl<;>simp
 .subst ho hb;rcases ha with rfl|rfl<;>simp
 .subst ho hb;rcases ha with rfl|rfl<;>simp
 .subst ho hb;rcases ha with rfl|rfl<;>simp
 .subst ho hb ha;simp
 .subst ho hb ha;simp
 .obtain⟨rfl,rfl⟩:k=k'/\e=e':=by simpa using vg
  rcases ho with rfl|rfl|rfl|rfl<;>rcases hn with(rfl|rfl|rfl)|rfl<;>simp
 .obtain⟨rfl,rfl⟩:k=k'/\e=e':=by simpa using vg
  rcases ho with rfl|rfl<;>simp
 .subst hb ha;rcases ho with rfl|rfl<;>simp
 .subst hb ha;rcases ho with rfl|rfl<;>simp
 .subst hb ha;rcases ho with rfl|rfl<;>simp
theorem Lk{op m:Int}{ts:List Ty}{t:Ty}{args:List Vl}{env:cE.den}(hm:op=14\/op=15\/op=16->0<=m/\m<=5)(h:RT op ts t)(ha:tf args ts):Wp (M.bt aE (op,m) args env) (· =true)/\Wp (M.bB aE (op,m) args env) (Lj t):=by
 have c0:C3 0:= .inl rfl
 have un:∀{v:Vl}{a:Ty},C0 op->lY v a->M.cC aE op a.1=some true->(∀y:Vl,(y.2.1:Int)=0/\(op=10->(y.1:Int)=v.1)/\(op=25->(y.1:Int)=1)/\(op=31\/op=32->(y.1:Int)=2)->(y.1:Int)=t.1/\(y.2.1:Int)=t.2)->Wp (M.bt aE (op,m) [v] env) (· =true)/\Wp (M.bB aE (op,m) [v] env) (Lj t):=by
  intro v a hp hv h1 h2;rw[Le hp,Lg hp,show v.1=a.1 from hv.2.1,h1];exact⟨.some rfl,Wp.seq _ (Li ..) fun y hy=> .some ⟨c0,fun _=>h2 y hy⟩⟩
 have bin:∀{v w:Vl}{a b:Ty},C0 op->lY v a->lY w b->¬(op=17\/op=18)->(11<=op/\op<=30/\¬op=25/\¬op=26)->M.cK aE op v w=some true->(t.2:Int)=0->bk op a.1 b.1=t.1->Wp (M.bt aE (op,m) [v,w] env) (· =true)/\Wp (M.bB aE (op,m) [v,w] env) (Lj t):=by
  intro v w a b hp hv hw h17 Ws h1 h2 h3;rw[Ci hp,Cj hp,h1];refine⟨.some rfl,Wp.seq _ (Im hm h17 Ws) fun y hy=> .some ⟨hy.1.c3,fun _=>⟨?_,hy.2.1.trans h2.symm⟩⟩⟩;rw[<-h3,<-show v.1=a.1 from hv.2.1,<-show w.1=b.1 from hw.2.1];exact hy.2.2
 have p:10<=op/\op<=32->C0 op:=fun h=>h
 rcases h with⟨ho,a,rfl,hn,rfl⟩|⟨ho,a,rfl,hn,rfl⟩|⟨ho,a,rfl,hn,rfl⟩|⟨ho,a,rfl,hn,rfl⟩|⟨ho,a,b,rfl,hb,hk,rfl⟩|⟨ho,a,b,rfl,hb,hk,rfl⟩|⟨ho,a,b,rfl,⟨hb,hk,rfl⟩|⟨hk,hb,rfl⟩⟩|⟨ho,a,b,rfl,hk,hb,rfl⟩|⟨ho,a,rfl,hn,rfl⟩|⟨ho,a,rfl,rfl⟩|⟨ho,a,rfl,hn,rfl⟩|⟨ho,a,b,rfl,hk,hb,rfl⟩|⟨ho,a,b,rfl,hk,rfl⟩|⟨ho,a,b,rfl,hk,hb,rfl⟩|⟨ho,a,b,rfl,hk,hb,rfl⟩
 .obtain⟨v,rfl,hv⟩:=FQ ha
  refine un (p (by omega)) hv ?_ fun y hy=>⟨(hy.2.1 ho).trans hv.2.1,hy.1.trans (Ck hv (by rcases hn with h|h|h<;>rw[h]<;>decide)).symm⟩
  subst ho;unfold M.cC;rw[lv]
  rcases hn with h|h|h<;>rw[h]<;>simp
 .obtain⟨v,rfl,hv⟩:=FQ ha
  refine un (p (by omega)) hv ?_ fun y hy=>⟨hy.2.2.1 ho,hy.1⟩
  subst ho;unfold M.cC;rw[hn];simp
 .obtain⟨v,rfl,hv⟩:=FQ ha
  refine un (p (by omega)) hv ?_ fun y hy=>⟨hy.2.2.2 ho,hy.1⟩
  unfold M.cC;rw[hn]
  rcases ho with rfl|rfl<;>simp
 .obtain⟨v,w,rfl,hv,hw⟩:=ov ha;exact bin (p (by omega)) hv hw (by omega) (by omega) (um hv hw (.inl ⟨ho,rfl,hn⟩)) (Ck hv (by rcases hn with h|h|h<;>rw[h]<;>decide)) (NN (by omega))
 .obtain⟨v,w,rfl,hv,hw⟩:=ov ha;exact bin (p (by omega)) hv hw (by omega) (by omega) (um hv hw (.inr (.inl ⟨ho,hb,hk⟩))) rfl (by rw[Il (by omega),if_neg (by omega)])
 .obtain⟨v,w,rfl,hv,hw⟩:=ov ha;exact bin (p (by omega)) hv hw (by omega) (by omega) (um hv hw (.inr (.inr (.inl ⟨ho,hb,hk⟩)))) rfl (by rw[Il (by omega),if_neg (by omega)])
 .obtain⟨v,w,rfl,hv,hw⟩:=ov ha;exact bin (p (by omega)) hv hw (by omega) (by omega) (um hv hw (.inr (.inr (.inr (.inl ⟨ho, .inl ⟨hb,hk⟩⟩))))) rfl (by rw[Il (by omega),if_neg (fun h=>h.2 hb)])
 .obtain⟨v,w,rfl,hv,hw⟩:=ov ha;exact bin (p (by omega)) hv hw (by omega) (by omega) (um hv hw (.inr (.inr (.inr (.inl ⟨ho, .inr ⟨hk,hb⟩⟩))))) rfl (by rw[Il (by omega),if_pos ⟨ho,by rw[hb];decide⟩])
 .obtain⟨v,w,rfl,hv,hw⟩:=ov ha;exact bin (p (by omega)) hv hw (by omega) (by omega) (um hv hw (.inr (.inr (.inr (.inr (.inl ⟨ho,hk,hb⟩)))))) (Ck hv (by rw[hk];decide)) (by rw[Il (by omega),if_neg (by omega)])
 .obtain⟨v,w,rfl,hv,hw⟩:=ov ha;have hp:C0 op:=p (by omega);rw[Ci hp,Cj hp,um hv hw (.inr (.inr (.inr (.inr (.inr (.inl ⟨by omega,rfl,hn⟩))))))];refine⟨.some rfl,Wp.seq _ (Io ho) fun y hy=> .some ⟨.inl hy.1,fun _=>?_⟩⟩
  rcases hy.2 with h|h<;>simp only[h]
  .exact hv.2
  .exact hw.2
 .obtain⟨v,w,rfl,hv,hw⟩:=ov ha;exact bin (p (by omega)) hv hw (by omega) (by omega) (um hv hw (.inr (.inr (.inr (.inr (.inr (.inr (.inl ⟨ho,rfl⟩)))))))) rfl (zT (by omega))
 .obtain⟨v,w,rfl,hv,hw⟩:=ov ha;exact bin (p (by omega)) hv hw (by omega) (by omega) (um hv hw (.inr (.inr (.inr (.inr (.inr (.inl ⟨by omega,rfl,hn⟩))))))) rfl (zT (by omega))
 .obtain⟨v,w,rfl,hv,hw⟩:=ov ha;exact bin (p (by omega)) hv hw (by omega) (by omega) (um hv hw (.inr (.inr (.inr (.inr (.inr (.inr (.inr (.inl ⟨ho,hk,hb⟩))))))))) rfl (zT (by omega))
 .obtain⟨v,w,x,rfl,hv,hw,hx⟩:=U2 ha;have hp:C0 op:=p (by omega);rw[Lf hp (hv.2.1.trans hk),Lh hp,FT];refine⟨.some ?_,Wp.ite (fun _=> .some ⟨c0,fun _=>hw.2⟩) fun _=> .some ⟨c0,fun _=>hx.2⟩⟩;exact decide_eq_true ⟨hw.2.1.trans hx.2.1.symm,hw.2.2.trans hx.2.2.symm⟩
 .obtain⟨v,w,rfl,hv,hw⟩:=ov ha;refine bin (p (by omega)) hv hw (by omega) (by omega) (um hv hw (.inr (.inr (.inr (.inr (.inr (.inr (.inr (.inr (.inl ⟨ho,hk,hb⟩)))))))))) (Ck hv (by rw[hk];decide)) ?_
  rcases ho with h|h
  .exact NN (by omega)
  .rw[U3 h];exact hk.symm
 .obtain⟨v,w,rfl,hv,hw⟩:=ov ha;exact bin (p (by omega)) hv hw (by omega) (by omega) (um hv hw (.inr (.inr (.inr (.inr (.inr (.inr (.inr (.inr (.inr ⟨ho,hk,hb⟩)))))))))) rfl (Q2 ho)
end L.P
end Go.Proofs.YtmihpkfkbfgigaaGreatDoor
end
section
open _root_.Bool renaming false_eq_true->ajp,not_true->akr
open _root_.Int renaming tdiv->ajE,tmod->ajY
open _root_.Go.IntKind renaming i64->ajj
open _root_.List renaming getElem?_eq_some_iff->ajn,getElem_mem->ajs,length_eq_zero_iff->akn,mem_of_getElem?->aka
open _root_.Nat renaming zero_le->ajI
open _root_.Option renaming bind_some->aji
namespace Go.Proofs.YtmihpkfkbfgigaaGreatDoor
open Go Go.RowKit
set_option maxRecDepth 100000
namespace L.P
structure U4(s:Sg)(env:cE.den):Prop where
 inp:∀(k:Nat)(t:Ty),s.2.2.1[k]? =some t->∃v,env.2.1[k]? =some v/\lY v t
 dfs:∀(k:Nat)(t:Ty),s.2.2.2.1[k]? =some t->∃v,env.2.2.1[k]? =some v/\(lY v t\/(v.1:Int)=0)
 mts:∀(k:Nat)(t:Ty),s.2.2.2.2.1[k]? =some t->env.2.2.2.2.1[k]? =some t
 mem:∀l∈env.2.2.2.1,∀(k:Nat)(t:Ty),s.2.2.2.2.1[k]? =some t->∃v,l[k]? =some v/\(lY v t\/(v.1:Int)=0)
 tbs:∀(k:Nat)(T:ay.den),s.2.1[k]? =some T->∃T':ay.den,env.2.2.2.2.2[k]? =some T'/\T'.2.1=T.2.1/\T'.2.2.1=T.2.2.1
def lJ(t:Ty)(r:Vl×Int):Prop:=C3 r.2/\(r.2=0->lY r.1 t)
theorem Em{l:List Vl}(hl:l.length<=100000)(h:∀v∈l,da v.1 v.2.1 v.2.2):M.cZ aE l=some true:=by
 apply Wp.eq;unfold M.cZ;refine Wp.loop (fun s:Int=>∃i:Nat,s=i/\i<=l.length) (fun s=>(l.length-s).toNat) ⟨0,rfl,ajI _⟩ (by unfold aE;omega) ?_
 rintro _ ⟨i,rfl,hi⟩
 refine Wp.dec (fun ao=>?_) fun _=> .some rfl
 have gj:i<l.length:=by omega
 rw[ah gj];simp only[aji,cR];rw[decide_eq_true (h _ (ajs gj))];simp only[akr,ajp,if_false];rw[az (by omega)];exact .some ⟨⟨i+1,rfl,gj⟩,by simp only;omega⟩
theorem Cl{op m:Int}(h0:0<=ar op)(hu:m=0\/us op)(K6:op=14\/op=15\/op=16->0<=m/\m<=5)(sd:op=34->0<=m/\ajY m 8<=5)(h6:op=6->0<=m):M.cM aE (op,m)=some true:=by
 apply Wp.eq;unfold M.cM;dsimp only[ae,Row.den];rw[cw,uk];simp only[aji,aC,lP]
 refine Wp.seq (· =false) ?_ fun j hj=>?_
 .refine Wp.dec (fun h=>by omega) fun _=>?_
  refine Wp.jV (fun h=>Wp.seq _ (FL ..) fun y hy=> .some ?_) fun _=> .some rfl
  have:y=true:=hy.2 (hu.resolve_left h);rw[this];rfl
 .subst hj;simp only[ajp,if_false];refine .some ?_;by_cases c14:op=14\/op=15\/op=16
  .have:=K6 c14;rw[if_pos (by simpa using c14)];simpa using this
  rw[if_neg (by simpa using c14)];by_cases c34:op=34
  .have:=sd c34;rw[if_pos (by simpa using c34)];simpa using this
  rw[if_neg (by simpa using c34)];by_cases c6:op=6
  .have:=h6 c6;rw[if_pos (by simpa using c6)];simpa using this
  rw[if_neg (by simpa using c6)]
theorem ql{op m:Int}{args:List Vl}{env:cE.den}{t:Ty}(Mr:M.cM aE (op,m)=some true)(ha:(args.length:Int)=ar op)(qy:∀v∈args,da v.1 v.2.1 v.2.2)(hx:Wp (M.dD aE (op,m) env) fun x=>x=true->Wp (M.bt aE (op,m) args env) (· =true)/\Wp (M.bB aE (op,m) args env) (Lj t)):Wp (M.bI aE (op,m) args env) (lJ t):=by
 have Ie:=jP op;unfold M.bI;dsimp only[ae,Row.den];rw[Mr];simp only[aji,cw,akr,ajp,if_false];rw[decide_eq_true ha];simp only[akr,ajp,if_false]
 refine Wp.seq _ hx fun x hx=>?_
 refine Wp.ite (fun _=> .some ⟨.inr (.inr (.inl rfl)),fun h=>by cases h⟩) fun hc=>?_
 obtain⟨h1,h2⟩:=hx (by simpa using hc);rw[Em (by omega) qy,Wp.eq h1];simp only[aji,akr,ajp,if_false]
 refine Wp.seq _ h2 fun y hy=>?_
 refine Wp.jV (fun h=> .some ⟨hy.1,fun g=>absurd g h⟩) fun h=>?_
 rw[cR];simp only[aji]
 exact Wp.jV (fun _=> .some ⟨.inr (.inl rfl),fun h=>by cases h⟩) fun hp=> .some ⟨.inl rfl,fun _=>⟨hp,hy.2 h⟩⟩
theorem rR{N:Nat}{op m:Int}{env:cE.den}(h1:¬op=7)(h2:¬op=8)(h3:¬op=33)(h4:¬op=34)(h5:¬(op=36\/op=37\/op=38\/op=39)):M.bt N (op,m) [] env=some true:=by
 unfold M.bt;dsimp only[ae,Row.den];rw[pX,decide_eq_false h1,decide_eq_false h2,decide_eq_false h3,decide_eq_false h4,decide_eq_false h5];rfl
theorem ng{α:Type}{l:List α}{k:Nat}{x:α}(h:l[k]? =some x):idx l (k:Int)=some x:=by
 obtain⟨hk,rfl⟩:=ajn.1 h;exact ah hk
theorem Cm{op:Int}{t:Ty}{j:Nat}:{ms:List (List Vl)}->(∀l∈ms,∃v,l[j]? =some v/\(lY v t\/(v.1:Int)=0))->{first:Bool}->{acc c:Int}->nM op t j ms first acc= .inr c->c=3\/c=6
 |[],_,_,_,_,h=>by cases h
 |l::ms,hv,first,acc,c,h=>by
  obtain⟨v,h1,h2⟩:=hv l (List.mem_cons_self ..);rw[nM,h1]at h;simp only at h;split at h
  .cases h;exact .inr rfl
  .rename_i hn;rw[if_pos (h2.resolve_right hn)]at h;split at h
   .exact Cm (fun l hl=>hv l (List.mem_cons_of_mem _ hl)) h
   .cases h;exact .inl rfl
theorem NO{op:Int}{t:Ty}{j:Nat}{ms:List (List Vl)}(h:∀l∈ms,∃v,l[j]? =some v/\(lY v t\/(v.1:Int)=0))(ht:(t.2:Int)=0):Lj t (HY op t j ms):=by
 unfold HY;split
 .exact⟨.inr (.inr (.inl rfl)),fun g=>by cases g⟩
 .split
  .exact⟨.inl rfl,fun _=>⟨rfl,ht.symm⟩⟩
  .rename_i c hc;have:=Cm h hc;refine⟨?_,fun g=>?_⟩
   .show C3 c
    unfold C3;omega
   .exact absurd g (by show¬c=0;omega)
theorem Ll{op m:Int}{ts:List Ty}{s:Sg}{t:Ty}{args:List Vl}{env:cE.den}(he:iC env)(ag:U4 s env)(nt:NT op m ts s t)(h0:0<=ar op)(hu:m=0\/us op)(hl:(ts.length:Int)=ar op)(ha:tf args ts):Wp (M.bI aE (op,m) args env) (lJ t):=by
 have Aj:(args.length:Int)=ar op:=by rw[ha.len];exact hl
 have c0:C3 0:= .inl rfl
 have no:ar op=0->args=[]:=fun h=>akn.1 (by omega)
 have wf:∀(_:op=14\/op=15\/op=16->0<=m/\m<=5)(_:op=34->0<=m/\ajY m 8<=5)(_:op=6->0<=m),M.cM aE (op,m)=some true:=fun a b c=>Cl h0 hu a b c
 have ex:∀Q:Prop,(UR op m env->Q)->Wp (M.dD aE (op,m) env) fun x=>x=true->Q:=fun Q h=>(sZ aE op m env).mono fun x hx g=>h (hx g)
 rcases nt with⟨ho,rfl⟩|⟨ho,hm,rfl⟩|⟨ho,hL⟩|⟨ho,hL⟩|⟨ho,rfl⟩|⟨ho,a,rfl,hT⟩|⟨ho,rfl⟩|⟨ho,hL,Fp,xv,P4⟩|⟨hm,hR⟩
 .obtain rfl:=no (by unfold ar;rw[if_pos (by omega)]);refine ql (wf (by omega) (by omega) (by omega)) Aj ha.pl (ex _ fun _=>⟨?_,?_⟩)
  .rw[rR (by omega) (by omega) (by omega) (by omega) (by omega)];exact .some rfl
  .unfold M.bB;dsimp only[ae,Row.den];rw[BW op 1 2 3 4 5];simp only[aji]
   exact Wp.dec (fun _=> .some ⟨c0,fun _=>⟨rfl,rfl⟩⟩) fun h=>by omega
 .subst ho;obtain rfl:=no rfl;refine ql (wf (by omega) (by omega) (fun _=>hm)) Aj ha.pl (ex _ fun _=>⟨?_,?_⟩)
  .rw[rR (by omega) (by omega) (by omega) (by omega) (by omega)];exact .some rfl
  .exact .of (x:=(((6:Int),(ajj.wrap (ajE m 16),ajY m 16)),(0:Int))) rfl ⟨c0,fun _=>⟨rfl,rfl⟩⟩
 .subst ho;obtain rfl:=no rfl;obtain⟨k,rfl,h1,_⟩:=hL;obtain⟨v,h2,h3⟩:=ag.inp k t h1;refine ql (wf (by omega) (by omega) (by omega)) Aj ha.pl (ex _ fun _=>⟨?_,?_⟩)
  .show Wp ((idx env.2.1 (k:Int)).bind fun x1=>(M.cv aE x1).bind fun y2=>some y2) _
   rw[ng h2];simp only[aji,cR];exact .some (decide_eq_true h3.1)
  .show Wp ((idx env.2.1 (k:Int)).bind fun x2=>some (x2,(0:Int))) _
   rw[ng h2];exact .some ⟨c0,fun _=>h3.2⟩
 .subst ho;obtain rfl:=no rfl;obtain⟨k,rfl,h1,_⟩:=hL;obtain⟨v,h2,h3⟩:=ag.dfs k t h1;have hk:k<env.2.2.1.length:=(ajn.1 h2).1;refine ql (wf (by omega) (by omega) (by omega)) Aj ha.pl ?_
  refine Wp.of (x:= !decide ((v.1:Int)=0)) ?_ fun hx=>?_
  .unfold M.dD;dsimp only[ae,Row.den];rw[ng h2];simp[hk]
  have h3:=h3.resolve_right (by simpa using hx);refine⟨?_,?_⟩
  .show Wp ((idx env.2.2.1 (k:Int)).bind fun x1=>(M.cv aE x1).bind fun y2=>some y2) _
   rw[ng h2];simp only[aji,cR];exact .some (decide_eq_true h3.1)
  .show Wp ((idx env.2.2.1 (k:Int)).bind fun x2=>some (x2,(0:Int))) _
   rw[ng h2];exact .some ⟨c0,fun _=>h3.2⟩
 .subst ho;obtain rfl:=no rfl;refine ql (wf (by omega) (by omega) (by omega)) Aj ha.pl (ex _ fun _=>⟨?_,?_⟩)
  .rw[rR (by omega) (by omega) (by omega) (by omega) (by omega)];exact .some rfl
  .exact .of (x:=(((5:Int),((0:Int),env.1)),(0:Int))) rfl ⟨c0,fun _=>⟨rfl,rfl⟩⟩
 .obtain⟨v,rfl,hv⟩:=FQ ha;obtain⟨k,T,h1,v1,v2,rfl,h3⟩:=hT;obtain⟨T',g1,g2,g3⟩:=ag.tbs k T h1;have hTl:=he.2 T' (aka g1)
  rcases h3 with⟨rfl,m0,m1,m2,hw,k1,k2,rfl⟩|⟨bP,rfl,rfl⟩
  .have key:T'.2.1=((3,0):Int×Int):=by
    rw[g2];refine Prod.ext k1 ?_;unfold jo at v1;rw[k1]at v1
    rcases v1 with h|h
    .exact h.2.2
    .exact absurd h.1 (by decide)
   have val:T'.2.2.1=((4,0):Int×Int):=by
    rw[g3];refine Prod.ext k2 ?_;unfold jo at v2;rw[k2]at v2
    rcases v2 with h|h
    .exact h.2.2
    .exact absurd h.1 (by decide)
   refine ql (wf (by omega) (fun _=>⟨m0,m2⟩) (by omega)) Aj ha.pl (ex _ fun _=>⟨?_,?_⟩)
   .unfold M.bt;dsimp only[ae,Row.den];rw[hw,ng g1];simp only[aji,mb];rw[key,val,show(v.1:Int)=3 from hv.2.1.trans k1];exact .of (x:=true) rfl rfl
   .unfold M.bB;dsimp only[ae,Row.den];rw[hw,ng g1];simp only[aji,mb]
    show Wp ((M.iy aE T' env.1 v.2.2 (ajY m 8)).bind fun qj=>some (((3:Int),((0:Int),qj.1)),qj.2)) _
    refine Wp.seq _ (tQ ⟨m1,m2⟩ key val hTl) fun r hr=> .some ⟨hr.c3,fun _=>?_⟩
    rw[<-g2,key];exact⟨rfl,rfl⟩
  .obtain rfl:op=33:=by omega
   refine ql (wf (by omega) (by omega) (by omega)) Aj ha.pl (ex _ fun _=>⟨?_,?_⟩)
   .unfold M.bt;dsimp only[ae,Row.den];rw[ng g1];simp only[aji,mb,qK];rw[g2,g3,decide_eq_true hv];unfold jo at v2;refine .of (x:=true) ?_ rfl
    have a1:(1:Int)<=T.2.2.1.1:=by rcases v2 with h|h;exact h.1;rw[h.1];decide
    have a2:(T.2.2.1.1:Int)<=6:=by rcases v2 with h|h;exact Int.le_trans h.2.1 (by decide);rw[h.1];decide
    simp[a1,a2]
   .unfold M.bB;dsimp only[ae,Row.den];rw[ng g1];simp only[aji,mb]
    show Wp ((M.km aE T' env.1 v.2.2).bind fun y8=>if(!y8.2)=true then some (((0:Int),((0:Int),(0:Int))),(6:Int))else(idx T'.2.2.2 y8.1).bind fun x9=>some ((T'.2.2.1.1,(T'.2.2.1.2,x9.2.2.2)),(0:Int))) _
    refine Wp.seq _ (yp _ _ _ hTl) fun r hr=>?_
    refine Wp.ite (fun _=> .some ⟨.inr (.inr (.inl rfl)),fun g=>by cases g⟩) fun hc=>?_
    obtain⟨a,b⟩:=hr (by simpa using hc);refine Wp.bind (Wp.fb a b fun z _ _=> .some ⟨c0,fun _=>?_⟩);rw[<-g3];exact⟨rfl,rfl⟩
 .subst ho;obtain rfl:=no rfl;refine ql (wf (by omega) (by omega) (by omega)) Aj ha.pl (ex _ fun _=>⟨?_,?_⟩)
  .rw[rR (by omega) (by omega) (by omega) (by omega) (by omega)];exact .some rfl
  .exact .of (x:=(((2:Int),((0:Int),(env.2.2.2.1.length:Int))),(0:Int))) rfl ⟨c0,fun _=>⟨rfl,rfl⟩⟩
 .obtain rfl:=no (by rcases ho with h|h|h|h<;>rw[h]<;>rfl);obtain⟨k,rfl,h1,hvt⟩:=hL;have g1:=ag.mts k t h1;obtain⟨hk,hkt⟩:=ajn.1 g1
  have t5:(t.1:Int)≠6:=by
   intro h6
   rcases ho with h|h|h|h
   .rcases Fp h with g|g<;>rw[h6]at g<;>exact absurd g (by decide)
   .have g:=xv (.inl h);rw[h6]at g;exact absurd g (by decide)
   .have g:=xv (.inr h);rw[h6]at g;exact absurd g (by decide)
   .rcases P4 h with g|g<;>rw[h6]at g<;>exact absurd g (by decide)
  have t2:(t.2:Int)=0:=by
   unfold jo at hvt
   rcases hvt with h|h
   .exact h.2.2
   .exact absurd h.1 t5
  have alw:RU op t:=by
   refine⟨t2,?_⟩
   rcases ho with rfl|rfl|rfl|rfl
   .rw[if_pos rfl];exact Fp rfl
   .rw[if_neg (by decide),if_neg (by decide)];exact xv (.inl rfl)
   .rw[if_neg (by decide),if_neg (by decide)];exact xv (.inr rfl)
   .rw[if_neg (by decide),if_pos rfl]
    rcases P4 rfl with(g|g|g)|g<;>rw[g]<;>decide
  refine ql (wf (by omega) (by omega) (by omega)) Aj ha.pl (ex _ fun _=>⟨?_,?_⟩)
  .unfold M.bt;dsimp only[ae,Row.den];rw[pX,decide_eq_false (show¬op=7 by omega),decide_eq_false (show¬op=8 by omega),decide_eq_false (show¬op=33 by omega),decide_eq_false (show¬op=34 by omega),decide_eq_true ho];simp only[ajp,if_false,if_true,aji];rw[ng g1];simp only[aji,nL];exact .some (decide_eq_true alw)
  .unfold M.bB;dsimp only[ae,Row.den];rw[BW,pX,decide_eq_false (show¬(op=1\/op=2\/op=3\/op=4\/op=5) by omega),decide_eq_false (show¬op=6 by omega),decide_eq_false (show¬op=7 by omega),decide_eq_false (show¬op=8 by omega),decide_eq_false (show¬op=9 by omega),decide_eq_false (show¬op=35 by omega),decide_eq_true ho];simp only[ajp,if_false,if_true,aji];rw[o8 (by unfold aE;omega) ho hk he.1 (by rw[hkt];exact alw),hkt];exact .some (NO (fun l hl=>ag.mem l hl k t h1) t2)
 .have hp:C0 op:=by
   unfold C0
   rcases hR with⟨h,_⟩|⟨h,_⟩|⟨h,_⟩|⟨h,_⟩|⟨h,_⟩|⟨h,_⟩|⟨h,_⟩|⟨h,_⟩|⟨h,_⟩|⟨h,_⟩|⟨h,_⟩|⟨h,_⟩|⟨h,_⟩|⟨h,_⟩|⟨h,_⟩<;>omega
  unfold C0 at hp;exact ql (wf hm (by omega) (by omega)) Aj ha.pl (ex _ fun _=>Lk hm hR ha)
def Kn(l:List Vl)(ts:List Ty)(u:Bool):Prop:=l.length=ts.length/\∀(k:Nat)(t:Ty),ts[k]? =some t->∃v,l[k]? =some v/\(lY v t\/(u=true/\(v.1:Int)=0))
structure ahr(s:Sg)(env:cE.den):Prop where
 inp:Kn env.2.1 s.2.2.1 false
 dfs:Kn env.2.2.1 s.2.2.2.1 true
 mts:∀(k:Nat)(t:Ty),s.2.2.2.2.1[k]? =some t->env.2.2.2.2.1[k]? =some t
 mem:∀l∈env.2.2.2.1,Kn l s.2.2.2.2.1 true
end L.P
end Go.Proofs.YtmihpkfkbfgigaaGreatDoor
end
section
open _root_.Go.IntKind renaming i64->ajj
open _root_.List.cons renaming injEq->ake
open _root_.List renaming drop_append_of_le_length->aj5,drop_of_length_le->aj1,getD->ajN,getElem?_eq_getElem->ajl,getElem_mem->ajs,length_map->ajM,map_cons->akv,take_append_of_le_length->ajK,take_length->ajD
open _root_.Nat renaming le_refl->ajo,zero_le->ajI
open _root_.Option renaming bind_some->aji,getD_some->ajW
namespace Go.Proofs.YtmihpkfkbfgigaaGreatDoor
open Go Go.RowKit
set_option maxRecDepth 100000
namespace L.P
def VS(e:List Ty)(st:List Nat)(s:Sg)(ty:Nat->Ty)(i:Nat):Prop:=
 ∀h:i<e.length,((e[i].2:Int)=0\/us e[i].1)/\NT e[i].1 e[i].2 ((opsL st (ar e[i].1).toNat i).map ty) s (ty i)
theorem rS{e:List Ty}{st:List Nat}(v:wT e st){i:Nat}(h:i<e.length):∀o∈opsL st (ar e[i].1).toNat i,o<i:=fun o ho=>(v.ops h o ho).1
theorem Eo{st l:List Nat}{i:Nat}(c:Ch st i l){a:Nat}(ha:a<=l.length):∀o∈opsL st a i,o<i:=fun o ho=>(K3 c a ha o ho).1
theorem Ip{e:List Ty}{s:Sg}(hw:∀n∈e,WF aa n):Wp (M.gh aE e s) fun r=>r.2.2=0->∃st,Whole e st/\∃ty:Nat->Ty,r.1=ty (e.length-1)/\∀i,VS e st s ty i:=by
 unfold M.gh;rw[ma];simp only[aji]
 rcases Eg e with Lm|⟨st,w⟩
 .rw[if_pos (by simp[Lm])]
  exact .some fun h=>absurd h Lm
 rw[w.res];simp only;rw[if_neg (by simp)];have hp:0<e.length:=List.length_pos_iff.2 w.ne;have hle:=w.le;refine Wp.join (Wp.loop (fun q:Int×List Ty=>∃k:Nat,q.1=k/\k<=e.length/\∃l,Ch st k l/\∃ty:Nat->Ty,q.2=(opsL st l.length k).map ty/\∀j,j<k->VS e st s ty j) (fun q=>(e.length-q.1).toNat) ⟨0,rfl,ajI _,[], .nil,fun _=>((0:Int),(0:Int)),rfl,fun j h=>by omega⟩ (by unfold aE;simp only;omega) ?_)
 rintro⟨_,gB⟩ ⟨k,rfl,hk,l,hc,ty,Ln,Lo⟩
 dsimp only at Ln⊢
 refine Wp.dec (fun ao=>?_) fun hge=> .some ?_
 .have ao:k<e.length:=by omega
  have Ao:=hw _ (ajs ao);obtain⟨v1,l',v2,v3,v4,v5⟩:=w.val.node k ao;obtain rfl:=v2.NG hc;have Ie:=jP e[k].1
  have fZ:gB.length=l'.length:=by rw[Ln,ajM,cT]
  rw[ah ao];simp only[aji,cw]
  refine Wp.seq (fun j=>j=false->((e[k].2:Int)=0\/us e[k].1)) ?_ fun j hj=>?_
  .refine Wp.jV (fun _=>Wp.seq _ (FL ..) fun y hy=> .some fun h=> .inr (hy.1 (by simpa using h))) fun h=> .some fun _=> .inl h
  refine Wp.ite (fun _=> .some ?_) fun hcj=>?_
  .show(2:Int)=0->_
   exact fun h=>by cases h
  have RX:=hj (by simpa using hcj)
  obtain⟨a,ha⟩:∃a:Nat,ar e[k].1=a:=⟨(ar e[k].1).toNat,by omega⟩
  have MJ:(ar e[k].1).toNat=a:=by omega
  have Lp:=hc.next v1 v3 v5;rw[MJ]at v3 Lp;rw[ha]at Lp v5
  have wl:ajj.wrap ((gB.length:Int)-ar e[k].1)=((gB.length-a:Nat):Int):=by rw[aM (by omega) (by omega)];omega
  rw[wl,lm (gB.length-a) gB.length rfl rfl (by omega) (ajo _),fW (by omega),ajD];simp only[aji];have Ep:=Ek hc a v3
  have JJ:gB.drop (gB.length-a)=(opsL st a k).map ty:=by
   rw[fZ,Ln,<-List.map_drop,Ep,aj5 (by rw[cT];exact ajo _),aj1 (by rw[cT];exact ajo _),List.nil_append]
  have tC:gB.take (gB.length-a)=(opsL st (l'.length-a) (mi (a:Int) k l')).map ty:=by
   rw[fZ,Ln,<-List.map_take,Ep,ajK (by rw[cT];exact ajo _),List.take_of_length_le (by rw[cT];exact ajo _)]
  rw[JJ,tC];have hm:(e[k].2:Int)<=9223372036854775807:=Ao.2.2;have Pg:=NK aE e[k].1 e[k].2 hm ((opsL st a k).map ty) s (by rw[ajM,cT];exact ha.symm)
  refine Wp.seq _ Pg fun r hr=>?_
  refine Wp.jV (fun h=> .some ?_) fun h0=>?_
  .exact fun g=>absurd g h
  have hr:=hr h0;rw[bL (by simp[cT];omega)];simp only[aji];rw[az (by omega)];refine .some ⟨⟨k+1,rfl,ao,_,Lp,fun i=>if i=k then r.1 else ty i,?_,fun j hj h=>?_⟩,by simp only;omega⟩
  .have e1:(l'.take (l'.length-a)++[mi (a:Int) k l']).length=l'.length-a+1:=by simp
   have hg:st.getD (k+1-1) 0=mi (a:Int) k l':=by simp[ajN,v5]
   have e2:opsL st (l'.length-a+1) (k+1)=opsL st (l'.length-a) (mi (a:Int) k l')++[k]:=by rw[opsL,hg];rfl
   have e3:(opsL st (l'.length-a) (mi (a:Int) k l')).map (fun i=>if i=k then r.1 else ty i)=(opsL st (l'.length-a) (mi (a:Int) k l')).map ty:=List.map_congr_left fun o ho=>by
    have:o<k:=Eo hc (ajo _) o (by rw[Ep];exact List.mem_append_left _ ho);rw[if_neg (by omega)]
   rw[e1,e2,List.map_append,e3];simp
  .have same:∀i,i<=k->∀o∈opsL st (ar e[j].1).toNat j,(if o=k then r.1 else ty o)=ty o:=fun i _ o ho=>by
    have:=rS w.val h o ho;rw[if_neg (by omega)]
   rw[List.map_congr_left (same k (ajo _))];by_cases U5:j=k
   .subst U5;refine⟨RX,?_⟩;dsimp only;rw[if_pos rfl,MJ];exact hr
   .dsimp only;rw[if_neg U5];exact Lo j (by omega) h
 .obtain rfl:k=e.length:=by omega
  show Wp ((idx gB 0).bind _) _
  rw[Ln,NL w hc]
  exact .some fun _=>⟨st,w,ty,rfl,fun i h=>Lo i h h⟩
theorem Cn{g:Nat->Vl×Int}{ty:Nat->Ty}:∀{os:List Nat},(∀o∈os,lJ (ty o) (g o))->(∀vs,ee g os= .inl vs->tf vs (os.map ty))/\∀c,ee g os= .inr c->C3 c
 |[],_=>⟨fun vs h=>by cases h;trivial,fun c h=>by cases h⟩
 |o::os,h=>by
  obtain⟨i1,i2⟩:=Cn (os:=os) fun x hx=>h x (List.mem_cons_of_mem _ hx)
  obtain⟨t1,t2⟩:=h o (List.mem_cons_self ..);rw[ee];split
  .rename_i h0
   cases hq:ee g os with
   |inl vs=>exact⟨fun ws hw=>by cases hw;exact⟨t2 h0,i1 vs hq⟩,fun c hc=>by cases hc⟩
   |inr d=>exact⟨fun ws hw=>(by cases hw),fun c hc=>by cases hc;exact i2 _ hq⟩
  .exact⟨fun ws hw=>(by cases hw),fun c hc=>by cases hc;exact t1⟩
theorem uL{r:Vl×Int}{t:Ty}(h:lJ t r)(ht:(t.1:Int)=1):(fX r).2=r.2/\(r.2=0->(fX r).1=r.1):=by
 unfold fX;by_cases h0:r.2=0
 .rw[if_neg (fun g=>g h0),if_pos ⟨(h.2 h0).2.1.trans ht,(h.2 h0).1⟩];exact⟨h0.symm,fun _=>rfl⟩
 .rw[if_pos h0];exact⟨rfl,fun g=>absurd g h0⟩
theorem zU{r:Vl×Int}{t:Ty}(h:lJ t r)(ht:(t.1:Int)=1):lJ t (fX r):=by
 obtain⟨h1,h2⟩:=uL h ht;exact⟨by rw[h1];exact h.1,fun g=>by rw[h2 (h1▸g)];exact h.2 (h1▸g)⟩
theorem zV{r:Vl×Int}{a:Ty}(h:lJ a r)(ha:(a.1:Int)=1):lJ ((1:Int),(0:Int)) r:=
 ⟨h.1,fun g=>⟨(h.2 g).1,(h.2 g).2.1.trans ha,(h.2 g).2.2.trans (Ck (h.2 g) (by rw[ha];decide))⟩⟩
theorem FU{op:Int}{ts:List Ty}{t:Ty}(hz:bJ op)(h:RT op ts t):((op=23\/op=24)/\∃a b:Ty,ts=[a,b]/\(a.1:Int)=1/\(b.1:Int)=1/\t=((1:Int),(0:Int)))\/(op=26/\∃a b:Ty,ts=[a,b,b]/\(a.1:Int)=1/\t=b):=by
 unfold bJ at hz
 rcases h with⟨h,_⟩|⟨h,_⟩|⟨h,_⟩|⟨h,_⟩|⟨h,_⟩|⟨h,_⟩|⟨h,_⟩|⟨h,_⟩|⟨h,_⟩|⟨h,_⟩|⟨h,_⟩|h|h|⟨h,_⟩|⟨h,_⟩
 case inr.inr.inr.inr.inr.inr.inr.inr.inr.inr.inr.inl=>exact .inl h
 case inr.inr.inr.inr.inr.inr.inr.inr.inr.inr.inr.inr.inl=>exact .inr h
 all_goals omega
theorem wA{e:List Ty}{st:List Nat}{s:Sg}{ty:Nat->Ty}{env:cE.den}(w:Whole e st)(he:iC env)(ag:U4 s env)(Lo:∀i,VS e st s ty i):∀(f i:Nat),i<f->i<e.length->lJ (ty i) (eH (iX env) e st f i)
 |0,i,hf,_=>by omega
 |f+1,i,hf,hi=>by
  have ih:=wA w he ag Lo f;have ao:=rS w.val hi;obtain⟨RX,Pg⟩:=Lo i hi;obtain⟨v1,_⟩:=w.val.node i hi
  have hge:e.getD i ((0,0):Int×Int)=e[i]:=by simp only[ajN,ajl hi,ajW]
  have hlen:=cT st (ar e[i].1).toNat i
  have IU:∀o∈opsL st (ar e[i].1).toNat i,lJ (ty o) (eH (iX env) e st f o):=fun o ho=>ih o (by have:=ao o ho;omega) (by have:=ao o ho;omega)
  rw[eH,hge];generalize hn:e[i]=n at*;obtain⟨(op:Int),(m:Int)⟩:=n;dsimp only[ae,Row.den]at*;generalize opsL st (ar op).toNat i=os at*;generalize eH (iX env) e st f=g at*;by_cases hz:bJ op
  .rw[if_pos hz]
   have hR:RT op (os.map ty) (ty i):=by
    unfold bJ at hz
    rcases Pg with⟨ho,_⟩|⟨ho,_⟩|⟨ho,_⟩|⟨ho,_⟩|⟨ho,_⟩|⟨ho,_⟩|⟨ho,_⟩|⟨ho,_⟩|⟨_,hR⟩
    .omega
    .omega
    .omega
    .omega
    .omega
    .omega
    .omega
    .omega
    .exact hR
   unfold B5;dsimp only;have IJ:m=0:=RX.resolve_right (by unfold bJ at hz;unfold us;omega);rw[if_neg (fun h=>h IJ)]
   rcases FU hz hR with⟨ho,a,b,vR,ha,hb,ht⟩|⟨ho,a,b,vR,ha,ht⟩
   .obtain⟨o1,o2,rfl⟩:=Ei (l:=os) (by rw[<-ajM (f:=ty),vR];rfl);simp only[akv,List.map_nil,ake,and_true]at vR;have h1:=IU o1 (by simp);have h2:=IU o2 (by simp);rw[vR.1]at h1;rw[vR.2]at h2;have t1:=zV (zU h1 ha) ha;have t2:=zV (zU h2 hb) hb;rw[ht]
    show lJ _ (if(fX (g o1)).2≠0 then(z3,(fX (g o1)).2)else if op=26/\((fX (g o1)).1.2.2:Int)=1 then g o2 else if op=26 then _ else if(op=23)=(((fX (g o1)).1.2.2:Int)=0)then((fX (g o1)).1,0)else fX (g o2))
    by_cases h0:(fX (g o1)).2≠0
    .rw[if_pos h0];exact⟨t1.1,fun h=>absurd h h0⟩
    .rw[if_neg h0,if_neg (by omega),if_neg (by omega)];split
     .exact⟨.inl rfl,fun _=>t1.2 (by omega)⟩
     .exact t2
   .obtain⟨o1,o2,o3,rfl⟩:=Cb (l:=os) (by rw[<-ajM (f:=ty),vR];rfl);simp only[akv,List.map_nil,ake,and_true]at vR;have h1:=IU o1 (by simp);have h2:=IU o2 (by simp);have h3:=IU o3 (by simp);rw[vR.1]at h1;rw[vR.2.1]at h2;rw[vR.2.2]at h3;have t1:=zV (zU h1 ha) ha;rw[ht]
    show lJ _ (if(fX (g o1)).2≠0 then(z3,(fX (g o1)).2)else if op=26/\((fX (g o1)).1.2.2:Int)=1 then g o2 else if op=26 then g o3 else _)
    by_cases h0:(fX (g o1)).2≠0
    .rw[if_pos h0];exact⟨t1.1,fun h=>absurd h h0⟩
    .rw[if_neg h0];split
     .exact h2
     .exact h3
  .rw[if_neg hz];obtain⟨i1,i2⟩:=Cn IU
   cases hq:ee g os with
   |inr c=>exact⟨i2 c hq,fun h=>absurd h (wq hq)⟩
   |inl vs=>
    obtain⟨r,hr,nn⟩:=Ll he ag Pg v1 RX (by rw[ajM,hlen];omega) (i1 vs hq)
    show lJ (ty i) ((M.bI aE (op,m) vs env).getD (z3,0))
    rw[hr];exact nn
end L.P
end Go.Proofs.YtmihpkfkbfgigaaGreatDoor
end
section
open _root_.List renaming append_assoc->ajH,getD->ajN,getD_cons_succ->aky,getD_cons_zero->akx,getElem?_eq_getElem->ajl,getElem_mem->ajs,length_append->ajm,length_cons->ajy,length_map->ajM,length_singleton->ajw,map_cons->akv,mem_append->ajL,mem_cons->ajJ,mem_singleton->ajz
open _root_.List.cons renaming injEq->ake
open _root_.Nat renaming add_assoc->akq
open _root_.Option renaming getD_some->ajW
namespace Go.Proofs.YtmihpkfkbfgigaaGreatDoor
open Go Go.RowKit
set_option maxRecDepth 100000
namespace L.P
def Cmp(code:List Ty)(env:cE.den)(b b':Nat)(q:Vl×Int):Prop:=∀S:List Vl,(q.2=0->∀r,cq code env b' (S++[q.1]) r->cq code env b S r)/\(q.2≠0->cq code env b S (z3,q.2))
theorem Co{code:List Ty}{F:List Int}{env:cE.den}{g:Nat->Nat->Int->List (Ty×Int)}{v:Nat->Vl×Int}:∀(os:List Nat)(b:Nat)(d:Int),(∀o∈os,∀(b:Nat)(d:Int),At code F b (g o b d)->b+(g o b d).length<=code.length->Cmp code env b (b+(g o b d).length) (v o))->At code F b (mj g os b d)->b+(mj g os b d).length<=code.length->∀S:List Vl,(∀vs,ee v os= .inl vs->∀r,cq code env (b+(mj g os b d).length) (S++vs) r->cq code env b S r)/\(∀c,ee v os= .inr c->cq code env b S (z3,c))
 |[],b,d,_,_,_,S=>by
  refine⟨fun vs h r hr=>?_,fun c h=>by cases h⟩;cases h;simpa[mj]using hr
 |o::os,b,d,hg,hA,hl,S=>by
  rw[mj]at hA hl⊢;rw[ajm]at hl⊢;obtain⟨h1,h2⟩:=hg o (List.mem_cons_self ..) b d hA.left (by omega) S;have ih:=Co (v:=v) (env:=env) os (b+(g o b d).length) (d+1) (fun o ho=>hg o (List.mem_cons_of_mem _ ho)) hA.right (by omega);rw[ee];by_cases h0:(v o).2=0
  .rw[if_pos h0];obtain⟨i1,i2⟩:=ih (S++[(v o).1])
   cases hq:ee v os with
   |inl vs=>
    refine⟨fun ws hw r hr=>?_,fun c hc=>by cases hc⟩;cases hw;refine h1 h0 r (i1 vs hq r ?_);rw[ajH,List.singleton_append,akq];exact hr
   |inr c=>
    refine⟨fun ws hw=>(by cases hw),fun c' hc=>?_⟩;cases hc;exact h1 h0 _ (i2 c hq)
  .rw[if_neg h0];refine⟨fun ws hw=>(by cases hw),fun c hc=>?_⟩;cases hc;exact h2 h0
theorem Q3{op:Int}{E:Int}{top:Vl}(ho:op=23\/op=24)(hv:(top.2.2:Int)=0\/(top.2.2:Int)=1):uK ((if op=24 then 53 else 52,E):Int×Int) top=true↔((op=23)=((top.2.2:Int)=0)):=by
 unfold uK
 rcases ho with rfl|rfl<;>rcases hv with h|h<;>rw[h]<;>simp
theorem Lq{v:Vl}{a:Ty}(h:lY v a)(ha:(a.1:Int)=1):(v.1:Int)=1/\((v.2.2:Int)=0\/(v.2.2:Int)=1):=by
 obtain⟨(k:Int),(e:Int),(n:Int)⟩:=v;obtain⟨(p:Int),(q:Int)⟩:=a;obtain⟨h1,h2,h3⟩:=h;dsimp only[ae,Row.den]at*;unfold da at h1;omega
theorem NP{op m:Int}{ts:List Ty}{s:Sg}{t:Ty}(hz:bJ op)(Pg:NT op m ts s t):RT op ts t:=by
 unfold bJ at hz
 rcases Pg with⟨ho,_⟩|⟨ho,_⟩|⟨ho,_⟩|⟨ho,_⟩|⟨ho,_⟩|⟨ho,_⟩|⟨ho,_⟩|⟨ho,_⟩|⟨_,hR⟩
 case inr.inr.inr.inr.inr.inr.inr.inr=>exact hR
 all_goals omega
theorem FV{code:List Ty}{F:List Int}{e:List Ty}{st:List Nat}{s:Sg}{ty:Nat->Ty}{env:cE.den}(w:Whole e st)(he:iC env)(ag:U4 s env)(Lo:∀i,VS e st s ty i):∀(f i b:Nat)(d:Int),i<f->i<e.length->At code F b (cg e st f i b d)->b+(cg e st f i b d).length<=code.length->Cmp code env b (b+(cg e st f i b d).length) (eH (iX env) e st f i)
 |0,_,_,_,h,_,_,_=>by omega
 |f+1,i,b,d,hf,hi,hA,hl=>by
  have ih:=FV (code:=code) (F:=F) w he ag Lo f;have Q4:=wA w he ag Lo f;have ao:=rS w.val hi;obtain⟨RX,Pg⟩:=Lo i hi;obtain⟨v1,_⟩:=w.val.node i hi
  have hge:e.getD i ((0,0):Int×Int)=e[i]:=by simp only[ajN,ajl hi,ajW]
  have hlen:=cT st (ar e[i].1).toNat i;rw[eH,hge];rw[cg,hge]at hA hl⊢;generalize opsL st (ar e[i].1).toNat i=os at*;by_cases hz:bJ e[i].1
  .rw[if_pos hz];have hR:=NP hz Pg
   have IJ:(e[i].2:Int)=0:=RX.resolve_right (by
    unfold bJ at hz;unfold us
    rcases hz with h|h|h<;>rw[h]<;>decide)
   have Hl:∀o∈os,lJ (ty o) (eH (iX env) e st f o):=fun o ho=>Q4 o (by have:=ao o ho;omega) (by have:=ao o ho;omega)
   have IU:∀o∈os,∀(b:Nat)(d:Int),At code F b (cg e st f o b d)->b+(cg e st f o b d).length<=code.length->Cmp code env b (b+(cg e st f o b d).length) (eH (iX env) e st f o):=fun o ho b d JX xH=>ih o b d (by have:=ao o ho;omega) (by have:=ao o ho;omega) JX xH
   unfold B5;generalize eH (iX env) e st f=g at*
   rcases FU hz hR with⟨ho,a,b',vR,ha,hb,ht⟩|⟨ho,a,b',vR,ha,ht⟩
   .obtain⟨o0,o1,rfl⟩:=Ei (l:=os) (by rw[<-ajM (f:=ty),vR];rfl);simp only[akv,List.map_nil,ake,and_true]at vR;have t0:=Hl o0 (by simp);have t1:=Hl o1 (by simp);rw[vR.1]at t0;rw[vR.2]at t1;rw[if_pos ho]at hA hl⊢;rw[if_neg (fun h=>h IJ)];unfold tS at hA hl⊢;have i0:=IU o0 (by simp) b d;simp only[akx,aky]at hA hl⊢;generalize cg e st f o0 b d=g0 at*;have i1:=IU o1 (by simp) (b+g0.length+1) d;generalize cg e st f o1 (b+g0.length+1) d=g1 at*;rw[ajm,ajy]at hl⊢
    have eE:b+(g0.length+(g1.length+1))=b+g0.length+1+g1.length:=by omega
    rw[eE]at hl⊢;have a1:=hA.right.head.1;dsimp only at a1;intro S;obtain⟨c1,c2⟩:=i0 hA.left (by omega) S;obtain⟨d1,d2⟩:=i1 hA.right.tail (by omega) S;obtain⟨e1,e2⟩:=uL t0 ha;obtain⟨f1,f2⟩:=uL t1 hb;rw[e1];by_cases h0:(g o0).2=0
    .obtain⟨k1,k2⟩:=Lq (t0.2 h0) ha;rw[if_neg (fun h=>h h0),e2 h0,if_neg (fun h=>by rcases ho with g|g<;>(rw[h.1]at g;exact absurd g (by decide))),if_neg (fun h=>by rcases ho with g|g<;>(rw[h]at g;exact absurd g (by decide)))];have hj:=Q3 (E:=((b+g0.length+1+g1.length:Nat):Int)) ho k2
     have fM:((if(e[i].1:Int)=24 then(53:Int)else 52)=50\/(if(e[i].1:Int)=24 then(53:Int)else 52)=52\/(if(e[i].1:Int)=24 then(53:Int)else 52)=53):=by split<;>simp
     have abv:¬(if(e[i].1:Int)=24 then(53:Int)else 52)=50:=by split<;>decide
     by_cases hJ:((e[i].1:Int)=23)=(((g o0).1.2.2:Int)=0)
     .rw[if_pos hJ];refine⟨fun _ r hr=>c1 h0 r (cq.cond a1 fM rfl (by omega) hl k1 k2 ?_),fun h=>absurd rfl h⟩;rw[if_pos (hj.2 hJ),if_neg (by rw[hj.2 hJ];exact fun h=>h.elim (fun h=>by cases h) abv)];exact hr
     .rw[if_neg hJ]
      have hjf:uK ((if(e[i].1:Int)=24 then 53 else 52,((b+g0.length+1+g1.length:Nat):Int)):Int×Int) (g o0).1=false:=by
       rw[<-Bool.not_eq_true];exact fun h=>hJ (hj.1 h)
      have step:∀r,cq code env (b+g0.length+1) S r->cq code env b S r:=fun r hr=>c1 h0 r (cq.cond a1 fM rfl (by omega) hl k1 k2 (by
       rw[hjf,if_neg (by simp),if_pos (.inl rfl)]
       exact hr))
      refine⟨fun h r hr=>step r (d1 (by rw[<-f1];exact h) r (by rw[f2 (by rw[<-f1];exact h)]at hr;exact hr)),fun h=>?_⟩;rw[f1]at h⊢;exact step _ (d2 h)
    .rw[if_pos h0];exact⟨fun h=>absurd h h0,fun _=>c2 h0⟩
   .obtain⟨o0,o1,o2,rfl⟩:=Cb (l:=os) (by rw[<-ajM (f:=ty),vR];rfl);simp only[akv,List.map_nil,ake,and_true]at vR;have t0:=Hl o0 (by simp);rw[vR.1]at t0
    have CZ:¬((e[i].1:Int)=23\/(e[i].1:Int)=24):=fun h=>by rcases h with g|g<;>(rw[ho]at g;exact absurd g (by decide))
    rw[if_neg CZ,if_pos ho]at hA hl⊢;rw[if_neg (fun h=>h IJ)];unfold Cf at hA hl⊢;generalize hE:k9 (cg e st f) [o0,o1,o2] b d=E at*;unfold k9 at hE;have i0:=IU o0 (by simp) b d;simp only[akx,aky]at hA hl hE⊢;generalize cg e st f o0 b d=g0 at*;have i1:=IU o1 (by simp) (b+g0.length+1) d;generalize cg e st f o1 (b+g0.length+1) d=g1 at*;have i2:=IU o2 (by simp) E d;generalize cg e st f o2 E d=g2 at*;rw[ajm,ajy,ajm,ajy]at hl⊢
    have eE:b+(g0.length+(g1.length+(g2.length+1)+1))=E+g2.length:=by omega
    rw[eE]at hl⊢;have a1:=hA.right.head.1;have a2:=hA.right.tail;have a3:=a2.right.head.1;have a5:=a2.right.tail;rw[hE]at a5;dsimp only at a1 a3;intro S;obtain⟨c1,c2⟩:=i0 hA.left (by omega) S;obtain⟨d1,d2⟩:=i1 a2.left (by omega) S;obtain⟨x1,x2⟩:=i2 a5 hl S;obtain⟨e1,e2⟩:=uL t0 ha;rw[e1];by_cases h0:(g o0).2=0
    .obtain⟨k1,k2⟩:=Lq (t0.2 h0) ha;rw[if_neg (fun h=>h h0),e2 h0]
     have hj:uK ((50,(E:Int)):Int×Int) (g o0).1=true↔¬((g o0).1.2.2:Int)=1:=by
      unfold uK;simp
     by_cases hJ:((g o0).1.2.2:Int)=1
     .rw[if_pos ⟨ho,hJ⟩]
      have hjf:uK ((50,(E:Int)):Int×Int) (g o0).1=false:=by
       rw[<-Bool.not_eq_true];exact fun h=>hj.1 h hJ
      have step:∀r,cq code env (b+g0.length+1) S r->cq code env b S r:=fun r hr=>c1 h0 r (cq.cond a1 (.inl rfl) rfl (by omega) (by omega) k1 k2 (by
       rw[hjf,if_neg (by simp),if_pos (.inl rfl)]
       exact hr))
      exact⟨fun h r hr=>step r (d1 h r (cq.jump a3 rfl rfl (by omega) (by omega) hr)),fun h=>step _ (d2 h)⟩
     .rw[if_neg (fun h=>hJ h.2),if_pos ho]
      have step:∀r,cq code env E S r->cq code env b S r:=fun r hr=>c1 h0 r (cq.cond a1 (.inl rfl) rfl (by omega) (by omega) k1 k2 (by
       rw[if_pos (hj.2 hJ),if_pos (.inr rfl)]
       exact hr))
      exact⟨fun h r hr=>step r (x1 h r hr),fun h=>step _ (x2 h)⟩
    .rw[if_pos h0];exact⟨fun h=>absurd h h0,fun _=>c2 h0⟩
  have CZ:¬((e[i].1:Int)=23\/(e[i].1:Int)=24):=fun h=>hz (h.elim .inl fun h=> .inr (.inl h))
  have FJ:¬(e[i].1:Int)=26:=fun h=>hz (.inr (.inr h))
  rw[if_neg hz];rw[if_neg CZ,if_neg FJ]at hA hl⊢;rw[ajm,ajw]at hl⊢
  obtain⟨a,ha⟩:∃a:Nat,ar e[i].1=a:=⟨(ar e[i].1).toNat,by omega⟩
  have hj:¬(50<=(e[i].1:Int)/\(e[i].1:Int)<=53):=fun h=>by have:=Lb h.1;omega
  obtain⟨b1,_⟩:=hA.right.head;dsimp only at b1;intro S;obtain⟨h1,h2⟩:=Co (code:=code) (F:=F) (env:=env) (g:=cg e st f) (v:=eH (iX env) e st f) os b d (fun o ho b' d' JX xH=>ih o b' d' (by have:=ao o ho;omega) (by have:=ao o ho;omega) JX xH) hA.left (by omega) S
  cases hq:ee (eH (iX env) e st f) os with
  |inr c=>
   refine⟨fun h=>absurd h (wq hq),fun _=>h2 c hq⟩
  |inl vs=>
   have IQ:vs.length=a:=by rw[tc hq,hlen];omega
   have fZ:(S++vs).length-a=S.length:=by rw[ajm];omega
   have jE:(S++vs).drop ((S++vs).length-a)=vs:=by rw[fZ];simp
   have JI:(S++vs).take ((S++vs).length-a)=S:=by rw[fZ];simp
   refine⟨fun h0 r hr=>h1 vs hq r ?_,fun h0=>h1 vs hq _ ?_⟩
   .refine cq.op b1 hj ha (by rw[ajm];omega) (by rw[jE];exact h0) ?_;rw[jE,JI];rw[<-akq]at hr;exact hr
   .have:=cq.fail (env:=env) (S:=S++vs) b1 hj ha (by rw[ajm];omega) (by rw[jE];exact h0);rw[jE]at this;exact this
theorem FW{e:List Ty}{st:List Nat}{env:cE.den}(w:Whole e st)(he:iC env)(hw:∀n∈e,WF aa n):∀(f i:Nat),i<f->i<e.length->(eH (iX env) e st f i).2≠0->(eH (iX env) e st f i).1=z3
 |0,_,h,_,_=>by omega
 |f+1,i,hf,hi,h=>by
  have hge:e.getD i ((0,0):Int×Int)=e[i]:=by simp only[ajN,ajl hi,ajW]
  have ao:=rS w.val hi;have hlen:=cT st (ar e[i].1).toNat i
  have ih:∀o∈opsL st (ar e[i].1).toNat i,(eH (iX env) e st f o).2≠0->(eH (iX env) e st f o).1=z3:=fun o ho=>FW w he hw f o (by have:=ao o ho;omega) (by have:=ao o ho;omega)
  have zb:∀r:Vl×Int,(fX r).2≠0->(fX r).1=z3:=fun r=>by
   unfold fX;split
   .exact fun _=>rfl
   split
   .exact fun h=>absurd rfl h
   .exact fun _=>rfl
  rw[eH,hge]at h⊢;by_cases hz:bJ e[i].1
  .rw[if_pos hz]at h⊢;generalize Mg:opsL st (ar e[i].1).toNat i=os at*;generalize eH (iX env) e st f=g at*;unfold B5 at h⊢;split at h
   .rename_i c;rw[if_pos c]
   rename_i c1;rw[if_neg c1];split at h
   .rename_i c;rw[if_pos c]
   rename_i c2;rw[if_neg c2]
   have h3:(e[i].1:Int)=26->∃o0 o1 o2,os=[o0,o1,o2]:=fun g=>Cb (by rw[hlen,g];rfl)
   split at h
   .rename_i c;rw[if_pos c];obtain⟨o0,o1,o2,rfl⟩:=h3 c.1;exact ih o1 (by simp) h
   rename_i c3;rw[if_neg c3];split at h
   .rename_i c;rw[if_pos c];obtain⟨o0,o1,o2,rfl⟩:=h3 c;exact ih o2 (by simp) h
   rename_i c4;rw[if_neg c4];split at h
   .exact absurd rfl h
   .rename_i c;rw[if_neg c];exact zb _ h
  .rw[if_neg hz]at h⊢
   cases hq:ee (eH (iX env) e st f) (opsL st (ar e[i].1).toNat i)with
   |inr c=>rfl
   |inl vs=>
    rw[hq]at h
    have hl:vs.length<=100000:=by
     have a1:=tc hq;have a3:=jP e[i].1;omega
    exact(FI he (hw _ (ajs hi)) hl).bad h
theorem FX{P:Ty×Int->Prop}{g:Nat->Nat->Int->List (Ty×Int)}:∀(os:List Nat)(b:Nat)(d:Int),(∀o∈os,∀b d,∀x∈g o b d,P x)->∀x∈mj g os b d,P x
 |[],_,_,_,x,h=>by simp[mj]at h
 |o::os,b,d,hg,x,h=>by
  rw[mj]at h
  rcases ajL.1 h with h|h
  .exact hg o (List.mem_cons_self ..) _ _ x h
  .exact FX os _ _ (fun o ho=>hg o (List.mem_cons_of_mem _ ho)) x h
theorem Lr{e:List Ty}{st:List Nat}(w:Whole e st):∀(f i b:Nat)(d:Int),i<e.length->∀x∈cg e st f i b d,((x.1.1:Int)=50\/(x.1.1:Int)=51\/(x.1.1:Int)=52\/(x.1.1:Int)=53)\/x.1∈e
 |0,_,_,_,_,x,h=>by simp[cg]at h
 |f+1,i,b,d,hi,x,h=>by
  have hge:e.getD i ((0,0):Int×Int)=e[i]:=by simp only[ajN,ajl hi,ajW]
  have ao:=rS w.val hi;have hlen:=cT st (ar e[i].1).toNat i
  have ih:∀o∈opsL st (ar e[i].1).toNat i,∀b d,∀x∈cg e st f o b d,((x.1.1:Int)=50\/(x.1.1:Int)=51\/(x.1.1:Int)=52\/(x.1.1:Int)=53)\/x.1∈e:=fun o ho b d=>Lr w f o b d (by have:=ao o ho;omega)
  rw[cg,hge]at h;generalize opsL st (ar e[i].1).toNat i=os at*;split at h
  .rename_i fM;obtain⟨o0,o1,rfl⟩:=Ei (l:=os) (by rw[hlen];rcases fM with g|g<;>rw[g]<;>rfl);unfold tS at h
   rcases ajL.1 h with h|h
   .exact ih o0 (by simp) _ _ x h
   rcases ajJ.1 h with rfl|h
   .left
    show(if _ then(53:Int)else 52)=50\/(if _ then(53:Int)else 52)=51\/(if _ then(53:Int)else 52)=52\/(if _ then(53:Int)else 52)=53
    split<;>simp
   .exact ih o1 (by simp) _ _ x h
  split at h
  .rename_i fM;obtain⟨o0,o1,o2,rfl⟩:=Cb (l:=os) (by rw[hlen,fM];rfl);unfold Cf at h
   rcases ajL.1 h with h|h
   .exact ih o0 (by simp) _ _ x h
   rcases ajJ.1 h with rfl|h
   .exact .inl (.inl rfl)
   rcases ajL.1 h with h|h
   .exact ih o1 (by simp) _ _ x h
   rcases ajJ.1 h with rfl|h
   .exact .inl (.inr (.inl rfl))
   .exact ih o2 (by simp) _ _ x h
  .rcases ajL.1 h with h|h
   .exact FX os _ _ ih x h
   .rw[ajz.1 h];exact .inr (ajs hi)
end L.P
end Go.Proofs.YtmihpkfkbfgigaaGreatDoor
end
section
open _root_.Bool renaming false_eq_true->ajp,not_true->akr
open _root_.Int renaming toNat_natCast->ajr
open _root_.Go.IntKind renaming i64->ajj
open _root_.List renaming getD->ajN,length_set->akN,replicate->ajq,replicate_succ->ako,set_append_right->aj4
open _root_.Nat renaming le_refl->ajo,zero_le->ajI
open _root_.Option renaming bind_some->aji
namespace Go.Proofs.YtmihpkfkbfgigaaGreatDoor
open Go Go.RowKit
set_option maxRecDepth 100000
namespace L.P.Q
def z3:Vl:=((0,0,0):Int×Int×Int)
def bJ(op:Int):Prop:=op=23\/op=24\/op=26
instance(op:Int):Decidable (bJ op):=by unfold bJ;infer_instance
noncomputable def iX(env:cE.den)(n:Ty)(args:List Vl):Vl×Int:=(M.bI aE n args env).getD (z3,0)
theorem yq{env:cE.den}(he:iC env){n:Ty}(hn:WF aa n){args:List Vl}(hl:args.length<=100000):M.bI aE n args env=some (iX env n args):=by
 obtain⟨r,hr,_⟩:=pb (n:=n) (args:=args) he hn hl;unfold iX;rw[hr];rfl
theorem FI{env:cE.den}(he:iC env){n:Ty}(hn:WF aa n){args:List Vl}(hl:args.length<=100000):NF (iX env n args):=by
 obtain⟨r,hr,h⟩:=pb (n:=n) (args:=args) he hn hl;unfold iX;rw[hr];exact h
theorem k8(N:Nat)(op:Int):M.eh N op=some (decide (50<=op/\op<=53)):=by
 unfold M.eh
 by_cases h:50<=op<;>simp[h]
theorem mC(N:Nat)(op:Int):M.cP N op=some (decide (¬bJ op/\(50<=op/\op<=53\/0<=ar op))):=by
 unfold M.cP;rw[uk,k8,cw];simp only[aji];unfold bJ;by_cases h:op=23\/op=24\/op=26
 .simp[h]
 .by_cases h2:50<=op/\op<=53
  .simp[h,h2]
  .simp[h,h2]
theorem jQ(N:Nat)(op:Int):M.eJ N op=some (decide (op=50\/op=52\/op=53)):=by
 unfold M.eJ;by_cases h:op=50
 .simp[h]
 .by_cases h2:op=52
  .simp[h2]
  .simp[h,h2]
def gd(D:List Int)(k:Nat):Int:=D.getD k (-1)
theorem gK{D:List Int}{t:Nat}(ht:t<D.length)(d:Int)(k:Nat):gd (D.set t d) k=if k=t then d else gd D k:=by
 unfold gd ajN;by_cases h:k=t
 .subst h;rw[if_pos rfl,List.getElem?_set_self ht];rfl
 .rw[if_neg h,List.getElem?_set_ne (by omega)]
theorem jD{D:List Int}{t:Nat}(ht:t<D.length):idx D (t:Int)=some (gd D t):=by
 rw[ah ht];simp[gd,ajN,ht]
def Bd(D:List Int):Prop:=∀k,-1<=gd D k/\gd D k<=12
structure Mn(D D':List Int)(i:Nat):Prop where
 len:D'.length=D.length
 keep:∀k,0<=gd D k->gd D' k=gd D k
 low:∀k,k<=i->gd D' k=gd D k
theorem Mn.refl(D:List Int)(i:Nat):Mn D D i:=⟨rfl,fun _ _=>rfl,fun _ _=>rfl⟩
theorem Mn.trans{A B C:List Int}{i:Nat}(h:Mn A B i)(h':Mn B C i):Mn A C i:=
 ⟨h'.len.trans h.len,fun k hk=>by rw[h'.keep k (by rw[h.keep k hk];exact hk),h.keep k hk],fun k hk=>by rw[h'.low k hk,h.low k hk]⟩
theorem kH{N:Nat}{D:List Int}{t i:Nat}{d:Int}(ht:t<D.length)(u6:i<t)(hd:0<=d/\d<=12)(hB:Bd D):Wp (M.aT N (t:Int) d D) fun r=>(r.1=0->Mn D r.2 i/\Bd r.2/\gd r.2 t=d)/\(gd D t= -1->r=(0,D.set t d)):=by
 unfold M.aT;rw[jD ht];simp only[aji,aC];by_cases h0:0<=gd D t
 .rw[decide_eq_true h0];simp only[if_true];by_cases h1:gd D t=d
  .rw[if_neg (by simp[h1])]
   refine .some ⟨fun _=>⟨⟨by simp[aQ],fun k _=>?_,fun k hk=>?_⟩,fun k=>?_,?_⟩,fun h=>by omega⟩<;>simp only[aQ,ajr,gK ht]
   .split
    .rename_i h;rw[h,h1]
    .rfl
   .rw[if_neg (by omega)]
   .split
    .omega
    .exact hB k
   .simp
  .rw[if_pos (by simp[h1])];exact .some ⟨fun h=>by simp at h,fun h=>by omega⟩
 .rw[decide_eq_false h0];simp only[ajp,if_false]
  refine .some ⟨fun _=>⟨⟨by simp[aQ],fun k hk=>?_,fun k hk=>?_⟩,fun k=>?_,?_⟩,fun h=>by simp[aQ]⟩<;>simp only[aQ,ajr,gK ht]
  .rw[if_neg (fun h=>by rw[h]at hk;exact h0 hk)]
  .rw[if_neg (by omega)]
  .split
   .omega
   .exact hB k
  .simp
def iW(len:Nat)(D:List Int)(j:Nat)(n:Ty):Prop:=
 ((n.1:Int)=51/\∃t:Nat,(n.2:Int)=t/\j<t/\t<=len/\gd D t=gd D j)\/
 (((n.1:Int)=50\/(n.1:Int)=52\/(n.1:Int)=53)/\1<=gd D j/\gd D (j+1)=gd D j-1/\∃t:Nat,(n.2:Int)=t/\j<t/\t<=len/\gd D t=if(n.1:Int)=50 then gd D j-1 else gd D j)\/
 ((n.1:Int)≠51/\¬((n.1:Int)=50\/(n.1:Int)=52\/(n.1:Int)=53)/\0<=ar n.1/\ar n.1<=gd D j/\gd D (j+1)=gd D j-ar n.1+1/\gd D j-ar n.1+1<=12)
theorem iW.mono{len j i:Nat}{D D':List Int}{n:Ty}(h:iW len D j n)(hj:0<=gd D j)(m:Mn D D' i):iW len D' j n:=by
 have e:=m.keep j hj
 rcases h with⟨h1,t,h2,h3,h4,h5⟩|⟨h1,h2,h3,t,h4,h5,h6,h7⟩|⟨h1,h2,h3,h4,h5,h6⟩
 .exact .inl ⟨h1,t,h2,h3,h4,by rw[m.keep t (by omega),h5,e]⟩
 .have e1:=m.keep (j+1) (by omega);have e2:=m.keep t (by rw[h7];split<;>omega);exact .inr (.inl ⟨h1,by omega,by omega,t,h4,h5,h6,by rw[e2,e];exact h7⟩)
 .have e1:=m.keep (j+1) (by omega);exact .inr (.inr ⟨h1,h2,h3,by omega,by omega,by omega⟩)
theorem FK{N:Nat}{code:List Ty}{D:List Int}{i:Nat}(hl:code.length<=128)(hi:i<code.length)(hD:D.length=code.length+1)(hB:Bd D)(h0:0<=gd D i):Wp (M.bA N code (i:Int) code[i] D) fun r=>r.1=0->Mn D r.2 i/\Bd r.2/\iW code.length r.2 i code[i]/\¬bJ code[i].1:=by
 unfold M.bA;generalize code[i]=n;obtain⟨(op:Int),(m:Int)⟩:=n;dsimp only[ae,Row.den]at*;have Ie:=jP op;have hBi:=hB i;rw[mC,k8,jD (by omega),cw,uk];simp only[aji,aC];by_cases c1:¬bJ op/\(50<=op/\op<=53\/0<=ar op)
 case neg=>
  rw[decide_eq_false c1];simp only[Bool.not_false,if_true]
  exact .some fun h=>by simp at h
 rw[decide_eq_true c1];simp only[akr,ajp,if_false];by_cases c2:50<=op/\op<=53
 .rw[decide_eq_true c2];simp only[if_true];by_cases c3:m<=i\/(code.length:Int)<m
  .have:(if decide (m<=(i:Int))=true then true else decide ((code.length:Int)<m))=true:=by
    rcases c3 with c|c<;>simp[c]
   rw[if_pos this]
   exact .some fun h=>by simp at h
  have hc:(if decide (m<=(i:Int))=true then true else decide ((code.length:Int)<m))=false:=by
   rw[if_neg (by simp;omega)];simp;omega
  rw[if_neg (by rw[hc];simp)]
  obtain⟨t,rfl⟩:∃t:Nat,m=t:=⟨m.toNat,by omega⟩
  refine Wp.dec (fun c4=>?_) fun c4=>?_
  .refine Wp.seq _ (kH (t:=t) (i:=i) (by omega) (by omega) (by omega) hB) fun r hr=> .some fun h=>?_
   obtain⟨a1,a2,a3⟩:=hr.1 h;exact⟨a1,a2, .inl ⟨c4,t,rfl,by omega,by omega,by rw[a3,a1.low i (ajo _)]⟩,c1.1⟩
  refine Wp.dec (fun c5=>?_) fun c5=>by omega
  refine Wp.dec (fun c6=> .some fun h=>by simp at h) fun c6=>?_
  have w1:ajj.wrap (gd D i-1)=gd D i-1:=aM (by omega) (by omega);rw[w1,az (by omega)]
  refine Wp.seq _ (kH (t:=i+1) (i:=i) (by omega) (by omega) (by omega) hB) fun r hr=>?_
  refine Wp.jV (fun c7=> .some fun h=>absurd h c7) fun c7=>?_
  obtain⟨a1,a2,a3⟩:=hr.1 c7;have rO:=a1.low i (ajo _)
  refine Wp.seq _ (kH (D:=r.2) (t:=t) (i:=i) (by rw[a1.len];omega) (by omega) (by split<;>omega) a2) fun r' py=> .some fun h=>?_
  obtain⟨b1,b2,b3⟩:=py.1 h;refine⟨a1.trans b1,b2, .inr (.inl ⟨c5,?_,?_,t,rfl,by omega,by omega,?_⟩),c1.1⟩
  .rw[b1.low i (ajo _)];show 1<=gd r.2 i;omega
  .show gd r'.2 (i+1)=gd r'.2 i-1
   rw[b1.low i (ajo _),b1.keep (i+1) (by omega)];omega
  .show gd r'.2 t=if op=50 then gd r'.2 i-1 else gd r'.2 i
   rw[b1.low i (ajo _),b3,rO]
   by_cases An:op=50<;>simp[An]
 .rw[decide_eq_false c2];simp only[ajp,if_false]
  refine Wp.dec (fun c4=>by omega) fun c4=>?_
  refine Wp.dec (fun c5=>by omega) fun c5=>?_
  refine Wp.dec (fun c6=> .some fun h=>by simp at h) fun c6=>?_
  have w1:ajj.wrap (gd D i-ar op)=gd D i-ar op:=aM (by omega) (by omega);have w2:ajj.wrap (gd D i-ar op+1)=gd D i-ar op+1:=aM (by omega) (by omega);rw[w1,w2]
  refine Wp.dec (fun c7=> .some fun h=>by simp at h) fun c7=>?_
  rw[az (by omega)]
  refine Wp.seq _ (kH (t:=i+1) (i:=i) (by omega) (by omega) (by omega) hB) fun r hr=> .some fun h=>?_
  obtain⟨a1,a2,a3⟩:=hr.1 h;have rO:=a1.low i (ajo _);exact⟨a1,a2, .inr (.inr ⟨c4,c5,by show 0<=ar op;omega,by show ar op<=gd r.2 i;omega,by show gd r.2 (i+1)=gd r.2 i-ar op+1;omega,by show gd r.2 i-ar op+1<=12;omega⟩),c1.1⟩
structure Fits(code:List Ty)(F:List Int):Prop where
 pos:0<code.length
 le:code.length<=128
 len:F.length=code.length+1
 bd:Bd F
 first:gd F 0=0
 last:gd F code.length=1
 step:∀j(h:j<code.length),0<=gd F j->iW code.length F j code[j]/\¬bJ code[j].1
theorem zP(n k:Nat):gd (ajq n (-1)) k= -1:=by
 unfold gd ajN;by_cases h:k<n
 .simp[h]
 .rw[List.getElem?_eq_none (by simp;omega)];rfl
theorem tT(code:List Ty):Wp (M.bH aE code) fun y=>y.2=0->∃F,Fits code F:=by
 unfold M.bH
 refine Wp.dec (fun h=> .some fun h=>by simp at h) fun h1=>?_
 refine Wp.dec (fun h=> .some fun h=>by simp at h) fun h2=>?_
 have hl:code.length<=128:=by omega
 have hp:0<code.length:=by omega
 rw[az (by omega)]
 have uI:mI ((code.length+1:Nat):Int) (0:Int)=some (ajq (code.length+1) 0):=by
  unfold mI;rw[if_pos (by omega),ajr]
 rw[uI];simp only[aji];refine Wp.seq (· =ajq (code.length+1) (-1:Int)) ?_ ?_
 .refine Wp.loop (fun s:Int×List Int=>∃k m:Nat,s=((k:Int),ajq k (-1)++ajq m 0)/\k+m=code.length+1) (fun s=>(code.length+1-s.1).toNat) ⟨0,code.length+1,by simp,by omega⟩ (by unfold aE;simp only;omega) ?_
  rintro _ ⟨k,m,rfl,hk⟩
  simp only[List.length_replicate]
  refine Wp.dec (fun h=>?_) fun h=> .some ?_
  .obtain⟨m,rfl⟩:∃m',m=m'+1:=⟨m-1,by omega⟩
   rw[ah (by simp)];simp only[aji];rw[az (by omega)];refine .some ⟨⟨k+1,m,?_,by omega⟩,by simp only;omega⟩;refine Prod.ext rfl ?_;simp only[aQ,ajr];rw[aj4 _ _ (by simp),ako];simp[List.replicate_succ']
  .obtain rfl:m=0:=by omega
   obtain rfl:k=code.length+1:=by omega
   show _=_
   simp
 rintro _ rfl
 have e1:idx (ajq (code.length+1) (-1:Int)) 0=some (-1):=by rw[ako];rfl
 rw[e1];simp only[aji];have e0:aQ (ajq (code.length+1) (-1:Int)) (0:Int) (0:Int)=(ajq (code.length+1) (-1:Int)).set 0 0:=rfl;rw[e0]
 have g0:∀k,gd ((ajq (code.length+1) (-1:Int)).set 0 0) k=if k=0 then 0 else-1:=fun k=>by
  rw[gK (by simp),zP]
 refine Wp.join (Wp.loop (fun s:Int×Int×List Int=>∃i:Nat,s.2.1=i/\i<=code.length/\s.2.2.length=code.length+1/\Bd s.2.2/\gd s.2.2 0=0/\∀j(h:j<code.length),j<i->0<=gd s.2.2 j->iW code.length s.2.2 j code[j]/\¬bJ code[j].1) (fun s=>(code.length-s.2.1).toNat) ⟨0,rfl,ajI _,by simp,fun k=>?_,?_,fun j _ h=>by omega⟩ (by unfold aE;simp only;omega) ?_)
 .simp only[g0];split<;>omega
 .simp only[g0];rfl
 rintro⟨g,at',D⟩ ⟨i,oi,hi,hD,hB,hz,hs⟩
 dsimp only at oi hi hD hB hz hs⊢;subst oi
 refine Wp.dec (fun ao=>?_) fun hge=> .some ?_
 .have ao:i<code.length:=by omega
  rw[az (by omega),ah ao,jD (by omega)];simp only[aji];refine Wp.join ?_
  refine Wp.dec (fun Ef=> .some ?_) fun nl=>?_
  .refine Wp.some ?_;refine⟨⟨i+1,rfl,ao,hD,hB,hz,fun j h hj h0=>hs j h ?_ h0⟩,by simp only;omega⟩
   rcases Nat.lt_or_ge j i with h'|h'
   .exact h'
   .have:j=i:=by omega
    subst this;dsimp only at h0;omega
  .refine Wp.seq _ (FK hl ao hD hB (by omega)) fun r hr=>?_
   refine Wp.jV (fun bP=> .some ?_) fun nn=> .some ?_
   .exact(fun h=>absurd h bP:r.1=0->∃F,Fits code F)
   .obtain⟨a1,a2,a3,a4⟩:=hr nn;refine Wp.some ?_;refine⟨⟨i+1,rfl,ao,by rw[<-hD];exact a1.len,a2,by rw[<-hz];exact a1.low 0 (ajI _),fun j h hj h0=>?_⟩,by simp only;omega⟩
    rcases Nat.lt_or_ge j i with h'|h'
    .have e:=a1.low j (by omega)
     have h0':0<=gd D j:=by rw[<-e];exact h0
     obtain⟨b1,b2⟩:=hs j h h' h0';exact⟨b1.mono h0' a1,b2⟩
    .have:j=i:=by omega
     subst this;exact⟨a3,a4⟩
 .obtain rfl:i=code.length:=by omega
  show Wp ((idx D (code.length:Int)).bind _) _
  rw[jD (by omega)];simp only[aji]
  refine Wp.dec (fun h=> .some fun h=>by simp at h) fun h3=>?_
  refine Wp.dec (fun h=> .some fun h=>by simp at h) fun h4=> .some fun _=>⟨D,hp,hl,hD,hB,hz,by omega,fun j h h0=>hs j h h h0⟩
structure Cs(F D:List Int):Prop where
 len:D.length=F.length
 ok:∀k,gd D k= -1\/gd D k=gd F k
theorem Cs.set{F D:List Int}(c:Cs F D){t:Nat}(ht:t<F.length):Cs F (D.set t (gd F t)):=by
 refine⟨by rw[akN,c.len],fun k=>?_⟩;rw[gK (by rw[c.len];exact ht)];split
 .rename_i h;rw[h];exact .inr rfl
 .exact c.ok k
theorem mc{N:Nat}{F D:List Int}(c:Cs F D){t:Nat}(ht:t<F.length):M.aT N (t:Int) (gd F t) D=some (0,D.set t (gd F t)):=by
 have htD:t<D.length:=by rw[c.len];exact ht
 unfold M.aT;rw[jD htD];simp only[aji,aC]
 rcases c.ok t with h|h
 .rw[h];rfl
 .rw[h]
  by_cases h0:0<=gd F t<;>simp[h0,aQ]
theorem El{N:Nat}{code:List Ty}{F D:List Int}(f:Fits code F)(c:Cs F D){i:Nat}(hi:i<code.length)(h0:gd D i=gd F i)(hp:0<=gd F i):Wp (M.bA N code (i:Int) code[i] D) fun r=>r.1=0/\Cs F r.2/\∃t,i<t/\t<=code.length/\0<=gd r.2 t:=by
 have hle:=f.le;have RV:=f.len;have hDl:=c.len;have hb:=f.bd i;have E2:=f.bd (i+1);obtain⟨hs,Ii⟩:=f.step i hi hp;unfold M.bA;generalize code[i]=n at*;obtain⟨(op:Int),(m:Int)⟩:=n;dsimp only[ae,Row.den]at*;have Ie:=jP op;rw[mC,k8,jD (by omega),cw,uk,h0];simp only[aji]
 have e0:(50<=op/\op<=53\/0<=ar op)->(50<=op/\op<=53->(i:Int)<m/\m<=(code.length:Int))->(if(!decide (¬bJ op/\(50<=op/\op<=53\/0<=ar op)))=true then some true else(if decide (50<=op/\op<=53)=true then(if decide (m<=(i:Int))=true then some true else some (decide ((code.length:Int)<m)))else some false))=some false:=by
  intro g1 g2;rw[decide_eq_true (show¬bJ op/\(50<=op/\op<=53\/0<=ar op)from⟨Ii,g1⟩),if_neg (by simp)];by_cases g:50<=op/\op<=53
  .obtain⟨g3,g4⟩:=g2 g;rw[decide_eq_true g,if_pos rfl,decide_eq_false (by omega),if_neg (by simp),decide_eq_false (by omega)]
  .rw[decide_eq_false g,if_neg (by simp)]
 rcases hs with⟨h1,t,h2,h3,h4,h5⟩|⟨h1,h2,h3,t,h4,h5,h6,h7⟩|⟨h1,h2,h3,h4,h5,h6⟩
 .dsimp only[ae,Row.den]at*;subst h2;rw[e0 (.inl (by omega)) (fun _=>by omega)];simp only[aji,ajp,if_false]
  refine Wp.dec (fun _=>?_) fun h=>absurd h1 h
  rw[<-h5,mc c (by omega)];refine .some ⟨rfl,c.set (by omega),t,h3,h4,?_⟩
  show 0<=gd (D.set t (gd F t)) t
  rw[gK (by omega),if_pos rfl];omega
 .dsimp only[ae,Row.den]at*;subst h4;rw[e0 (.inl (by omega)) (fun _=>by omega)];simp only[aji,ajp,if_false]
  refine Wp.dec (fun h=>by omega) fun _=>?_
  refine Wp.dec (fun _=>?_) fun h=>absurd h1 h
  refine Wp.dec (fun h=>by omega) fun _=>?_
  have w1:ajj.wrap (gd F i-1)=gd F (i+1):=by rw[aM (by omega) (by omega),h3]
  rw[w1,az (by omega),mc c (by omega)];have c1:=c.set (t:=i+1) (by omega);simp only[aji]
  refine Wp.jV (fun h=>absurd trivial h) fun _=>?_
  have e7:(if decide (op=50)=true then some (gd F (i+1))else some (gd F i))=some (gd F t):=by
   by_cases An:op=50
   .rw[decide_eq_true An,if_pos rfl,h7,if_pos An,h3]
   .rw[decide_eq_false An,if_neg (by simp),h7,if_neg An]
  rw[e7];simp only[aji];rw[mc c1 (by omega)];have c2:=c1.set (t:=t) (by omega);refine .some ⟨rfl,c2,t,h5,h6,?_⟩
  show 0<=gd (((D.set (i+1) (gd F (i+1)))).set t (gd F t)) t
  rw[gK (by rw[akN];omega),if_pos rfl,h7]
  split<;>omega
 .dsimp only[ae,Row.den]at*
  have fM:¬(50<=op/\op<=53):=by
   intro h
   have:op=50\/op=51\/op=52\/op=53:=by omega
   omega
  rw[e0 (.inr h3) (fun h=>absurd h fM)];simp only[aji,ajp,if_false]
  refine Wp.dec (fun h=>absurd h h1) fun _=>?_
  refine Wp.dec (fun h=>absurd h h2) fun _=>?_
  refine Wp.dec (fun h=>by omega) fun _=>?_
  have w1:ajj.wrap (gd F i-ar op)=gd F i-ar op:=aM (by omega) (by omega)
  have w2:ajj.wrap (gd F i-ar op+1)=gd F (i+1):=by rw[aM (by omega) (by omega),h5]
  rw[w1,w2]
  refine Wp.dec (fun h=>by omega) fun _=>?_
  rw[az (by omega),mc c (by omega)];refine .some ⟨rfl,c.set (by omega),i+1,by omega,by omega,?_⟩
  show 0<=gd (D.set (i+1) (gd F (i+1))) (i+1)
  rw[gK (by omega),if_pos rfl];omega
theorem Fits.verify{code:List Ty}{F:List Int}(f:Fits code F):Wp (M.bH aE code) fun y=>y.2=0:=by
 have hl:=f.le;have hp:=f.pos;have RV:=f.len;unfold M.bH
 refine Wp.dec (fun h=>by omega) fun h1=>?_
 refine Wp.dec (fun h=>by omega) fun h2=>?_
 rw[az (by omega)]
 have uI:mI ((code.length+1:Nat):Int) (0:Int)=some (ajq (code.length+1) 0):=by
  unfold mI;rw[if_pos (by omega),ajr]
 rw[uI];simp only[aji];refine Wp.seq (· =ajq (code.length+1) (-1:Int)) ?_ ?_
 .refine Wp.loop (fun s:Int×List Int=>∃k m:Nat,s=((k:Int),ajq k (-1)++ajq m 0)/\k+m=code.length+1) (fun s=>(code.length+1-s.1).toNat) ⟨0,code.length+1,by simp,by omega⟩ (by unfold aE;simp only;omega) ?_
  rintro _ ⟨k,m,rfl,hk⟩
  simp only[List.length_replicate]
  refine Wp.dec (fun h=>?_) fun h=> .some ?_
  .obtain⟨m,rfl⟩:∃m',m=m'+1:=⟨m-1,by omega⟩
   rw[ah (by simp)];simp only[aji];rw[az (by omega)];refine .some ⟨⟨k+1,m,?_,by omega⟩,by simp only;omega⟩;refine Prod.ext rfl ?_;simp only[aQ,ajr];rw[aj4 _ _ (by simp),ako];simp[List.replicate_succ']
  .obtain rfl:m=0:=by omega
   obtain rfl:k=code.length+1:=by omega
   show _=_
   simp
 rintro _ rfl
 have e1:idx (ajq (code.length+1) (-1:Int)) 0=some (-1):=by rw[ako];rfl
 rw[e1];simp only[aji];have e0:aQ (ajq (code.length+1) (-1:Int)) (0:Int) (0:Int)=(ajq (code.length+1) (-1:Int)).set 0 0:=rfl;rw[e0]
 have g0:∀k,gd ((ajq (code.length+1) (-1:Int)).set 0 0) k=if k=0 then 0 else-1:=fun k=>by
  rw[gK (by simp),zP]
 refine Wp.join (Wp.loop (fun s:Int×Int×List Int=>∃i:Nat,s.2.1=i/\i<=code.length/\Cs F s.2.2/\∃k,i<=k/\k<=code.length/\0<=gd s.2.2 k) (fun s=>(code.length-s.2.1).toNat) ⟨0,rfl,ajI _,⟨by simp[RV],fun k=>?_⟩,0,ajo _,ajI _,?_⟩ (by unfold aE;simp only;omega) ?_)
 .simp only[g0];split
  .rename_i h;rw[h,f.first];exact .inr rfl
  .exact .inl rfl
 .simp only[g0];decide
 rintro⟨g,at',D⟩ ⟨i,oi,hi,hc,k,Fp,xv,P4⟩
 dsimp only at oi hi hc P4⊢;subst oi;have hDl:=hc.len
 refine Wp.dec (fun ao=>?_) fun hge=> .some ?_
 .have ao:i<code.length:=by omega
  rw[az (by omega),ah ao,jD (by omega)];simp only[aji];refine Wp.join ?_
  refine Wp.dec (fun Ef=> .some ?_) fun nl=>?_
  .refine Wp.some ⟨⟨i+1,rfl,ao,hc,k,?_,xv,P4⟩,by simp only;omega⟩;by_cases e:k=i
   .subst e;omega
   .omega
  have hgi:gd D i=gd F i:=(hc.ok i).resolve_left (by omega)
  refine Wp.seq _ (El f hc ao hgi (by omega)) fun r hr=>?_
  obtain⟨r1,r2,t,r3,r4,r5⟩:=hr
  refine Wp.jV (fun h=>absurd r1 h) fun _=> .some ?_
  exact Wp.some ⟨⟨i+1,rfl,ao,r2,t,r3,r4,r5⟩,by simp only;omega⟩
 .obtain rfl:i=code.length:=by omega
  show Wp ((idx D (code.length:Int)).bind _) _
  obtain rfl:k=code.length:=by omega
  rw[jD (by omega),(hc.ok _).resolve_left (by omega),f.last];exact .some rfl
end L.P.Q
end Go.Proofs.YtmihpkfkbfgigaaGreatDoor
end
section
open _root_.Bool renaming false_eq_true->ajp,not_true->akr
open _root_.Go.IntKind renaming i64->ajj
open _root_.List renaming getElem?_eq_getElem->ajl,getElem?_eq_some_iff->ajn,length_append->ajm,length_singleton->ajw,length_take->ajB,mem_of_getElem?->aka,take_append_of_le_length->ajK,take_length->ajD
open _root_.Nat renaming le_refl->ajo,min_eq_left->aj3,zero_le->ajI
open _root_.Option renaming bind_some->aji
namespace Go.Proofs.YtmihpkfkbfgigaaGreatDoor
open Go Go.RowKit
set_option maxRecDepth 100000
namespace L.P.Q
theorem rP{α:Type}(p:List α)(x:α):idx (p++[x]) (p.length:Int)=some x:=by
 rw[ah (by simp)];simp
def uK(n:Ty)(top:Vl):Bool:=decide (decide ((top.2.2:Int)=1)=decide ((n.1:Int)=53))
inductive cq(code:List Ty)(env:cE.den):Nat->List Vl->Vl×Int->Prop
 |done {v:Vl} {S:List Vl}:cq code env code.length (v::S) (v,0)
 |jump {p t:Nat} {S:List Vl} {r:Vl×Int} {n:Ty} (h:code[p]? =some n) (oz:(n.1:Int)=51) (ht:(n.2:Int)=t) (B8:p<t) (ue:t<=code.length) (next:cq code env t S r):cq code env p S r
 |op {p a:Nat} {S:List Vl} {r:Vl×Int} {n:Ty} (h:code[p]? =some n) (bP:¬(50<=(n.1:Int)/\(n.1:Int)<=53)) (ha:ar n.1=a) (hs:a<=S.length) (h0:(iX env n (S.drop (S.length-a))).2=0) (next:cq code env (p+1) (S.take (S.length-a)++[(iX env n (S.drop (S.length-a))).1]) r):cq code env p S r
 |fail {p a:Nat} {S:List Vl} {n:Ty} (h:code[p]? =some n) (bP:¬(50<=(n.1:Int)/\(n.1:Int)<=53)) (ha:ar n.1=a) (hs:a<=S.length) (h0:(iX env n (S.drop (S.length-a))).2≠0):cq code env p S (z3,(iX env n (S.drop (S.length-a))).2)
 |cond {p t:Nat} {S:List Vl} {r:Vl×Int} {n:Ty} {top:Vl} (h:code[p]? =some n) (fM:(n.1:Int)=50\/(n.1:Int)=52\/(n.1:Int)=53) (ht:(n.2:Int)=t) (B8:p<t) (ue:t<=code.length) (hk:(top.1:Int)=1) (hv:(top.2.2:Int)=0\/(top.2.2:Int)=1) (next:cq code env (if uK n top=true then t else p+1) (if uK n top=false\/(n.1:Int)=50 then S else S++[top]) r):cq code env p (S++[top]) r
 |cbad {p:Nat} {S:List Vl} {n:Ty} {top:Vl} (h:code[p]? =some n) (fM:(n.1:Int)=50\/(n.1:Int)=52\/(n.1:Int)=53) (hk:¬((top.1:Int)=1/\((top.2.2:Int)=0\/(top.2.2:Int)=1))):cq code env p (S++[top]) (z3,8)
theorem B9{code:List Ty}{env:cE.den}{r:Vl×Int}(he:iC env)(hw:∀n∈code,WF aa n)(hl:code.length<=128)(QX:Wp (M.bH aE code) fun y=>y.2=0)(hr:cq code env 0 [] r):Wp (M.n8 aE code env) fun x=>x.1=r.1/\x.2.2=r.2:=by
 unfold M.n8
 refine Wp.seq _ QX fun y hy=>?_
 refine Wp.jV (fun h=>absurd hy h) fun _=>?_
 refine Wp.join (Wp.loop (fun s:Int×Int×List Vl=>∃q k:Nat,s.1=q/\s.2.1=k/\k<=code.length/\q<=k/\s.2.2.length<=k/\cq code env k s.2.2 r) (fun s=>(code.length-s.2.1).toNat) ⟨0,0,rfl,rfl,ajI _,ajo _,ajo _,hr⟩ (by unfold aE;simp only;omega) ?_)
 rintro⟨_,_,gB⟩ ⟨q,k,rfl,rfl,hk,hq,Mp,bw⟩
 dsimp only at Mp bw⊢
 cases bw with
 | @done v S=>
   refine Wp.dec (fun h=>by omega) fun _=> .some ?_
   show Wp ((idx (v::S) (0:Int)).bind _) _
   exact .some ⟨rfl,rfl⟩
 | @jump _ t _ _ n h oz ht B8 ue next=>
   obtain⟨ao,hn⟩:=ajn.1 h
   refine Wp.dec (fun _=>?_) fun h=>by omega
   rw[ah ao,hn];simp only[aji];rw[az (k:=q) (by omega)];refine Wp.join (Wp.dec (fun _=> .some ?_) fun h=>absurd oz h);refine Wp.some ⟨⟨q+1,t,rfl,ht,ue,by omega,by show gB.length<=t;omega,next⟩,?_⟩;simp only[ht];omega
 | @op _ a _ _ n h bP ha hs h0 next=>
   obtain⟨ao,hn⟩:=ajn.1 h;have Ao:WF aa n:=hw n (aka h)
   refine Wp.dec (fun _=>?_) fun h=>by omega
   rw[ah ao,hn];simp only[aji,jQ,cw,aC];rw[az (k:=q) (by omega)]
   have n1:¬(n.1:Int)=51:=fun h=>bP (by rw[h];decide)
   have n2:¬((n.1:Int)=50\/(n.1:Int)=52\/(n.1:Int)=53):=fun h=>bP (by rcases h with h|h|h<;>rw[h]<;>decide)
   refine Wp.join (Wp.dec (fun h=>absurd h n1) fun _=>?_);rw[decide_eq_false n2];simp only[Bool.not_false,if_true]
   have wl:ajj.wrap ((gB.length:Int)-(a:Int))=((gB.length-a:Nat):Int):=by rw[aM (by omega) (by omega)];omega
   rw[ha,wl,lm (gB.length-a) gB.length rfl rfl (by omega) (ajo _),fW (by omega),ajD,az (k:=k) (by omega)];simp only[aji];rw[yq he Ao (by simp;omega)];simp only[aji]
   refine Wp.jV (fun h=>absurd h0 h) fun _=>?_
   rw[bL (by simp;omega)];simp only[aji];refine .some (Wp.some ⟨⟨q+1,k+1,rfl,rfl,ao,by omega,?_,next⟩,by simp only;omega⟩);simp;omega
 | @fail _ a _ n h bP ha hs h0=>
   obtain⟨ao,hn⟩:=ajn.1 h;have Ao:WF aa n:=hw n (aka h)
   refine Wp.dec (fun _=>?_) fun h=>by omega
   rw[ah ao,hn];simp only[aji,jQ,cw,aC]
   have n1:¬(n.1:Int)=51:=fun h=>bP (by rw[h];decide)
   have n2:¬((n.1:Int)=50\/(n.1:Int)=52\/(n.1:Int)=53):=fun h=>bP (by rcases h with h|h|h<;>rw[h]<;>decide)
   refine Wp.join (Wp.dec (fun h=>absurd h n1) fun _=>?_);rw[decide_eq_false n2];simp only[Bool.not_false,if_true]
   have wl:ajj.wrap ((gB.length:Int)-(a:Int))=((gB.length-a:Nat):Int):=by rw[aM (by omega) (by omega)];omega
   rw[ha,wl,lm (gB.length-a) gB.length rfl rfl (by omega) (ajo _),ajD];simp only[aji];rw[yq he Ao (by simp;omega)];simp only[aji]
   refine Wp.jV (fun _=> .some ?_) fun h=>absurd h h0
   exact⟨rfl,rfl⟩
 | @cond _ t S _ n top h fM ht B8 ue hkd hv next=>
   obtain⟨ao,hn⟩:=ajn.1 h
   refine Wp.dec (fun _=>?_) fun h=>by omega
   rw[ah ao,hn];simp only[aji,jQ,cw,aC];rw[az (k:=q) (by omega)]
   have n1:¬(n.1:Int)=51:=fun h=>by rcases fM with g|g|g<;>(rw[h]at g;exact absurd g (by decide))
   refine Wp.join (Wp.dec (fun h=>absurd h n1) fun _=>?_);rw[decide_eq_true fM];simp only[akr,ajp,if_false];rw[ajm,ajw]at Mp⊢
   have wl:ajj.wrap (((S.length+1:Nat):Int)-1)=(S.length:Int):=by rw[aM (by omega) (by omega)];omega
   rw[wl,rP S top];simp only[aji];rw[if_neg (by rw[hkd];rcases hv with g|g<;>rw[g]<;>simp)];rw[fW (by simp),az (k:=k) (by omega),ajK (ajo _),ajD];simp only[aji]
   have Pd:∀b:Bool,(if b=true then n.2 else((k+1:Nat):Int))=((if b=true then t else k+1:Nat):Int):=fun b=>by cases b<;>simp[ht]
   rw[Pd];have hb:decide (decide ((top.2.2:Int)=1)=decide ((n.1:Int)=53))=uK n top:=rfl;rw[hb];generalize uK n top=b at*
   have fin:∀(S':List Vl),S'.length<=k->cq code env (if b=true then t else k+1) S' r->vX (fun s:Int×Int×List Vl=>∃q k:Nat,s.1=q/\s.2.1=k/\k<=code.length/\q<=k/\s.2.2.length<=k/\cq code env k s.2.2 r) (fun s=>(code.length-s.2.1).toNat) ((q:Int),(k:Int),S++[top]) (o6 (fun j2:Int×List Vl=>(idx j2.2 0).bind fun IS=>some (IS,j2.1,0)) fun x:Vl×Int×Int=>x.1=r.1/\x.2.2=r.2) (Sum.inl (((q+1:Nat):Int),((if b=true then t else k+1:Nat):Int),S')):=by
    intro S' hS hR;refine⟨⟨q+1,if b=true then t else k+1,rfl,rfl,by split<;>omega,by split<;>omega,by show S'.length<=_;split<;>omega,hR⟩,?_⟩
    simp only;split<;>omega
   refine Wp.ite (fun hp=> .some ?_) fun hp=> .some ?_
   .have hx:b=false\/(n.1:Int)=50:=by
     cases b with
     |false=>exact .inl rfl
     |true=>exact .inr (by simpa using hp)
    have ex:(if b=false\/(n.1:Int)=50 then S else S++[top])=S:=if_pos hx
    rw[ex]at next
    exact Wp.some (fin S (by omega) next)
   .have hx:¬(b=false\/(n.1:Int)=50):=by
     cases b with
     |false=>simp at hp
     |true=>simpa using hp
    have ex:(if b=false\/(n.1:Int)=50 then S else S++[top])=S++[top]:=if_neg hx
    rw[ex]at next
    exact Wp.some (fin (S++[top]) (by rw[ajm,ajw];exact Mp) next)
 | @cbad _ S n top h fM Lm=>
   obtain⟨ao,hn⟩:=ajn.1 h
   refine Wp.dec (fun _=>?_) fun h=>by omega
   rw[ah ao,hn];simp only[aji,jQ,cw,aC]
   have n1:¬(n.1:Int)=51:=fun h=>by rcases fM with g|g|g<;>(rw[h]at g;exact absurd g (by decide))
   refine Wp.join (Wp.dec (fun h=>absurd h n1) fun _=>?_);rw[decide_eq_true fM];simp only[akr,ajp,if_false];rw[ajm,ajw]at Mp⊢
   have wl:ajj.wrap (((S.length+1:Nat):Int)-1)=(S.length:Int):=by rw[aM (by omega) (by omega)];omega
   rw[wl,rP S top];simp only[aji]
   rw[if_pos (by
    by_cases h1:(top.1:Int)=1
    .have h2:¬(top.2.2:Int)=0:=fun h=>Lm ⟨h1, .inl h⟩
     have h3:¬(top.2.2:Int)=1:=fun h=>Lm ⟨h1, .inr h⟩
     simp[h1,h2,h3]
    .simp[h1])]
   exact .some ⟨rfl,rfl⟩
theorem Fits.runs{code:List Ty}{F:List Int}{env:cE.den}(f:Fits code F):∀(m p:Nat)(S:List Vl),code.length-p<=m->p<=code.length->gd F p=S.length->∃r,cq code env p S r:=by
 intro m
 induction m with
 |zero=>
  intro p S hm hp hS
  obtain rfl:p=code.length:=by omega
  have hl:=f.last
  cases S with
  |nil=>simp at hS;omega
  |cons v S=>exact⟨_, .done⟩
 |succ m ih=>
  intro p S hm hp hS;by_cases ao:p<code.length
  case neg=>
   obtain rfl:p=code.length:=by omega
   have hl:=f.last
   cases S with
   |nil=>simp at hS;omega
   |cons v S=>exact⟨_, .done⟩
  have hge:=ajl ao
  rcases(f.step p ao (by omega)).1 with⟨h1,t,h2,h3,h4,h5⟩|⟨h1,h2,h3,t,h4,h5,h6,h7⟩|⟨h1,h2,h3,h4,h5,h6⟩
  .obtain⟨r,hr⟩:=ih t S (by omega) h4 (by omega);exact⟨r, .jump hge h1 h2 h3 h4 hr⟩
  .rcases List.eq_nil_or_concat S with rfl|⟨S',top,rfl⟩
   .simp at hS;omega
   simp only[List.concat_eq_append]at hS⊢;rw[ajm,ajw]at hS;by_cases hg:(top.1:Int)=1/\((top.2.2:Int)=0\/(top.2.2:Int)=1)
   .obtain⟨r,hr⟩:=ih (if uK code[p] top=true then t else p+1) (if uK code[p] top=false\/(code[p].1:Int)=50 then S' else S'++[top]) (by split<;>omega) (by split<;>omega) (by
     by_cases hj:uK code[p] top=true
     .rw[if_pos hj,h7];by_cases An:(code[p].1:Int)=50
      .rw[if_pos An,if_pos (.inr An)];omega
      .rw[if_neg An,if_neg (by simp[hj,An]),ajm,ajw];omega
     .rw[if_neg hj,if_pos (.inl (by simpa using hj)),h3];omega)
    exact⟨r, .cond hge h1 h4 h5 h6 hg.1 hg.2 hr⟩
   .exact⟨_, .cbad hge h1 hg⟩
  .obtain⟨a,ha⟩:∃a:Nat,ar code[p].1=a:=⟨(ar code[p].1).toNat,by omega⟩
   have Ph:¬(50<=(code[p].1:Int)/\(code[p].1:Int)<=53):=by
    generalize(code[p].1:Int)=o at h1 h2;dsimp only[ae,Row.den]at*;omega
   by_cases h0:(iX env code[p] (S.drop (S.length-a))).2=0
   .obtain⟨r,hr⟩:=ih (p+1) (S.take (S.length-a)++[(iX env code[p] (S.drop (S.length-a))).1]) (by omega) ao (by
     rw[h5,ajm,ajB,ajw,aj3 (by omega)];omega)
    exact⟨r, .op hge Ph ha (by omega) h0 hr⟩
   .exact⟨_, .fail hge Ph ha (by omega) h0⟩
end L.P.Q
end Go.Proofs.YtmihpkfkbfgigaaGreatDoor
end
