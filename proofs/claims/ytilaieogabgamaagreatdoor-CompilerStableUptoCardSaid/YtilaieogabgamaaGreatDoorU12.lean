/- Joined texts: PM5 PY3 PY5 PY6 P27c PQ PQ2 PQ3 PQ4 PQ5 PQ6 PQ7. -/
import Derived.Test.YtilaieogabgamaaGreatDoorU11
import Derived.Test.YtilaieogabgamaaGreatDoorU1
section
open _root_.Bool renaming false_eq_true->ajb
open _root_.Int renaming le_refl->aki,toNat_natCast->aja
open _root_.Go.IntKind renaming i64->ai3
open _root_.List renaming append_assoc->ajr,append_nil->ajW,getD->ajD,getD_cons_succ->akv,getD_cons_zero->aku,getElem?_append_left->ajA,getElem?_append_right->ajN,getElem?_eq_getElem->ai5,getElem?_eq_some_iff->ai7,getElem_append_left->ajf,getElem_append_right->ajn,getElem_mem->ajc,length_append->ai6,length_cons->ajk,length_map->ajG,length_set->akw,length_singleton->ajh,length_take->ajl,replicate->ai9,replicate_succ->aj9,set_append_right->ajU,take_append_of_le_length->ajy,take_length->aju
open _root_.Nat renaming add_assoc->akf,add_zero->aj7,le_refl->ai8,le_trans->ajE,zero_add->ajC,zero_le->ajt
open _root_.Option renaming bind_some->ai2,getD_some->ajP
open _root_.Option.some renaming inj->ai4
namespace Go.Proofs.YtilaieogabgamaaGreatDoor
open Go Go.RowKit
set_option maxRecDepth 100000
namespace L.P
def na(g:Nat->Nat->Int->List (Ty×Int)):List Nat->Nat->Int->List (Ty×Int)
 |[],_,_=>[]
 |o::os,b,d=>g o b d++na g os (b+(g o b d).length) (d+1)
def vZ(g:Nat->Nat->Int->List (Ty×Int))(n:Ty)(os:List Nat)(b:Nat)(d:Int):List (Ty×Int):=
 g (os.getD 0 0) b d++(((if(n.1:Int)=24 then 53 else 52,((b+(g (os.getD 0 0) b d).length+1+(g (os.getD 1 0) (b+(g (os.getD 0 0) b d).length+1) d).length:Nat):Int)):Int×Int),d+1)::g (os.getD 1 0) (b+(g (os.getD 0 0) b d).length+1) d
def ml(g:Nat->Nat->Int->List (Ty×Int))(os:List Nat)(b:Nat)(d:Int):Nat:=
 b+(g (os.getD 0 0) b d).length+1+(g (os.getD 1 0) (b+(g (os.getD 0 0) b d).length+1) d).length+1
def Eh(g:Nat->Nat->Int->List (Ty×Int))(os:List Nat)(b:Nat)(d:Int):List (Ty×Int):=
 g (os.getD 0 0) b d++(((50,((ml g os b d:Nat):Int)):Int×Int),d+1)::(g (os.getD 1 0) (b+(g (os.getD 0 0) b d).length+1) d++(((51,((ml g os b d+(g (os.getD 2 0) (ml g os b d) d).length:Nat):Int)):Int×Int),d+1)::g (os.getD 2 0) (ml g os b d) d)
def cg(e:List Ty)(st:List Nat):Nat->Nat->Nat->Int->List (Ty×Int)
 |0,_,_,_=>[]
 |f+1,i,b,d=>
  if((e.getD i ((0,0):Int×Int)).1:Int)=23\/((e.getD i ((0,0):Int×Int)).1:Int)=24 then vZ (cg e st f) (e.getD i ((0,0):Int×Int)) (opsL st (ar (e.getD i ((0,0):Int×Int)).1).toNat i) b d
  else if((e.getD i ((0,0):Int×Int)).1:Int)=26 then Eh (cg e st f) (opsL st (ar (e.getD i ((0,0):Int×Int)).1).toNat i) b d
  else na (cg e st f) (opsL st (ar (e.getD i ((0,0):Int×Int)).1).toNat i) b d++[(e.getD i ((0,0):Int×Int),d+((ar (e.getD i ((0,0):Int×Int)).1).toNat:Nat))]
theorem zQ(g:Nat->Nat->Int->List (Ty×Int)):∀(xs ys:List Nat)(b:Nat)(d:Int),na g (xs++ys) b d=na g xs b d++na g ys (b+(na g xs b d).length) (d+xs.length)
 |[],ys,b,d=>by simp[na]
 |x::xs,ys,b,d=>by
  rw[List.cons_append,na,na,zQ g xs ys];simp only[ai6,ajk,ajr];rw[show b+(g x b d).length+(na g xs (b+(g x b d).length) (d+1)).length=b+((g x b d).length+(na g xs (b+(g x b d).length) (d+1)).length) by omega,show d+1+(xs.length:Int)=d+((xs.length+1:Nat):Int) by omega]
theorem FI{st:List Nat}{g:Nat->Nat->Int->List (Ty×Int)}{P:Nat}(hg:∀(o s b:Nat)(d:Int),o<P->st[o]? =some s->s<=o->(g o b d).length<=2*(o+1-s)):∀(a i:Nat)(l:List Nat),Ch st i l->a<=l.length->i<=P->∀(b:Nat)(d:Int),(na g (opsL st a i) b d).length<=2*(i-lQ (a:Int) i l)
 |0,i,l,_,_,_,b,d=>by simp[opsL,na]
 |a+1,i,l,c,ha,hi,b,d=>by
  cases c with
  |nil=>simp at ha
  | @snoc j s l h1 h2 c=>
    have hg':st.getD (j+1-1) 0=s:=by simp[ajD,h1]
    have e1:opsL st (a+1) (j+1)=opsL st a s++[j]:=by rw[opsL,hg'];rfl
    have De:a<=l.length:=by rw[ai6,ajh]at ha;omega
    have ih:=FI hg a s l c De (by omega) b d;have hj:=hg j s (b+(na g (opsL st a s) b d).length) (d+(opsL st a s).length) (by omega) h1 h2
    have es:lQ ((a+1:Nat):Int) (j+1) (l++[s])=if a=0 then s else lQ (a:Int) s l:=by
     unfold lQ
     have en:((a+1:Nat):Int).toNat=a+1:=by omega
     have e3:l.length+1-(a+1)=l.length-a:=by omega
     rw[if_neg (by omega),ai6,ajh,en,e3];by_cases h0:a=0
     .rw[if_pos h0,h0];simp[ajD]
     .have al:l.length-a<l.length:=by omega
      rw[if_neg h0,if_neg (by omega),aja];simp[ajD,ajA al]
    have hle:lQ (a:Int) s l<=s:=zN (by omega) c (by omega)
    have MO:a=0->lQ (a:Int) s l=s:=fun h=>by unfold lQ;rw[if_pos (by omega)]
    rw[e1,zQ,ai6,es];simp only[na,ajW];split
    .rename_i h0;have:=MO h0;omega
    .omega
theorem FJ{g:Nat->Nat->Int->List (Ty×Int)}(hg:∀(o b b':Nat)(d d':Int),(g o b d).length=(g o b' d').length):∀(os:List Nat)(b b':Nat)(d d':Int),(na g os b d).length=(na g os b' d').length
 |[],_,_,_,_=>rfl
 |o::os,b,b',d,d'=>by
  rw[na,na,ai6,ai6,hg o b b' d d',FJ hg os _ (b'+(g o b' d').length) _ (d'+1)]
theorem K3(e:List Ty)(st:List Nat):∀(f i b b':Nat)(d d':Int),(cg e st f i b d).length=(cg e st f i b' d').length
 |0,_,_,_,_,_=>rfl
 |f+1,i,b,b',d,d'=>by
  have ih:=K3 e st f;rw[cg,cg];split
  .unfold vZ;simp only[ai6,ajk];rw[ih _ b b' d d',ih _ (b+_+1) (b'+((cg e st f ((opsL st (ar (e.getD i ((0,0):Int×Int)).1).toNat i).getD 0 0) b' d').length)+1) d d']
  split
  .unfold Eh;simp only[ai6,ajk];rw[ih _ b b' d d',ih _ (b+_+1) (b'+((cg e st f ((opsL st (ar (e.getD i ((0,0):Int×Int)).1).toNat i).getD 0 0) b' d').length)+1) d d',ih _ (ml (cg e st f) _ b d) (ml (cg e st f) (opsL st (ar (e.getD i ((0,0):Int×Int)).1).toNat i) b' d') d d']
  .simp only[ai6,ajk];rw[FJ ih _ b b' d d']
theorem K4{e:List Ty}{st:List Nat}(w:Whole e st):∀(f i s b:Nat)(d:Int),i<e.length->st[i]? =some s->s<=i->(cg e st f i b d).length<=2*(i+1-s)
 |0,i,s,b,d,_,_,_=>by simp[cg]
 |f+1,i,s,b,d,hi,hs,hsi=>by
  obtain⟨v1,l,v2,v3,v4,v5⟩:=w.val.node i hi
  have hge:e.getD i ((0,0):Int×Int)=e[i]:=by simp only[ajD,ai5 hi,ajP]
  have wV:s=lQ (ar e[i].1) i l:=by rw[hs]at v5;exact ai4 v5
  obtain⟨a,ha⟩:∃a:Nat,ar e[i].1=a:=⟨(ar e[i].1).toNat,by omega⟩
  have key:=FI (st:=st) (g:=cg e st f) (P:=i) (fun o s b d ho MZ abq=>K4 w f o s b d (by omega) MZ abq) a i l v2 (by omega) (ai8 _);have fO:lQ (a:Int) i l<=i:=zN (by omega) v2 (by omega);rw[ha]at wV;rw[cg,hge]
  have han:(ar e[i].1).toNat=a:=by omega
  rw[han];have ih:=K3 e st f;have key:=key b d;split
  .rename_i iK
   have h2:a=2:=by
    have:ar e[i].1=2:=by rcases iK with h|h<;>rw[h]<;>rfl
    omega
   subst h2;obtain⟨o0,o1,Kt⟩:=KZ (dw st 2 i);rw[Kt]at key⊢;unfold vZ;simp only[na,ajW,ai6,ajk,aku,akv]at key⊢;have:=ih o1 (b+(cg e st f o0 b d).length) (b+(cg e st f o0 b d).length+1) (d+1) d;omega
  split
  .rename_i iK
   have h3:a=3:=by
    have:ar e[i].1=3:=by rw[iK];rfl
    omega
   subst h3;obtain⟨o0,o1,o2,Kt⟩:=K0 (dw st 3 i);rw[Kt]at key⊢;unfold Eh;simp only[na,ajW,ai6,ajk,aku,akv]at key⊢;have h1:=ih o1 (b+(cg e st f o0 b d).length) (b+(cg e st f o0 b d).length+1) (d+1) d;have h2:=ih o2 (b+(cg e st f o0 b d).length+(cg e st f o1 (b+(cg e st f o0 b d).length) (d+1)).length) (ml (cg e st f) [o0,o1,o2] b d) (d+1+1) d;omega
  .rw[ai6,ajh];omega
theorem K5{e:List Ty}{st:List Nat}(w:Whole e st){f i b:Nat}{d:Int}(hi:i<e.length):(cg e st f i b d).length<=96:=by
 obtain⟨v1,l,v2,v3,v4,v5⟩:=w.val.node i hi;have hle:=w.le;have:=K4 w f i _ b d hi v5 (zN v1 v2 v3);omega
theorem wa{α:Type}(p q:List α)(x y:α):aT (p++x::q) (p.length:Int) y=p++y::q:=by
 unfold aT;rw[aja,ajU _ _ (ai8 _),Nat.sub_self];rfl
theorem zR{α:Type}(p q:List α)(x:α):idx (p++x::q) (p.length:Int)=some x:=by
 rw[ag (by simp)];simp
abbrev ins(l:List (Ty×Int)):List Ty:=l.map Prod.fst
theorem wb{e:List Ty}{st:List Nat}(w:Whole e st):∀(f i N:Nat),i<f->i<e.length->f<=N->∀(code:List Ty)(d:Int),code.length+400*f<=1000000->M.bo aC N e (i:Int) code=some (code++ins (cg e st f i code.length d))
 |0,_,_,h,_,_,_,_,_=>by omega
 |f+1,i,0,_,_,h,_,_,_=>by omega
 |f+1,i,N+1,hf,hi,hN,code,d,hc=>by
  have ih:=wb w f;have hle:=w.le
  have al:∀o∈opsL st (ar e[i].1).toNat i,o<i:=fun o ho=>(w.val.ops hi o ho).1
  have UD:∀o∈opsL st (ar e[i].1).toNat i,∀b d,(cg e st f o b d).length<=96:=fun o ho b d=>K5 w (by have:=al o ho;omega)
  have hge:e.getD i ((0,0):Int×Int)=e[i]:=by simp only[ajD,ai5 hi,ajP]
  obtain⟨v1,_⟩:=w.val.node i hi;have KS:=lg e[i].1;unfold M.bo;rw[B5 w hi,ag hi,cg,hge];simp only[ai2];rw[rN];simp only[ai2];have hlen:=dw st (ar e[i].1).toNat i;generalize Kt:opsL st (ar e[i].1).toNat i=os at*;by_cases IM:(e[i].1:Int)=23\/(e[i].1:Int)=24
  .rw[decide_eq_true IM,if_pos rfl,if_pos IM]
   have h2:(ar e[i].1).toNat=2:=by rcases IM with h|h<;>rw[h]<;>rfl
   obtain⟨o0,o1,rfl⟩:=KZ (l:=os) (by omega)
   have iK:(if decide ((e[i].1:Int)=24)=true then some (53:Int)else some (52:Int))=some (if(e[i].1:Int)=24 then(53:Int)else 52):=by
    by_cases h:(e[i].1:Int)=24<;>simp[h]
   rw[iK];have i0:idx (dC [o0,o1]) (0:Int)=some (o0:Int):=rfl;have i1:idx (dC [o0,o1]) (1:Int)=some (o1:Int):=rfl;have l0:=al o0 (by simp);have l1:=al o1 (by simp);have n0:=UD o0 (by simp) code.length d;have r0:=ih o0 N (by omega) (by omega) (by omega) code d (by omega);generalize Q1:cg e st f o0 code.length d=g0 at*
   have CK:(code++ins g0).length=code.length+g0.length:=by simp
   generalize hx:(if(e[i].1:Int)=24 then(53:Int)else 52)=x;have r1:=ih o1 N (by omega) (by omega) (by omega) (code++ins g0++[((x,0):Int×Int)]) d (by rw[ai6,CK,ajh];omega);rw[show(code++ins g0++[((x,0):Int×Int)]).length=code.length+g0.length+1 by rw[ai6,CK,ajh]]at r1
   have hA:vZ (cg e st f) e[i] [o0,o1] code.length d=g0++(((x,((code.length+g0.length+1+(cg e st f o1 (code.length+g0.length+1) d).length:Nat):Int)):Int×Int),d+1)::cg e st f o1 (code.length+g0.length+1) d:=by
    unfold vZ;simp only[aku,akv,Q1,hx]
   rw[hA];generalize cg e st f o1 (code.length+g0.length+1) d=g1 at*;rw[i0,i1];simp only[ai2];rw[r0];simp only[ai2];rw[bD (by rw[CK,ajh];omega)];simp only[ai2];rw[r1];simp only[ai2];rw[ajr (code++ins g0),List.singleton_append,zR];simp only[ai2];rw[wa]
   have hn:(((code++ins g0++((x,0):Int×Int)::ins g1:List Ty)).length:Int)=((code.length+g0.length+1+g1.length:Nat):Int):=by
    rw[ai6,CK];simp;omega
   rw[hn];simp[ins]
  rw[decide_eq_false IM,if_neg (by simp),if_neg IM];by_cases K6:(e[i].1:Int)=26
  .rw[decide_eq_true K6,if_pos rfl,if_pos K6]
   have h3:(ar e[i].1).toNat=3:=by rw[K6];rfl
   obtain⟨o0,o1,o2,rfl⟩:=K0 (l:=os) (by omega);have i0:idx (dC [o0,o1,o2]) (0:Int)=some (o0:Int):=rfl;have i1:idx (dC [o0,o1,o2]) (1:Int)=some (o1:Int):=rfl;have i2:idx (dC [o0,o1,o2]) (2:Int)=some (o2:Int):=rfl;have l0:=al o0 (by simp);have l1:=al o1 (by simp);have l2:=al o2 (by simp);have n0:=UD o0 (by simp) code.length d;have n1:=UD o1 (by simp);have r0:=ih o0 N (by omega) (by omega) (by omega) code d (by omega);generalize Q1:cg e st f o0 code.length d=g0 at*
   have CK:(code++ins g0).length=code.length+g0.length:=by simp
   have r1:=ih o1 N (by omega) (by omega) (by omega) (code++ins g0++[((50,0):Int×Int)]) d (by rw[ai6,CK,ajh];omega);rw[show(code++ins g0++[((50,0):Int×Int)]).length=code.length+g0.length+1 by rw[ai6,CK,ajh]]at r1;have n1:=n1 (code.length+g0.length+1) d;generalize hg1:cg e st f o1 (code.length+g0.length+1) d=g1 at*;generalize hE:code.length+g0.length+1+g1.length+1=E
   have qW:ml (cg e st f) [o0,o1,o2] code.length d=E:=by
    unfold ml;simp only[aku,akv,Q1,hg1];exact hE
   have hp:(code++ins g0++((50,(E:Int)):Int×Int)::ins g1).length=code.length+g0.length+1+g1.length:=by rw[ai6,CK];simp;omega
   have r2:=ih o2 N (by omega) (by omega) (by omega) (code++ins g0++((50,(E:Int)):Int×Int)::ins g1++[((51,0):Int×Int)]) d (by rw[ai6,hp,ajh];omega);rw[show(code++ins g0++((50,(E:Int)):Int×Int)::ins g1++[((51,0):Int×Int)]).length=E by rw[ai6,hp,ajh];omega]at r2
   have hI:Eh (cg e st f) [o0,o1,o2] code.length d=g0++(((50,(E:Int)):Int×Int),d+1)::(g1++(((51,((E+(cg e st f o2 E d).length:Nat):Int)):Int×Int),d+1)::cg e st f o2 E d):=by
    unfold Eh;rw[qW];simp only[aku,akv,Q1,hg1]
   rw[hI];generalize cg e st f o2 E d=g2 at*;rw[i0,i1,i2];simp only[ai2];rw[r0];simp only[ai2];rw[bD (by rw[CK,ajh];omega)];simp only[ai2];rw[r1];simp only[ai2]
   have hq:(code++ins g0++[((50,0):Int×Int)]++ins g1).length=code.length+g0.length+1+g1.length:=by rw[ai6,ai6,CK];simp
   rw[bD (by rw[hq,ajh];omega)];simp only[ai2]
   have hz:code++ins g0++[((50,0):Int×Int)]++ins g1++[((51,0):Int×Int)]=(code++ins g0)++((50,0):Int×Int)::(ins g1++[((51,0):Int×Int)]):=by simp
   have VY:((code++ins g0++[((50,0):Int×Int)]++ins g1++[((51,0):Int×Int)]).length:Int)=(E:Int):=by rw[ai6,hq,ajh];omega
   rw[VY,hz,zR];simp only[ai2];rw[wa]
   have CI:code++ins g0++((50,(E:Int)):Int×Int)::(ins g1++[((51,0):Int×Int)])=code++ins g0++((50,(E:Int)):Int×Int)::ins g1++[((51,0):Int×Int)]:=by simp
   rw[CI,r2];simp only[ai2];rw[ajr (code++ins g0++_::ins g1),List.singleton_append,hq,<-hp,zR];simp only[ai2];rw[wa]
   have hn:(((code++ins g0++((50,(E:Int)):Int×Int)::ins g1++((51,0):Int×Int)::ins g2:List Ty)).length:Int)=((E+g2.length:Nat):Int):=by
    rw[ai6,hp];simp;omega
   rw[hn];simp[ins]
  rw[decide_eq_false K6,if_neg (by simp),if_neg K6]
  have UE:Loop (S:=Int×List aa.den) (X:=List aa.den) (fun vM=>(if(decide (vM.1<((dC os).length:Int)))=true then(idx (dC os) vM.1).bind fun QD=>(M.bo aC N e QD vM.2).bind fun QE=>some (Sum.inl (ai3.wrap (vM.1+(1:Int)),QE))else some (Sum.inr vM.2))) aC ((0:Int),code)=some (code++ins (na (cg e st f) os code.length d)):=by
   apply Wp.eq
   have agS:os.length<=3:=by omega
   refine Wp.loop (fun s:Int×List Ty=>∃k:Nat,s.1=k/\k<=os.length/\s.2=code++ins (na (cg e st f) (os.take k) code.length d)/\(na (cg e st f) (os.take k) code.length d).length<=96*k) (fun s=>(os.length-s.1).toNat) ⟨0,rfl,ajt _,by simp[na],by simp[na]⟩ (by unfold aC;simp only;omega) ?_
   rintro⟨_,c⟩ ⟨k,rfl,hk,hcd,agT⟩
   dsimp only at hcd⊢;subst hcd;rw[ajG]
   refine Wp.dec (fun h=>?_) fun h=> .some ?_
   .have dO:k<os.length:=by omega
    have hm:=ajc dO;have Nx:=al _ hm;rw[ag (by simpa using dO)];simp only[ai2,List.getElem_map]
    have xh:(code++ins (na (cg e st f) (os.take k) code.length d)).length=code.length+(na (cg e st f) (os.take k) code.length d).length:=by simp
    rw[ih _ N (by omega) (by omega) (by omega) _ (d+(os.take k).length) (by rw[xh];omega),xh,aK (by omega)]
    have RE:na (cg e st f) (os.take (k+1)) code.length d=na (cg e st f) (os.take k) code.length d++cg e st f os[k] (code.length+(na (cg e st f) (os.take k) code.length d).length) (d+(os.take k).length):=by
     rw[List.take_succ_eq_append_getElem dO,zQ];simp[na]
    have agU:=UD _ hm (code.length+(na (cg e st f) (os.take k) code.length d).length) (d+(os.take k).length);refine .some ⟨⟨k+1,rfl,dO,?_,?_⟩,by simp only;omega⟩
    .rw[RE];simp[ins]
    .rw[RE,ai6];omega
   .show _=_
    rw[List.take_of_length_le (by omega)]
  rw[UE];simp only[ai2]
  have Vs:(code++ins (na (cg e st f) os code.length d)).length<=1000000:=by
   have:=K5 w (f:=f+1) (b:=code.length) (d:=d) hi;rw[cg,hge,if_neg IM,if_neg K6,Kt,ai6]at this;simp;omega
  rw[bD (by rw[ajh];omega)];simp[ins]
structure FOK(code:List Ty)(F:List Int):Prop where
 pos:0<code.length
 le:code.length<=128
 len:F.length=code.length+1
 bd:∀k,k<=code.length->0<=gd F k/\gd F k<=12
 first:gd F 0=0
 last:gd F code.length=1
 step:∀j(h:j<code.length),iJ code.length F j code[j]/\¬cy code[j].1
 reach:∀k,0<k->k<=code.length->∃j,∃h:j<code.length,j<k/\((j+1=k/\(code[j].1:Int)≠51)\/((50<=(code[j].1:Int)/\(code[j].1:Int)<=53)/\(code[j].2:Int)=k))
structure Cs(F D:List Int):Prop where
 len:D.length=F.length
 ok:∀k,gd D k= -1\/gd D k=gd F k
theorem Cs.set{F D:List Int}(c:Cs F D){t:Nat}(ht:t<F.length):Cs F (D.set t (gd F t)):=by
 refine⟨by rw[akw,c.len],fun k=>?_⟩;rw[gz (by rw[c.len];exact ht)];split
 .rename_i h;rw[h];exact .inr rfl
 .exact c.ok k
theorem lM{N:Nat}{F D:List Int}(c:Cs F D){t:Nat}(ht:t<F.length):M.aR N (t:Int) (gd F t) D=some (0,D.set t (gd F t)):=by
 have htD:t<D.length:=by rw[c.len];exact ht
 unfold M.aR;rw[jr htD];simp only[ai2,aL]
 rcases c.ok t with h|h
 .rw[h];rfl
 .rw[h]
  by_cases h0:0<=gd F t<;>simp[h0,aT]
def Vt(F D:List Int)(i:Nat)(n:Ty):Prop:=((n.1:Int)≠51->gd D (i+1)=gd F (i+1))/\((50<=(n.1:Int)/\(n.1:Int)<=53)->∀t:Nat,(n.2:Int)=t->gd D t=gd F t)
structure Up(F D D':List Int)(i:Nat):Prop where
 low:∀k,k<=i->gd D' k=gd D k
 keep:∀k,gd D k=gd F k->gd D' k=gd F k
theorem Up.set{F D:List Int}{t i:Nat}(ht:t<D.length)(uV:i<t):Up F D (D.set t (gd F t)) i:=by
 refine⟨fun k hk=>?_,fun k hk=>?_⟩<;>rw[gz ht]
 .rw[if_neg (by omega)]
 .split
  .rename_i h;rw[h]
  .exact hk
theorem Up.trans{F A B C:List Int}{i:Nat}(h:Up F A B i)(h':Up F B C i):Up F A C i:=
 ⟨fun k hk=>(h'.low k hk).trans (h.low k hk),fun k hk=>h'.keep k (h.keep k hk)⟩
theorem Ei{N:Nat}{code:List Ty}{F D:List Int}(f:FOK code F)(c:Cs F D){i:Nat}(hi:i<code.length)(h0:gd D i=gd F i):Wp (M.bw N code (i:Int) code[i] D) fun r=>r.1=0/\Cs F r.2/\Up F D r.2 i/\Vt F r.2 i code[i]:=by
 have hle:=f.le;have R1:=f.len;have Vu:=c.len;have hb:=f.bd i (by omega);have E1:=f.bd (i+1) (by omega);obtain⟨hs,HZ⟩:=f.step i hi;unfold M.bw Vt;generalize code[i]=n at*;obtain⟨(op:Int),(m:Int)⟩:=n;dsimp only[ae,Row.den]at*;have KS:=lg op;rw[mi,kR,jr (by omega),ec,xk,h0];simp only[ai2]
 have e0:(50<=op/\op<=53\/0<=ar op)->(50<=op/\op<=53->(i:Int)<m/\m<=(code.length:Int))->(if(!decide (¬cy op/\(50<=op/\op<=53\/0<=ar op)))=true then some true else(if decide (50<=op/\op<=53)=true then(if decide (m<=(i:Int))=true then some true else some (decide ((code.length:Int)<m)))else some false))=some false:=by
  intro g1 g2;rw[decide_eq_true (show¬cy op/\(50<=op/\op<=53\/0<=ar op)from⟨HZ,g1⟩),if_neg (by simp)];by_cases g:50<=op/\op<=53
  .obtain⟨g3,g4⟩:=g2 g;rw[decide_eq_true g,if_pos rfl,decide_eq_false (by omega),if_neg (by simp),decide_eq_false (by omega)]
  .rw[decide_eq_false g,if_neg (by simp)]
 rcases hs with⟨h1,t,h2,h3,h4,h5⟩|⟨h1,h2,h3,t,h4,h5,h6,h7⟩|⟨h1,h2,h3,h4,h5,h6⟩
 .dsimp only[ae,Row.den]at*;subst h2;rw[e0 (.inl (by omega)) (fun _=>by omega)];simp only[ai2,ajb,if_false]
  refine Wp.dec (fun _=>?_) fun h=>absurd h1 h
  rw[<-h5,lM c (by omega)];refine .some ⟨rfl,c.set (by omega),Up.set (by omega) h3,fun h=>absurd h1 h,fun _ u hu=>?_⟩
  obtain rfl:t=u:=by omega
  show gd (D.set t (gd F t)) t=_
  rw[gz (by omega),if_pos rfl]
 .dsimp only[ae,Row.den]at*;subst h4;rw[e0 (.inl (by omega)) (fun _=>by omega)];simp only[ai2,ajb,if_false]
  refine Wp.dec (fun h=>by omega) fun _=>?_
  refine Wp.dec (fun _=>?_) fun h=>absurd h1 h
  refine Wp.dec (fun h=>by omega) fun _=>?_
  have w1:ai3.wrap (gd F i-1)=gd F (i+1):=by rw[aV (by omega) (by omega),h3]
  rw[w1,aK (by omega),lM c (by omega)];have c1:=c.set (t:=i+1) (by omega);have u1:Up F D (D.set (i+1) (gd F (i+1))) i:=Up.set (by omega) (by omega);simp only[ai2]
  refine Wp.mY (fun h=>absurd trivial h) fun _=>?_
  have e7:(if decide (op=50)=true then some (gd F (i+1))else some (gd F i))=some (gd F t):=by
   by_cases Al:op=50
   .rw[decide_eq_true Al,if_pos rfl,h7,if_pos Al,h3]
   .rw[decide_eq_false Al,if_neg (by simp),h7,if_neg Al]
  rw[e7];simp only[ai2];rw[lM c1 (by omega)];have c2:=c1.set (t:=t) (by omega);have u2:Up F (D.set (i+1) (gd F (i+1))) ((D.set (i+1) (gd F (i+1))).set t (gd F t)) i:=Up.set (by rw[akw];omega) h5;refine .some ⟨rfl,c2,u1.trans u2,fun _=>u2.keep _ (by rw[gz (by omega),if_pos rfl]),fun _ u hu=>?_⟩
  obtain rfl:t=u:=by omega
  show gd (((D.set (i+1) (gd F (i+1)))).set t (gd F t)) t=_
  rw[gz (by rw[akw];omega),if_pos rfl]
 .dsimp only[ae,Row.den]at*
  have iK:¬(50<=op/\op<=53):=by
   intro h
   have:op=50\/op=51\/op=52\/op=53:=by omega
   omega
  rw[e0 (.inr h3) (fun h=>absurd h iK)];simp only[ai2,ajb,if_false]
  refine Wp.dec (fun h=>absurd h h1) fun _=>?_
  refine Wp.dec (fun h=>absurd h h2) fun _=>?_
  refine Wp.dec (fun h=>by omega) fun _=>?_
  have w1:ai3.wrap (gd F i-ar op)=gd F i-ar op:=aV (by omega) (by omega)
  have w2:ai3.wrap (gd F i-ar op+1)=gd F (i+1):=by rw[aV (by omega) (by omega),h5]
  rw[w1,w2]
  refine Wp.dec (fun h=>by omega) fun _=>?_
  rw[aK (by omega),lM c (by omega)];exact .some ⟨rfl,c.set (by omega),Up.set (by omega) (by omega),fun _=>by show gd (D.set (i+1) (gd F (i+1))) (i+1)=_;rw[gz (by omega),if_pos rfl],fun h=>absurd h iK⟩
theorem Ia{code:List Ty}{F:List Int}(f:FOK code F):Wp (M.cJ aC code) fun y=>y.2=0:=by
 have hl:=f.le;have hp:=f.pos;have R1:=f.len;unfold M.cJ
 refine Wp.dec (fun h=>by omega) fun h1=>?_
 refine Wp.dec (fun h=>by omega) fun h2=>?_
 rw[aK (by omega)]
 have wK:mV ((code.length+1:Nat):Int) (0:Int)=some (ai9 (code.length+1) 0):=by
  unfold mV;rw[if_pos (by omega),aja]
 rw[wK];simp only[ai2];refine Wp.seq (· =ai9 (code.length+1) (-1:Int)) ?_ ?_
 .refine Wp.loop (fun s:Int×List Int=>∃k m:Nat,s=((k:Int),ai9 k (-1)++ai9 m 0)/\k+m=code.length+1) (fun s=>(code.length+1-s.1).toNat) ⟨0,code.length+1,by simp,by omega⟩ (by unfold aC;simp only;omega) ?_
  rintro _ ⟨k,m,rfl,hk⟩
  simp only[List.length_replicate]
  refine Wp.dec (fun h=>?_) fun h=> .some ?_
  .obtain⟨m,rfl⟩:∃m',m=m'+1:=⟨m-1,by omega⟩
   rw[ag (by simp)];simp only[ai2];rw[aK (by omega)];refine .some ⟨⟨k+1,m,?_,by omega⟩,by simp only;omega⟩;refine Prod.ext rfl ?_;simp only[aT,aja];rw[ajU _ _ (by simp),aj9];simp[List.replicate_succ']
  .obtain rfl:m=0:=by omega
   obtain rfl:k=code.length+1:=by omega
   show _=_
   simp
 rintro _ rfl
 have e1:idx (ai9 (code.length+1) (-1:Int)) 0=some (-1):=by rw[aj9];rfl
 rw[e1];simp only[ai2];have e0:aT (ai9 (code.length+1) (-1:Int)) (0:Int) (0:Int)=(ai9 (code.length+1) (-1:Int)).set 0 0:=rfl;rw[e0]
 have g0:∀k,gd ((ai9 (code.length+1) (-1:Int)).set 0 0) k=if k=0 then 0 else-1:=fun k=>by
  rw[gz (by simp),zO]
 refine Wp.join (Wp.loop (fun s:Int×Int×List Int=>∃i:Nat,s.2.1=i/\i<=code.length/\Cs F s.2.2/\(∀k,k<=i->gd s.2.2 k=gd F k)/\∀j(h:j<code.length),j<i->Vt F s.2.2 j code[j]) (fun s=>(code.length-s.2.1).toNat) ⟨0,rfl,ajt _,⟨by simp[R1],fun k=>?_⟩,fun k hk=>?_,fun j _ h=>by omega⟩ (by unfold aC;simp only;omega) ?_)
 .simp only[g0];split
  .rename_i h;rw[h,f.first];exact .inr rfl
  .exact .inl rfl
 .obtain rfl:k=0:=by omega
  simp only[g0];rw[f.first];rfl
 rintro⟨g,at',D⟩ ⟨i,oi,hi,hc,rP,hf⟩
 dsimp only at oi hi hc rP hf⊢;subst oi;have Vu:=hc.len
 refine Wp.dec (fun al=>?_) fun hge=> .some ?_
 .have al:i<code.length:=by omega
  have hbi:=f.bd i hi;have hgi:=rP i (ai8 _);rw[aK (by omega),ag al,jr (by omega)];simp only[ai2];refine Wp.join ?_
  refine Wp.dec (fun h=>by omega) fun _=>?_
  refine Wp.seq _ (Ei f hc al hgi) fun r hr=>?_
  obtain⟨r1,r2,r3,r4⟩:=hr
  refine Wp.mY (fun h=>absurd r1 h) fun _=> .some ?_
  have pS:∀j(h:j<code.length),j<i+1->Vt F r.2 j code[j]:=fun j h hj=>by
   by_cases WB:j=i
   .subst WB;exact r4
   .obtain⟨a,b⟩:=hf j h (by omega);exact⟨fun g=>r3.keep _ (a g),fun g t ht=>r3.keep _ (b g t ht)⟩
  refine Wp.some ⟨⟨i+1,rfl,al,r2,fun k hk=>?_,pS⟩,by simp only;omega⟩;by_cases Q2:k<=i
  .show gd r.2 k=_
   rw[r3.low k Q2,rP k Q2]
  .obtain rfl:k=i+1:=by omega
   obtain⟨j,h,hj,hq⟩:=f.reach (i+1) (by omega) (by omega);obtain⟨a,b⟩:=pS j h hj
   rcases hq with⟨q1,q2⟩|⟨q1,q2⟩
   .obtain rfl:j=i:=by omega
    exact a q2
   .exact b q1 (i+1) q2
 .obtain rfl:i=code.length:=by omega
  show Wp ((idx D (code.length:Int)).bind _) _
  rw[jr (by omega),rP _ (ai8 _),f.last];exact .some rfl
theorem K7{st:List Nat}:∀{i:Nat}{l:List Nat},Ch st i l->∀(a:Nat),a<=l.length->∀k(h:k<(opsL st a i).length),Ch st ((opsL st a i)[k]+1) (l.take (l.length-a+k+1)):=by
 intro i l c
 induction c with
 |nil=>
  intro a ha k h
  obtain rfl:a=0:=by simpa using ha
  simp[opsL]at h
 | @snoc j s l h1 h2 c ih=>
   intro a ha k h
   cases a with
   |zero=>simp[opsL]at h
   |succ a=>
    have hg:st.getD (j+1-1) 0=s:=by simp[ajD,h1]
    have e1:opsL st (a+1) (j+1)=opsL st a s++[j]:=by rw[opsL,hg];rfl
    rw[ai6,ajh]at ha⊢
    have hk:k<a+1:=by rw[dw]at h;exact h
    have e3:l.length+1-(a+1)+k+1=l.length-a+k+1:=by omega
    rw[e3];by_cases hka:k<a
    .have dO:k<(opsL st a s).length:=by rw[dw];exact hka
     have:(opsL st (a+1) (j+1))[k]=(opsL st a s)[k]:=by
      simp only[e1];rw[ajf dO]
     rw[this,ajy (by omega)];exact ih a (by omega) k dO
    .obtain rfl:k=a:=by omega
     have:(opsL st (k+1) (j+1))[k]=j:=by
      simp only[e1];rw[ajn (by rw[dw];exact ai8 _)];simp[dw]
     rw[this,show l.length-k+k+1=(l++[s]).length by rw[ai6,ajh];omega,aju];exact .snoc h1 h2 c
def B6(st:List Nat)(i:Nat)(d:Int):Prop:=∃l,Ch st (i+1) l/\d+1<=l.length
theorem B6.le{e:List Ty}{st:List Nat}(w:Whole e st){i:Nat}{d:Int}(hi:i<e.length)(h:B6 st i d):d+1<=12:=by
 obtain⟨l,c,hd⟩:=h;obtain⟨v1,l',v2,v3,v4,v5⟩:=w.val.node i hi;have:=(v2.next v1 v3 v5).Np c;rw[<-this]at hd;simp at hd;omega
theorem B6.op{e:List Ty}{st:List Nat}(w:Whole e st){i:Nat}{d d':Int}(hi:i<e.length)(h:B6 st i d){k:Nat}(hk:k<(opsL st (ar e[i].1).toNat i).length)(hd:d'<=d+k):B6 st (opsL st (ar e[i].1).toNat i)[k] d':=by
 obtain⟨l,c,hl⟩:=h;obtain⟨v1,l',v2,v3,v4,v5⟩:=w.val.node i hi;have hu:=(v2.next v1 v3 v5).Np c;rw[<-hu]at hl;rw[ai6,ajl,ajh]at hl
 have dO:k<(ar e[i].1).toNat:=by rw[dw]at hk;exact hk
 refine⟨_,K7 v2 _ v3 k hk,?_⟩;rw[ajl];omega
structure Pc(code:List Ty)(F:List Int)(b b':Nat)(d d':Int):Prop where
 le:b<=b'
 inn:gd F b=d
 out:gd F b'=d'
 bd:∀k,b<=k->k<=b'->0<=gd F k/\gd F k<=12
 step:∀j(h:j<code.length),b<=j->j<b'->iJ code.length F j code[j]/\¬cy code[j].1
 reach:∀k,b<k->k<=b'->∃j,∃h:j<code.length,j<k/\((j+1=k/\(code[j].1:Int)≠51)\/((50<=(code[j].1:Int)/\(code[j].1:Int)<=53)/\(code[j].2:Int)=k))
theorem Pc.HN{code:List Ty}{F:List Int}{b c c':Nat}{d d' d'':Int}(h:Pc code F b c d d')(h':Pc code F c c' d' d''):Pc code F b c' d d'':=by
 refine⟨ajE h.le h'.le,h.inn,h'.out,fun k k1 k2=>?_,fun j hj j1 j2=>?_,fun k k1 k2=>?_⟩
 .by_cases hk:k<=c
  .exact h.bd k k1 hk
  .exact h'.bd k (by omega) k2
 .by_cases hk:j<c
  .exact h.step j hj j1 hk
  .exact h'.step j hj (by omega) j2
 .by_cases hk:k<=c
  .exact h.reach k k1 hk
  .exact h'.reach k (by omega) k2
def At(code:List Ty)(F:List Int)(b:Nat)(l:List (Ty×Int)):Prop:=∀k(h:k<l.length),code[b+k]? =some l[k].1/\gd F (b+k)=l[k].2
theorem At.left{code:List Ty}{F:List Int}{b:Nat}{l m:List (Ty×Int)}(h:At code F b (l++m)):At code F b l:=fun k hk=>by
 have:=h k (by rw[ai6];omega);rw[ajf hk]at this;exact this
theorem At.right{code:List Ty}{F:List Int}{b:Nat}{l m:List (Ty×Int)}(h:At code F b (l++m)):At code F (b+l.length) m:=fun k hk=>by
 have:=h (l.length+k) (by rw[ai6];omega);rw[ajn (by omega)]at this;simp only[Nat.add_sub_cancel_left]at this;rw[akf];exact this
theorem At.head{code:List Ty}{F:List Int}{b:Nat}{x:Ty×Int}{m:List (Ty×Int)}(h:At code F b (x::m)):code[b]? =some x.1/\gd F b=x.2:=h 0 (by simp)
theorem At.tail{code:List Ty}{F:List Int}{b:Nat}{x:Ty×Int}{m:List (Ty×Int)}(h:At code F b (x::m)):At code F (b+1) m:=At.right (l:=[x]) h
theorem Pc.one{code:List Ty}{F:List Int}{b:Nat}{n:Ty}{a:Nat}{d:Int}(hn:code[b]? =some n)(ha:ar n.1=a)(HZ:¬cy n.1)(hj:¬(50<=(n.1:Int)/\(n.1:Int)<=53))(hb:gd F b=d+a)(p5:gd F (b+1)=d+1)(h0:0<=d)(ON:d+1<=12)(hda:d+a<=12):Pc code F b (b+1) (d+a) (d+1):=by
 obtain⟨hl,rfl⟩:=ai7.1 hn;refine⟨by omega,hb,p5,fun k k1 k2=>?_,fun j h j1 j2=>?_,fun k k1 k2=>?_⟩
 .rcases(show k=b\/k=b+1 by omega)with rfl|rfl
  .omega
  .omega
 .obtain rfl:j=b:=by omega
  refine⟨.inr (.inr ⟨fun h=>hj (by rw[h];decide),fun h=>hj ?_,by omega,by omega,by omega,by omega⟩),HZ⟩
  rcases h with h|h|h<;>rw[h]<;>decide
 .obtain rfl:k=b+1:=by omega
  exact⟨b,hl,by omega, .inl ⟨rfl,fun h=>hj (by rw[h];decide)⟩⟩
theorem Pc.ins{code:List Ty}{F:List Int}{b:Nat}{n:Ty}{d d':Int}(hn:code[b]? =some n)(hb:gd F b=d)(p5:gd F (b+1)=d')(h:0<=d/\d<=12)(h':0<=d'/\d'<=12)(hs:iJ code.length F b n)(HZ:¬cy n.1)(hr:∃j,∃h:j<code.length,j<b+1/\((j+1=b+1/\(code[j].1:Int)≠51)\/((50<=(code[j].1:Int)/\(code[j].1:Int)<=53)/\(code[j].2:Int)=((b+1:Nat):Int)))):Pc code F b (b+1) d d':=by
 obtain⟨hl,rfl⟩:=ai7.1 hn;refine⟨by omega,hb,p5,fun k k1 k2=>?_,fun j h j1 j2=>?_,fun k k1 k2=>?_⟩
 .rcases(show k=b\/k=b+1 by omega)with rfl|rfl
  .rw[hb];exact h
  .rw[p5];exact h'
 .obtain rfl:j=b:=by omega
  exact⟨hs,HZ⟩
 .obtain rfl:k=b+1:=by omega
  exact hr
theorem Q3{op:Int}(h:50<=op):ar op= -1:=by
 unfold ar;rw[if_neg (by omega),if_neg (by omega),if_neg (by omega),if_neg (by omega)]
theorem Pc.nil{code:List Ty}{F:List Int}{b:Nat}{d:Int}(hb:gd F b=d)(h:0<=d/\d<=12):Pc code F b b d d:=
 ⟨ai8 _,hb,hb,fun k k1 k2=>by rw[show k=b by omega,hb];exact h,fun j _ j1 j2=>by omega,fun k k1 k2=>by omega⟩
theorem K8{code:List Ty}{F:List Int}{g:Nat->Nat->Int->List (Ty×Int)}:∀(os:List Nat)(b:Nat)(d:Int),0<=d->d+os.length<=12->(∀(k:Nat)(hk:k<os.length)(b:Nat),At code F b (g os[k] b (d+k))->gd F (b+(g os[k] b (d+k)).length)=d+k+1->b+(g os[k] b (d+k)).length<=code.length->Pc code F b (b+(g os[k] b (d+k)).length) (d+k) (d+k+1))->At code F b (na g os b d)->gd F (b+(na g os b d).length)=d+os.length->b+(na g os b d).length<=code.length->Pc code F b (b+(na g os b d).length) d (d+os.length)
 |[],b,d,h0,ON,_,_,ho,_=>by
  simp only[na,List.length_nil,aj7]at ho ON⊢;simp at ho ON
  have:d+((0:Nat):Int)=d:=by omega
  rw[this];exact Pc.nil ho ⟨h0,ON⟩
 |o::os,b,d,h0,ON,hg,hA,ho,hl=>by
  rw[na]at hA ho hl⊢;rw[ai6]at ho hl⊢;rw[ajk]at ho ON⊢
  have hr:=K8 os (b+(g o b d).length) (d+1) (by omega) (by omega) (fun k hk b'=>by
   have:=hg (k+1) (by rw[ajk];omega) b';rw[show d+((k+1:Nat):Int)=d+1+(k:Int) by omega]at this
   exact this) hA.right (by rw[akf,ho];omega) (by omega)
  have hx:=hg 0 (by simp) b;simp only[List.getElem_cons_zero,show d+((0:Nat):Int)=d by omega]at hx;have:=(hx hA.left hr.inn (by omega)).HN hr;rw[<-akf,show d+((os.length+1:Nat):Int)=d+1+(os.length:Int) by omega];exact this
theorem OO{code:List Ty}{F:List Int}{e:List Ty}{st:List Nat}(w:Whole e st):∀(f i b:Nat)(d:Int),i<f->i<e.length->0<=d->B6 st i d->At code F b (cg e st f i b d)->gd F (b+(cg e st f i b d).length)=d+1->b+(cg e st f i b d).length<=code.length->Pc code F b (b+(cg e st f i b d).length) d (d+1)
 |0,_,_,_,h,_,_,_,_,_,_=>by omega
 |f+1,i,b,d,hf,hi,h0,xw,hA,ho,hl=>by
  have ih:=OO (code:=code) (F:=F) w f;have ON:=xw.le w hi
  have hge:e.getD i ((0,0):Int×Int)=e[i]:=by simp only[ajD,ai5 hi,ajP]
  obtain⟨v1,_⟩:=w.val.node i hi
  have al:∀o∈opsL st (ar e[i].1).toNat i,o<i:=fun o ho=>(w.val.ops hi o ho).1
  have iK:∀k(hk:k<(opsL st (ar e[i].1).toNat i).length)(d':Int),d'<=d+k->B6 st (opsL st (ar e[i].1).toNat i)[k] d':=fun k hk d' hd=>xw.op w hi hk hd
  have hlen:=dw st (ar e[i].1).toNat i;rw[cg,hge]at hA ho hl⊢;generalize opsL st (ar e[i].1).toNat i=os at*;by_cases IM:(e[i].1:Int)=23\/(e[i].1:Int)=24
  .rw[if_pos IM]at hA ho hl⊢
   have h2:(ar e[i].1).toNat=2:=by rcases IM with h|h<;>rw[h]<;>rfl
   obtain⟨o0,o1,rfl⟩:=KZ (l:=os) (by omega);have l0:=al o0 (by simp);have l1:=al o1 (by simp);have p0:=ih o0 b d (by omega) (by omega) h0 (iK 0 (by simp) d (by omega));unfold vZ at hA ho hl⊢;simp only[aku,akv]at hA ho hl⊢;generalize cg e st f o0 b d=g0 at*;have p1:=ih o1 (b+g0.length+1) d (by omega) (by omega) h0 (iK 1 (by simp) d (by omega));generalize cg e st f o1 (b+g0.length+1) d=g1 at*;rw[ai6,ajk]at ho hl⊢;have a0:=hA.left;have a1:=hA.right.head;have a2:=hA.right.tail
   have eE:b+(g0.length+(g1.length+1))=b+g0.length+1+g1.length:=by omega
   rw[eE]at ho hl⊢;have q1:=p1 a2 ho (by omega);have q0:=p0 a0 a1.2 (by omega)
   have xh:b+g0.length<code.length:=by omega
   have hx:(if(e[i].1:Int)=24 then(53:Int)else 52)=53\/(if(e[i].1:Int)=24 then(53:Int)else 52)=52:=by split<;>simp
   generalize(if(e[i].1:Int)=24 then(53:Int)else 52)=x at*;obtain⟨Q4,a12⟩:=a1;dsimp only at Q4 a12;have hc:code[b+g0.length]=((x,((b+g0.length+1+g1.length:Nat):Int)):Int×Int):=(ai7.1 Q4).2;refine q0.HN (Pc.HN (Pc.ins Q4 a12 q1.inn ⟨by omega,by omega⟩ ⟨by omega,by omega⟩ ?_ ?_ ?_) q1)
   .refine .inr (.inl ⟨?_,by omega,by rw[q1.inn,a12];omega,b+g0.length+1+g1.length,rfl,by omega,by omega,?_⟩)
    .show x=50\/x=52\/x=53
     omega
    .show gd F (b+g0.length+1+g1.length)=if x=50 then _ else _
     rw[if_neg (by omega),ho,a12]
   .show¬cy x
    unfold cy;omega
   .refine⟨b+g0.length,xh,by omega, .inl ⟨rfl,?_⟩⟩;rw[hc]
    show x≠51
    omega
  rw[if_neg IM]at hA ho hl⊢;by_cases K6:(e[i].1:Int)=26
  .rw[if_pos K6]at hA ho hl⊢
   have h3:(ar e[i].1).toNat=3:=by rw[K6];rfl
   obtain⟨o0,o1,o2,rfl⟩:=K0 (l:=os) (by omega);have l0:=al o0 (by simp);have l1:=al o1 (by simp);have l2:=al o2 (by simp);have p0:=ih o0 b d (by omega) (by omega) h0 (iK 0 (by simp) d (by omega));unfold Eh at hA ho hl⊢;generalize hE:ml (cg e st f) [o0,o1,o2] b d=E at*;unfold ml at hE;simp only[aku,akv]at hA ho hl hE⊢;generalize cg e st f o0 b d=g0 at*;have p1:=ih o1 (b+g0.length+1) d (by omega) (by omega) h0 (iK 1 (by simp) d (by omega));generalize cg e st f o1 (b+g0.length+1) d=g1 at*;have p2:=ih o2 E d (by omega) (by omega) h0 (iK 2 (by simp) d (by omega));generalize cg e st f o2 E d=g2 at*;rw[ai6,ajk,ai6,ajk]at ho hl⊢
   have eE:b+(g0.length+(g1.length+(g2.length+1)+1))=E+g2.length:=by omega
   rw[eE]at ho hl⊢;have a0:=hA.left;obtain⟨Q4,a12⟩:=hA.right.head;have a2:=hA.right.tail;have a3:=a2.left;obtain⟨a41,Vv⟩:=a2.right.head;have a5:=a2.right.tail;rw[hE]at a5;dsimp only at Q4 a12 a41 Vv;have q2:=p2 a5 ho hl;have q1:=p1 a3 Vv (by omega);have q0:=p0 a0 a12 (by omega)
   have xh:b+g0.length<code.length:=by omega
   have agW:b+g0.length+1+g1.length<code.length:=by omega
   have hc:code[b+g0.length]=((50,(E:Int)):Int×Int):=(ai7.1 Q4).2
   have j1:Pc code F (b+g0.length) (b+g0.length+1) (d+1) d:=by
    refine Pc.ins Q4 a12 q1.inn ⟨by omega,by omega⟩ ⟨by omega,by omega⟩ ?_ ?_ ?_
    .refine .inr (.inl ⟨.inl rfl,by omega,by rw[q1.inn,a12];omega,E,rfl,by omega,by omega,?_⟩)
     show gd F E=if(50:Int)=50 then _ else _
     rw[if_pos rfl,q2.inn,a12];omega
    .show¬cy (50:Int)
     unfold cy;omega
    .refine⟨b+g0.length,xh,by omega, .inl ⟨rfl,?_⟩⟩;rw[hc]
     show(50:Int)≠51
     decide
   have j2:Pc code F (b+g0.length+1+g1.length) (b+g0.length+1+g1.length+1) (d+1) d:=by
    refine Pc.ins a41 Vv (by rw[hE];exact q2.inn) ⟨by omega,by omega⟩ ⟨by omega,by omega⟩ ?_ ?_ ?_
    .refine .inl ⟨rfl,E+g2.length,rfl,by omega,by omega,?_⟩;rw[ho,Vv]
    .show¬cy (51:Int)
     unfold cy;omega
    .refine⟨b+g0.length,xh,by omega, .inr ⟨?_,?_⟩⟩
     .rw[hc];exact⟨(by decide:(50:Int)<=50),(by decide:(50:Int)<=53)⟩
     .rw[hc,hE]
   rw[hE]at j2;exact q0.HN (j1.HN (q1.HN (j2.HN q2)))
  rw[if_neg K6]at hA ho hl⊢;rw[ai6,ajh]at ho hl⊢
  obtain⟨a,ha⟩:∃a:Nat,ar e[i].1=a:=⟨(ar e[i].1).toNat,by omega⟩
  have han:(ar e[i].1).toNat=a:=by omega
  rw[han]at hA hlen
  have hj:¬(50<=(e[i].1:Int)/\(e[i].1:Int)<=53):=by
   intro h;have:=Q3 h.1;omega
  obtain⟨b1,b2⟩:=hA.right.head;dsimp only at b1 b2
  have hda:d+a<=12:=by
   by_cases ha0:a=0
   .omega
   .have hk:a-1<os.length:=by omega
    have hm:=ajc hk;have:=(iK (a-1) hk (d+((a-1:Nat):Int)) (by omega)).le w (by have:=al _ hm;omega);omega
  rw[<-akf]at ho hl⊢
  have hq:=K8 (code:=code) (F:=F) (g:=cg e st f) os b d h0 (by omega) (fun k hk b' Pp iN CK=>by
   have hm:=ajc hk;have Nx:=al _ hm
   exact ih os[k] b' (d+k) (by omega) (by omega) (by omega) (iK k hk _ (aki _)) Pp iN CK) hA.left (by rw[b2,hlen]) (by omega)
  rw[hlen]at hq
  have HZ:¬cy e[i].1:=by
   unfold cy;intro h
   rcases h with h|h|h
   .exact IM (.inl h)
   .exact IM (.inr h)
   .exact K6 h
  exact hq.HN (Pc.one b1 ha HZ hj b2 ho h0 (by omega) hda)
def kH(e:List Ty)(st:List Nat):List (Ty×Int):=cg e st e.length (e.length-1) 0 0
def B7(e:List Ty)(st:List Nat):List Int:=(kH e st).map Prod.snd++[1]
theorem K9{e:List Ty}{st:List Nat}(w:Whole e st):FOK (ins (kH e st)) (B7 e st):=by
 have hp:0<e.length:=List.length_pos_iff.2 w.ne;have hle:=w.le;have UD:(kH e st).length<=96:=K5 w (by omega);have RQ:(ins (kH e st)).length=(kH e st).length:=ajG ..
 have hld:(B7 e st).length=(kH e st).length+1:=by unfold B7;simp
 have hA:At (ins (kH e st)) (B7 e st) 0 (kH e st):=fun k hk=>by
  rw[ajC];refine⟨by simp[ins,hk],?_⟩;unfold gd ajD B7;rw[ajA (by simpa using hk)];simp[hk]
 have ho:gd (B7 e st) (0+(kH e st).length)=0+1:=by
  rw[ajC];unfold gd ajD B7;rw[ajN (by simp)];simp
 have room:B6 st (e.length-1) 0:=by
  obtain⟨v1,l,v2,v3,v4,v5⟩:=w.val.node (e.length-1) (by omega);exact⟨_,v2.next v1 v3 v5,by simp;omega⟩
 have p:Pc (ins (kH e st)) (B7 e st) 0 (0+(kH e st).length) 0 (0+1):=OO w e.length (e.length-1) 0 0 (by omega) (by omega) (by omega) room hA ho (by rw[RQ];exact Nat.le_of_eq (ajC _));rw[ajC]at p
 have bN:0<(kH e st).length:=by
  rcases Nat.eq_zero_or_pos (kH e st).length with h|h
  .have a:=p.inn;have b:=p.out;rw[h]at b;omega
  .exact h
 rw[<-RQ]at p;exact⟨by omega,by omega,by omega,fun k hk=>p.bd k (ajt _) hk,p.inn,p.out,fun j h=>p.step j h (ajt _) h,fun k k1 k2=>p.reach k k1 k2⟩
end L.P
end Go.Proofs.YtilaieogabgamaaGreatDoor
end
section
open _root_.List renaming mem_cons->ajq
namespace Go.Proofs.YtilaieogabgamaaGreatDoor
open Go Go.RowKit
set_option maxRecDepth 100000
namespace L.P
def Ej:List Vl->List Ty->Prop
 |[],[]=>True
 |v::vs,t::ts=>zH v t/\Ej vs ts
 |[],_::_=>False
 |_::_,[]=>False
theorem Ej.len:∀{vs:List Vl}{ts:List Ty},Ej vs ts->vs.length=ts.length
 |[],[],_=>rfl
 |_::_,_::_,h=>by simp[Ej.len h.2]
 |[],_::_,h=>h.elim
 |_::_,[],h=>h.elim
theorem Ej.pl:∀{vs:List Vl}{ts:List Ty},Ej vs ts->∀v∈vs,du v.1 v.2.1 v.2.2
 |[],[],_,v,h=>by simp at h
 |w::vs,t::ts,h,v,hv=>by
  rcases ajq.1 hv with rfl|hv
  .exact h.1.1
  .exact Ej.pl h.2 v hv
 |[],_::_,h,_,_=>h.elim
 |_::_,[],h,_,_=>h.elim
def C3(c:Int):Prop:=c=0\/c=3\/c=6\/c=12
theorem Cd.c3{c:Int}(h:Cd c):C3 c:=by unfold Cd at h;unfold C3;omega
end L.P
end Go.Proofs.YtilaieogabgamaaGreatDoor
end
section
namespace Go.Proofs.YtilaieogabgamaaGreatDoor
open Go Go.RowKit
set_option maxRecDepth 100000
namespace L.P
structure Agr(s:Sg)(env:eo.den):Prop where
 inp:∀(k:Nat)(t:Ty),s.2.2.1[k]? =some t->∃v,env.2.1[k]? =some v/\zH v t
 dfs:∀(k:Nat)(t:Ty),s.2.2.2.1[k]? =some t->∃v,env.2.2.1[k]? =some v/\(zH v t\/(v.1:Int)=0)
 mts:∀(k:Nat)(t:Ty),s.2.2.2.2.1[k]? =some t->env.2.2.2.2.1[k]? =some t
 mem:∀l∈env.2.2.2.1,∀(k:Nat)(t:Ty),s.2.2.2.2.1[k]? =some t->∃v,l[k]? =some v/\(zH v t\/(v.1:Int)=0)
 tbs:∀(k:Nat)(T:ax.den),s.2.1[k]? =some T->∃T':ax.den,env.2.2.2.2.2[k]? =some T'/\T'.2.1=T.2.1/\T'.2.2.1=T.2.2.1
def wc(t:Ty)(r:Vl×Int):Prop:=C3 r.2/\(r.2=0->zH r.1 t)
def Kn(l:List Vl)(ts:List Ty)(u:Bool):Prop:=l.length=ts.length/\∀(k:Nat)(t:Ty),ts[k]? =some t->∃v,l[k]? =some v/\(zH v t\/(u=true/\(v.1:Int)=0))
structure agY(s:Sg)(env:eo.den):Prop where
 inp:Kn env.2.1 s.2.2.1 false
 dfs:Kn env.2.2.1 s.2.2.2.1 true
 mts:∀(k:Nat)(t:Ty),s.2.2.2.2.1[k]? =some t->env.2.2.2.2.1[k]? =some t
 mem:∀l∈env.2.2.2.1,Kn l s.2.2.2.2.1 true
end L.P
end Go.Proofs.YtilaieogabgamaaGreatDoor
end
section
open _root_.Go.IntKind renaming i64->ai3
open _root_.List renaming drop_append_of_le_length->ajZ,getD->ajD,getElem_mem->ajc,length_map->ajG,take_append_of_le_length->ajy,take_length->aju
open _root_.Nat renaming le_refl->ai8,zero_le->ajt
open _root_.Option renaming bind_some->ai2
namespace Go.Proofs.YtilaieogabgamaaGreatDoor
open Go Go.RowKit
set_option maxRecDepth 100000
namespace L.P
def Typ(e:List Ty)(st:List Nat)(s:Sg)(ty:Nat->Ty)(i:Nat):Prop:=
 ∀h:i<e.length,((e[i].2:Int)=0\/us e[i].1)/\NT e[i].1 e[i].2 ((opsL st (ar e[i].1).toNat i).map ty) s (ty i)
theorem FK{e:List Ty}{st:List Nat}(v:xl e st){i:Nat}(h:i<e.length):∀o∈opsL st (ar e[i].1).toNat i,o<i:=fun o ho=>(v.ops h o ho).1
theorem Ek{st l:List Nat}{i:Nat}(c:Ch st i l){a:Nat}(ha:a<=l.length):∀o∈opsL st a i,o<i:=fun o ho=>(KV c a ha o ho).1
theorem Ib{e:List Ty}{s:Sg}(hw:∀n∈e,WF aa n):Wp (M.fS aC e s) fun r=>r.2.2=0->∃st,Whole e st/\∃ty:Nat->Ty,r.1=ty (e.length-1)/\∀i,Typ e st s ty i:=by
 unfold M.fS;rw[od];simp only[ai2]
 rcases Ee e with UF|⟨st,w⟩
 .rw[if_pos (by simp[UF])]
  exact .some fun h=>absurd h UF
 rw[w.res];simp only;rw[if_neg (by simp)];have hp:0<e.length:=List.length_pos_iff.2 w.ne;have hle:=w.le;refine Wp.join (Wp.loop (fun q:Int×List Ty=>∃k:Nat,q.1=k/\k<=e.length/\∃l,Ch st k l/\∃ty:Nat->Ty,q.2=(opsL st l.length k).map ty/\∀j,j<k->Typ e st s ty j) (fun q=>(e.length-q.1).toNat) ⟨0,rfl,ajt _,[], .nil,fun _=>((0:Int),(0:Int)),rfl,fun j h=>by omega⟩ (by unfold aC;simp only;omega) ?_)
 rintro⟨_,kC⟩ ⟨k,rfl,hk,l,hc,ty,La,hty⟩
 dsimp only at La⊢
 refine Wp.dec (fun al=>?_) fun hge=> .some ?_
 .have al:k<e.length:=by omega
  have L7:=hw _ (ajc al);obtain⟨v1,l',v2,v3,v4,v5⟩:=w.val.node k al;obtain rfl:=v2.Np hc;have KS:=lg e[k].1
  have fO:kC.length=l'.length:=by rw[La,ajG,dw]
  rw[ag al];simp only[ai2,ec]
  refine Wp.seq (fun j=>j=false->((e[k].2:Int)=0\/us e[k].1)) ?_ fun j hj=>?_
  .refine Wp.mY (fun _=>Wp.seq _ (Ns ..) fun y hy=> .some fun h=> .inr (hy.1 (by simpa using h))) fun h=> .some fun _=> .inl h
  refine Wp.ite (fun _=> .some ?_) fun hcj=>?_
  .show(2:Int)=0->_
   exact fun h=>by cases h
  have hus:=hj (by simpa using hcj)
  obtain⟨a,ha⟩:∃a:Nat,ar e[k].1=a:=⟨(ar e[k].1).toNat,by omega⟩
  have De:(ar e[k].1).toNat=a:=by omega
  have Lb:=hc.next v1 v3 v5;rw[De]at v3 Lb;rw[ha]at Lb v5
  have wl:ai3.wrap ((kC.length:Int)-ar e[k].1)=((kC.length-a:Nat):Int):=by rw[aV (by omega) (by omega)];omega
  rw[wl,pL (kC.length-a) kC.length rfl rfl (by omega) (ai8 _),kQ (by omega),aju];simp only[ai2];have El:=Eg hc a v3
  have JA:kC.drop (kC.length-a)=(opsL st a k).map ty:=by
   rw[fO,La,<-List.map_drop,El,ajZ (by rw[dw];exact ai8 _),List.drop_of_length_le (by rw[dw];exact ai8 _),List.nil_append]
  have tz:kC.take (kC.length-a)=(opsL st (l'.length-a) (lQ (a:Int) k l')).map ty:=by
   rw[fO,La,<-List.map_take,El,ajy (by rw[dw];exact ai8 _),List.take_of_length_le (by rw[dw];exact ai8 _)]
  rw[JA,tz];have hm:(e[k].2:Int)<=9223372036854775807:=L7.2.2;have hnt:=Nu aC e[k].1 e[k].2 hm ((opsL st a k).map ty) s (by rw[ajG,dw];exact ha.symm)
  refine Wp.seq _ hnt fun r hr=>?_
  refine Wp.mY (fun h=> .some ?_) fun h0=>?_
  .exact fun g=>absurd g h
  have hr:=hr h0;rw[bD (by simp[dw];omega)];simp only[ai2];rw[aK (by omega)];refine .some ⟨⟨k+1,rfl,al,_,Lb,fun i=>if i=k then r.1 else ty i,?_,fun j hj h=>?_⟩,by simp only;omega⟩
  .have e1:(l'.take (l'.length-a)++[lQ (a:Int) k l']).length=l'.length-a+1:=by simp
   have hg:st.getD (k+1-1) 0=lQ (a:Int) k l':=by simp[ajD,v5]
   have e2:opsL st (l'.length-a+1) (k+1)=opsL st (l'.length-a) (lQ (a:Int) k l')++[k]:=by rw[opsL,hg];rfl
   have e3:(opsL st (l'.length-a) (lQ (a:Int) k l')).map (fun i=>if i=k then r.1 else ty i)=(opsL st (l'.length-a) (lQ (a:Int) k l')).map ty:=List.map_congr_left fun o ho=>by
    have:o<k:=Ek hc (ai8 _) o (by rw[El];exact List.mem_append_left _ ho);rw[if_neg (by omega)]
   rw[e1,e2,List.map_append,e3];simp
  .have same:∀i,i<=k->∀o∈opsL st (ar e[j].1).toNat j,(if o=k then r.1 else ty o)=ty o:=fun i _ o ho=>by
    have:=FK w.val h o ho;rw[if_neg (by omega)]
   rw[List.map_congr_left (same k (ai8 _))];by_cases UG:j=k
   .subst UG;refine⟨hus,?_⟩;dsimp only;rw[if_pos rfl,De];exact hr
   .dsimp only;rw[if_neg UG];exact hty j (by omega) h
 .obtain rfl:k=e.length:=by omega
  show Wp ((idx kC 0).bind _) _
  rw[La,Nw w hc]
  exact .some fun _=>⟨st,w,ty,rfl,fun i h=>hty i h h⟩
end L.P
end Go.Proofs.YtilaieogabgamaaGreatDoor
end
section
open _root_.List renaming getD->ajD,getElem?_eq_getElem->ai5,getElem_mem->ajc,mem_append->ajs,mem_cons->ajq,mem_singleton->ajj
open _root_.Option renaming getD_some->ajP
namespace Go.Proofs.YtilaieogabgamaaGreatDoor
open Go Go.RowKit
set_option maxRecDepth 100000
namespace L.P
theorem FL{P:Ty×Int->Prop}{g:Nat->Nat->Int->List (Ty×Int)}:∀(os:List Nat)(b:Nat)(d:Int),(∀o∈os,∀b d,∀x∈g o b d,P x)->∀x∈na g os b d,P x
 |[],_,_,_,x,h=>by simp[na]at h
 |o::os,b,d,hg,x,h=>by
  rw[na]at h
  rcases ajs.1 h with h|h
  .exact hg o (List.mem_cons_self ..) _ _ x h
  .exact FL os _ _ (fun o ho=>hg o (List.mem_cons_of_mem _ ho)) x h
theorem Lc{e:List Ty}{st:List Nat}(w:Whole e st):∀(f i b:Nat)(d:Int),i<e.length->∀x∈cg e st f i b d,((x.1.1:Int)=50\/(x.1.1:Int)=51\/(x.1.1:Int)=52\/(x.1.1:Int)=53)\/x.1∈e
 |0,_,_,_,_,x,h=>by simp[cg]at h
 |f+1,i,b,d,hi,x,h=>by
  have hge:e.getD i ((0,0):Int×Int)=e[i]:=by simp only[ajD,ai5 hi,ajP]
  have al:=FK w.val hi;have hlen:=dw st (ar e[i].1).toNat i
  have ih:∀o∈opsL st (ar e[i].1).toNat i,∀b d,∀x∈cg e st f o b d,((x.1.1:Int)=50\/(x.1.1:Int)=51\/(x.1.1:Int)=52\/(x.1.1:Int)=53)\/x.1∈e:=fun o ho b d=>Lc w f o b d (by have:=al o ho;omega)
  rw[cg,hge]at h;generalize opsL st (ar e[i].1).toNat i=os at*;split at h
  .rename_i iK;obtain⟨o0,o1,rfl⟩:=KZ (l:=os) (by rw[hlen];rcases iK with g|g<;>rw[g]<;>rfl);unfold vZ at h
   rcases ajs.1 h with h|h
   .exact ih o0 (by simp) _ _ x h
   rcases ajq.1 h with rfl|h
   .left
    show(if _ then(53:Int)else 52)=50\/(if _ then(53:Int)else 52)=51\/(if _ then(53:Int)else 52)=52\/(if _ then(53:Int)else 52)=53
    split<;>simp
   .exact ih o1 (by simp) _ _ x h
  split at h
  .rename_i iK;obtain⟨o0,o1,o2,rfl⟩:=K0 (l:=os) (by rw[hlen,iK];rfl);unfold Eh at h
   rcases ajs.1 h with h|h
   .exact ih o0 (by simp) _ _ x h
   rcases ajq.1 h with rfl|h
   .exact .inl (.inl rfl)
   rcases ajs.1 h with h|h
   .exact ih o1 (by simp) _ _ x h
   rcases ajq.1 h with rfl|h
   .exact .inl (.inr (.inl rfl))
   .exact ih o2 (by simp) _ _ x h
  .rcases ajs.1 h with h|h
   .exact FL os _ _ ih x h
   .rw[ajj.1 h];exact .inr (ajc hi)
end L.P
end Go.Proofs.YtilaieogabgamaaGreatDoor
end
section
open _root_.Bool renaming false_eq_true->ajb
open _root_.Int renaming toNat_natCast->aja
open _root_.Go.IntKind renaming i64->ai3
open _root_.List renaming getD->ajD,length_set->akw,replicate->ai9,replicate_succ->aj9,set_append_right->ajU
open _root_.Nat renaming le_refl->ai8,zero_le->ajt
open _root_.Option renaming bind_some->ai2
namespace Go.Proofs.YtilaieogabgamaaGreatDoor
open Go Go.RowKit
set_option maxRecDepth 100000
namespace L.P.Q
def z3:Vl:=((0,0,0):Int×Int×Int)
def cy(op:Int):Prop:=op=23\/op=24\/op=26
instance(op:Int):Decidable (cy op):=by unfold cy;infer_instance
noncomputable def oA(env:eo.den)(n:Ty)(args:List Vl):Vl×Int:=(M.cH aC n args env).getD (z3,0)
theorem KW{env:eo.den}(he:oW env){n:Ty}(hn:WF aa n){args:List Vl}(hl:args.length<=100000):No (oA env n args):=by
 obtain⟨r,hr,h⟩:=vW (n:=n) (args:=args) he hn hl;unfold oA;rw[hr];exact h
theorem kR(N:Nat)(op:Int):M.dU N op=some (decide (50<=op/\op<=53)):=by
 unfold M.dU
 by_cases h:50<=op<;>simp[h]
theorem mi(N:Nat)(op:Int):M.cL N op=some (decide (¬cy op/\(50<=op/\op<=53\/0<=ar op))):=by
 unfold M.cL;rw[xk,kR,ec];simp only[ai2];unfold cy;by_cases h:op=23\/op=24\/op=26
 .simp[h]
 .by_cases h2:50<=op/\op<=53
  .simp[h,h2]
  .simp[h,h2]
def gd(D:List Int)(k:Nat):Int:=D.getD k (-1)
theorem gz{D:List Int}{t:Nat}(ht:t<D.length)(d:Int)(k:Nat):gd (D.set t d) k=if k=t then d else gd D k:=by
 unfold gd ajD;by_cases h:k=t
 .subst h;rw[if_pos rfl,List.getElem?_set_self ht];rfl
 .rw[if_neg h,List.getElem?_set_ne (by omega)]
theorem jr{D:List Int}{t:Nat}(ht:t<D.length):idx D (t:Int)=some (gd D t):=by
 rw[ag ht];simp[gd,ajD,ht]
def Bd(D:List Int):Prop:=∀k,-1<=gd D k/\gd D k<=12
structure Mn(D D':List Int)(i:Nat):Prop where
 len:D'.length=D.length
 keep:∀k,0<=gd D k->gd D' k=gd D k
 low:∀k,k<=i->gd D' k=gd D k
theorem Mn.refl(D:List Int)(i:Nat):Mn D D i:=⟨rfl,fun _ _=>rfl,fun _ _=>rfl⟩
theorem Mn.trans{A B C:List Int}{i:Nat}(h:Mn A B i)(h':Mn B C i):Mn A C i:=
 ⟨h'.len.trans h.len,fun k hk=>by rw[h'.keep k (by rw[h.keep k hk];exact hk),h.keep k hk],fun k hk=>by rw[h'.low k hk,h.low k hk]⟩
theorem kr{N:Nat}{D:List Int}{t i:Nat}{d:Int}(ht:t<D.length)(uV:i<t)(hd:0<=d/\d<=12)(hB:Bd D):Wp (M.aR N (t:Int) d D) fun r=>(r.1=0->Mn D r.2 i/\Bd r.2/\gd r.2 t=d)/\(gd D t= -1->r=(0,D.set t d)):=by
 unfold M.aR;rw[jr ht];simp only[ai2,aL];by_cases h0:0<=gd D t
 .rw[decide_eq_true h0];simp only[if_true];by_cases h1:gd D t=d
  .rw[if_neg (by simp[h1])]
   refine .some ⟨fun _=>⟨⟨by simp[aT],fun k _=>?_,fun k hk=>?_⟩,fun k=>?_,?_⟩,fun h=>by omega⟩<;>simp only[aT,aja,gz ht]
   .split
    .rename_i h;rw[h,h1]
    .rfl
   .rw[if_neg (by omega)]
   .split
    .omega
    .exact hB k
   .simp
  .rw[if_pos (by simp[h1])];exact .some ⟨fun h=>by simp at h,fun h=>by omega⟩
 .rw[decide_eq_false h0];simp only[ajb,if_false]
  refine .some ⟨fun _=>⟨⟨by simp[aT],fun k hk=>?_,fun k hk=>?_⟩,fun k=>?_,?_⟩,fun h=>by simp[aT]⟩<;>simp only[aT,aja,gz ht]
  .rw[if_neg (fun h=>by rw[h]at hk;exact h0 hk)]
  .rw[if_neg (by omega)]
  .split
   .omega
   .exact hB k
  .simp
def iJ(len:Nat)(D:List Int)(j:Nat)(n:Ty):Prop:=
 ((n.1:Int)=51/\∃t:Nat,(n.2:Int)=t/\j<t/\t<=len/\gd D t=gd D j)\/
 (((n.1:Int)=50\/(n.1:Int)=52\/(n.1:Int)=53)/\1<=gd D j/\gd D (j+1)=gd D j-1/\∃t:Nat,(n.2:Int)=t/\j<t/\t<=len/\gd D t=if(n.1:Int)=50 then gd D j-1 else gd D j)\/
 ((n.1:Int)≠51/\¬((n.1:Int)=50\/(n.1:Int)=52\/(n.1:Int)=53)/\0<=ar n.1/\ar n.1<=gd D j/\gd D (j+1)=gd D j-ar n.1+1/\gd D j-ar n.1+1<=12)
theorem iJ.mono{len j i:Nat}{D D':List Int}{n:Ty}(h:iJ len D j n)(hj:0<=gd D j)(m:Mn D D' i):iJ len D' j n:=by
 have e:=m.keep j hj
 rcases h with⟨h1,t,h2,h3,h4,h5⟩|⟨h1,h2,h3,t,h4,h5,h6,h7⟩|⟨h1,h2,h3,h4,h5,h6⟩
 .exact .inl ⟨h1,t,h2,h3,h4,by rw[m.keep t (by omega),h5,e]⟩
 .have e1:=m.keep (j+1) (by omega);have e2:=m.keep t (by rw[h7];split<;>omega);exact .inr (.inl ⟨h1,by omega,by omega,t,h4,h5,h6,by rw[e2,e];exact h7⟩)
 .have e1:=m.keep (j+1) (by omega);exact .inr (.inr ⟨h1,h2,h3,by omega,by omega,by omega⟩)
theorem FE{N:Nat}{code:List Ty}{D:List Int}{i:Nat}(hl:code.length<=128)(hi:i<code.length)(hD:D.length=code.length+1)(hB:Bd D)(h0:0<=gd D i):Wp (M.bw N code (i:Int) code[i] D) fun r=>r.1=0->Mn D r.2 i/\Bd r.2/\iJ code.length r.2 i code[i]/\¬cy code[i].1:=by
 unfold M.bw;generalize code[i]=n;obtain⟨(op:Int),(m:Int)⟩:=n;dsimp only[ae,Row.den]at*;have KS:=lg op;have hBi:=hB i;rw[mi,kR,jr (by omega),ec,xk];simp only[ai2,aL];by_cases c1:¬cy op/\(50<=op/\op<=53\/0<=ar op)
 case neg=>
  rw[decide_eq_false c1];simp only[Bool.not_false,if_true]
  exact .some fun h=>by simp at h
 rw[decide_eq_true c1];simp only[Bool.not_true,ajb,if_false];by_cases c2:50<=op/\op<=53
 .rw[decide_eq_true c2];simp only[if_true];by_cases c3:m<=i\/(code.length:Int)<m
  .have:(if decide (m<=(i:Int))=true then true else decide ((code.length:Int)<m))=true:=by
    rcases c3 with c|c<;>simp[c]
   rw[if_pos this]
   exact .some fun h=>by simp at h
  have hc:(if decide (m<=(i:Int))=true then true else decide ((code.length:Int)<m))=false:=by
   rw[if_neg (by simp;omega)];simp;omega
  rw[if_neg (by rw[hc];simp)]
  obtain⟨t,rfl⟩:∃t:Nat,m=t:=⟨m.toNat,by omega⟩
  refine Wp.dec (fun c4=>?_) fun c4=>?_
  .refine Wp.seq _ (kr (t:=t) (i:=i) (by omega) (by omega) (by omega) hB) fun r hr=> .some fun h=>?_
   obtain⟨a1,a2,a3⟩:=hr.1 h;exact⟨a1,a2, .inl ⟨c4,t,rfl,by omega,by omega,by rw[a3,a1.low i (ai8 _)]⟩,c1.1⟩
  refine Wp.dec (fun c5=>?_) fun c5=>by omega
  refine Wp.dec (fun c6=> .some fun h=>by simp at h) fun c6=>?_
  have w1:ai3.wrap (gd D i-1)=gd D i-1:=aV (by omega) (by omega);rw[w1,aK (by omega)]
  refine Wp.seq _ (kr (t:=i+1) (i:=i) (by omega) (by omega) (by omega) hB) fun r hr=>?_
  refine Wp.mY (fun c7=> .some fun h=>absurd h c7) fun c7=>?_
  obtain⟨a1,a2,a3⟩:=hr.1 c7;have rP:=a1.low i (ai8 _)
  refine Wp.seq _ (kr (D:=r.2) (t:=t) (i:=i) (by rw[a1.len];omega) (by omega) (by split<;>omega) a2) fun r' oz=> .some fun h=>?_
  obtain⟨b1,b2,b3⟩:=oz.1 h;refine⟨a1.trans b1,b2, .inr (.inl ⟨c5,?_,?_,t,rfl,by omega,by omega,?_⟩),c1.1⟩
  .rw[b1.low i (ai8 _)];show 1<=gd r.2 i;omega
  .show gd r'.2 (i+1)=gd r'.2 i-1
   rw[b1.low i (ai8 _),b1.keep (i+1) (by omega)];omega
  .show gd r'.2 t=if op=50 then gd r'.2 i-1 else gd r'.2 i
   rw[b1.low i (ai8 _),b3,rP]
   by_cases Al:op=50<;>simp[Al]
 .rw[decide_eq_false c2];simp only[ajb,if_false]
  refine Wp.dec (fun c4=>by omega) fun c4=>?_
  refine Wp.dec (fun c5=>by omega) fun c5=>?_
  refine Wp.dec (fun c6=> .some fun h=>by simp at h) fun c6=>?_
  have w1:ai3.wrap (gd D i-ar op)=gd D i-ar op:=aV (by omega) (by omega);have w2:ai3.wrap (gd D i-ar op+1)=gd D i-ar op+1:=aV (by omega) (by omega);rw[w1,w2]
  refine Wp.dec (fun c7=> .some fun h=>by simp at h) fun c7=>?_
  rw[aK (by omega)]
  refine Wp.seq _ (kr (t:=i+1) (i:=i) (by omega) (by omega) (by omega) hB) fun r hr=> .some fun h=>?_
  obtain⟨a1,a2,a3⟩:=hr.1 h;have rP:=a1.low i (ai8 _);exact⟨a1,a2, .inr (.inr ⟨c4,c5,by show 0<=ar op;omega,by show ar op<=gd r.2 i;omega,by show gd r.2 (i+1)=gd r.2 i-ar op+1;omega,by show gd r.2 i-ar op+1<=12;omega⟩),c1.1⟩
structure Fits(code:List Ty)(F:List Int):Prop where
 pos:0<code.length
 le:code.length<=128
 len:F.length=code.length+1
 bd:Bd F
 first:gd F 0=0
 last:gd F code.length=1
 step:∀j(h:j<code.length),0<=gd F j->iJ code.length F j code[j]/\¬cy code[j].1
theorem zO(n k:Nat):gd (ai9 n (-1)) k= -1:=by
 unfold gd ajD;by_cases h:k<n
 .simp[h]
 .rw[List.getElem?_eq_none (by simp;omega)];rfl
theorem tS(code:List Ty):Wp (M.cJ aC code) fun y=>y.2=0->∃F,Fits code F:=by
 unfold M.cJ
 refine Wp.dec (fun h=> .some fun h=>by simp at h) fun h1=>?_
 refine Wp.dec (fun h=> .some fun h=>by simp at h) fun h2=>?_
 have hl:code.length<=128:=by omega
 have hp:0<code.length:=by omega
 rw[aK (by omega)]
 have wK:mV ((code.length+1:Nat):Int) (0:Int)=some (ai9 (code.length+1) 0):=by
  unfold mV;rw[if_pos (by omega),aja]
 rw[wK];simp only[ai2];refine Wp.seq (· =ai9 (code.length+1) (-1:Int)) ?_ ?_
 .refine Wp.loop (fun s:Int×List Int=>∃k m:Nat,s=((k:Int),ai9 k (-1)++ai9 m 0)/\k+m=code.length+1) (fun s=>(code.length+1-s.1).toNat) ⟨0,code.length+1,by simp,by omega⟩ (by unfold aC;simp only;omega) ?_
  rintro _ ⟨k,m,rfl,hk⟩
  simp only[List.length_replicate]
  refine Wp.dec (fun h=>?_) fun h=> .some ?_
  .obtain⟨m,rfl⟩:∃m',m=m'+1:=⟨m-1,by omega⟩
   rw[ag (by simp)];simp only[ai2];rw[aK (by omega)];refine .some ⟨⟨k+1,m,?_,by omega⟩,by simp only;omega⟩;refine Prod.ext rfl ?_;simp only[aT,aja];rw[ajU _ _ (by simp),aj9];simp[List.replicate_succ']
  .obtain rfl:m=0:=by omega
   obtain rfl:k=code.length+1:=by omega
   show _=_
   simp
 rintro _ rfl
 have e1:idx (ai9 (code.length+1) (-1:Int)) 0=some (-1):=by rw[aj9];rfl
 rw[e1];simp only[ai2];have e0:aT (ai9 (code.length+1) (-1:Int)) (0:Int) (0:Int)=(ai9 (code.length+1) (-1:Int)).set 0 0:=rfl;rw[e0]
 have g0:∀k,gd ((ai9 (code.length+1) (-1:Int)).set 0 0) k=if k=0 then 0 else-1:=fun k=>by
  rw[gz (by simp),zO]
 refine Wp.join (Wp.loop (fun s:Int×Int×List Int=>∃i:Nat,s.2.1=i/\i<=code.length/\s.2.2.length=code.length+1/\Bd s.2.2/\gd s.2.2 0=0/\∀j(h:j<code.length),j<i->0<=gd s.2.2 j->iJ code.length s.2.2 j code[j]/\¬cy code[j].1) (fun s=>(code.length-s.2.1).toNat) ⟨0,rfl,ajt _,by simp,fun k=>?_,?_,fun j _ h=>by omega⟩ (by unfold aC;simp only;omega) ?_)
 .simp only[g0];split<;>omega
 .simp only[g0];rfl
 rintro⟨g,at',D⟩ ⟨i,oi,hi,hD,hB,hz,hs⟩
 dsimp only at oi hi hD hB hz hs⊢;subst oi
 refine Wp.dec (fun al=>?_) fun hge=> .some ?_
 .have al:i<code.length:=by omega
  rw[aK (by omega),ag al,jr (by omega)];simp only[ai2];refine Wp.join ?_
  refine Wp.dec (fun Ed=> .some ?_) fun nR=>?_
  .refine Wp.some ?_;refine⟨⟨i+1,rfl,al,hD,hB,hz,fun j h hj h0=>hs j h ?_ h0⟩,by simp only;omega⟩
   rcases Nat.lt_or_ge j i with h'|h'
   .exact h'
   .have:j=i:=by omega
    subst this;dsimp only at h0;omega
  .refine Wp.seq _ (FE hl al hD hB (by omega)) fun r hr=>?_
   refine Wp.mY (fun bN=> .some ?_) fun my=> .some ?_
   .exact(fun h=>absurd h bN:r.1=0->∃F,Fits code F)
   .obtain⟨a1,a2,a3,a4⟩:=hr my;refine Wp.some ?_;refine⟨⟨i+1,rfl,al,by rw[<-hD];exact a1.len,a2,by rw[<-hz];exact a1.low 0 (ajt _),fun j h hj h0=>?_⟩,by simp only;omega⟩
    rcases Nat.lt_or_ge j i with h'|h'
    .have e:=a1.low j (by omega)
     have h0':0<=gd D j:=by rw[<-e];exact h0
     obtain⟨b1,b2⟩:=hs j h h' h0';exact⟨b1.mono h0' a1,b2⟩
    .have:j=i:=by omega
     subst this;exact⟨a3,a4⟩
 .obtain rfl:i=code.length:=by omega
  show Wp ((idx D (code.length:Int)).bind _) _
  rw[jr (by omega)];simp only[ai2]
  refine Wp.dec (fun h=> .some fun h=>by simp at h) fun h3=>?_
  refine Wp.dec (fun h=> .some fun h=>by simp at h) fun h4=> .some fun _=>⟨D,hp,hl,hD,hB,hz,by omega,fun j h h0=>hs j h h h0⟩
structure Cs(F D:List Int):Prop where
 len:D.length=F.length
 ok:∀k,gd D k= -1\/gd D k=gd F k
theorem Cs.set{F D:List Int}(c:Cs F D){t:Nat}(ht:t<F.length):Cs F (D.set t (gd F t)):=by
 refine⟨by rw[akw,c.len],fun k=>?_⟩;rw[gz (by rw[c.len];exact ht)];split
 .rename_i h;rw[h];exact .inr rfl
 .exact c.ok k
theorem lM{N:Nat}{F D:List Int}(c:Cs F D){t:Nat}(ht:t<F.length):M.aR N (t:Int) (gd F t) D=some (0,D.set t (gd F t)):=by
 have htD:t<D.length:=by rw[c.len];exact ht
 unfold M.aR;rw[jr htD];simp only[ai2,aL]
 rcases c.ok t with h|h
 .rw[h];rfl
 .rw[h]
  by_cases h0:0<=gd F t<;>simp[h0,aT]
theorem Ei{N:Nat}{code:List Ty}{F D:List Int}(f:Fits code F)(c:Cs F D){i:Nat}(hi:i<code.length)(h0:gd D i=gd F i)(hp:0<=gd F i):Wp (M.bw N code (i:Int) code[i] D) fun r=>r.1=0/\Cs F r.2/\∃t,i<t/\t<=code.length/\0<=gd r.2 t:=by
 have hle:=f.le;have R1:=f.len;have Vu:=c.len;have hb:=f.bd i;have E1:=f.bd (i+1);obtain⟨hs,HZ⟩:=f.step i hi hp;unfold M.bw;generalize code[i]=n at*;obtain⟨(op:Int),(m:Int)⟩:=n;dsimp only[ae,Row.den]at*;have KS:=lg op;rw[mi,kR,jr (by omega),ec,xk,h0];simp only[ai2]
 have e0:(50<=op/\op<=53\/0<=ar op)->(50<=op/\op<=53->(i:Int)<m/\m<=(code.length:Int))->(if(!decide (¬cy op/\(50<=op/\op<=53\/0<=ar op)))=true then some true else(if decide (50<=op/\op<=53)=true then(if decide (m<=(i:Int))=true then some true else some (decide ((code.length:Int)<m)))else some false))=some false:=by
  intro g1 g2;rw[decide_eq_true (show¬cy op/\(50<=op/\op<=53\/0<=ar op)from⟨HZ,g1⟩),if_neg (by simp)];by_cases g:50<=op/\op<=53
  .obtain⟨g3,g4⟩:=g2 g;rw[decide_eq_true g,if_pos rfl,decide_eq_false (by omega),if_neg (by simp),decide_eq_false (by omega)]
  .rw[decide_eq_false g,if_neg (by simp)]
 rcases hs with⟨h1,t,h2,h3,h4,h5⟩|⟨h1,h2,h3,t,h4,h5,h6,h7⟩|⟨h1,h2,h3,h4,h5,h6⟩
 .dsimp only[ae,Row.den]at*;subst h2;rw[e0 (.inl (by omega)) (fun _=>by omega)];simp only[ai2,ajb,if_false]
  refine Wp.dec (fun _=>?_) fun h=>absurd h1 h
  rw[<-h5,lM c (by omega)];refine .some ⟨rfl,c.set (by omega),t,h3,h4,?_⟩
  show 0<=gd (D.set t (gd F t)) t
  rw[gz (by omega),if_pos rfl];omega
 .dsimp only[ae,Row.den]at*;subst h4;rw[e0 (.inl (by omega)) (fun _=>by omega)];simp only[ai2,ajb,if_false]
  refine Wp.dec (fun h=>by omega) fun _=>?_
  refine Wp.dec (fun _=>?_) fun h=>absurd h1 h
  refine Wp.dec (fun h=>by omega) fun _=>?_
  have w1:ai3.wrap (gd F i-1)=gd F (i+1):=by rw[aV (by omega) (by omega),h3]
  rw[w1,aK (by omega),lM c (by omega)];have c1:=c.set (t:=i+1) (by omega);simp only[ai2]
  refine Wp.mY (fun h=>absurd trivial h) fun _=>?_
  have e7:(if decide (op=50)=true then some (gd F (i+1))else some (gd F i))=some (gd F t):=by
   by_cases Al:op=50
   .rw[decide_eq_true Al,if_pos rfl,h7,if_pos Al,h3]
   .rw[decide_eq_false Al,if_neg (by simp),h7,if_neg Al]
  rw[e7];simp only[ai2];rw[lM c1 (by omega)];have c2:=c1.set (t:=t) (by omega);refine .some ⟨rfl,c2,t,h5,h6,?_⟩
  show 0<=gd (((D.set (i+1) (gd F (i+1)))).set t (gd F t)) t
  rw[gz (by rw[akw];omega),if_pos rfl,h7]
  split<;>omega
 .dsimp only[ae,Row.den]at*
  have iK:¬(50<=op/\op<=53):=by
   intro h
   have:op=50\/op=51\/op=52\/op=53:=by omega
   omega
  rw[e0 (.inr h3) (fun h=>absurd h iK)];simp only[ai2,ajb,if_false]
  refine Wp.dec (fun h=>absurd h h1) fun _=>?_
  refine Wp.dec (fun h=>absurd h h2) fun _=>?_
  refine Wp.dec (fun h=>by omega) fun _=>?_
  have w1:ai3.wrap (gd F i-ar op)=gd F i-ar op:=aV (by omega) (by omega)
  have w2:ai3.wrap (gd F i-ar op+1)=gd F (i+1):=by rw[aV (by omega) (by omega),h5]
  rw[w1,w2]
  refine Wp.dec (fun h=>by omega) fun _=>?_
  rw[aK (by omega),lM c (by omega)];refine .some ⟨rfl,c.set (by omega),i+1,by omega,by omega,?_⟩
  show 0<=gd (D.set (i+1) (gd F (i+1))) (i+1)
  rw[gz (by omega),if_pos rfl];omega
theorem Fits.verify{code:List Ty}{F:List Int}(f:Fits code F):Wp (M.cJ aC code) fun y=>y.2=0:=by
 have hl:=f.le;have hp:=f.pos;have R1:=f.len;unfold M.cJ
 refine Wp.dec (fun h=>by omega) fun h1=>?_
 refine Wp.dec (fun h=>by omega) fun h2=>?_
 rw[aK (by omega)]
 have wK:mV ((code.length+1:Nat):Int) (0:Int)=some (ai9 (code.length+1) 0):=by
  unfold mV;rw[if_pos (by omega),aja]
 rw[wK];simp only[ai2];refine Wp.seq (· =ai9 (code.length+1) (-1:Int)) ?_ ?_
 .refine Wp.loop (fun s:Int×List Int=>∃k m:Nat,s=((k:Int),ai9 k (-1)++ai9 m 0)/\k+m=code.length+1) (fun s=>(code.length+1-s.1).toNat) ⟨0,code.length+1,by simp,by omega⟩ (by unfold aC;simp only;omega) ?_
  rintro _ ⟨k,m,rfl,hk⟩
  simp only[List.length_replicate]
  refine Wp.dec (fun h=>?_) fun h=> .some ?_
  .obtain⟨m,rfl⟩:∃m',m=m'+1:=⟨m-1,by omega⟩
   rw[ag (by simp)];simp only[ai2];rw[aK (by omega)];refine .some ⟨⟨k+1,m,?_,by omega⟩,by simp only;omega⟩;refine Prod.ext rfl ?_;simp only[aT,aja];rw[ajU _ _ (by simp),aj9];simp[List.replicate_succ']
  .obtain rfl:m=0:=by omega
   obtain rfl:k=code.length+1:=by omega
   show _=_
   simp
 rintro _ rfl
 have e1:idx (ai9 (code.length+1) (-1:Int)) 0=some (-1):=by rw[aj9];rfl
 rw[e1];simp only[ai2];have e0:aT (ai9 (code.length+1) (-1:Int)) (0:Int) (0:Int)=(ai9 (code.length+1) (-1:Int)).set 0 0:=rfl;rw[e0]
 have g0:∀k,gd ((ai9 (code.length+1) (-1:Int)).set 0 0) k=if k=0 then 0 else-1:=fun k=>by
  rw[gz (by simp),zO]
 refine Wp.join (Wp.loop (fun s:Int×Int×List Int=>∃i:Nat,s.2.1=i/\i<=code.length/\Cs F s.2.2/\∃k,i<=k/\k<=code.length/\0<=gd s.2.2 k) (fun s=>(code.length-s.2.1).toNat) ⟨0,rfl,ajt _,⟨by simp[R1],fun k=>?_⟩,0,ai8 _,ajt _,?_⟩ (by unfold aC;simp only;omega) ?_)
 .simp only[g0];split
  .rename_i h;rw[h,f.first];exact .inr rfl
  .exact .inl rfl
 .simp only[g0];decide
 rintro⟨g,at',D⟩ ⟨i,oi,hi,hc,k,Hj,CY,Vh⟩
 dsimp only at oi hi hc Vh⊢;subst oi;have Vu:=hc.len
 refine Wp.dec (fun al=>?_) fun hge=> .some ?_
 .have al:i<code.length:=by omega
  rw[aK (by omega),ag al,jr (by omega)];simp only[ai2];refine Wp.join ?_
  refine Wp.dec (fun Ed=> .some ?_) fun nR=>?_
  .refine Wp.some ⟨⟨i+1,rfl,al,hc,k,?_,CY,Vh⟩,by simp only;omega⟩;by_cases e:k=i
   .subst e;omega
   .omega
  have hgi:gd D i=gd F i:=(hc.ok i).resolve_left (by omega)
  refine Wp.seq _ (Ei f hc al hgi (by omega)) fun r hr=>?_
  obtain⟨r1,r2,t,r3,r4,r5⟩:=hr
  refine Wp.mY (fun h=>absurd r1 h) fun _=> .some ?_
  exact Wp.some ⟨⟨i+1,rfl,al,r2,t,r3,r4,r5⟩,by simp only;omega⟩
 .obtain rfl:i=code.length:=by omega
  show Wp ((idx D (code.length:Int)).bind _) _
  obtain rfl:k=code.length:=by omega
  rw[jr (by omega),(hc.ok _).resolve_left (by omega),f.last];exact .some rfl
end L.P.Q
end Go.Proofs.YtilaieogabgamaaGreatDoor
end
section
open _root_.List renaming getElem?_eq_getElem->ai5,length_append->ai6,length_singleton->ajh,length_take->ajl
open _root_.Nat renaming min_eq_left->ajQ
namespace Go.Proofs.YtilaieogabgamaaGreatDoor
open Go Go.RowKit
set_option maxRecDepth 100000
namespace L.P.Q
def FF(n:Ty)(top:Vl):Bool:=decide (decide ((top.2.2:Int)=1)=decide ((n.1:Int)=53))
inductive eM(code:List Ty)(env:eo.den):Nat->List Vl->Vl×Int->Prop
 |done {v:Vl} {S:List Vl}:eM code env code.length (v::S) (v,0)
 |jump {p t:Nat} {S:List Vl} {r:Vl×Int} {n:Ty} (h:code[p]? =some n) (qH:(n.1:Int)=51) (ht:(n.2:Int)=t) (Nr:p<t) (Dd:t<=code.length) (next:eM code env t S r):eM code env p S r
 |op {p a:Nat} {S:List Vl} {r:Vl×Int} {n:Ty} (h:code[p]? =some n) (bN:¬(50<=(n.1:Int)/\(n.1:Int)<=53)) (ha:ar n.1=a) (hs:a<=S.length) (h0:(oA env n (S.drop (S.length-a))).2=0) (next:eM code env (p+1) (S.take (S.length-a)++[(oA env n (S.drop (S.length-a))).1]) r):eM code env p S r
 |fail {p a:Nat} {S:List Vl} {n:Ty} (h:code[p]? =some n) (bN:¬(50<=(n.1:Int)/\(n.1:Int)<=53)) (ha:ar n.1=a) (hs:a<=S.length) (h0:(oA env n (S.drop (S.length-a))).2≠0):eM code env p S (z3,(oA env n (S.drop (S.length-a))).2)
 |cond {p t:Nat} {S:List Vl} {r:Vl×Int} {n:Ty} {top:Vl} (h:code[p]? =some n) (iK:(n.1:Int)=50\/(n.1:Int)=52\/(n.1:Int)=53) (ht:(n.2:Int)=t) (Nr:p<t) (Dd:t<=code.length) (hk:(top.1:Int)=1) (hv:(top.2.2:Int)=0\/(top.2.2:Int)=1) (next:eM code env (if FF n top=true then t else p+1) (if FF n top=false\/(n.1:Int)=50 then S else S++[top]) r):eM code env p (S++[top]) r
 |cbad {p:Nat} {S:List Vl} {n:Ty} {top:Vl} (h:code[p]? =some n) (iK:(n.1:Int)=50\/(n.1:Int)=52\/(n.1:Int)=53) (hk:¬((top.1:Int)=1/\((top.2.2:Int)=0\/(top.2.2:Int)=1))):eM code env p (S++[top]) (z3,8)
theorem Fits.runs{code:List Ty}{F:List Int}{env:eo.den}(f:Fits code F):∀(m p:Nat)(S:List Vl),code.length-p<=m->p<=code.length->gd F p=S.length->∃r,eM code env p S r:=by
 intro m
 induction m with
 |zero=>
  intro p S hm hp hS
  obtain rfl:p=code.length:=by omega
  have hl:=f.last
  cases S with
  |nil=>simp at hS;omega
  |cons v S=>exact⟨_, .done⟩
 |succ m ih=>
  intro p S hm hp hS;by_cases al:p<code.length
  case neg=>
   obtain rfl:p=code.length:=by omega
   have hl:=f.last
   cases S with
   |nil=>simp at hS;omega
   |cons v S=>exact⟨_, .done⟩
  have hge:=ai5 al
  rcases(f.step p al (by omega)).1 with⟨h1,t,h2,h3,h4,h5⟩|⟨h1,h2,h3,t,h4,h5,h6,h7⟩|⟨h1,h2,h3,h4,h5,h6⟩
  .obtain⟨r,hr⟩:=ih t S (by omega) h4 (by omega);exact⟨r, .jump hge h1 h2 h3 h4 hr⟩
  .rcases List.eq_nil_or_concat S with rfl|⟨S',top,rfl⟩
   .simp at hS;omega
   simp only[List.concat_eq_append]at hS⊢;rw[ai6,ajh]at hS;by_cases hg:(top.1:Int)=1/\((top.2.2:Int)=0\/(top.2.2:Int)=1)
   .obtain⟨r,hr⟩:=ih (if FF code[p] top=true then t else p+1) (if FF code[p] top=false\/(code[p].1:Int)=50 then S' else S'++[top]) (by split<;>omega) (by split<;>omega) (by
     by_cases hj:FF code[p] top=true
     .rw[if_pos hj,h7];by_cases Al:(code[p].1:Int)=50
      .rw[if_pos Al,if_pos (.inr Al)];omega
      .rw[if_neg Al,if_neg (by simp[hj,Al]),ai6,ajh];omega
     .rw[if_neg hj,if_pos (.inl (by simpa using hj)),h3];omega)
    exact⟨r, .cond hge h1 h4 h5 h6 hg.1 hg.2 hr⟩
   .exact⟨_, .cbad hge h1 hg⟩
  .obtain⟨a,ha⟩:∃a:Nat,ar code[p].1=a:=⟨(ar code[p].1).toNat,by omega⟩
   have OP:¬(50<=(code[p].1:Int)/\(code[p].1:Int)<=53):=by
    generalize(code[p].1:Int)=o at h1 h2;dsimp only[ae,Row.den]at*;omega
   by_cases h0:(oA env code[p] (S.drop (S.length-a))).2=0
   .obtain⟨r,hr⟩:=ih (p+1) (S.take (S.length-a)++[(oA env code[p] (S.drop (S.length-a))).1]) (by omega) al (by
     rw[h5,ai6,ajl,ajh,ajQ (by omega)];omega)
    exact⟨r, .op hge OP ha (by omega) h0 hr⟩
   .exact⟨_, .fail hge OP ha (by omega) h0⟩
end L.P.Q
end Go.Proofs.YtilaieogabgamaaGreatDoor
end
section
open _root_.List renaming append_assoc->ajr,getElem?_eq_some_iff->ai7,length_append->ai6,take_length->aju
open _root_.Nat renaming add_assoc->akf,le_trans->ajE,zero_le->ajt
open _root_.Option.some renaming inj->ai4
namespace Go.Proofs.YtilaieogabgamaaGreatDoor
open Go Go.RowKit
set_option maxRecDepth 100000
namespace L.P.Q
theorem nat_eq{u t:Nat}{x:Int}(h1:x=u)(h2:x=t):u=t:=by omega
def kI(n:Ty):Prop:=50<=(n.1:Int)/\(n.1:Int)<=53
instance(n:Ty):Decidable (kI n):=by unfold kI;infer_instance
def yo(n:Ty):Prop:=(n.1:Int)=50\/(n.1:Int)=52\/(n.1:Int)=53
theorem yo.kI{n:Ty}(h:yo n):kI n:=by
 obtain⟨(o:Int),(m:Int)⟩:=n;unfold yo at h;unfold L.P.Q.kI;dsimp only[ae,Row.den]at*;omega
theorem qi{n:Ty}(h:(n.1:Int)=51):kI n:=by
 obtain⟨(o:Int),(m:Int)⟩:=n;unfold kI;dsimp only[ae,Row.den]at*;omega
theorem lR{n:Ty}(h:kI n):(n.1:Int)=51\/yo n:=by
 obtain⟨(o:Int),(m:Int)⟩:=n;unfold kI at h;unfold yo;dsimp only[ae,Row.den]at*;omega
theorem nc{n:Ty}(h:yo n):¬(n.1:Int)=51:=by
 obtain⟨(o:Int),(m:Int)⟩:=n;unfold yo at h;dsimp only[ae,Row.den]at*;omega
theorem B8{n:Ty}(h:kI n):¬cy n.1:=by
 obtain⟨(o:Int),(m:Int)⟩:=n;unfold kI at h;unfold cy;dsimp only[ae,Row.den]at*;omega
section
variable {a b:List Ty} {env:eo.den} {p:Nat} {S:List Vl} {r:Vl×Int} {n:Ty}
theorem eM.Q5(hr:eM a env p S r)(hp:p=a.length):∃v S',S=v::S'/\r=(v,0):=by
 have no:∀{n:Ty},a[p]? =some n->False:=fun{n}h=>by subst hp;simp at h
 cases hr with
 |done=>exact⟨_,_,rfl,rfl⟩
 |jump h=>exact(no h).elim
 |op h=>exact(no h).elim
 |fail h=>exact(no h).elim
 |cond h=>exact(no h).elim
 |cbad h=>exact(no h).elim
theorem eM.Ld(hr:eM a env p S r)(hn:a[p]? =some n)(hj:¬kI n):∃k:Nat,ar n.1=k/\k<=S.length/\
 (((oA env n (S.drop (S.length-k))).2=0/\eM a env (p+1) (S.take (S.length-k)++[(oA env n (S.drop (S.length-k))).1]) r)\/((oA env n (S.drop (S.length-k))).2≠0/\r=(z3,(oA env n (S.drop (S.length-k))).2))):=by
 cases hr with
 |done=>simp at hn
 |jump h qH=>obtain rfl:=ai4 (h.symm.trans hn);exact absurd (qi qH) hj
 |op h bN ha hs h0 next=>obtain rfl:=ai4 (h.symm.trans hn);exact⟨_,ha,hs, .inl ⟨h0,next⟩⟩
 |fail h bN ha hs h0=>obtain rfl:=ai4 (h.symm.trans hn);exact⟨_,ha,hs, .inr ⟨h0,rfl⟩⟩
 |cond h iK=>obtain rfl:=ai4 (h.symm.trans hn);exact absurd (yo.kI iK) hj
 |cbad h iK=>obtain rfl:=ai4 (h.symm.trans hn);exact absurd (yo.kI iK) hj
theorem eM.FM(hr:eM a env p S r)(hn:a[p]? =some n)(qH:(n.1:Int)=51):∃t:Nat,(n.2:Int)=t/\p<t/\t<=a.length/\eM a env t S r:=by
 cases hr with
 |done=>simp at hn
 |jump h _ ht Nr Dd next=>obtain rfl:=ai4 (h.symm.trans hn);exact⟨_,ht,Nr,Dd,next⟩
 |op h bN=>obtain rfl:=ai4 (h.symm.trans hn);exact absurd (qi qH) bN
 |fail h bN=>obtain rfl:=ai4 (h.symm.trans hn);exact absurd (qi qH) bN
 |cond h iK=>obtain rfl:=ai4 (h.symm.trans hn);exact absurd qH (nc iK)
 |cbad h iK=>obtain rfl:=ai4 (h.symm.trans hn);exact absurd qH (nc iK)
def we(top:Vl):Prop:=(top.1:Int)=1/\((top.2.2:Int)=0\/(top.2.2:Int)=1)
theorem eM.Ny(hr:eM a env p S r)(hn:a[p]? =some n)(hc:yo n):∃S' top,S=S'++[top]/\((¬we top/\r=(z3,8))\/
 (we top/\∃t:Nat,(n.2:Int)=t/\p<t/\t<=a.length/\eM a env (if FF n top=true then t else p+1) (if FF n top=false\/(n.1:Int)=50 then S' else S'++[top]) r)):=by
 cases hr with
 |done=>simp at hn
 |jump h qH=>obtain rfl:=ai4 (h.symm.trans hn);exact absurd qH (nc hc)
 |op h bN=>obtain rfl:=ai4 (h.symm.trans hn);exact absurd (yo.kI hc) bN
 |fail h bN=>obtain rfl:=ai4 (h.symm.trans hn);exact absurd (yo.kI hc) bN
 |cond h iK ht Nr Dd hk hv next=>obtain rfl:=ai4 (h.symm.trans hn);exact⟨_,_,rfl, .inr ⟨⟨hk,hv⟩,_,ht,Nr,Dd,next⟩⟩
 |cbad h iK hk=>obtain rfl:=ai4 (h.symm.trans hn);exact⟨_,_,rfl, .inl ⟨hk,rfl⟩⟩
theorem eM.lit{v:Vl}(hr:eM a env p S r)(hn:a[p]? =some n)(hj:¬kI n)(h0:ar n.1=0)(hv:oA env n []=(v,0)):eM a env (p+1) (S++[v]) r:=by
 obtain⟨k,h1,h2,h3⟩:=hr.Ld hn hj
 obtain rfl:k=0:=by omega
 rw[Nat.sub_zero,List.drop_length,aju,hv]at h3
 rcases h3 with h3|h3
 .exact h3.2
 .exact absurd rfl h3.1
theorem eM.opI{vs:List Vl}{v:Vl}(hr:eM a env p (S++vs) r)(hn:a[p]? =some n)(hj:¬kI n)(h0:ar n.1=(vs.length:Int))(hv:oA env n vs=(v,0)):eM a env (p+1) (S++[v]) r:=by
 obtain⟨k,h1,h2,h3⟩:=hr.Ld hn hj
 obtain rfl:k=vs.length:=by omega
 rw[ai6,Nat.add_sub_cancel,List.drop_left,List.take_left,hv]at h3
 rcases h3 with h3|h3
 .exact h3.2
 .exact absurd rfl h3.1
end
inductive L8(a b:List Ty)(R:Nat->Nat->Prop)(p q:Nat):Prop
 |op {n:Ty} (ha:a[p]? =some n) (hb:b[q]? =some n) (hn:¬kI n) (hr:R (p+1) (q+1)):L8 a b R p q
 |jump {n n':Ty} {t t':Nat} (ha:a[p]? =some n) (hb:b[q]? =some n') (h1:(n.1:Int)=51) (h2:(n'.1:Int)=51) (e1:(n.2:Int)=t) (e2:(n'.2:Int)=t') (hq:q<t') (hr:R t t'):L8 a b R p q
 |cond {n n':Ty} {t t':Nat} (ha:a[p]? =some n) (hb:b[q]? =some n') (h1:yo n) (h2:(n'.1:Int)=n.1) (e1:(n.2:Int)=t) (e2:(n'.2:Int)=t') (hq:q<t') (hr:R t t') (hs:R (p+1) (q+1)):L8 a b R p q
 |block {k:Nat} {n m:Ty} {vs:List Vl} {v:Vl} (hl:∀j,j<k->∃x y,a[p+j]? =some x/\vs[j]? =some y/\¬kI x/\ar x.1=0/\∀env,oW env->oA env x []=(y,0)) (hk:vs.length=k) (hn:a[p+k]? =some n) (hj:¬kI n) (ha:ar n.1=k)
   (hv:∀env,oW env->oA env n vs=(v,0)) (hm:b[q]? =some m) (OQ:¬kI m) (ham:ar m.1=0) (HZ:¬cy m.1) (hvm:∀env,oW env->oA env m []=(v,0)) (hr:R (p+k+1) (q+1)):L8 a b R p q
structure Nz(a b:List Ty)(F F':List Int)(R:Nat->Nat->Prop):Prop where
 fits:Fits a F
 pos:0<b.length
 le:b.length<=128
 len:F'.length=b.length+1
 bd:Bd F'
 dep:∀p q,R p q->0<=gd F p/\p<=a.length/\q<=b.length/\gd F' q=gd F p
 st:∀p q,R p q->(p=a.length/\q=b.length)\/L8 a b R p q\/∃(n:Ty)(t:Nat),a[p]? =some n/\(n.1:Int)=51/\(n.2:Int)=t/\R t q
 back:∀q,q<b.length->0<=gd F' q->∃p,R p q/\L8 a b R p q
 zero:R 0 0
 fin:R a.length b.length
section
variable {a b:List Ty} {F F':List Int} {R:Nat->Nat->Prop}
theorem Fits.at(f:Fits a F){p:Nat}{n:Ty}(hn:a[p]? =some n)(h0:0<=gd F p):iJ a.length F p n/\¬cy n.1:=by
 obtain⟨h,rfl⟩:=ai7.1 hn;exact f.step p h h0
theorem Fits.op(f:Fits a F){p:Nat}{n:Ty}(hn:a[p]? =some n)(hj:¬kI n)(h0:0<=gd F p):0<=ar n.1/\ar n.1<=gd F p/\gd F (p+1)=gd F p-ar n.1+1/\gd F p-ar n.1+1<=12/\¬cy n.1:=by
 obtain⟨h1,h2⟩:=f.at hn h0
 rcases h1 with⟨h,_⟩|⟨h,_⟩|⟨_,_,g1,g2,g3,g4⟩
 .exact absurd (qi h) hj
 .exact absurd (yo.kI h) hj
 .exact⟨g1,g2,g3,g4,h2⟩
theorem qI(f:Fits a F){p:Nat}(h0:0<=gd F p):∀(k:Nat),(∀j,j<k->∃x:Ty,a[p+j]? =some x/\¬kI x/\ar x.1=0)->gd F (p+k)=gd F p+k
 |0,_=>by simp
 |k+1,h=>by
  have ih:=qI f h0 k fun j hj=>h j (by omega)
  obtain⟨x,h1,h2,h3⟩:=h k (by omega);obtain⟨_,_,g,_⟩:=f.op h1 h2 (by omega);rw[<-akf,g];omega
theorem Nz.to(s:Nz a b F F' R):Fits b F':=by
 refine⟨s.pos,s.le,s.len,s.bd,?_,?_,fun q hq h0=>?_⟩
 .rw[(s.dep _ _ s.zero).2.2.2];exact s.fits.first
 .rw[(s.dep _ _ s.fin).2.2.2];exact s.fits.last
 obtain⟨p,hR,g⟩:=s.back q hq h0;obtain⟨d1,d2,d3,d4⟩:=s.dep p q hR
 cases g with
 | @op n ha hb hn hr=>
   have e:b[q]=n:=(ai7.1 hb).2;obtain⟨g1,g2,g3,g4,g5⟩:=s.fits.op ha hn d1;obtain⟨_,_,_,d5⟩:=s.dep _ _ hr;rw[e];exact⟨.inr (.inr ⟨fun h=>hn (qi h),fun h=>hn (yo.kI h),g1,by omega,by omega,by omega⟩),g5⟩
 | @jump n n' t t' ha hb h1 h2 e1 e2 mz hr=>
   have e:b[q]=n':=(ai7.1 hb).2;obtain⟨g1,_⟩:=s.fits.at ha d1;obtain⟨_,_,c3,d5⟩:=s.dep _ _ hr;rw[e];refine⟨.inl ⟨h2,t',e2,mz,c3,?_⟩,B8 (qi h2)⟩
   rcases g1 with⟨_,u,u1,u2,u3,u4⟩|⟨h,_⟩|⟨h,_⟩
   .have:u=t:=nat_eq u1 e1;subst this;omega
   .exact absurd h1 (nc h)
   .exact absurd h1 h
 | @cond n n' t t' ha hb h1 h2 e1 e2 mz hr hs=>
   have e:b[q]=n':=(ai7.1 hb).2;obtain⟨g1,_⟩:=s.fits.at ha d1;obtain⟨_,_,c3,d5⟩:=s.dep _ _ hr;obtain⟨_,_,_,d6⟩:=s.dep _ _ hs
   have tB:yo n':=by unfold yo;rw[h2];exact h1
   rw[e];refine⟨.inr (.inl ⟨tB,?_⟩),B8 tB.kI⟩
   rcases g1 with⟨h,_⟩|⟨_,g2,g3,u,u1,u2,u3,u4⟩|⟨_,h,_⟩
   .exact absurd h (nc h1)
   .have:u=t:=nat_eq u1 e1;subst this;refine⟨by omega,by omega,t',e2,mz,c3,?_⟩;rw[d5,u4,d4,h2]
   .exact absurd h1 h
 | @block k n m vs v hl hk hn hj ha hv hm OQ ham HZ hvm hr=>
   have e:b[q]=m:=(ai7.1 hm).2
   have hd:=qI s.fits d1 k fun j hj=>by
    obtain⟨x,_,x1,_,x2,x3,_⟩:=hl j hj;exact⟨x,x1,x2,x3⟩
   obtain⟨g1,g2,g3,g4,_⟩:=s.fits.op hn hj (by omega);obtain⟨_,_,_,d5⟩:=s.dep _ _ hr;rw[e];exact⟨.inr (.inr ⟨fun h=>OQ (qi h),fun h=>OQ (yo.kI h),by omega,by omega,by omega,by omega⟩),HZ⟩
theorem eM.lits{env:eo.den}{p:Nat}{S:List Vl}{r:Vl×Int}{vs:List Vl}:∀(k:Nat),k<=vs.length->(∀j,j<k->∃(x:Ty)(y:Vl),a[p+j]? =some x/\vs[j]? =some y/\¬kI x/\ar x.1=0/\oA env x []=(y,0))->eM a env p S r->eM a env (p+k) (S++vs.take k) r
 |0,_,_,h=>by simpa using h
 |k+1,hk,hl,h=>by
  have ih:=eM.lits k (by omega) (fun j hj=>hl j (by omega)) h;obtain⟨x,y,h1,h2,h3,h4,h5⟩:=hl k (by omega);have:=ih.lit h1 h3 h4 h5
  have e:vs.take (k+1)=vs.take k++[y]:=by
   obtain⟨al,rfl⟩:=ai7.1 h2;exact List.take_succ_eq_append_getElem al
  rw[e,<-ajr];exact this
theorem Nz.runs(s:Nz a b F F' R){env:eo.den}(he:oW env){r:Vl×Int}:∀(m p q:Nat)(S:List Vl),a.length-p=m->R p q->eM a env p S r->eM b env q S r:=by
 intro m
 induction m using Nat.strongRecOn with
 |_ m ih=>
  intro p q S hm hR hr
  have R2:∀p' q' S',p<p'->R p' q'->eM a env p' S' r->eM b env q' S' r:=fun p' q' S' h R3=>by
   have:=(s.dep p' q' R3).2.1;exact ih (a.length-p') (by omega) p' q' S' rfl R3
  rcases s.st p q hR with⟨e1,e2⟩|g|⟨n,t,ha,qH,ht,R3⟩
  .obtain⟨v,S',rfl,rfl⟩:=hr.Q5 e1;rw[e2];exact .done
  .cases g with
   | @op n ha hb hn oz=>
     obtain⟨k,h1,h2,h3⟩:=hr.Ld ha hn
     rcases h3 with⟨h3,h4⟩|⟨h3,rfl⟩
     .exact .op hb hn h1 h2 h3 (R2 _ _ _ (by omega) oz h4)
     .exact .fail hb hn h1 h2 h3
   | @jump n n' t t' ha hb h1 h2 e1 e2 mz oz=>
     obtain⟨u,u1,u2,u3,u4⟩:=hr.FM ha h1;have:u=t:=nat_eq u1 e1;subst this;exact .jump hb h2 e2 mz (s.dep _ _ oz).2.2.1 (R2 _ _ _ u2 oz u4)
   | @cond n n' t t' ha hb h1 h2 e1 e2 mz oz hs=>
     have tB:yo n':=by unfold yo;rw[h2];exact h1
     obtain⟨S',top,rfl,h3⟩:=hr.Ny ha h1
     rcases h3 with⟨h3,rfl⟩|⟨h3,u,u1,u2,u3,u4⟩
     .exact .cbad hb tB h3
     .have:u=t:=nat_eq u1 e1;subst this
      have ej:FF n' top=FF n top:=by unfold FF;rw[h2]
      refine .cond hb tB e2 mz (s.dep _ _ oz).2.2.1 h3.1 h3.2 ?_;rw[ej,h2];by_cases hj:FF n top=true
      .rw[if_pos hj]at u4⊢;exact R2 _ _ _ u2 oz u4
      .rw[if_neg hj]at u4⊢;exact R2 _ _ _ (by omega) hs u4
   | @block k n m vs v hl hk hn hj ha hv hm OQ ham HZ hvm oz=>
     have h1:=eM.lits (vs:=vs) k (by omega) (fun j hj=>by
      obtain⟨x,y,x1,x2,x3,x4,x5⟩:=hl j hj
      exact⟨x,y,x1,x2,x3,x4,x5 env he⟩) hr
     rw[List.take_of_length_le (by omega)]at h1;have h2:=h1.opI hn hj (by rw[ha,hk]) (hv env he);have h3:=R2 _ _ _ (by omega) oz h2;have e:=hvm env he;refine .op (a:=0) hm OQ (by rw[ham];rfl) (ajt _) ?_ ?_
     .rw[Nat.sub_zero,List.drop_length,e]
     .rw[Nat.sub_zero,List.drop_length,aju,e];exact h3
  .obtain⟨u,u1,u2,u3,u4⟩:=hr.FM ha qH;have:u=t:=nat_eq u1 ht;subst this;exact R2 _ _ _ u2 R3 u4
end
structure oe(a b:List Ty):Prop where
 fits:∃F,Fits b F
 le:b.length<=a.length
 wf:∀n∈b,WF aa n
 runs:∀env,oW env->∀r,eM a env 0 [] r->eM b env 0 [] r
theorem oe.trans{a b c:List Ty}(h:oe a b)(k:oe b c):oe a c:=⟨k.fits,ajE k.le h.le,k.wf,fun env he r hr=>k.runs env he r (h.runs env he r hr)⟩
theorem Nz.same{a b:List Ty}{F F':List Int}{R:Nat->Nat->Prop}(s:Nz a b F F' R)(hl:b.length<=a.length)(hw:∀n∈b,WF aa n):oe a b:=
 ⟨⟨F',s.to⟩,hl,hw,fun _ he _ hr=>s.runs he _ 0 0 [] rfl s.zero hr⟩
end L.P.Q
end Go.Proofs.YtilaieogabgamaaGreatDoor
end
section
open _root_.Bool renaming false_eq_true->ajb
open _root_.Int renaming tdiv->ajo,tdiv_eq_ediv_of_nonneg->aj1,tmod->ajL
open _root_.Go.IntKind renaming i64->ai3
open _root_.Option renaming bind_some->ai2
open _root_.Option.some renaming inj->ai4
namespace Go.Proofs.YtilaieogabgamaaGreatDoor
open Go Go.RowKit
set_option maxRecDepth 100000
namespace L.P.Q
theorem mm(N:Nat)(op:Int):M.cT N op=some (decide (50<=op/\op<=53)):=by
 unfold M.cT
 by_cases h:50<=op<;>simp[h]
def e0:eo.den:=((0,[],[],[],[],[]):Int×List Vl×List Vl×List (List Vl)×List Ty×List ax.den)
theorem B9:oW e0:=⟨by decide,fun t h=>by cases h⟩
theorem FN{n:Ty}{args:List Vl}{env:eo.den}(he:oW env)(hn:WF aa n)(hl:args.length<=100000):Wp (M.cH aC n args env) fun r=>r.2=0->(args.length:Int)=ar n.1/\∀v∈args,du v.1 v.2.1 v.2.2:=by
 obtain⟨op,m⟩:=n;have hm:=hn.2;unfold M.cH
 refine Wp.seq (fun j=>j=false->Fm op m/\(args.length:Int)=ar op) ?_ fun j hj=>?_
 .refine Wp.seq _ (sY ..) fun y hy=>?_
  refine Wp.ite (fun _=> .some fun h=>by cases h) fun hc=>?_
  rw[ec]
  exact .some fun h=>⟨hy (by simpa using hc),by simpa using h⟩
 refine Wp.ite (fun _=> .some fun h=>absurd h (by decide)) fun hc=>?_
 obtain⟨hf,ha⟩:=hj (by simpa using hc)
 refine Wp.seq _ (yl ..) fun y hy=>?_
 refine Wp.ite (fun _=> .some fun h=>absurd h (by decide)) fun uo=>?_
 have hx:=hy (by simpa using uo)
 have tR:op=34->0<=ai3.wrap (ajo m 8):=fun e=>by
  have h0:=(hf.2.2.1 e).1;have h1:(m:Int)<=9223372036854775807:=hm.2;rw[aj1 h0];dsimp only[ae,Row.den]at h0 h1⊢;rw[aV (by omega) (by omega)];omega
 refine Wp.seq (fun j=>j=false->Ux op m env/\∀v∈args,du v.1 v.2.1 v.2.2) ?_ fun j5 hj5=>?_
 .refine Wp.seq _ (BW _ hl (by unfold aC;omega)) fun y hy=>?_
  refine Wp.ite (fun _=> .some fun h=>by cases h) fun hc=>?_
  exact Wp.seq _ (vU hx ha tR) fun z hz=> .some fun h=>⟨hz (by simpa using h),hy (by simpa using hc)⟩
 refine Wp.ite (fun _=> .some fun h=>absurd h (by decide)) fun JH=>?_
 obtain⟨UA,rc⟩:=hj5 (by simpa using JH)
 refine Wp.seq _ (vV he hf hx ha UA tR) fun r hr=>?_
 refine Wp.mY (fun _=> .some fun _=>⟨ha,rc⟩) fun _=>?_
 rw[fk];simp only[ai2]
 exact Wp.mY (fun _=> .some fun _=>⟨ha,rc⟩) fun hp=> .some fun _=>⟨ha,rc⟩
theorem NA{op m:Int}(h:op=33\/op=34)(hm:m<=9223372036854775807)(args:List Vl):Wp (M.cH aC ((op,m):Int×Int) args e0) fun r=>r.2≠0:=by
 unfold M.cH
 refine Wp.seq (fun j=>j=false->Fm op m) ?_ fun j hj=>?_
 .refine Wp.seq _ (sY ..) fun y hy=>?_
  refine Wp.ite (fun _=> .some fun h=>by cases h) fun hc=>?_
  rw[ec]
  exact .some fun _=>hy (by simpa using hc)
 refine Wp.ite (fun _=> .some (by decide)) fun hc=>?_
 have hf:=hj (by simpa using hc)
 have he:M.fh aC ((op,m):Int×Int) e0=some false:=by
  unfold M.fh
  rcases h with rfl|rfl
  .by_cases h0:0<=m
   .simp[e0,h0];exact decide_eq_false (Int.not_lt.2 h0)
   .simp[h0]
  .have h0:=(hf.2.2.1 rfl).1
   have hw:ai3.wrap (ajo m 8)=m/8:=by
    rw[aj1 h0,aV (by omega) (by omega)]
   simp[e0,hw];omega
 rw[he];simp only[ai2,Bool.not_false,if_true];exact .some (by decide)
theorem Q6{n:Ty}(hn:WF aa n)(h1:1<=ar n.1){args:List Vl}(h0:(oA e0 n args).2=0)(env:eo.den):oA env n args=oA e0 n args:=by
 obtain⟨(op:Int),(m:Int)⟩:=n;by_cases h:op=33\/op=34
 .obtain⟨r,hr,bN⟩:=NA h hn.2.2 args;unfold oA at h0;rw[hr]at h0;exact absurd h0 bN
 .have ha:10<=op/\op<=32:=by
   revert h1
   show 1<=ar op->_
   unfold ar;intro h1;split at h1
   .omega
   .omega
  have ne:∀k:Int,(k<=9\/33<=k)->decide (op=k)=false:=fun k hk=>decide_eq_false (by omega)
  have e:M.cH aC ((op,m):Int×Int) args env=M.cH aC ((op,m):Int×Int) args e0:=by
   unfold M.cH M.fh M.fZ M.gf;simp only[ne 1 (by omega),ne 2 (by omega),ne 3 (by omega),ne 4 (by omega),ne 5 (by omega),ne 6 (by omega),ne 7 (by omega),ne 8 (by omega),ne 9 (by omega),ne 33 (by omega),ne 34 (by omega),ne 35 (by omega),ne 36 (by omega),ne 37 (by omega),ne 38 (by omega),ne 39 (by omega),ajb,if_false,ai2]
  unfold oA;exact congrArg (fun x=>x.getD (z3,0)) e
def rR(n:Ty):Option Vl:=
 if 1<=(n.1:Int)/\(n.1:Int)<=5 then some ((n.1,0,n.2):Int×Int×Int)else if(n.1:Int)=6/\0<=(n.2:Int)/\(n.2:Int)<128 then some ((6,(n.2:Int)/16,(n.2:Int)%16):Int×Int×Int)else none
def nJ(v:Vl):Ty:=if 1<=(v.1:Int)/\(v.1:Int)<=5 then((v.1,v.2.2):Int×Int)else((6,16*(v.2.1:Int)+v.2.2):Int×Int)
theorem uj(N:Nat)(n:Ty):M.eP N n=some (match rR n with
 |some v=>(v,true)
 |none=>(z3,false)):=by
 obtain⟨(op:Int),(m:Int)⟩:=n;unfold M.eP rR bJ;dsimp only[ae,Row.den];by_cases h1:op=1
 .subst h1;simp
 by_cases h2:op=2
 .subst h2;simp
 by_cases h3:op=3
 .subst h3;simp
 by_cases h4:op=4
 .subst h4;simp
 by_cases h5:op=5
 .subst h5;simp
 rw[if_neg (show¬(1<=op/\op<=5) by omega)];by_cases h6:op=6
 .subst h6;by_cases h7:0<=m
  .by_cases h8:m<128
   .have w:ai3.wrap (ajo m 16)=m/16:=by rw[aj1 h7,aV (by omega) (by omega)]
    have w2:ajL m 16=m%16:=Int.tmod_eq_emod_of_nonneg h7;simp[h7,h8,w,w2]
   .simp[h7,h8,z3]
  .simp[h7,z3]
 .simp[h1,h2,h3,h4,h5,h6,z3]
theorem tT{k e n:Int}(h:du k e n):((1<=k/\k<=5)/\e=0/\-1000000000000000<=n/\n<=1000000000000000)\/(k=6/\0<=e/\e<=7/\0<=n/\n<=15):=by
 unfold du at h;omega
theorem xn(N:Nat){v:Vl}(hp:du v.1 v.2.1 v.2.2):M.fF N v=some (nJ v):=by
 obtain⟨(k:Int),(e:Int),(n:Int)⟩:=v;unfold M.fF nJ;dsimp only[ae,Row.den]at*;by_cases h1:k=1
 .subst h1;simp
 by_cases h2:k=2
 .subst h2;simp
 by_cases h3:k=3
 .subst h3;simp
 by_cases h4:k=4
 .subst h4;simp
 by_cases h5:k=5
 .subst h5;simp
 rcases tT hp with h|⟨h6,h7,h8,h9,UC⟩
 .omega
 .have w1:ai3.wrap (16*e)=16*e:=aV (by omega) (by omega);have w2:ai3.wrap (16*e+n)=16*e+n:=aV (by omega) (by omega);rw[if_neg (show¬(1<=k/\k<=5) by omega)];simp[h1,h2,h3,h4,h5,w1,w2]
theorem rS{n:Ty}{v:Vl}(h:rR n=some v):¬kI n/\ar n.1=0/\¬cy n.1:=by
 obtain⟨(op:Int),(m:Int)⟩:=n
 have:1<=op/\op<=6:=by
  unfold rR at h;dsimp only[ae,Row.den]at h;split at h
  .omega
  .split at h
   .omega
   .cases h
 refine⟨?_,?_,?_⟩
 .show¬(50<=op/\op<=53);omega
 .show ar op=0
  unfold ar;rw[if_pos (by omega)]
 .show¬(op=23\/op=24\/op=26);omega
theorem FO{v:Vl}(hp:du v.1 v.2.1 v.2.2):rR (nJ v)=some v/\WF aa (nJ v):=by
 obtain⟨(k:Int),(e:Int),(n:Int)⟩:=v;dsimp only[ae,Row.den]at hp
 rcases tT hp with⟨h1,rfl,h3,h4⟩|⟨rfl,h7,h8,h9,UC⟩
 .have e1:nJ ((k,0,n):Int×Int×Int)=((k,n):Int×Int):=by unfold nJ;dsimp only[ae,Row.den];rw[if_pos h1]
  rw[e1];refine⟨by unfold rR;dsimp only[ae,Row.den];rw[if_pos h1],⟨?_,?_⟩,?_,?_⟩
  .show(-9223372036854775808:Int)<=k;omega
  .show k<=(9223372036854775807:Int);omega
  .show(-9223372036854775808:Int)<=n;omega
  .show n<=(9223372036854775807:Int);omega
 .have e1:nJ ((6,e,n):Int×Int×Int)=((6,16*e+n):Int×Int):=by unfold nJ;dsimp only[ae,Row.den];rw[if_neg (by decide)]
  rw[e1];refine⟨?_,⟨?_,?_⟩,?_,?_⟩
  .unfold rR;dsimp only[ae,Row.den];rw[if_neg (by decide),if_pos ⟨rfl,by omega,by omega⟩,show(16*e+n)/16=e by omega,show(16*e+n)%16=n by omega]
  .show(-9223372036854775808:Int)<=6;decide
  .show(6:Int)<=9223372036854775807;decide
  .show(-9223372036854775808:Int)<=16*e+n;omega
  .show 16*e+n<=(9223372036854775807:Int);omega
theorem NB{op m:Int}(iK:op=1\/op=2\/op=3\/op=4\/op=5\/op=6)(h6:op=6->0<=m/\m<128){v:Vl}(hv:rR ((op,m):Int×Int)=some v)(hp:du v.1 v.2.1 v.2.2)(env:eo.den):M.cH aC ((op,m):Int×Int) [] env=some (v,0):=by
 have ha:ar op=0:=by unfold ar;rw[if_pos (by omega)]
 have ne:∀k:Int,7<=k->decide (op=k)=false:=fun k hk=>decide_eq_false (by omega)
 have hu:M.fo aC op=some true:=by
  rcases iK with rfl|rfl|rfl|rfl|rfl|rfl<;>(show(_:Option Bool)=_;kernel_rfl)
 have Vw:M.eZ aC ((op,m):Int×Int)=some true:=by
  unfold M.eZ;simp only[ec,ha,hu,ne 14 (by omega),ne 15 (by omega),ne 16 (by omega),ne 34 (by omega),ai2,ajb,if_false]
  by_cases hm:m=0<;>by_cases h:op=6<;>simp[hm,h]
  exact(h6 h).1
 have hex:M.fh aC ((op,m):Int×Int) env=some true:=by
  unfold M.fh;simp only[ne 7 (by omega),ne 8 (by omega),ne 33 (by omega),ne 34 (by omega),ne 36 (by omega),ne 37 (by omega),ne 38 (by omega),ne 39 (by omega),ai2,ajb,if_false]
 have rc:M.dS aC []=some true:=by
  apply Wp.eq;unfold M.dS;refine Wp.loop (fun s=>s=0) (fun _=>0) rfl (by unfold aC;omega) ?_
  rintro _ rfl
  exact Wp.dec (fun h=>absurd h (by simp)) fun _=> .some rfl
 have Ps:M.fZ aC ((op,m):Int×Int) [] env=some true:=by
  unfold M.fZ;simp only[ne 7 (by omega),ne 8 (by omega),ne 33 (by omega),ne 34 (by omega),ne 36 (by omega),ne 37 (by omega),ne 38 (by omega),ne 39 (by omega),ai2,ajb,if_false];simp
 have hco:M.gf aC ((op,m):Int×Int) [] env=some (v,0):=by
  unfold M.gf;unfold rR at hv;dsimp only[ae,Row.den]at hv⊢;by_cases h:op=6
  .subst h;obtain⟨m1,m2⟩:=h6 rfl;rw[if_neg (by decide),if_pos ⟨rfl,m1,m2⟩]at hv;obtain rfl:=ai4 hv
   have w:ai3.wrap (ajo m 16)=m/16:=by rw[aj1 m1,aV (by omega) (by omega)]
   have w2:ajL m 16=m%16:=Int.tmod_eq_emod_of_nonneg m1;simp[w,w2]
  .rw[if_pos (by omega)]at hv;obtain rfl:=ai4 hv
   rcases iK with rfl|rfl|rfl|rfl|rfl|rfl
   .simp
   .simp
   .simp
   .simp
   .simp
   .exact absurd rfl h
 unfold M.cH;simp only[Vw,ec,ha,hex,rc,Ps,hco,ai2,fk,decide_eq_true hp];simp
theorem Le{n:Ty}{v:Vl}(hv:rR n=some v)(hp:du v.1 v.2.1 v.2.2)(env:eo.den):oA env n []=(v,0):=by
 obtain⟨(op:Int),(m:Int)⟩:=n
 have h:(op=1\/op=2\/op=3\/op=4\/op=5\/op=6)/\(op=6->0<=m/\m<128):=by
  have di:=hv;unfold rR at di;dsimp only[ae,Row.den]at di;split at di
  .omega
  .split at di
   .omega
   .cases di
 unfold oA;rw[NB h.1 h.2 hv hp env];rfl
end L.P.Q
end Go.Proofs.YtilaieogabgamaaGreatDoor
end
section
open _root_.Bool renaming false_eq_true->ajb
open _root_.Go.IntKind renaming i64->ai3
open _root_.List renaming append_assoc->ajr,drop_eq_getElem_cons->ajK,getElem?_append_left->ajA,getElem?_append_right->ajN,getElem?_eq_getElem->ai5,getElem_append_right->ajn,getElem_mem->ajc,length_map->ajG,length_take->ajl,mem_append->ajs,mem_singleton->ajj,set_append_right->ajU,take_length->aju
open _root_.Nat renaming le_refl->ai8,min_eq_left->ajQ,zero_le->ajt
open _root_.Option renaming bind_some->ai2
open _root_.Option.some renaming inj->ai4
namespace Go.Proofs.YtilaieogabgamaaGreatDoor
open Go Go.RowKit
set_option maxRecDepth 100000
namespace L.P.Q
theorem Ca{α:Type}{f:α->α}{body:Int×List α->Option ((Int×List α)⊕List α)}{l0:List α}(hl:l0.length<=1000)
 (hb:∀(j:Nat)(hj:j<l0.length)(l:List α)(Ah:l.length=l0.length),l[j]'(by omega)=l0[j]->Wp (body ((j:Int),l)) fun s=>s= .inl (((j+1:Nat):Int),l.set j (f l0[j])))
 (he:∀l:List α,l.length=l0.length->Wp (body ((l0.length:Int),l)) fun s=>s= .inr l):Wp (Loop body aC ((0:Int),l0)) fun r=>r=l0.map f:=by
 refine Wp.loop (fun s=>∃k:Nat,s=((k:Int),(l0.take k).map f++l0.drop k)/\k<=l0.length) (fun s=>(l0.length-s.1).toNat) ⟨0,by simp,ajt _⟩ (by unfold aC;simp only;omega) ?_
 rintro _ ⟨k,rfl,hk⟩
 have hlen:((l0.take k).map f++l0.drop k).length=l0.length:=by simp;omega
 by_cases h:k<l0.length
 .refine(hb k h _ hlen ?_).mono ?_
  .rw[ajn (by simp;omega)];simp[ajQ hk]
  .rintro _ rfl
   refine⟨⟨k+1,?_,h⟩,by simp only;omega⟩;refine Prod.ext rfl ?_
   show(List.map f (List.take k l0)++List.drop k l0).set k (f l0[k])=_
   rw[ajU _ _ (by simp;omega),List.take_succ_eq_append_getElem h,List.map_append,ajr]
   congr 1
   rw[ajG,ajl,ajQ hk,Nat.sub_self,ajK h];rfl
 .obtain rfl:k=l0.length:=by omega
  refine(he _ hlen).mono ?_
  rintro _ rfl
  show _=_
  simp
structure Q7(code:List Ty)(i k:Nat)(v:Vl):Prop where
 k1:1<=k
 ki:k<=i
 ex:∃(n:Ty)(vs:List Vl),code[i]? =some n/\¬kI n/\ar n.1=k/\vs.length=k/\(∀j,j<k->∃x y,code[i-k+j]? =some x/\vs[j]? =some y/\rR x=some y)/\oA e0 n vs=(v,0)
 nj:∀m∈code,kI m->¬((i:Int)-k<m.2/\(m.2:Int)<=i)
theorem NC{code:List Ty}{i:Nat}(hi:i<code.length)(hl:code.length<=1000)(hw:∀n∈code,WF aa n):Wp (M.gr aC code (i:Int)) fun r=>r.2.2=true->∃(k:Nat)(v:Vl),r.2.1=(k:Int)/\r.1=nJ v/\Q7 code i k v:=by
 have no:∀(c:Int)(m:Ty),((m,c,false):Ty×Int×Bool).2.2=true->∃(k:Nat)(v:Vl),((m,c,false):Ty×Int×Bool).2.1=(k:Int)/\((m,c,false):Ty×Int×Bool).1=nJ v/\Q7 code i k v:=fun c m h=>by cases h
 have hn:=hw _ (ajc hi);have hge:=ai5 hi;unfold M.gr;rw[ag hi];generalize code[i]=n at hn hge;simp only[ai2,mm,ec]
 refine Wp.dec (fun _=> .some (no 0 ((0,0):Int×Int))) fun hj=>?_
 have KS:=lg n.1
 refine Wp.seq (fun j=>j=false->1<=ar n.1/\ar n.1<=i) ?_ fun jj Q8=>?_
 .refine Wp.dec (fun _=> .some fun h=>by cases h) fun h1=> .some fun h2=>?_
  have h2:=of_decide_eq_false h2;omega
 refine Wp.ite (fun _=> .some (no 0 ((0,0):Int×Int))) fun hc=>?_
 obtain⟨q1,q2⟩:=Q8 (by simpa using hc)
 obtain⟨k,hk⟩:∃k:Nat,ar n.1=k:=⟨(ar n.1).toNat,by omega⟩
 rw[hk]at q1 q2 KS⊢
 have Hj:1<=k:=by omega
 have Q2:k<=i:=by omega
 have w1:ai3.wrap ((i:Int)-(k:Int))=((i-k:Nat):Int):=by rw[aV (by omega) (by omega)];omega
 rw[w1,pL (i-k) i rfl rfl (by omega) (by omega)];simp only[ai2]
 have xh:((code.take i).drop (i-k)).length=k:=by simp;omega
 have Vs:∀j(h:j<((code.take i).drop (i-k)).length),code[i-k+j]? =some (((code.take i).drop (i-k))[j]):=by
  intro j h;rw[List.getElem_drop,List.getElem_take];exact ai5 _
 obtain⟨l6,Vx⟩:∃l6,l6=(code.take i).drop (i-k):=⟨_,rfl⟩
 rw[<-Vx];rw[<-Vx]at xh
 replace Vs:∀j(h:j<l6.length),code[i-k+j]? =some l6[j]:=by subst Vx;exact Vs
 clear Vx;refine Wp.join (Wp.loop (fun s:Int×List Vl=>∃j:Nat,s.1=j/\j<=k/\s.2.length=j/\∀t,t<j->∃x y,code[i-k+t]? =some x/\s.2[t]? =some y/\rR x=some y) (fun s=>(k-s.1).toNat) ⟨0,rfl,ajt _,rfl,fun t h=>by omega⟩ (by unfold aC;simp only;omega) ?_)
 rintro⟨_,vs⟩ ⟨j,rfl,UG,Mq,hv⟩
 dsimp only at Mq hv⊢
 refine Wp.dec (fun h=>?_) fun h=> .some ?_
 .have IE:j<l6.length:=by omega
  rw[ag IE];simp only[ai2,uj];cases Vy:rR l6[j]with
  |none=>
   simp only[Bool.not_false,if_true];exact .some (no 0 ((0,0):Int×Int))
  |some v=>
   simp only[Bool.not_true,ajb,if_false];rw[bD (by simp;omega),aK (by omega)];simp only[ai2];refine .some ⟨⟨j+1,rfl,by omega,by simp[Mq],fun t ht=>?_⟩,by simp only;omega⟩;by_cases htj:t<j
   .obtain⟨x,y,h1,h2,h3⟩:=hv t htj;exact⟨x,y,h1,by rw[ajA (by omega)];exact h2,h3⟩
   .obtain rfl:t=j:=by omega
    exact⟨_,v,Vs t IE,by rw[ajN (by omega)];simp[Mq],Vy⟩
 obtain rfl:j=k:=by omega
 refine Wp.join (Wp.loop (fun s:Int=>∃t:Nat,s=t/\t<=code.length/\∀m∈code.take t,kI m->¬((i:Int)-j<m.2/\(m.2:Int)<=i)) (fun s=>(code.length-s).toNat) ⟨0,rfl,ajt _,by simp⟩ (by unfold aC;omega) ?_)
 rintro _ ⟨t,rfl,ht,OP⟩
 refine Wp.dec (fun h=>?_) fun h=> .some ?_
 .have ET:t<code.length:=by omega
  rw[ag ET];simp only[ai2]
  refine Wp.seq (fun b=>b=false->kI code[t]->¬((i:Int)-j<(code[t].2:Int)/\(code[t].2:Int)<=i)) ?_ fun b hb=>?_
  .refine Wp.dec (fun g1=>Wp.dec (fun g2=> .some fun g3 _=>?_) fun g2=> .some fun _ _ g=>?_) fun g1=> .some fun _ g=>absurd g g1
   .have g3:=of_decide_eq_false g3
    exact fun g=>g3 g.2
   .apply g2;have g4:=g.1;revert g4;generalize(code[t].2:Int)=z;intro g4;dsimp only[ae,Row.den]at*;omega
  refine Wp.ite (fun _=> .some (no 0 ((0,0):Int×Int))) fun uo=> .some ?_
  rw[aK (by omega)];refine⟨⟨t+1,rfl,ET,fun m hm OQ=>?_⟩,by simp only;omega⟩;rw[List.take_succ_eq_append_getElem ET]at hm
  rcases ajs.1 hm with hm|hm
  .exact OP m hm OQ
  .obtain rfl:=ajj.1 hm;exact hb (by simpa using uo) OQ
 rw[List.take_of_length_le (by omega)]at OP
 show Wp ((M.cH aC n vs e0).bind _) _
 obtain⟨r,hr,hra⟩:=FN (args:=vs) B9 hn (by omega);obtain⟨r',oz,abz⟩:=vW (args:=vs) B9 hn (by omega);rw[hr]at oz;obtain rfl:=ai4 oz;rw[hr];simp only[ai2]
 refine Wp.mY (fun _=> .some (no 0 ((0,0):Int×Int))) fun h0=>?_
 rw[xn _ (abz.ok h0)];simp only[ai2]
 have C2:oA e0 n vs=(r.1,0):=by
  unfold oA;rw[hr];exact Prod.ext rfl h0
 exact .some fun _=>⟨j,r.1,rfl,rfl,Hj,Q2,⟨n,vs,hge,hj,hk,Mq,hv,C2⟩,OP⟩
def FP(i k:Nat)(n:Ty):Ty:=if kI n/\(i:Int)<n.2 then((n.1,(n.2:Int)-k):Int×Int)else n
def pX(code:List Ty)(i k:Nat)(m:Ty):List Ty:=((code.take (i-k)++[m])++code.drop (i+1)).map (FP i k)
theorem ND{code:List Ty}{i k:Nat}{m:Ty}(hi:i<code.length)(hk:k<=i)(hl:code.length<=1000)(hw:∀n∈code,WF aa n)(hm:¬kI m):Wp (M.dG aC code (i:Int) (k:Int) m) fun r=>r=pX code i k m:=by
 unfold M.dG
 have w1:ai3.wrap ((i:Int)-(k:Int))=((i-k:Nat):Int):=by rw[aV (by omega) (by omega)];omega
 rw[w1,kQ (by omega),aK (by omega),pL (i+1) code.length rfl rfl (by omega) (ai8 _),aju];simp only[ai2];rw[bD (by simp;omega)];simp only[ai2,List.nil_append];rw[bD (by simp;omega)];simp only[ai2];rw[bD (by simp;omega)];simp only[ai2]
 have hwl:∀n∈(code.take (i-k)++[m])++code.drop (i+1),n=m\/n∈code:=by
  intro n hn
  rcases ajs.1 hn with hn|hn
  .rcases ajs.1 hn with hn|hn
   .exact .inr (List.mem_of_mem_take hn)
   .exact .inl (ajj.1 hn)
  .exact .inr (List.mem_of_mem_drop hn)
 have Ah:((code.take (i-k)++[m])++code.drop (i+1)).length<=1000:=by simp;omega
 unfold pX;generalize(code.take (i-k)++[m])++code.drop (i+1)=l5 at hwl Ah⊢
 refine Ca Ah (fun j hj l hlen hlj=>?_) fun l hlen=>?_
 .have N9:j<l.length:=by omega
  have IF:=hwl _ (ajc hj);dsimp only;rw[ag N9,hlj];simp only[ai2,mm,aL];generalize hx:l5[j]=x at IF hlj⊢;refine .some ?_;rw[if_pos (decide_eq_true (by omega)),aK (by omega)]
  have SC:kI x->WF aa x:=fun h=>IF.elim (fun e=>absurd (e▸h) hm) (hw x)
  have e:(if(if decide (50<=(x.1:Int)/\(x.1:Int)<=53)=true then decide ((i:Int)<x.2)else false)=true then aT l (j:Int) ((x.1,ai3.wrap ((x.2:Int)-(k:Int))):Int×Int)else l)=l.set j (FP i k x):=by
   unfold FP;by_cases h:kI x/\(i:Int)<x.2
   .have Lf:=(SC h.1).2.2;have g:(50<=(x.1:Int)/\(x.1:Int)<=53):=h.1
    have w2:ai3.wrap ((x.2:Int)-(k:Int))=(x.2:Int)-k:=by
     have h2:=h.2;revert Lf h2;generalize(x.2:Int)=z;intro Lf h2;have:z<=9223372036854775807:=Lf;dsimp only[ae,Row.den]at*;exact aV (by omega) (by omega)
    rw[if_pos h,if_pos (by simp[g,h.2]),w2];simp[aT]
   .rw[if_neg h,if_neg (fun hc=>h ?_)]
    .rw[<-hlj];simp
    .by_cases g:(50<=(x.1:Int)/\(x.1:Int)<=53)
     .rw[if_pos (decide_eq_true g)]at hc;exact⟨g,by simpa using hc⟩
     .rw[if_neg (by simpa using g)]at hc;cases hc
  rw[e]
 .dsimp only
  exact Wp.dec (fun h=>by omega) fun _=> .some rfl
end L.P.Q
end Go.Proofs.YtilaieogabgamaaGreatDoor
end
section
open _root_.List renaming append_assoc->ajr,getElem?_append_left->ajA,getElem?_append_right->ajN,getElem?_drop->ajp,getElem?_eq_getElem->ai5,getElem?_eq_some_iff->ai7,getElem?_map->aj2,length_append->ai6,length_eq_zero_iff->akb,length_singleton->ajh,length_take->ajl,mem_append->ajs,mem_map->akD,mem_of_getElem?->akj,mem_singleton->ajj
open _root_.Nat renaming eq_of_beq_eq_true->ajT,le_refl->ai8,le_trans->ajE,min_eq_left->ajQ,zero_le->ajt
open _root_.Option renaming bind_some->ai2
open _root_.Option.some renaming inj->ai4
namespace Go.Proofs.YtilaieogabgamaaGreatDoor
open Go Go.RowKit
set_option maxRecDepth 100000
namespace L.P.Q
theorem FQ(i k:Nat)(n:Ty):((FP i k n).1:Int)=n.1:=by
 unfold FP
 split<;>rfl
theorem FT{i k:Nat}{n:Ty}(h:¬kI n):FP i k n=n:=by
 unfold FP;rw[if_neg (fun g=>h g.1)]
section
variable {code:List Ty} {i k:Nat} {m:Ty}
theorem Cb(hi:i<code.length)(hk:k<=i):(pX code i k m).length+k=code.length:=by
 simp[pX];omega
theorem NE{q:Nat}(hi:i<code.length)(h:q<i-k):(pX code i k m)[q]? =(code[q]?).map (FP i k):=by
 unfold pX;rw[aj2,ajr,ajA (by simp;omega),List.getElem?_take_of_lt h]
theorem NF(hi:i<code.length)(hm:¬kI m):(pX code i k m)[i-k]? =some m:=by
 unfold pX;rw[aj2,ajr,ajN (by simp;omega),ajl,ajQ (by omega),Nat.sub_self];simp[FT hm]
theorem NG{q:Nat}(hi:i<code.length)(hk:k<=i)(h:i-k<q):(pX code i k m)[q]? =(code[q+k]?).map (FP i k):=by
 unfold pX;rw[aj2,ajN (by simp;omega),ai6,ajl,ajQ (by omega),ajh,ajp]
 congr 2
 omega
theorem tc(F:List Int)(q:Nat):gd F q=(F[q]?).getD (-1):=rfl
def FR(code:List Ty)(F:List Int)(i k:Nat)(p q:Nat):Prop:=0<=gd F p/\p<=code.length/\((p<=i-k/\q=p)\/(i<p/\q+k=p))
theorem Ic{v:Vl}{F:List Int}(f:Fits code F)(hi:i<code.length)(h:Q7 code i k v)(hw:∀n∈code,WF aa n):oe code (pX code i k (nJ v)):=by
 obtain⟨Hj,Q2,⟨n,vs,hn,hj,ha,Mq,Vj,C2⟩,OP⟩:=h;have L7:=hw n (akj hn)
 have rc:∀u∈vs,du u.1 u.2.1 u.2.2:=by
  obtain⟨r,hr,hh⟩:=FN (args:=vs) B9 L7 (by have:=lg n.1;omega)
  have e:r=(v,0):=by
   unfold oA at C2;rw[hr]at C2;exact C2
  rw[e]at hh;exact(hh rfl).2
 have Vz:du v.1 v.2.1 v.2.2:=by
  have:=(KW (args:=vs) B9 L7 (by have:=lg n.1;omega)).ok (by rw[C2]);rw[C2]at this;exact this
 obtain⟨Vy,hlw⟩:=FO Vz;obtain⟨l1,l2,l3⟩:=rS Vy;have hbl:=Cb (m:=nJ v) hi Q2;have hle:=f.le;have R1:=f.len
 have g1:∀q,q<=i-k->gd (F.take (i-k+1)++F.drop (i+1)) q=gd F q:=by
  intro q hq;rw[tc,ajA (by simp;omega),List.getElem?_take_of_lt (by omega)];rfl
 have g2:∀q,i-k<q->gd (F.take (i-k+1)++F.drop (i+1)) q=gd F (q+k):=by
  intro q hq;rw[tc,ajN (by simp;omega),ajl,ajQ (by omega),ajp,tc]
  congr 2
  omega
 have dep:∀p q,FR code F i k p q->gd (F.take (i-k+1)++F.drop (i+1)) q=gd F p:=by
  rintro p q ⟨_,_,⟨a1,rfl⟩|⟨a1,a2⟩⟩
  .exact g1 _ a1
  .rw[g2 _ (by omega),a2]
 have keep:∀p q x,FR code F i k p q->p≠i-k->code[p]? =some x->L8 code (pX code i k (nJ v)) (FR code F i k) p q:=by
  rintro p q x ⟨b1,b2,b3⟩ bN hx
  have al:p<code.length:=(ai7.1 hx).1
  have hb:(pX code i k (nJ v))[q]? =some (FP i k x):=by
   rcases b3 with⟨a1,rfl⟩|⟨a1,rfl⟩
   .rw[NE hi (by omega),hx];rfl
   .rw[NG hi Q2 (by omega),hx];rfl
  have next:0<=gd F (p+1)->FR code F i k (p+1) (q+1):=fun h=>⟨h,al,by omega⟩
  have UH:∀t:Nat,kI x->(x.2:Int)=t->p<t->t<=code.length->0<=gd F t->∃t':Nat,((FP i k x).2:Int)=t'/\q<t'/\FR code F i k t t':=by
   intro t CN ht Nr Dd VA;have hn:=OP x (akj hx) CN;rw[ht]at hn;have hn:¬((i:Int)-k<(t:Int)/\(t:Int)<=i):=hn;by_cases hc:i<t
   .refine⟨t-k,?_,by omega,VA,Dd, .inr ⟨hc,by omega⟩⟩;unfold FP;rw[if_pos ⟨CN,by rw[ht];exact(by omega:(i:Int)<(t:Int))⟩]
    show(x.2:Int)-k=_
    rw[ht];exact(by omega:(t:Int)-k=((t-k:Nat):Int))
   .refine⟨t,?_,by omega,VA,Dd, .inl ⟨by omega,rfl⟩⟩;unfold FP;rw[if_neg (fun g=>by have g2:=g.2;rw[ht]at g2;have g2:(i:Int)<(t:Int):=g2;omega)];exact ht
  by_cases CN:kI x
  .obtain⟨s1,_⟩:=f.at hx b1
   rcases s1 with⟨c1,t,c2,c3,c4,c5⟩|⟨c1,c2,c3,t,c4,c5,c6,c7⟩|⟨c1,c2,_⟩
   .obtain⟨t',d1,d2,d3⟩:=UH t CN c2 c3 c4 (by omega);exact .jump hx hb c1 ((FQ i k x).trans c1) c2 d1 d2 d3
   .obtain⟨t',d1,d2,d3⟩:=UH t CN c4 c5 c6 (by rw[c7];split<;>omega);exact .cond hx hb c1 (FQ i k x) c4 d1 d2 d3 (next (by omega))
   .exact(lR CN).elim (fun e=>absurd e c1) (fun e=>absurd e c2)
  .rw[FT CN]at hb;obtain⟨s1,s2,s3,_⟩:=f.op hx CN b1;exact .op hx hb CN (next (by omega))
 have lA:0<=gd F (i-k)->L8 code (pX code i k (nJ v)) (FR code F i k) (i-k) (i-k):=by
  intro h0
  have hd:=qI f h0 k fun j hj=>by
   obtain⟨x,y,x1,_,x2⟩:=Vj j hj;obtain⟨y1,y2,_⟩:=rS x2;exact⟨x,x1,y1,y2⟩
  have e1:i-k+k=i:=by omega
  rw[e1]at hd;obtain⟨s1,s2,s3,_⟩:=f.op hn hj (by omega);refine .block (k:=k) (n:=n) (m:=nJ v) (vs:=vs) (v:=v) (fun j IE=>?_) Mq (by rw[e1];exact hn) hj ha (fun env _=>?_) (NF hi l1) l1 l2 l3 (fun env _=>Le Vy Vz env) ?_
  .obtain⟨x,y,x1,x2,x3⟩:=Vj j IE;obtain⟨y1,y2,_⟩:=rS x3;exact⟨x,y,x1,x2,y1,y2,fun env _=>Le x3 (rc y (akj x2)) env⟩
  .rw[Q6 L7 (by omega) (by rw[C2]) env,C2]
  .rw[e1];exact⟨by omega,by omega, .inr ⟨by omega,by omega⟩⟩
 have bwd:Bd F:=f.bd
 have s:Nz code (pX code i k (nJ v)) F (F.take (i-k+1)++F.drop (i+1)) (FR code F i k):=by
  refine⟨f,by omega,by omega,by simp;omega,fun q=>?_,fun p q h=>⟨h.1,h.2.1,?_,dep p q h⟩,fun p q h=>?_,fun q hq h0=>?_,⟨by rw[f.first];decide,ajt _, .inl ⟨ajt _,rfl⟩⟩,⟨by rw[f.last];decide,ai8 _, .inr ⟨hi,by omega⟩⟩⟩
  .by_cases hq:q<=i-k
   .rw[g1 q hq];exact bwd q
   .rw[g2 q (by omega)];exact bwd _
  .obtain⟨_,a2,a3⟩:=h;omega
  .by_cases hp:p=code.length
   .left
    refine⟨hp,?_⟩;obtain⟨_,a2,a3⟩:=h;omega
   .right;left
    have al:p<code.length:=by have:=h.2.1;omega
    by_cases sL:p=i-k
    .obtain⟨a1,a2,a3⟩:=h
     have hq:q=i-k:=by omega
     subst sL;rw[hq];exact lA a1
    .exact keep p q _ h sL (ai5 al)
  .by_cases hqk:q<=i-k
   .rw[g1 q hqk]at h0
    have hR:FR code F i k q q:=⟨h0,by omega, .inl ⟨hqk,rfl⟩⟩
    by_cases he:q=i-k
    .subst he;exact⟨_,hR,lA h0⟩
    .exact⟨q,hR,keep q q _ hR he (ai5 (by omega))⟩
   .rw[g2 q (by omega)]at h0
    have hR:FR code F i k (q+k) q:=⟨h0,by omega, .inr ⟨by omega,rfl⟩⟩
    exact⟨q+k,hR,keep _ q _ hR (by omega) (ai5 (by omega))⟩
 refine s.same (by omega) fun x hx=>?_
 obtain⟨y,hy,rfl⟩:=akD.1 hx
 have Ds:WF aa y:=by
  rcases ajs.1 hy with hy|hy
  .rcases ajs.1 hy with hy|hy
   .exact hw y (List.mem_of_mem_take hy)
   .obtain rfl:=ajj.1 hy;exact hlw
  .exact hw y (List.mem_of_mem_drop hy)
 unfold FP;split
 .rename_i hc;refine⟨Ds.1,?_,?_⟩
  .have h2:=hc.2;have h3:=Ds.2.1
   show(-9223372036854775808:Int)<=(y.2:Int)-k
   revert h2 h3;generalize(y.2:Int)=z;intro h2 h3;dsimp only[ae,Row.den]at*;omega
  .have h3:=Ds.2.2
   show(y.2:Int)-k<=(9223372036854775807:Int)
   revert h3;generalize(y.2:Int)=z;intro h3;have h4:z<=(9223372036854775807:Int):=h3;dsimp only[ae,Row.den]at*;omega
 .exact Ds
end
theorem wh{l:List Ty}(hl:l.length<=1000):M.aj aC l=some l:=by
 unfold M.aj
 have e:bR ([]:List aa.den) l=some l:=by rw[bD (by simp;omega)];rfl
 rw[e];simp only[ai2];split
 .rename_i h;have:l=[]:=akb.1 (ajT h);subst this;unfold vB;rw[if_pos rfl]
 .rfl
theorem oY(code:List Ty):Wp (M.dR aC code) fun b=>b=true↔∃F,Fits code F:=by
 unfold M.dR;obtain⟨y,hy,h⟩:=tS code;rw[hy];simp only[ai2];refine .some ⟨fun hb=>h (by simpa using hb),fun⟨F,f⟩=>?_⟩;obtain⟨y',Ds,h'⟩:=f.verify;rw[hy]at Ds;obtain rfl:=ai4 Ds;simpa using h'
def Q9(code:List Ty):Prop:=∀i:Nat,i<code.length->Wp (M.gr aC code (i:Int)) fun r=>r.2.2=false
theorem NH{code:List Ty}(hl:code.length<=1000)(hw:∀n∈code,WF aa n):Wp (M.dh aC code) fun y=>((¬∃F,Fits code F)/\y=code)\/((∃F,Fits code F)/\oe code y/\Q9 y):=by
 unfold M.dh;rw[wh hl];simp only[ai2];obtain⟨b,hb,Dc⟩:=oY code;rw[hb];simp only[ai2];refine Wp.join (Wp.ite (fun hc=> .some ?_) fun hc=> .some ?_)
 .exact .inl ⟨fun h=>(by rw[Dc.2 h]at hc;cases hc),rfl⟩
 have hF:∃F,Fits code F:=Dc.1 (by simpa using hc)
 have Lg:oe code code:=⟨hF,ai8 _,hw,fun _ _ _ h=>h⟩
 refine Wp.loop (fun s:List Ty=>oe code s) (fun s=>s.length) Lg (by unfold aC;omega) ?_;intro s hs;have fO:s.length<=1000:=ajE hs.le hl;refine Wp.join (Wp.loop (fun t:Int×List Ty=>∃i:Nat,t.1=i/\i<=s.length/\t.2=s/\∀j,j<i->Wp (M.gr aC s (j:Int)) fun r=>r.2.2=false) (fun t=>(s.length-t.1).toNat) ⟨0,rfl,ajt _,rfl,fun j h=>by omega⟩ (by unfold aC;simp only;omega) ?_)
 rintro⟨_,s⟩ ⟨i,rfl,hi,rfl,CG⟩
 dsimp only at hi CG fO hs⊢
 refine Wp.dec (fun h=>?_) fun h=> .some (.some ?_)
 .have gv:i<s.length:=by omega
  obtain⟨r,hr,hr2⟩:=NC gv fO hs.wf;rw[hr];simp only[ai2]
  refine Wp.ite (fun h1=>?_) fun h1=> .some ?_
  .obtain⟨k,v,e1,e2,hf⟩:=hr2 h1
   have Vz:¬kI (nJ v):=by
    obtain⟨n,vs,hn,_,_,Mq,_,C2⟩:=hf.ex;have:=(KW (args:=vs) B9 (hs.wf n (akj hn)) (by have:=hf.ki;omega)).ok (by rw[C2]);rw[C2]at this;exact(rS (FO this).1).1
   rw[e1,e2]
   refine Wp.seq _ (ND gv hf.ki fO hs.wf Vz) fun y hy=> .some ?_
   obtain⟨F,f⟩:=hs.fits;rw[hy];refine⟨hs.trans (Ic f gv hf hs.wf),?_⟩;have:=Cb (m:=nJ v) gv hf.ki;have:=hf.k1
   show(pX s i k (nJ v)).length<s.length
   omega
  .rw[aK (by omega)];refine⟨⟨i+1,rfl,gv,rfl,fun j hj=>?_⟩,by simp only;omega⟩;by_cases e:j=i
   .subst e;exact⟨r,hr,by simpa using h1⟩
   .exact CG j (by omega)
 .obtain rfl:i=s.length:=by omega
  exact .inr ⟨hF,hs,CG⟩
end L.P.Q
end Go.Proofs.YtilaieogabgamaaGreatDoor
end
section
open _root_.Int renaming toNat_natCast->aja
open _root_.List renaming getElem?_eq_getElem->ai5,getElem?_eq_some_iff->ai7,getElem_mem->ajc,getElem_of_mem->aji
open _root_.Nat renaming le_refl->ai8,zero_le->ajt
open _root_.Option renaming bind_some->ai2
open _root_.Option.some renaming inj->ai4
namespace Go.Proofs.YtilaieogabgamaaGreatDoor
open Go Go.RowKit
set_option maxRecDepth 100000
namespace L.P.Q
inductive IN(code:List Ty):Int->Int->Prop
 |refl (t:Int):IN code t t
 |next {t:Nat} {n:Ty} {T:Int} (h:code[t]? =some n) (qH:(n.1:Int)=51) (al:(t:Int)<n.2) (hT:IN code n.2 T):IN code t T
theorem IN.snoc{code:List Ty}{s:Int}{t:Nat}{n:Ty}(h:IN code s t)(hn:code[t]? =some n)(qH:(n.1:Int)=51)(al:(t:Int)<n.2):IN code s n.2:=by
 generalize hx:(t:Int)=x at h
 induction h with
 |refl u=>subst hx;exact .next hn qH al (.refl _)
 |next g g51 glt gT ih=>exact .next g g51 glt (ih hx)
def VB(x:Int):Prop:= -9223372036854775808<=x/\x<=9223372036854775807
theorem Lh{n:Ty}(h:WF aa n):VB n.2:=h.2
theorem Ie{code:List Ty}(hl:code.length<=1000)(hw:∀n∈code,WF aa n){t0:Int}(h0:VB t0):Wp (Loop (S:=Int) (X:=Int) (fun s9=>
((if(decide ((0:Int)<=s9))=true then
(if(decide (s9<(code.length:Int)))=true then
(idx code s9).bind fun ow=>
(if(decide (ow.1=(51:Int)))=true then
(idx code s9).bind fun rF=>
some (decide (s9<rF.2))
else
some false)
else
some false)
else
some false):Option (Bool)).bind fun qg=>
(if qg=true then
(idx code s9).bind fun pU=>
some (Sum.inl pU.2)
else
some (Sum.inr s9))) aC t0) fun T=>IN code t0 T/\VB T:=by
 refine Wp.loop (fun s=>IN code t0 s/\VB s) (fun s=>(code.length-s).toNat) ⟨.refl _,h0⟩ (by obtain⟨a,b⟩:=h0;unfold aC;omega) ?_
 rintro s ⟨hs,hr⟩
 refine Wp.seq (fun b=>b=true->∃(t:Nat)(n:Ty),s=t/\code[t]? =some n/\(n.1:Int)=51/\(t:Int)<n.2) ?_ fun b hb=>?_
 .refine Wp.dec (fun h1=>Wp.dec (fun h2=>?_) fun _=> .some fun h=>by cases h) fun _=> .some fun h=>by cases h
  obtain⟨t,rfl⟩:∃t:Nat,s=t:=⟨s.toNat,by omega⟩
  have ht:t<code.length:=by omega
  rw[ag ht];simp only[ai2]
  refine Wp.dec (fun h3=> .some fun h4=>?_) fun _=> .some fun h=>by cases h
  exact⟨t,_,rfl,ai5 ht,h3,of_decide_eq_true h4⟩
 .refine Wp.ite (fun h=>?_) fun _=> .some ⟨hs,hr⟩
  obtain⟨t,n,rfl,h1,h2,h3⟩:=hb h;obtain⟨ht,rfl⟩:=ai7.1 h1;rw[ag ht];simp only[ai2];refine .some ⟨⟨hs.snoc h1 h2 h3,Lh (hw _ (ajc ht))⟩,?_⟩;revert h3;generalize(code[t].2:Int)=z;intro h3;have h3:(t:Int)<z:=h3
  show((code.length:Int)-z).toNat<((code.length:Int)-t).toNat
  have:(t:Int)<code.length:=by omega
  omega
def UI(code:List Ty)(n m:Ty):Prop:=(m.1:Int)=n.1/\WF aa m/\(¬kI n->m=n)/\(kI n->IN code n.2 m.2)
theorem If{code:List Ty}(hl:code.length<=1000)(hw:∀n∈code,WF aa n):Wp (M.dL aC code) fun y=>((¬∃F,Fits code F)/\y=code)\/((∃F,Fits code F)/\y.length=code.length/\∀(i:Nat)n,code[i]? =some n->∃m,y[i]? =some m/\UI code n m):=by
 unfold M.dL;rw[wh hl];simp only[ai2];obtain⟨b,hb,Dc⟩:=oY code;rw[hb];simp only[ai2]
 refine Wp.ite (fun hc=> .some (.inl ⟨fun h=>(by rw[Dc.2 h]at hc;cases hc),rfl⟩)) fun hc=>?_
 have hF:∃F,Fits code F:=Dc.1 (by simpa using hc);refine Wp.loop (fun s:Int×List Ty=>∃i:Nat,s.1=i/\i<=code.length/\s.2.length=code.length/\(∀(j:Nat)n,code[j]? =some n->j<i->∃m,s.2[j]? =some m/\UI code n m)/\∀j:Nat,i<=j->s.2[j]? =code[j]?) (fun s=>(code.length-s.1).toNat) ⟨0,rfl,ajt _,rfl,fun j n _ h=>by omega,fun j _=>rfl⟩ (by unfold aC;simp only;omega) ?_
 rintro⟨_,out⟩ ⟨i,rfl,hi,VC,Li,AQ⟩
 dsimp only at VC Li AQ⊢
 refine Wp.dec (fun h=>?_) fun h=> .some (.inr ⟨hF,VC,fun j n hn=>Li j n hn ?_⟩)
 case refine_2=>
  have:=(ai7.1 hn).1;omega
 have gv:i<code.length:=by omega
 have VD:i<out.length:=by omega
 have hge:=ai5 gv
 have SB:out[i]=code[i]:=by
  have:=AQ i (ai8 _);rw[ai5 VD,hge]at this;exact ai4 this
 have L7:=hw _ (ajc gv);rw[ag gv];simp only[ai2,mm]
 refine Wp.seq (fun o=>o.length=code.length/\(∃m,o[i]? =some m/\UI code code[i] m)/\∀j:Nat,j≠i->o[j]? =out[j]?) ?_ fun o ho=> .some ?_
 .refine Wp.seq (fun o=>o.length=code.length/\(∃m,o[i]? =some m/\UI code code[i] m)/\∀j:Nat,j≠i->o[j]? =out[j]?) ?_ fun o ho=> .some ho
  generalize code[i]=n at L7 SB hge⊢
  refine Wp.mY (fun hj=> .some ⟨VC,⟨n,by rw[ai5 VD,SB],rfl,L7,fun _=>rfl,fun h=>absurd h hj⟩,fun j _=>rfl⟩) fun hj=>?_
  refine Wp.seq _ (Ie hl hw (Lh L7)) fun T hT=>?_
  rw[ag VD,SB];simp only[ai2];refine .some ⟨by simp[aT,VC],⟨((n.1,T):Int×Int),by simp[aT,VD],rfl,⟨L7.1,hT.2⟩,fun h=>absurd hj h,fun _=>hT.1⟩,fun j hj=>?_⟩;simp only[aT,aja];rw[List.getElem?_set_ne (Ne.symm hj)]
 .obtain⟨o1,o2,o3⟩:=ho;rw[aK (by omega)];refine⟨⟨i+1,rfl,gv,o1,fun j n hn hj=>?_,fun j hj=>?_⟩,by simp only;omega⟩
  .by_cases e:j=i
   .subst e;rw[hge]at hn;obtain rfl:=ai4 hn;exact o2
   .obtain⟨m,m1,m2⟩:=Li j n hn (by omega);exact⟨m,by rw[o3 j e];exact m1,m2⟩
  .rw[o3 j (by omega)];exact AQ j (by omega)
theorem td{code:List Ty}{F:List Int}(f:Fits code F){x T:Int}(h:IN code x T):∀p:Nat,x=p->0<=gd F p->p<=code.length->∃q:Nat,T=q/\p<=q/\q<=code.length/\gd F q=gd F p:=by
 induction h with
 |refl t=>exact fun p e h0 hp=>⟨p,e,ai8 _,hp,rfl⟩
 | @next t n T hn qH al hT ih=>
   intro p e h0 hp
   obtain rfl:t=p:=by omega
   obtain⟨s,_⟩:=f.at hn h0
   rcases s with⟨_,u,u1,u2,u3,u4⟩|⟨c,_⟩|⟨c,_⟩
   .obtain⟨q,q1,q2,q3,q4⟩:=ih u u1 (by omega) u3;exact⟨q,q1,by omega,q3,by omega⟩
   .exact absurd qH (nc c)
   .exact absurd qH c
theorem Cf{code y:List Ty}{F:List Int}(f:Fits code F)(NI:y.length=code.length)(hy:∀(i:Nat)n,code[i]? =some n->∃m,y[i]? =some m/\UI code n m):oe code y:=by
 have one:∀p:Nat,p<code.length->0<=gd F p->L8 code y (fun p q=>0<=gd F p/\p<=code.length/\IN code p q) p p:=by
  intro p hp h0;have hge:=ai5 hp;generalize code[p]=n at hge;obtain⟨m,hm,e1,hwm,CG,hth⟩:=hy p n hge;by_cases hj:kI n
  .obtain⟨s,_⟩:=f.at hge h0;have ht:=hth hj
   rcases s with⟨c1,t,c2,c3,c4,c5⟩|⟨c1,c2,c3,t,c4,c5,c6,c7⟩|⟨c1,c2,_⟩
   .rw[show(n.2:Int)=t from c2]at ht;obtain⟨q,q1,q2,q3,q4⟩:=td f ht t rfl (by omega) c4;rw[show(m.2:Int)=q from q1]at ht;exact .jump hge hm c1 (e1.trans c1) c2 q1 (by omega) ⟨by omega,c4,ht⟩
   .have h7:0<=gd F t:=by rw[c7];split<;>omega
    rw[show(n.2:Int)=t from c4]at ht;obtain⟨q,q1,q2,q3,q4⟩:=td f ht t rfl h7 c6;rw[show(m.2:Int)=q from q1]at ht;exact .cond hge hm c1 e1 c4 q1 (by omega) ⟨h7,c6,ht⟩ ⟨by omega,hp, .refl _⟩
   .exact(lR hj).elim (fun e=>absurd e c1) (fun e=>absurd e c2)
  .rw[CG hj]at hm;obtain⟨s1,s2,s3,_⟩:=f.op hge hj h0;exact .op hge hm hj ⟨by omega,hp, .refl _⟩
 have s:Nz code y F F (fun p q=>0<=gd F p/\p<=code.length/\IN code p q):=by
  refine⟨f,by rw[NI];exact f.pos,by rw[NI];exact f.le,by rw[NI];exact f.len,f.bd,fun p q h=>?_,fun p q h=>?_,fun q hq h0=>⟨q,⟨h0,by omega, .refl _⟩,one q (by omega) h0⟩,⟨by rw[f.first];decide,ajt _, .refl _⟩,?_⟩
  .obtain⟨a1,a2,a3⟩:=h;obtain⟨q',b1,b2,b3,b4⟩:=td f a3 p rfl a1 a2
   obtain rfl:q=q':=by omega
   exact⟨a1,a2,by omega,b4⟩
  .obtain⟨a1,a2,a3⟩:=h;generalize hx:(p:Int)=x at a3;generalize hz:(q:Int)=z at a3
   cases a3 with
   |refl t=>
    obtain rfl:p=q:=by omega
    by_cases hp:p=code.length
    .exact .inl ⟨hp,by omega⟩
    .exact .inr (.inl (one p (by omega) a1))
   | @next t n T hn qH al hT=>
     obtain rfl:p=t:=by omega
     obtain⟨s,_⟩:=f.at hn a1
     rcases s with⟨_,u,u1,u2,u3,u4⟩|⟨c,_⟩|⟨c,_⟩
     .refine .inr (.inr ⟨n,u,hn,qH,u1,by omega,u3,?_⟩);rw[show(n.2:Int)=u from u1]at hT;exact hT
     .exact absurd qH (nc c)
     .exact absurd qH c
  .rw[NI];exact⟨by rw[f.last];decide,ai8 _, .refl _⟩
 refine s.same (by omega) fun m hm=>?_
 obtain⟨i,hi,rfl⟩:=aji hm
 have gv:i<code.length:=by omega
 obtain⟨m',h1,h2⟩:=hy i _ (ai5 gv);rw[ai5 hi]at h1;rw[ai4 h1];exact h2.2.1
end L.P.Q
end Go.Proofs.YtilaieogabgamaaGreatDoor
end
