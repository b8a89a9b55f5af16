/- Joined texts: PM5 PY3 PY5 PY6 P27c PQ PQ2. -/
import Derived.Test.YtmihpkfkbfgigaaGreatDoorU9
import Derived.Test.YtmihpkfkbfgigaaGreatDoorU1
section
open _root_.Bool renaming false_eq_true->al2
open _root_.Int renaming le_refl->am7,toNat_natCast->al1
open _root_.Go.IntKind renaming i64->alT
open _root_.List renaming append_assoc->amk,append_nil->amK,getD->amn,getD_cons_succ->anc,getD_cons_zero->anb,getElem?_append_left->amq,getElem?_append_right->amH,getElem?_eq_getElem->alV,getElem?_eq_some_iff->alW,getElem_append_left->al5,getElem_append_right->ame,getElem_mem->al0,length_append->alY,length_cons->al9,length_map->amm,length_set->ans,length_singleton->al6,length_take->amd,replicate->alX,replicate_succ->amX,set_append_right->amz,take_append_of_le_length->aml,take_length->amc
open _root_.Nat renaming add_assoc->am3,add_zero->am0,le_refl->alZ,zero_add->amo,zero_le->amj
open _root_.Option renaming bind_some->alS,getD_some->amu
open _root_.Option.some renaming inj->alU
open _root_.Sum renaming inr->amP
namespace Go.Proofs.YtmihpkfkbfgigaaGreatDoor
open Go Go.RowKit
set_option maxRecDepth 100000
namespace L.P
def mX(g:Nat->Nat->Int->List (Ty×Int)):List Nat->Nat->Int->List (Ty×Int)
 |[],_,_=>[]
 |o::os,b,d=>g o b d++mX g os (b+(g o b d).length) (d+1)
def uJ(g:Nat->Nat->Int->List (Ty×Int))(n:Ty)(os:List Nat)(b:Nat)(d:Int):List (Ty×Int):=
 g (os.getD 0 0) b d++(((if(n.1:Int)=24 then 53 else 52,((b+(g (os.getD 0 0) b d).length+1+(g (os.getD 1 0) (b+(g (os.getD 0 0) b d).length+1) d).length:Nat):Int)):Int×Int),d+1)::g (os.getD 1 0) (b+(g (os.getD 0 0) b d).length+1) d
def lS(g:Nat->Nat->Int->List (Ty×Int))(os:List Nat)(b:Nat)(d:Int):Nat:=
 b+(g (os.getD 0 0) b d).length+1+(g (os.getD 1 0) (b+(g (os.getD 0 0) b d).length+1) d).length+1
def Dc(g:Nat->Nat->Int->List (Ty×Int))(os:List Nat)(b:Nat)(d:Int):List (Ty×Int):=
 g (os.getD 0 0) b d++(((50,((lS g os b d:Nat):Int)):Int×Int),d+1)::(g (os.getD 1 0) (b+(g (os.getD 0 0) b d).length+1) d++(((51,((lS g os b d+(g (os.getD 2 0) (lS g os b d) d).length:Nat):Int)):Int×Int),d+1)::g (os.getD 2 0) (lS g os b d) d)
def cg(e:List Ty)(st:List Nat):Nat->Nat->Nat->Int->List (Ty×Int)
 |0,_,_,_=>[]
 |f+1,i,b,d=>
  if((e.getD i ((0,0):Int×Int)).1:Int)=23\/((e.getD i ((0,0):Int×Int)).1:Int)=24 then uJ (cg e st f) (e.getD i ((0,0):Int×Int)) (opsL st (ar (e.getD i ((0,0):Int×Int)).1).toNat i) b d
  else if((e.getD i ((0,0):Int×Int)).1:Int)=26 then Dc (cg e st f) (opsL st (ar (e.getD i ((0,0):Int×Int)).1).toNat i) b d
  else mX (cg e st f) (opsL st (ar (e.getD i ((0,0):Int×Int)).1).toNat i) b d++[(e.getD i ((0,0):Int×Int),d+((ar (e.getD i ((0,0):Int×Int)).1).toNat:Nat))]
theorem AQ(g:Nat->Nat->Int->List (Ty×Int)):∀(xs ys:List Nat)(b:Nat)(d:Int),mX g (xs++ys) b d=mX g xs b d++mX g ys (b+(mX g xs b d).length) (d+xs.length)
 |[],ys,b,d=>by simp[mX]
 |x::xs,ys,b,d=>by
  rw[List.cons_append,mX,mX,AQ g xs ys];simp only[alY,al9,amk];rw[show b+(g x b d).length+(mX g xs (b+(g x b d).length) (d+1)).length=b+((g x b d).length+(mX g xs (b+(g x b d).length) (d+1)).length) by omega,show d+1+(xs.length:Int)=d+((xs.length+1:Nat):Int) by omega]
theorem GQ{st:List Nat}{g:Nat->Nat->Int->List (Ty×Int)}{P:Nat}(hg:∀(o s b:Nat)(d:Int),o<P->st[o]? =some s->s<=o->(g o b d).length<=2*(o+1-s)):∀(a i:Nat)(l:List Nat),Ch st i l->a<=l.length->i<=P->∀(b:Nat)(d:Int),(mX g (opsL st a i) b d).length<=2*(i-mW (a:Int) i l)
 |0,i,l,_,_,_,b,d=>by simp[opsL,mX]
 |a+1,i,l,c,ha,hi,b,d=>by
  cases c with
  |nil=>simp at ha
  | @snoc j s l h1 h2 c=>
    have hg':st.getD (j+1-1) 0=s:=by simp[amn,h1]
    have e1:opsL st (a+1) (j+1)=opsL st a s++[j]:=by rw[opsL,hg'];rfl
    have N3:a<=l.length:=by rw[alY,al6]at ha;omega
    have ih:=GQ hg a s l c N3 (by omega) b d;have hj:=hg j s (b+(mX g (opsL st a s) b d).length) (d+(opsL st a s).length) (by omega) h1 h2
    have es:mW ((a+1:Nat):Int) (j+1) (l++[s])=if a=0 then s else mW (a:Int) s l:=by
     unfold mW
     have en:((a+1:Nat):Int).toNat=a+1:=by omega
     have e3:l.length+1-(a+1)=l.length-a:=by omega
     rw[if_neg (by omega),alY,al6,en,e3];by_cases h0:a=0
     .rw[if_pos h0,h0];simp[amn]
     .have aj:l.length-a<l.length:=by omega
      rw[if_neg h0,if_neg (by omega),al1];simp[amn,amq aj]
    have hle:mW (a:Int) s l<=s:=AN (by omega) c (by omega)
    have It:a=0->mW (a:Int) s l=s:=fun h=>by unfold mW;rw[if_pos (by omega)]
    rw[e1,AQ,alY,es];simp only[mX,amK];split
    .rename_i h0;have:=It h0;omega
    .omega
theorem GR{g:Nat->Nat->Int->List (Ty×Int)}(hg:∀(o b b':Nat)(d d':Int),(g o b d).length=(g o b' d').length):∀(os:List Nat)(b b':Nat)(d d':Int),(mX g os b d).length=(mX g os b' d').length
 |[],_,_,_,_=>rfl
 |o::os,b,b',d,d'=>by
  rw[mX,mX,alY,alY,hg o b b' d d',GR hg os _ (b'+(g o b' d').length) _ (d'+1)]
theorem Me(e:List Ty)(st:List Nat):∀(f i b b':Nat)(d d':Int),(cg e st f i b d).length=(cg e st f i b' d').length
 |0,_,_,_,_,_=>rfl
 |f+1,i,b,b',d,d'=>by
  have ih:=Me e st f;rw[cg,cg];split
  .unfold uJ;simp only[alY,al9];rw[ih _ b b' d d',ih _ (b+_+1) (b'+((cg e st f ((opsL st (ar (e.getD i ((0,0):Int×Int)).1).toNat i).getD 0 0) b' d').length)+1) d d']
  split
  .unfold Dc;simp only[alY,al9];rw[ih _ b b' d d',ih _ (b+_+1) (b'+((cg e st f ((opsL st (ar (e.getD i ((0,0):Int×Int)).1).toNat i).getD 0 0) b' d').length)+1) d d',ih _ (lS (cg e st f) _ b d) (lS (cg e st f) (opsL st (ar (e.getD i ((0,0):Int×Int)).1).toNat i) b' d') d d']
  .simp only[alY,al9];rw[GR ih _ b b' d d']
theorem Mf{e:List Ty}{st:List Nat}(w:Whole e st):∀(f i s b:Nat)(d:Int),i<e.length->st[i]? =some s->s<=i->(cg e st f i b d).length<=2*(i+1-s)
 |0,i,s,b,d,_,_,_=>by simp[cg]
 |f+1,i,s,b,d,hi,hs,hsi=>by
  obtain⟨v1,l,v2,v3,v4,v5⟩:=w.val.node i hi
  have hge:e.getD i ((0,0):Int×Int)=e[i]:=by simp only[amn,alV hi,amu]
  have rM:s=mW (ar e[i].1) i l:=by rw[hs]at v5;exact alU v5
  obtain⟨a,ha⟩:∃a:Nat,ar e[i].1=a:=⟨(ar e[i].1).toNat,by omega⟩
  have key:=GQ (st:=st) (g:=cg e st f) (P:=i) (fun o s b d ho OE adr=>Mf w f o s b d (by omega) OE adr) a i l v2 (by omega) (alZ _);have gJ:mW (a:Int) i l<=i:=AN (by omega) v2 (by omega);rw[ha]at rM;rw[cg,hge]
  have han:(ar e[i].1).toNat=a:=by omega
  rw[han];have ih:=Me e st f;have key:=key b d;split
  .rename_i gq
   have h2:a=2:=by
    have:ar e[i].1=2:=by rcases gq with h|h<;>rw[h]<;>rfl
    omega
   subst h2;obtain⟨o0,o1,Nx⟩:=Fg (dg st 2 i);rw[Nx]at key⊢;unfold uJ;simp only[mX,amK,alY,al9,anb,anc]at key⊢;have:=ih o1 (b+(cg e st f o0 b d).length) (b+(cg e st f o0 b d).length+1) (d+1) d;omega
  split
  .rename_i gq
   have h3:a=3:=by
    have:ar e[i].1=3:=by rw[gq];rfl
    omega
   subst h3;obtain⟨o0,o1,o2,Nx⟩:=Da (dg st 3 i);rw[Nx]at key⊢;unfold Dc;simp only[mX,amK,alY,al9,anb,anc]at key⊢;have h1:=ih o1 (b+(cg e st f o0 b d).length) (b+(cg e st f o0 b d).length+1) (d+1) d;have h2:=ih o2 (b+(cg e st f o0 b d).length+(cg e st f o1 (b+(cg e st f o0 b d).length) (d+1)).length) (lS (cg e st f) [o0,o1,o2] b d) (d+1+1) d;omega
  .rw[alY,al6];omega
theorem Mg{e:List Ty}{st:List Nat}(w:Whole e st){f i b:Nat}{d:Int}(hi:i<e.length):(cg e st f i b d).length<=96:=by
 obtain⟨v1,l,v2,v3,v4,v5⟩:=w.val.node i hi;have hle:=w.le;have:=Mf w f i _ b d hi v5 (AN v1 v2 v3);omega
theorem xm{α:Type}(p q:List α)(x y:α):aH (p++x::q) (p.length:Int) y=p++y::q:=by
 unfold aH;rw[al1,amz _ _ (alZ _),Nat.sub_self];rfl
theorem AR{α:Type}(p q:List α)(x:α):idx (p++x::q) (p.length:Int)=some x:=by
 rw[ah (by simp)];simp
abbrev ins(l:List (Ty×Int)):List Ty:=l.map Prod.fst
theorem xn{e:List Ty}{st:List Nat}(w:Whole e st):∀(f i N:Nat),i<f->i<e.length->f<=N->∀(code:List Ty)(d:Int),code.length+400*f<=1000000->M.bt aB N e (i:Int) code=some (code++ins (cg e st f i code.length d))
 |0,_,_,h,_,_,_,_,_=>by omega
 |f+1,i,0,_,_,h,_,_,_=>by omega
 |f+1,i,N+1,hf,hi,hN,code,d,hc=>by
  have ih:=xn w f;have hle:=w.le
  have aj:∀o∈opsL st (ar e[i].1).toNat i,o<i:=fun o ho=>(w.val.ops hi o ho).1
  have WK:∀o∈opsL st (ar e[i].1).toNat i,∀b d,(cg e st f o b d).length<=96:=fun o ho b d=>Mg w (by have:=aj o ho;omega)
  have hge:e.getD i ((0,0):Int×Int)=e[i]:=by simp only[amn,alV hi,amu]
  obtain⟨v1,_⟩:=w.val.node i hi;have Jd:=kK e[i].1;unfold M.bt;rw[C9 w hi,ah hi,cg,hge];simp only[alS];rw[o9];simp only[alS];have hlen:=dg st (ar e[i].1).toNat i;generalize Nx:opsL st (ar e[i].1).toNat i=os at*;by_cases DY:(e[i].1:Int)=23\/(e[i].1:Int)=24
  .rw[decide_eq_true DY,if_pos rfl,if_pos DY]
   have h2:(ar e[i].1).toNat=2:=by rcases DY with h|h<;>rw[h]<;>rfl
   obtain⟨o0,o1,rfl⟩:=Fg (l:=os) (by omega)
   have gq:(if decide ((e[i].1:Int)=24)=true then some (53:Int)else some (52:Int))=some (if(e[i].1:Int)=24 then(53:Int)else 52):=by
    by_cases h:(e[i].1:Int)=24<;>simp[h]
   rw[gq];have i0:idx (dG [o0,o1]) (0:Int)=some (o0:Int):=rfl;have i1:idx (dG [o0,o1]) (1:Int)=some (o1:Int):=rfl;have l0:=aj o0 (by simp);have l1:=aj o1 (by simp);have n0:=WK o0 (by simp) code.length d;have r0:=ih o0 N (by omega) (by omega) (by omega) code d (by omega);generalize SE:cg e st f o0 code.length d=g0 at*
   have r9:(code++ins g0).length=code.length+g0.length:=by simp
   generalize hx:(if(e[i].1:Int)=24 then(53:Int)else 52)=x;have r1:=ih o1 N (by omega) (by omega) (by omega) (code++ins g0++[((x,0):Int×Int)]) d (by rw[alY,r9,al6];omega);rw[show(code++ins g0++[((x,0):Int×Int)]).length=code.length+g0.length+1 by rw[alY,r9,al6]]at r1
   have hA:uJ (cg e st f) e[i] [o0,o1] code.length d=g0++(((x,((code.length+g0.length+1+(cg e st f o1 (code.length+g0.length+1) d).length:Nat):Int)):Int×Int),d+1)::cg e st f o1 (code.length+g0.length+1) d:=by
    unfold uJ;simp only[anb,anc,SE,hx]
   rw[hA];generalize cg e st f o1 (code.length+g0.length+1) d=g1 at*;rw[i0,i1];simp only[alS];rw[r0];simp only[alS];rw[bh (by rw[r9,al6];omega)];simp only[alS];rw[r1];simp only[alS];rw[amk (code++ins g0),List.singleton_append,AR];simp only[alS];rw[xm]
   have hn:(((code++ins g0++((x,0):Int×Int)::ins g1:List Ty)).length:Int)=((code.length+g0.length+1+g1.length:Nat):Int):=by
    rw[alY,r9];simp;omega
   rw[hn];simp[ins]
  rw[decide_eq_false DY,if_neg (by simp),if_neg DY];by_cases GM:(e[i].1:Int)=26
  .rw[decide_eq_true GM,if_pos rfl,if_pos GM]
   have h3:(ar e[i].1).toNat=3:=by rw[GM];rfl
   obtain⟨o0,o1,o2,rfl⟩:=Da (l:=os) (by omega);have i0:idx (dG [o0,o1,o2]) (0:Int)=some (o0:Int):=rfl;have i1:idx (dG [o0,o1,o2]) (1:Int)=some (o1:Int):=rfl;have i2:idx (dG [o0,o1,o2]) (2:Int)=some (o2:Int):=rfl;have l0:=aj o0 (by simp);have l1:=aj o1 (by simp);have l2:=aj o2 (by simp);have n0:=WK o0 (by simp) code.length d;have n1:=WK o1 (by simp);have r0:=ih o0 N (by omega) (by omega) (by omega) code d (by omega);generalize SE:cg e st f o0 code.length d=g0 at*
   have r9:(code++ins g0).length=code.length+g0.length:=by simp
   have r1:=ih o1 N (by omega) (by omega) (by omega) (code++ins g0++[((50,0):Int×Int)]) d (by rw[alY,r9,al6];omega);rw[show(code++ins g0++[((50,0):Int×Int)]).length=code.length+g0.length+1 by rw[alY,r9,al6]]at r1;have n1:=n1 (code.length+g0.length+1) d;generalize hg1:cg e st f o1 (code.length+g0.length+1) d=g1 at*;generalize hE:code.length+g0.length+1+g1.length+1=E
   have rN:lS (cg e st f) [o0,o1,o2] code.length d=E:=by
    unfold lS;simp only[anb,anc,SE,hg1];exact hE
   have hp:(code++ins g0++((50,(E:Int)):Int×Int)::ins g1).length=code.length+g0.length+1+g1.length:=by rw[alY,r9];simp;omega
   have r2:=ih o2 N (by omega) (by omega) (by omega) (code++ins g0++((50,(E:Int)):Int×Int)::ins g1++[((51,0):Int×Int)]) d (by rw[alY,hp,al6];omega);rw[show(code++ins g0++((50,(E:Int)):Int×Int)::ins g1++[((51,0):Int×Int)]).length=E by rw[alY,hp,al6];omega]at r2
   have hI:Dc (cg e st f) [o0,o1,o2] code.length d=g0++(((50,(E:Int)):Int×Int),d+1)::(g1++(((51,((E+(cg e st f o2 E d).length:Nat):Int)):Int×Int),d+1)::cg e st f o2 E d):=by
    unfold Dc;rw[rN];simp only[anb,anc,SE,hg1]
   rw[hI];generalize cg e st f o2 E d=g2 at*;rw[i0,i1,i2];simp only[alS];rw[r0];simp only[alS];rw[bh (by rw[r9,al6];omega)];simp only[alS];rw[r1];simp only[alS]
   have hq:(code++ins g0++[((50,0):Int×Int)]++ins g1).length=code.length+g0.length+1+g1.length:=by rw[alY,alY,r9];simp
   rw[bh (by rw[hq,al6];omega)];simp only[alS]
   have hz:code++ins g0++[((50,0):Int×Int)]++ins g1++[((51,0):Int×Int)]=(code++ins g0)++((50,0):Int×Int)::(ins g1++[((51,0):Int×Int)]):=by simp
   have Yg:((code++ins g0++[((50,0):Int×Int)]++ins g1++[((51,0):Int×Int)]).length:Int)=(E:Int):=by rw[alY,hq,al6];omega
   rw[Yg,hz,AR];simp only[alS];rw[xm]
   have DP:code++ins g0++((50,(E:Int)):Int×Int)::(ins g1++[((51,0):Int×Int)])=code++ins g0++((50,(E:Int)):Int×Int)::ins g1++[((51,0):Int×Int)]:=by simp
   rw[DP,r2];simp only[alS];rw[amk (code++ins g0++_::ins g1),List.singleton_append,hq,<-hp,AR];simp only[alS];rw[xm]
   have hn:(((code++ins g0++((50,(E:Int)):Int×Int)::ins g1++((51,0):Int×Int)::ins g2:List Ty)).length:Int)=((E+g2.length:Nat):Int):=by
    rw[alY,hp];simp;omega
   rw[hn];simp[ins]
  rw[decide_eq_false GM,if_neg (by simp),if_neg GM]
  have WL:Loop (S:=Int×List aa.den) (X:=List aa.den) (fun w4=>(if(decide (w4.1<((dG os).length:Int)))=true then(idx (dG os) w4.1).bind fun Sa=>(M.bt aB N e Sa w4.2).bind fun Sb=>some (Sum.inl (alT.wrap (w4.1+(1:Int)),Sb))else some (amP w4.2))) aB ((0:Int),code)=some (code++ins (mX (cg e st f) os code.length d)):=by
   apply Wp.eq
   have ajE:os.length<=3:=by omega
   refine Wp.loop (fun s:Int×List Ty=>∃k:Nat,s.1=k/\k<=os.length/\s.2=code++ins (mX (cg e st f) (os.take k) code.length d)/\(mX (cg e st f) (os.take k) code.length d).length<=96*k) (fun s=>(os.length-s.1).toNat) ⟨0,rfl,amj _,by simp[mX],by simp[mX]⟩ (by unfold aB;simp only;omega) ?_
   rintro⟨_,c⟩ ⟨k,rfl,hk,hcd,ajF⟩
   dsimp only at hcd⊢;subst hcd;rw[amm]
   refine Wp.dec (fun h=>?_) fun h=> .some ?_
   .have dZ:k<os.length:=by omega
    have hm:=al0 dZ;have Mh:=aj _ hm;rw[ah (by simpa using dZ)];simp only[alS,List.getElem_map]
    have zh:(code++ins (mX (cg e st f) (os.take k) code.length d)).length=code.length+(mX (cg e st f) (os.take k) code.length d).length:=by simp
    rw[ih _ N (by omega) (by omega) (by omega) _ (d+(os.take k).length) (by rw[zh];omega),zh,aD (by omega)]
    have KP:mX (cg e st f) (os.take (k+1)) code.length d=mX (cg e st f) (os.take k) code.length d++cg e st f os[k] (code.length+(mX (cg e st f) (os.take k) code.length d).length) (d+(os.take k).length):=by
     rw[List.take_succ_eq_append_getElem dZ,AQ];simp[mX]
    have ajG:=WK _ hm (code.length+(mX (cg e st f) (os.take k) code.length d).length) (d+(os.take k).length);refine .some ⟨⟨k+1,rfl,dZ,?_,?_⟩,by simp only;omega⟩
    .rw[KP];simp[ins]
    .rw[KP,alY];omega
   .show _=_
    rw[List.take_of_length_le (by omega)]
  rw[WL];simp only[alS]
  have XK:(code++ins (mX (cg e st f) os code.length d)).length<=1000000:=by
   have:=Mg w (f:=f+1) (b:=code.length) (d:=d) hi;rw[cg,hge,if_neg DY,if_neg GM,Nx,alY]at this;simp;omega
  rw[bh (by rw[al6];omega)];simp[ins]
structure FOK(code:List Ty)(F:List Int):Prop where
 pos:0<code.length
 le:code.length<=128
 len:F.length=code.length+1
 bd:∀k,k<=code.length->0<=gd F k/\gd F k<=12
 first:gd F 0=0
 last:gd F code.length=1
 step:∀j(h:j<code.length),jJ code.length F j code[j]/\¬bM code[j].1
 reach:∀k,0<k->k<=code.length->∃j,∃h:j<code.length,j<k/\((j+1=k/\(code[j].1:Int)≠51)\/((50<=(code[j].1:Int)/\(code[j].1:Int)<=53)/\(code[j].2:Int)=k))
structure Cs(F D:List Int):Prop where
 len:D.length=F.length
 ok:∀k,gd D k= -1\/gd D k=gd F k
theorem Cs.set{F D:List Int}(c:Cs F D){t:Nat}(ht:t<F.length):Cs F (D.set t (gd F t)):=by
 refine⟨by rw[ans,c.len],fun k=>?_⟩;rw[iD (by rw[c.len];exact ht)];split
 .rename_i h;rw[h];exact .inr rfl
 .exact c.ok k
theorem mS{N:Nat}{F D:List Int}(c:Cs F D){t:Nat}(ht:t<F.length):M.aU N (t:Int) (gd F t) D=some (0,D.set t (gd F t)):=by
 have htD:t<D.length:=by rw[c.len];exact ht
 unfold M.aU;rw[kC htD];simp only[alS,aF]
 rcases c.ok t with h|h
 .rw[h];rfl
 .rw[h]
  by_cases h0:0<=gd F t<;>simp[h0,aH]
def XL(F D:List Int)(i:Nat)(n:Ty):Prop:=((n.1:Int)≠51->gd D (i+1)=gd F (i+1))/\((50<=(n.1:Int)/\(n.1:Int)<=53)->∀t:Nat,(n.2:Int)=t->gd D t=gd F t)
structure Up(F D D':List Int)(i:Nat):Prop where
 low:∀k,k<=i->gd D' k=gd D k
 keep:∀k,gd D k=gd F k->gd D' k=gd F k
theorem Up.set{F D:List Int}{t i:Nat}(ht:t<D.length)(vV:i<t):Up F D (D.set t (gd F t)) i:=by
 refine⟨fun k hk=>?_,fun k hk=>?_⟩<;>rw[iD ht]
 .rw[if_neg (by omega)]
 .split
  .rename_i h;rw[h]
  .exact hk
theorem Up.trans{F A B C:List Int}{i:Nat}(h:Up F A B i)(h':Up F B C i):Up F A C i:=
 ⟨fun k hk=>(h'.low k hk).trans (h.low k hk),fun k hk=>h'.keep k (h.keep k hk)⟩
theorem Fj{N:Nat}{code:List Ty}{F D:List Int}(f:FOK code F)(c:Cs F D){i:Nat}(hi:i<code.length)(h0:gd D i=gd F i):Wp (M.bC N code (i:Int) code[i] D) fun r=>r.1=0/\Cs F r.2/\Up F D r.2 i/\XL F r.2 i code[i]:=by
 have hle:=f.le;have TO:=f.len;have hDl:=c.len;have hb:=f.bd i (by omega);have F8:=f.bd (i+1) (by omega);obtain⟨hs,Ji⟩:=f.step i hi;unfold M.bC XL;generalize code[i]=n at*;obtain⟨(op:Int),(m:Int)⟩:=n;dsimp only[ae,Row.den]at*;have Jd:=kK op;rw[nk,lR,kC (by omega),cJ,vb,h0];simp only[alS]
 have e0:(50<=op/\op<=53\/0<=ar op)->(50<=op/\op<=53->(i:Int)<m/\m<=(code.length:Int))->(if(!decide (¬bM op/\(50<=op/\op<=53\/0<=ar op)))=true then some true else(if decide (50<=op/\op<=53)=true then(if decide (m<=(i:Int))=true then some true else some (decide ((code.length:Int)<m)))else some false))=some false:=by
  intro g1 g2;rw[decide_eq_true (show¬bM op/\(50<=op/\op<=53\/0<=ar op)from⟨Ji,g1⟩),if_neg (by simp)];by_cases g:50<=op/\op<=53
  .obtain⟨g3,g4⟩:=g2 g;rw[decide_eq_true g,if_pos rfl,decide_eq_false (by omega),if_neg (by simp),decide_eq_false (by omega)]
  .rw[decide_eq_false g,if_neg (by simp)]
 rcases hs with⟨h1,t,h2,h3,h4,h5⟩|⟨h1,h2,h3,t,h4,h5,h6,h7⟩|⟨h1,h2,h3,h4,h5,h6⟩
 .dsimp only[ae,Row.den]at*;subst h2;rw[e0 (.inl (by omega)) (fun _=>by omega)];simp only[alS,al2,if_false]
  refine Wp.dec (fun _=>?_) fun h=>absurd h1 h
  rw[<-h5,mS c (by omega)];refine .some ⟨rfl,c.set (by omega),Up.set (by omega) h3,fun h=>absurd h1 h,fun _ u hu=>?_⟩
  obtain rfl:t=u:=by omega
  show gd (D.set t (gd F t)) t=_
  rw[iD (by omega),if_pos rfl]
 .dsimp only[ae,Row.den]at*;subst h4;rw[e0 (.inl (by omega)) (fun _=>by omega)];simp only[alS,al2,if_false]
  refine Wp.dec (fun h=>by omega) fun _=>?_
  refine Wp.dec (fun _=>?_) fun h=>absurd h1 h
  refine Wp.dec (fun h=>by omega) fun _=>?_
  have w1:alT.wrap (gd F i-1)=gd F (i+1):=by rw[aJ (by omega) (by omega),h3]
  rw[w1,aD (by omega),mS c (by omega)];have c1:=c.set (t:=i+1) (by omega);have u1:Up F D (D.set (i+1) (gd F (i+1))) i:=Up.set (by omega) (by omega);simp only[alS]
  refine Wp.jz (fun h=>absurd trivial h) fun _=>?_
  have e7:(if decide (op=50)=true then some (gd F (i+1))else some (gd F i))=some (gd F t):=by
   by_cases Bn:op=50
   .rw[decide_eq_true Bn,if_pos rfl,h7,if_pos Bn,h3]
   .rw[decide_eq_false Bn,if_neg (by simp),h7,if_neg Bn]
  rw[e7];simp only[alS];rw[mS c1 (by omega)];have c2:=c1.set (t:=t) (by omega);have u2:Up F (D.set (i+1) (gd F (i+1))) ((D.set (i+1) (gd F (i+1))).set t (gd F t)) i:=Up.set (by rw[ans];omega) h5;refine .some ⟨rfl,c2,u1.trans u2,fun _=>u2.keep _ (by rw[iD (by omega),if_pos rfl]),fun _ u hu=>?_⟩
  obtain rfl:t=u:=by omega
  show gd (((D.set (i+1) (gd F (i+1)))).set t (gd F t)) t=_
  rw[iD (by rw[ans];omega),if_pos rfl]
 .dsimp only[ae,Row.den]at*
  have gq:¬(50<=op/\op<=53):=by
   intro h
   have:op=50\/op=51\/op=52\/op=53:=by omega
   omega
  rw[e0 (.inr h3) (fun h=>absurd h gq)];simp only[alS,al2,if_false]
  refine Wp.dec (fun h=>absurd h h1) fun _=>?_
  refine Wp.dec (fun h=>absurd h h2) fun _=>?_
  refine Wp.dec (fun h=>by omega) fun _=>?_
  have w1:alT.wrap (gd F i-ar op)=gd F i-ar op:=aJ (by omega) (by omega)
  have w2:alT.wrap (gd F i-ar op+1)=gd F (i+1):=by rw[aJ (by omega) (by omega),h5]
  rw[w1,w2]
  refine Wp.dec (fun h=>by omega) fun _=>?_
  rw[aD (by omega),mS c (by omega)];exact .some ⟨rfl,c.set (by omega),Up.set (by omega) (by omega),fun _=>by show gd (D.set (i+1) (gd F (i+1))) (i+1)=_;rw[iD (by omega),if_pos rfl],fun h=>absurd h gq⟩
theorem Jj{code:List Ty}{F:List Int}(f:FOK code F):Wp (M.bY aB code) fun y=>y.2=0:=by
 have hl:=f.le;have hp:=f.pos;have TO:=f.len;unfold M.bY
 refine Wp.dec (fun h=>by omega) fun h1=>?_
 refine Wp.dec (fun h=>by omega) fun h2=>?_
 rw[aD (by omega)]
 have uB:lB ((code.length+1:Nat):Int) (0:Int)=some (alX (code.length+1) 0):=by
  unfold lB;rw[if_pos (by omega),al1]
 rw[uB];simp only[alS];refine Wp.seq (· =alX (code.length+1) (-1:Int)) ?_ ?_
 .refine Wp.loop (fun s:Int×List Int=>∃k m:Nat,s=((k:Int),alX k (-1)++alX m 0)/\k+m=code.length+1) (fun s=>(code.length+1-s.1).toNat) ⟨0,code.length+1,by simp,by omega⟩ (by unfold aB;simp only;omega) ?_
  rintro _ ⟨k,m,rfl,hk⟩
  simp only[List.length_replicate]
  refine Wp.dec (fun h=>?_) fun h=> .some ?_
  .obtain⟨m,rfl⟩:∃m',m=m'+1:=⟨m-1,by omega⟩
   rw[ah (by simp)];simp only[alS];rw[aD (by omega)];refine .some ⟨⟨k+1,m,?_,by omega⟩,by simp only;omega⟩;refine Prod.ext rfl ?_;simp only[aH,al1];rw[amz _ _ (by simp),amX];simp[List.replicate_succ']
  .obtain rfl:m=0:=by omega
   obtain rfl:k=code.length+1:=by omega
   show _=_
   simp
 rintro _ rfl
 have e1:idx (alX (code.length+1) (-1:Int)) 0=some (-1):=by rw[amX];rfl
 rw[e1];simp only[alS];have e0:aH (alX (code.length+1) (-1:Int)) (0:Int) (0:Int)=(alX (code.length+1) (-1:Int)).set 0 0:=rfl;rw[e0]
 have g0:∀k,gd ((alX (code.length+1) (-1:Int)).set 0 0) k=if k=0 then 0 else-1:=fun k=>by
  rw[iD (by simp),AO]
 refine Wp.join (Wp.loop (fun s:Int×Int×List Int=>∃i:Nat,s.2.1=i/\i<=code.length/\Cs F s.2.2/\(∀k,k<=i->gd s.2.2 k=gd F k)/\∀j(h:j<code.length),j<i->XL F s.2.2 j code[j]) (fun s=>(code.length-s.2.1).toNat) ⟨0,rfl,amj _,⟨by simp[TO],fun k=>?_⟩,fun k hk=>?_,fun j _ h=>by omega⟩ (by unfold aB;simp only;omega) ?_)
 .simp only[g0];split
  .rename_i h;rw[h,f.first];exact .inr rfl
  .exact .inl rfl
 .obtain rfl:k=0:=by omega
  simp only[g0];rw[f.first];rfl
 rintro⟨g,at',D⟩ ⟨i,oS,hi,hc,sG,hf⟩
 dsimp only at oS hi hc sG hf⊢;subst oS;have hDl:=hc.len
 refine Wp.dec (fun aj=>?_) fun hge=> .some ?_
 .have aj:i<code.length:=by omega
  have hbi:=f.bd i hi;have hgi:=sG i (alZ _);rw[aD (by omega),ah aj,kC (by omega)];simp only[alS];refine Wp.join ?_
  refine Wp.dec (fun h=>by omega) fun _=>?_
  refine Wp.seq _ (Fj f hc aj hgi) fun r hr=>?_
  obtain⟨r1,r2,r3,r4⟩:=hr
  refine Wp.jz (fun h=>absurd r1 h) fun _=> .some ?_
  have qz:∀j(h:j<code.length),j<i+1->XL F r.2 j code[j]:=fun j h hj=>by
   by_cases YS:j=i
   .subst YS;exact r4
   .obtain⟨a,b⟩:=hf j h (by omega);exact⟨fun g=>r3.keep _ (a g),fun g t ht=>r3.keep _ (b g t ht)⟩
  refine Wp.some ⟨⟨i+1,rfl,aj,r2,fun k hk=>?_,qz⟩,by simp only;omega⟩;by_cases SF:k<=i
  .show gd r.2 k=_
   rw[r3.low k SF,sG k SF]
  .obtain rfl:k=i+1:=by omega
   obtain⟨j,h,hj,hq⟩:=f.reach (i+1) (by omega) (by omega);obtain⟨a,b⟩:=qz j h hj
   rcases hq with⟨q1,q2⟩|⟨q1,q2⟩
   .obtain rfl:j=i:=by omega
    exact a q2
   .exact b q1 (i+1) q2
 .obtain rfl:i=code.length:=by omega
  show Wp ((idx D (code.length:Int)).bind _) _
  rw[kC (by omega),sG _ (alZ _),f.last];exact .some rfl
theorem Mi{st:List Nat}:∀{i:Nat}{l:List Nat},Ch st i l->∀(a:Nat),a<=l.length->∀k(h:k<(opsL st a i).length),Ch st ((opsL st a i)[k]+1) (l.take (l.length-a+k+1)):=by
 intro i l c
 induction c with
 |nil=>
  intro a ha k h
  obtain rfl:a=0:=by simpa using ha
  simp[opsL]at h
 | @snoc j s l h1 h2 c ih=>
   intro a ha k h
   cases a with
   |zero=>simp[opsL]at h
   |succ a=>
    have hg:st.getD (j+1-1) 0=s:=by simp[amn,h1]
    have e1:opsL st (a+1) (j+1)=opsL st a s++[j]:=by rw[opsL,hg];rfl
    rw[alY,al6]at ha⊢
    have hk:k<a+1:=by rw[dg]at h;exact h
    have e3:l.length+1-(a+1)+k+1=l.length-a+k+1:=by omega
    rw[e3];by_cases hka:k<a
    .have dZ:k<(opsL st a s).length:=by rw[dg];exact hka
     have:(opsL st (a+1) (j+1))[k]=(opsL st a s)[k]:=by
      simp only[e1];rw[al5 dZ]
     rw[this,aml (by omega)];exact ih a (by omega) k dZ
    .obtain rfl:k=a:=by omega
     have:(opsL st (k+1) (j+1))[k]=j:=by
      simp only[e1];rw[ame (by rw[dg];exact alZ _)];simp[dg]
     rw[this,show l.length-k+k+1=(l++[s]).length by rw[alY,al6];omega,amc];exact .snoc h1 h2 c
def Dd(st:List Nat)(i:Nat)(d:Int):Prop:=∃l,Ch st (i+1) l/\d+1<=l.length
theorem Dd.le{e:List Ty}{st:List Nat}(w:Whole e st){i:Nat}{d:Int}(hi:i<e.length)(h:Dd st i d):d+1<=12:=by
 obtain⟨l,c,hd⟩:=h;obtain⟨v1,l',v2,v3,v4,v5⟩:=w.val.node i hi;have:=(v2.next v1 v3 v5).O0 c;rw[<-this]at hd;simp at hd;omega
theorem Dd.op{e:List Ty}{st:List Nat}(w:Whole e st){i:Nat}{d d':Int}(hi:i<e.length)(h:Dd st i d){k:Nat}(hk:k<(opsL st (ar e[i].1).toNat i).length)(hd:d'<=d+k):Dd st (opsL st (ar e[i].1).toNat i)[k] d':=by
 obtain⟨l,c,hl⟩:=h;obtain⟨v1,l',v2,v3,v4,v5⟩:=w.val.node i hi;have hu:=(v2.next v1 v3 v5).O0 c;rw[<-hu]at hl;rw[alY,amd,al6]at hl
 have dZ:k<(ar e[i].1).toNat:=by rw[dg]at hk;exact hk
 refine⟨_,Mi v2 _ v3 k hk,?_⟩;rw[amd];omega
structure Pc(code:List Ty)(F:List Int)(b b':Nat)(d d':Int):Prop where
 le:b<=b'
 inn:gd F b=d
 out:gd F b'=d'
 bd:∀k,b<=k->k<=b'->0<=gd F k/\gd F k<=12
 step:∀j(h:j<code.length),b<=j->j<b'->jJ code.length F j code[j]/\¬bM code[j].1
 reach:∀k,b<k->k<=b'->∃j,∃h:j<code.length,j<k/\((j+1=k/\(code[j].1:Int)≠51)\/((50<=(code[j].1:Int)/\(code[j].1:Int)<=53)/\(code[j].2:Int)=k))
theorem Pc.I5{code:List Ty}{F:List Int}{b c c':Nat}{d d' d'':Int}(h:Pc code F b c d d')(h':Pc code F c c' d' d''):Pc code F b c' d d'':=by
 refine⟨Nat.le_trans h.le h'.le,h.inn,h'.out,fun k k1 k2=>?_,fun j hj j1 j2=>?_,fun k k1 k2=>?_⟩
 .by_cases hk:k<=c
  .exact h.bd k k1 hk
  .exact h'.bd k (by omega) k2
 .by_cases hk:j<c
  .exact h.step j hj j1 hk
  .exact h'.step j hj (by omega) j2
 .by_cases hk:k<=c
  .exact h.reach k k1 hk
  .exact h'.reach k (by omega) k2
def At(code:List Ty)(F:List Int)(b:Nat)(l:List (Ty×Int)):Prop:=∀k(h:k<l.length),code[b+k]? =some l[k].1/\gd F (b+k)=l[k].2
theorem At.left{code:List Ty}{F:List Int}{b:Nat}{l m:List (Ty×Int)}(h:At code F b (l++m)):At code F b l:=fun k hk=>by
 have:=h k (by rw[alY];omega);rw[al5 hk]at this;exact this
theorem At.right{code:List Ty}{F:List Int}{b:Nat}{l m:List (Ty×Int)}(h:At code F b (l++m)):At code F (b+l.length) m:=fun k hk=>by
 have:=h (l.length+k) (by rw[alY];omega);rw[ame (by omega)]at this;simp only[Nat.add_sub_cancel_left]at this;rw[am3];exact this
theorem At.head{code:List Ty}{F:List Int}{b:Nat}{x:Ty×Int}{m:List (Ty×Int)}(h:At code F b (x::m)):code[b]? =some x.1/\gd F b=x.2:=h 0 (by simp)
theorem At.tail{code:List Ty}{F:List Int}{b:Nat}{x:Ty×Int}{m:List (Ty×Int)}(h:At code F b (x::m)):At code F (b+1) m:=At.right (l:=[x]) h
theorem Pc.one{code:List Ty}{F:List Int}{b:Nat}{n:Ty}{a:Nat}{d:Int}(hn:code[b]? =some n)(ha:ar n.1=a)(Ji:¬bM n.1)(hj:¬(50<=(n.1:Int)/\(n.1:Int)<=53))(hb:gd F b=d+a)(qH:gd F (b+1)=d+1)(h0:0<=d)(QE:d+1<=12)(hda:d+a<=12):Pc code F b (b+1) (d+a) (d+1):=by
 obtain⟨hl,rfl⟩:=alW.1 hn;refine⟨by omega,hb,qH,fun k k1 k2=>?_,fun j h j1 j2=>?_,fun k k1 k2=>?_⟩
 .rcases(show k=b\/k=b+1 by omega)with rfl|rfl
  .omega
  .omega
 .obtain rfl:j=b:=by omega
  refine⟨.inr (.inr ⟨fun h=>hj (by rw[h];decide),fun h=>hj ?_,by omega,by omega,by omega,by omega⟩),Ji⟩
  rcases h with h|h|h<;>rw[h]<;>decide
 .obtain rfl:k=b+1:=by omega
  exact⟨b,hl,by omega, .inl ⟨rfl,fun h=>hj (by rw[h];decide)⟩⟩
theorem Pc.ins{code:List Ty}{F:List Int}{b:Nat}{n:Ty}{d d':Int}(hn:code[b]? =some n)(hb:gd F b=d)(qH:gd F (b+1)=d')(h:0<=d/\d<=12)(h':0<=d'/\d'<=12)(hs:jJ code.length F b n)(Ji:¬bM n.1)(hr:∃j,∃h:j<code.length,j<b+1/\((j+1=b+1/\(code[j].1:Int)≠51)\/((50<=(code[j].1:Int)/\(code[j].1:Int)<=53)/\(code[j].2:Int)=((b+1:Nat):Int)))):Pc code F b (b+1) d d':=by
 obtain⟨hl,rfl⟩:=alW.1 hn;refine⟨by omega,hb,qH,fun k k1 k2=>?_,fun j h j1 j2=>?_,fun k k1 k2=>?_⟩
 .rcases(show k=b\/k=b+1 by omega)with rfl|rfl
  .rw[hb];exact h
  .rw[qH];exact h'
 .obtain rfl:j=b:=by omega
  exact⟨hs,Ji⟩
 .obtain rfl:k=b+1:=by omega
  exact hr
theorem Mj{op:Int}(h:50<=op):ar op= -1:=by
 unfold ar;rw[if_neg (by omega),if_neg (by omega),if_neg (by omega),if_neg (by omega)]
theorem Pc.nil{code:List Ty}{F:List Int}{b:Nat}{d:Int}(hb:gd F b=d)(h:0<=d/\d<=12):Pc code F b b d d:=
 ⟨alZ _,hb,hb,fun k k1 k2=>by rw[show k=b by omega,hb];exact h,fun j _ j1 j2=>by omega,fun k k1 k2=>by omega⟩
theorem Mk{code:List Ty}{F:List Int}{g:Nat->Nat->Int->List (Ty×Int)}:∀(os:List Nat)(b:Nat)(d:Int),0<=d->d+os.length<=12->(∀(k:Nat)(hk:k<os.length)(b:Nat),At code F b (g os[k] b (d+k))->gd F (b+(g os[k] b (d+k)).length)=d+k+1->b+(g os[k] b (d+k)).length<=code.length->Pc code F b (b+(g os[k] b (d+k)).length) (d+k) (d+k+1))->At code F b (mX g os b d)->gd F (b+(mX g os b d).length)=d+os.length->b+(mX g os b d).length<=code.length->Pc code F b (b+(mX g os b d).length) d (d+os.length)
 |[],b,d,h0,QE,_,_,ho,_=>by
  simp only[mX,List.length_nil,am0]at ho QE⊢;simp at ho QE
  have:d+((0:Nat):Int)=d:=by omega
  rw[this];exact Pc.nil ho ⟨h0,QE⟩
 |o::os,b,d,h0,QE,hg,hA,ho,hl=>by
  rw[mX]at hA ho hl⊢;rw[alY]at ho hl⊢;rw[al9]at ho QE⊢
  have hr:=Mk os (b+(g o b d).length) (d+1) (by omega) (by omega) (fun k hk b'=>by
   have:=hg (k+1) (by rw[al9];omega) b';rw[show d+((k+1:Nat):Int)=d+1+(k:Int) by omega]at this
   exact this) hA.right (by rw[am3,ho];omega) (by omega)
  have hx:=hg 0 (by simp) b;simp only[List.getElem_cons_zero,show d+((0:Nat):Int)=d by omega]at hx;have:=(hx hA.left hr.inn (by omega)).I5 hr;rw[<-am3,show d+((os.length+1:Nat):Int)=d+1+(os.length:Int) by omega];exact this
theorem QF{code:List Ty}{F:List Int}{e:List Ty}{st:List Nat}(w:Whole e st):∀(f i b:Nat)(d:Int),i<f->i<e.length->0<=d->Dd st i d->At code F b (cg e st f i b d)->gd F (b+(cg e st f i b d).length)=d+1->b+(cg e st f i b d).length<=code.length->Pc code F b (b+(cg e st f i b d).length) d (d+1)
 |0,_,_,_,h,_,_,_,_,_,_=>by omega
 |f+1,i,b,d,hf,hi,h0,yv,hA,ho,hl=>by
  have ih:=QF (code:=code) (F:=F) w f;have QE:=yv.le w hi
  have hge:e.getD i ((0,0):Int×Int)=e[i]:=by simp only[amn,alV hi,amu]
  obtain⟨v1,_⟩:=w.val.node i hi
  have aj:∀o∈opsL st (ar e[i].1).toNat i,o<i:=fun o ho=>(w.val.ops hi o ho).1
  have gq:∀k(hk:k<(opsL st (ar e[i].1).toNat i).length)(d':Int),d'<=d+k->Dd st (opsL st (ar e[i].1).toNat i)[k] d':=fun k hk d' hd=>yv.op w hi hk hd
  have hlen:=dg st (ar e[i].1).toNat i;rw[cg,hge]at hA ho hl⊢;generalize opsL st (ar e[i].1).toNat i=os at*;by_cases DY:(e[i].1:Int)=23\/(e[i].1:Int)=24
  .rw[if_pos DY]at hA ho hl⊢
   have h2:(ar e[i].1).toNat=2:=by rcases DY with h|h<;>rw[h]<;>rfl
   obtain⟨o0,o1,rfl⟩:=Fg (l:=os) (by omega);have l0:=aj o0 (by simp);have l1:=aj o1 (by simp);have p0:=ih o0 b d (by omega) (by omega) h0 (gq 0 (by simp) d (by omega));unfold uJ at hA ho hl⊢;simp only[anb,anc]at hA ho hl⊢;generalize cg e st f o0 b d=g0 at*;have p1:=ih o1 (b+g0.length+1) d (by omega) (by omega) h0 (gq 1 (by simp) d (by omega));generalize cg e st f o1 (b+g0.length+1) d=g1 at*;rw[alY,al9]at ho hl⊢;have a0:=hA.left;have a1:=hA.right.head;have a2:=hA.right.tail
   have eE:b+(g0.length+(g1.length+1))=b+g0.length+1+g1.length:=by omega
   rw[eE]at ho hl⊢;have q1:=p1 a2 ho (by omega);have q0:=p0 a0 a1.2 (by omega)
   have zh:b+g0.length<code.length:=by omega
   have hx:(if(e[i].1:Int)=24 then(53:Int)else 52)=53\/(if(e[i].1:Int)=24 then(53:Int)else 52)=52:=by split<;>simp
   generalize(if(e[i].1:Int)=24 then(53:Int)else 52)=x at*;obtain⟨SG,a12⟩:=a1;dsimp only at SG a12;have hc:code[b+g0.length]=((x,((b+g0.length+1+g1.length:Nat):Int)):Int×Int):=(alW.1 SG).2;refine q0.I5 (Pc.I5 (Pc.ins SG a12 q1.inn ⟨by omega,by omega⟩ ⟨by omega,by omega⟩ ?_ ?_ ?_) q1)
   .refine .inr (.inl ⟨?_,by omega,by rw[q1.inn,a12];omega,b+g0.length+1+g1.length,rfl,by omega,by omega,?_⟩)
    .show x=50\/x=52\/x=53
     omega
    .show gd F (b+g0.length+1+g1.length)=if x=50 then _ else _
     rw[if_neg (by omega),ho,a12]
   .show¬bM x
    unfold bM;omega
   .refine⟨b+g0.length,zh,by omega, .inl ⟨rfl,?_⟩⟩;rw[hc]
    show x≠51
    omega
  rw[if_neg DY]at hA ho hl⊢;by_cases GM:(e[i].1:Int)=26
  .rw[if_pos GM]at hA ho hl⊢
   have h3:(ar e[i].1).toNat=3:=by rw[GM];rfl
   obtain⟨o0,o1,o2,rfl⟩:=Da (l:=os) (by omega);have l0:=aj o0 (by simp);have l1:=aj o1 (by simp);have l2:=aj o2 (by simp);have p0:=ih o0 b d (by omega) (by omega) h0 (gq 0 (by simp) d (by omega));unfold Dc at hA ho hl⊢;generalize hE:lS (cg e st f) [o0,o1,o2] b d=E at*;unfold lS at hE;simp only[anb,anc]at hA ho hl hE⊢;generalize cg e st f o0 b d=g0 at*;have p1:=ih o1 (b+g0.length+1) d (by omega) (by omega) h0 (gq 1 (by simp) d (by omega));generalize cg e st f o1 (b+g0.length+1) d=g1 at*;have p2:=ih o2 E d (by omega) (by omega) h0 (gq 2 (by simp) d (by omega));generalize cg e st f o2 E d=g2 at*;rw[alY,al9,alY,al9]at ho hl⊢
   have eE:b+(g0.length+(g1.length+(g2.length+1)+1))=E+g2.length:=by omega
   rw[eE]at ho hl⊢;have a0:=hA.left;obtain⟨SG,a12⟩:=hA.right.head;have a2:=hA.right.tail;have a3:=a2.left;obtain⟨a41,XM⟩:=a2.right.head;have a5:=a2.right.tail;rw[hE]at a5;dsimp only at SG a12 a41 XM;have q2:=p2 a5 ho hl;have q1:=p1 a3 XM (by omega);have q0:=p0 a0 a12 (by omega)
   have zh:b+g0.length<code.length:=by omega
   have ajI:b+g0.length+1+g1.length<code.length:=by omega
   have hc:code[b+g0.length]=((50,(E:Int)):Int×Int):=(alW.1 SG).2
   have j1:Pc code F (b+g0.length) (b+g0.length+1) (d+1) d:=by
    refine Pc.ins SG a12 q1.inn ⟨by omega,by omega⟩ ⟨by omega,by omega⟩ ?_ ?_ ?_
    .refine .inr (.inl ⟨.inl rfl,by omega,by rw[q1.inn,a12];omega,E,rfl,by omega,by omega,?_⟩)
     show gd F E=if(50:Int)=50 then _ else _
     rw[if_pos rfl,q2.inn,a12];omega
    .show¬bM (50:Int)
     unfold bM;omega
    .refine⟨b+g0.length,zh,by omega, .inl ⟨rfl,?_⟩⟩;rw[hc]
     show(50:Int)≠51
     decide
   have j2:Pc code F (b+g0.length+1+g1.length) (b+g0.length+1+g1.length+1) (d+1) d:=by
    refine Pc.ins a41 XM (by rw[hE];exact q2.inn) ⟨by omega,by omega⟩ ⟨by omega,by omega⟩ ?_ ?_ ?_
    .refine .inl ⟨rfl,E+g2.length,rfl,by omega,by omega,?_⟩;rw[ho,XM]
    .show¬bM (51:Int)
     unfold bM;omega
    .refine⟨b+g0.length,zh,by omega, .inr ⟨?_,?_⟩⟩
     .rw[hc];exact⟨(by decide:(50:Int)<=50),(by decide:(50:Int)<=53)⟩
     .rw[hc,hE]
   rw[hE]at j2;exact q0.I5 (j1.I5 (q1.I5 (j2.I5 q2)))
  rw[if_neg GM]at hA ho hl⊢;rw[alY,al6]at ho hl⊢
  obtain⟨a,ha⟩:∃a:Nat,ar e[i].1=a:=⟨(ar e[i].1).toNat,by omega⟩
  have han:(ar e[i].1).toNat=a:=by omega
  rw[han]at hA hlen
  have hj:¬(50<=(e[i].1:Int)/\(e[i].1:Int)<=53):=by
   intro h;have:=Mj h.1;omega
  obtain⟨b1,b2⟩:=hA.right.head;dsimp only at b1 b2
  have hda:d+a<=12:=by
   by_cases ha0:a=0
   .omega
   .have hk:a-1<os.length:=by omega
    have hm:=al0 hk;have:=(gq (a-1) hk (d+((a-1:Nat):Int)) (by omega)).le w (by have:=aj _ hm;omega);omega
  rw[<-am3]at ho hl⊢
  have hq:=Mk (code:=code) (F:=F) (g:=cg e st f) os b d h0 (by omega) (fun k hk b' K4 lD r9=>by
   have hm:=al0 hk;have Mh:=aj _ hm
   exact ih os[k] b' (d+k) (by omega) (by omega) (by omega) (gq k hk _ (am7 _)) K4 lD r9) hA.left (by rw[b2,hlen]) (by omega)
  rw[hlen]at hq
  have Ji:¬bM e[i].1:=by
   unfold bM;intro h
   rcases h with h|h|h
   .exact DY (.inl h)
   .exact DY (.inr h)
   .exact GM h
  exact hq.I5 (Pc.one b1 ha Ji hj b2 ho h0 (by omega) hda)
def jm(e:List Ty)(st:List Nat):List (Ty×Int):=cg e st e.length (e.length-1) 0 0
def xo(e:List Ty)(st:List Nat):List Int:=(jm e st).map Prod.snd++[1]
theorem Ml{e:List Ty}{st:List Nat}(w:Whole e st):FOK (ins (jm e st)) (xo e st):=by
 have hp:0<e.length:=List.length_pos_iff.2 w.ne;have hle:=w.le;have WK:(jm e st).length<=96:=Mg w (by omega);have TE:(ins (jm e st)).length=(jm e st).length:=amm ..
 have hld:(xo e st).length=(jm e st).length+1:=by unfold xo;simp
 have hA:At (ins (jm e st)) (xo e st) 0 (jm e st):=fun k hk=>by
  rw[amo];refine⟨by simp[ins,hk],?_⟩;unfold gd amn xo;rw[amq (by simpa using hk)];simp[hk]
 have ho:gd (xo e st) (0+(jm e st).length)=0+1:=by
  rw[amo];unfold gd amn xo;rw[amH (by simp)];simp
 have room:Dd st (e.length-1) 0:=by
  obtain⟨v1,l,v2,v3,v4,v5⟩:=w.val.node (e.length-1) (by omega);exact⟨_,v2.next v1 v3 v5,by simp;omega⟩
 have p:Pc (ins (jm e st)) (xo e st) 0 (0+(jm e st).length) 0 (0+1):=QF w e.length (e.length-1) 0 0 (by omega) (by omega) (by omega) room hA ho (by rw[TE];exact Nat.le_of_eq (amo _));rw[amo]at p
 have bR:0<(jm e st).length:=by
  rcases Nat.eq_zero_or_pos (jm e st).length with h|h
  .have a:=p.inn;have b:=p.out;rw[h]at b;omega
  .exact h
 rw[<-TE]at p;exact⟨by omega,by omega,by omega,fun k hk=>p.bd k (amj _) hk,p.inn,p.out,fun j h=>p.step j h (amj _) h,fun k k1 k2=>p.reach k k1 k2⟩
end L.P
end Go.Proofs.YtmihpkfkbfgigaaGreatDoor
end
section
open _root_.List renaming mem_cons->amg
open _root_.Option renaming bind_some->alS
namespace Go.Proofs.YtmihpkfkbfgigaaGreatDoor
open Go Go.RowKit
set_option maxRecDepth 100000
namespace L.P
def ua:List Vl->List Ty->Prop
 |[],[]=>True
 |v::vs,t::ts=>jR v t/\ua vs ts
 |[],_::_=>False
 |_::_,[]=>False
theorem ua.len:∀{vs:List Vl}{ts:List Ty},ua vs ts->vs.length=ts.length
 |[],[],_=>rfl
 |_::_,_::_,h=>by simp[ua.len h.2]
 |[],_::_,h=>h.elim
 |_::_,[],h=>h.elim
theorem ua.pl:∀{vs:List Vl}{ts:List Ty},ua vs ts->∀v∈vs,dp v.1 v.2.1 v.2.2
 |[],[],_,v,h=>by simp at h
 |w::vs,t::ts,h,v,hv=>by
  rcases amg.1 hv with rfl|hv
  .exact h.1.1
  .exact ua.pl h.2 v hv
 |[],_::_,h,_,_=>h.elim
 |_::_,[],h,_,_=>h.elim
theorem GS{vs:List Vl}{a:Ty}(h:ua vs [a]):∃v,vs=[v]/\jR v a:=by
 match vs,h with
 |[v],h=>exact⟨v,rfl,h.1⟩
theorem oZ{vs:List Vl}{a b:Ty}(h:ua vs [a,b]):∃v w,vs=[v,w]/\jR v a/\jR w b:=by
 match vs,h with
 |[v,w],h=>exact⟨v,w,rfl,h.1,h.2.1⟩
theorem WM{vs:List Vl}{a b c:Ty}(h:ua vs [a,b,c]):∃v w x,vs=[v,w,x]/\jR v a/\jR w b/\jR x c:=by
 match vs,h with
 |[v,w,x],h=>exact⟨v,w,x,rfl,h.1,h.2.1,h.2.2.1⟩
def DZ(op:Int):Prop:=10<=op/\op<=32
theorem TP{op:Int}(h:DZ op):¬op=7/\¬op=8/\¬op=33/\¬op=34/\¬(op=36\/op=37\/op=38\/op=39)/\¬(op=1\/op=2\/op=3\/op=4\/op=5)/\¬op=6/\¬op=9/\¬op=35:=by unfold DZ at h;omega
theorem Mm{N:Nat}{op m:Int}{v:Vl}{env:cz.den}(h:DZ op):M.bx N (op,m) [v] env=M.cP N op v.1:=by
 obtain⟨h1,h2,h3,h4,h5,_⟩:=TP h;unfold M.bx;dsimp only[ae,Row.den];rw[qB,decide_eq_false h1,decide_eq_false h2,decide_eq_false h3,decide_eq_false h4,decide_eq_false h5];simp[mR]
theorem De{N:Nat}{op m:Int}{v w:Vl}{env:cz.den}(h:DZ op):M.bx N (op,m) [v,w] env=M.cW N op v w:=by
 obtain⟨h1,h2,h3,h4,h5,_⟩:=TP h;unfold M.bx;dsimp only[ae,Row.den];rw[qB,decide_eq_false h1,decide_eq_false h2,decide_eq_false h3,decide_eq_false h4,decide_eq_false h5];simp[mR,sI]
theorem Mo{N:Nat}{op m:Int}{v w x:Vl}{env:cz.den}(h:DZ op)(hv:(v.1:Int)=1):M.bx N (op,m) [v,w,x] env=M.du N w x:=by
 obtain⟨h1,h2,h3,h4,h5,_⟩:=TP h;unfold M.bx;dsimp only[ae,Row.den];rw[qB,decide_eq_false h1,decide_eq_false h2,decide_eq_false h3,decide_eq_false h4,decide_eq_false h5];simp[mR,sI,SD,hv]
theorem Mp{N:Nat}{op m:Int}{v:Vl}{env:cz.den}(h:DZ op):M.bD N (op,m) [v] env=(M.kw N op v).bind fun y=>some (y,(0:Int)):=by
 obtain⟨h1,h2,h3,h4,h5,h6,h7,h8,h9⟩:=TP h;unfold M.bD;dsimp only[ae,Row.den];rw[CX,qB,decide_eq_false h1,decide_eq_false h2,decide_eq_false h3,decide_eq_false h4,decide_eq_false h5,decide_eq_false h6,decide_eq_false h7,decide_eq_false h8,decide_eq_false h9];simp[mR]
theorem Df{N:Nat}{op m:Int}{v w:Vl}{env:cz.den}(h:DZ op):M.bD N (op,m) [v,w] env=(M.fX N (op,m) v w).bind fun y=>some (y.1,y.2):=by
 obtain⟨h1,h2,h3,h4,h5,h6,h7,h8,h9⟩:=TP h;unfold M.bD;dsimp only[ae,Row.den];rw[CX,qB,decide_eq_false h1,decide_eq_false h2,decide_eq_false h3,decide_eq_false h4,decide_eq_false h5,decide_eq_false h6,decide_eq_false h7,decide_eq_false h8,decide_eq_false h9];simp[mR,sI]
theorem Mq{N:Nat}{op m:Int}{v w x:Vl}{env:cz.den}(h:DZ op):M.bD N (op,m) [v,w,x] env=if(v.2.2:Int)=1 then some (w,(0:Int))else some (x,(0:Int)):=by
 obtain⟨h1,h2,h3,h4,h5,h6,h7,h8,h9⟩:=TP h;unfold M.bD;dsimp only[ae,Row.den];rw[CX,qB,decide_eq_false h1,decide_eq_false h2,decide_eq_false h3,decide_eq_false h4,decide_eq_false h5,decide_eq_false h6,decide_eq_false h7,decide_eq_false h8,decide_eq_false h9];simp[mR,sI,SD]
theorem lr(N:Nat)(b:Bool):Wp (M.dK N b) fun y=>(y.1:Int)=1/\(y.2.1:Int)=0:=by
 unfold M.dK
 exact Wp.ite (fun _=> .some ⟨rfl,rfl⟩) fun _=> .some ⟨rfl,rfl⟩
theorem Mr(op:Int)(a:Vl):Wp (M.kw aB op a) fun y=>(y.2.1:Int)=0/\(op=10->(y.1:Int)=a.1)/\(op=25->(y.1:Int)=1)/\(op=31\/op=32->(y.1:Int)=2):=by
 unfold M.kw
 refine Wp.dec (fun h=> .some ⟨rfl,fun _=>rfl,fun g=>by omega,fun g=>by omega⟩) fun h=>?_
 refine Wp.dec (fun h=>Wp.seq _ (lr ..) fun y hy=> .some ⟨hy.2,fun g=>by omega,fun _=>hy.1,fun g=>by omega⟩) fun h'=>?_
 refine Wp.seq _ (pH ..) fun y _=>?_
 exact Wp.dec (fun _=> .some ⟨rfl,fun g=>absurd g h,fun g=>absurd g h',fun _=>rfl⟩) fun _=> .some ⟨rfl,fun g=>absurd g h,fun g=>absurd g h',fun _=>rfl⟩
theorem Jk{op m:Int}{a b:Vl}(hm:op=14\/op=15\/op=16->0<=m/\m<=5)(gq:13<=op/\op<=16):Wp (M.kJ aB (op,m) a b) fun r=>Cd r.2/\(r.1.2.1:Int)=0/\(r.1.1:Int)=if op=15/\¬(b.1:Int)=2 then 4 else a.1:=by
 unfold M.kJ;dsimp only[ae,Row.den]
 refine Wp.seq (fun j=>Cd j.1/\(j.2.2.1:Int)=0/\(j.2.1:Int)=if op=15/\¬(b.1:Int)=2 then 4 else a.1) ?_ fun j hj=> .some hj
 refine Wp.dec (fun h=>Wp.seq _ (xf ..) fun r hr=> .some ⟨hr,rfl,by rw[if_neg (by omega)]⟩) fun U0=>?_
 have Bk:=hm (by omega);simp only[aF,alS,mG]
 refine Wp.ite (fun h=>Wp.seq _ (zt Bk) fun r hr=> .some ⟨hr,rfl,by rw[if_neg (by simp at h;omega)]⟩) fun _=>?_
 refine Wp.dec (fun h=>Wp.seq _ (GK Bk) fun r hr=> .some ⟨hr,rfl,by rw[if_neg (by omega)]⟩) fun Db=>?_
 refine Wp.dec (fun h=>Wp.seq _ (xc Bk) fun r hr=> .some ⟨hr,rfl,by rw[if_neg (by omega)]⟩) fun WN=>?_
 refine Wp.dec (fun h=>Wp.seq _ (mn _ Bk) fun r hr=> .some ⟨hr,rfl,by rw[if_neg (fun g=>g.2 h)]⟩) fun h2=>?_
 exact Wp.seq _ (sE Bk) fun r hr=> .some ⟨hr,rfl,by rw[if_pos ⟨by omega,h2⟩]⟩
def bk(op p q:Int):Int:=
 if op=15/\¬q=2 then 4 else if op=11\/op=27\/op=12\/(13<=op/\op<=16)then p else if 19<=op/\op<=24 then 1 else if op=28 then 5 else 2
theorem O7{op p q:Int}(h:op=11\/op=27\/op=12):bk op p q=p:=by unfold bk;rw[if_neg (by omega),if_pos (by omega)]
theorem Jl{op p q:Int}(h:13<=op/\op<=16):bk op p q=if op=15/\¬q=2 then 4 else p:=by unfold bk;rw[if_pos (c:=op=11\/op=27\/op=12\/(13<=op/\op<=16)) (by omega)]
theorem AS{op p q:Int}(h:19<=op/\op<=24):bk op p q=1:=by unfold bk;rw[if_neg (by omega),if_neg (by omega),if_pos h]
theorem WO{op p q:Int}(h:op=28):bk op p q=5:=by unfold bk;rw[if_neg (by omega),if_neg (by omega),if_neg (by omega),if_pos h]
theorem SH{op p q:Int}(h:op=29\/op=30):bk op p q=2:=by unfold bk;rw[if_neg (by omega),if_neg (by omega),if_neg (by omega),if_neg (by omega)]
theorem Jm{op m:Int}{a b:Vl}(hm:op=14\/op=15\/op=16->0<=m/\m<=5)(gq:¬(op=17\/op=18))(Yn:11<=op/\op<=30/\¬op=25/\¬op=26):Wp (M.fX aB (op,m) a b) fun r=>Cd r.2/\(r.1.2.1:Int)=0/\(r.1.1:Int)=bk op a.1 b.1:=by
 unfold M.fX;dsimp only[ae,Row.den];rw[o9,qB,o9];simp only[alS]
 refine Wp.dec (fun h=> .some ⟨zp 0,rfl,(O7 (by omega)).symm⟩) fun _=>?_
 refine Wp.dec (fun h=> .some ⟨zp 0,rfl,(O7 (by omega)).symm⟩) fun _=>?_
 refine Wp.dec (fun h=>Wp.seq _ (Jk hm (by omega)) fun r hr=> .some ⟨hr.1,hr.2.1,hr.2.2.trans (Jl (by omega)).symm⟩) fun _=>?_
 refine Wp.dec (fun h=>absurd h gq) fun _=>?_
 refine Wp.dec (fun h=>Wp.seq _ (lr ..) fun y hy=> .some ⟨zp 0,hy.2,hy.1.trans (AS (by omega)).symm⟩) fun _=>?_
 refine Wp.dec (fun h=>Wp.seq _ (lr ..) fun y hy=> .some ⟨zp 0,hy.2,hy.1.trans (AS (by omega)).symm⟩) fun _=>?_
 refine Wp.dec (fun h=>Wp.seq _ (lr ..) fun y hy=> .some ⟨zp 0,hy.2,hy.1.trans (AS (by omega)).symm⟩) fun _=>?_
 refine Wp.dec (fun h=>Wp.seq _ (lr ..) fun y hy=> .some ⟨zp 0,hy.2,hy.1.trans (AS (by omega)).symm⟩) fun _=>?_
 refine Wp.dec (fun h=>Wp.seq (fun j:Int×Vl=>j.1=0/\(j.2.1:Int)=1/\(j.2.2.1:Int)=0) (Wp.dec (fun _=>Wp.seq _ (lr ..) fun _ hy=> .some ⟨rfl,hy⟩) fun _=>Wp.seq _ (lr ..) fun _ hy=> .some ⟨rfl,hy⟩) fun j hj=> .some ⟨.inl hj.1,hj.2.2,hj.2.1.trans (AS (by omega)).symm⟩) fun _=>?_
 refine Wp.dec (fun h=>Wp.seq (fun j:Int×Vl=>j.1=0/\(j.2.1:Int)=1/\(j.2.2.1:Int)=0) (Wp.dec (fun _=>Wp.seq _ (lr ..) fun _ hy=> .some ⟨rfl,hy⟩) fun _=>Wp.seq _ (lr ..) fun _ hy=> .some ⟨rfl,hy⟩) fun j hj=> .some ⟨.inl hj.1,hj.2.2,hj.2.1.trans (AS (by omega)).symm⟩) fun _=>?_
 refine Wp.dec (fun h=>Wp.seq _ (oN ..) fun r hr=> .some ⟨hr,rfl,(WO h).symm⟩) fun h28=>?_
 refine Wp.dec (fun h=> .some ⟨zp 0,rfl,(SH (by omega)).symm⟩) fun h29=>?_
 exact Wp.seq _ (oY ..) fun r _=> .some ⟨zp 0,rfl,(SH (by omega)).symm⟩
theorem Jn{op m:Int}{a b:Vl}(gq:op=17\/op=18):Wp (M.fX aB (op,m) a b) fun r=>r.2=0/\(r.1=a\/r.1=b):=by
 unfold M.fX;dsimp only[ae,Row.den];rw[o9,qB,o9];simp only[alS]
 refine Wp.dec (fun h=>by omega) fun _=>?_
 refine Wp.dec (fun h=>by omega) fun _=>?_
 refine Wp.dec (fun h=>by omega) fun _=>?_
 refine Wp.dec (fun h=>?_) fun h=>absurd gq h
 exact Wp.ite (fun _=> .some ⟨rfl, .inr rfl⟩) fun _=> .some ⟨rfl, .inl rfl⟩
def C3(c:Int):Prop:=c=0\/c=3\/c=6\/c=12
theorem Cd.c3{c:Int}(h:Cd c):C3 c:=by unfold Cd at h;unfold C3;omega
def Mt(t:Ty)(y:Vl×Int):Prop:=C3 y.2/\(y.2=0->(y.1.1:Int)=t.1/\(y.1.2.1:Int)=t.2)
theorem Dg{v:Vl}{a:Ty}(h:jR v a)(h6:(a.1:Int)≠6):(a.2:Int)=0:=by
 obtain⟨(k:Int),(e:Int),(n:Int)⟩:=v;obtain⟨(p:Int),(q:Int)⟩:=a;obtain⟨h1,h2,h3⟩:=h;dsimp only[ae,Row.den]at*;unfold dp at h1;omega
theorem GU(N:Nat)(v w:Vl):M.du N v w=some (decide ((v.1:Int)=w.1/\(v.2.1:Int)=w.2.1)):=by
 unfold M.du;by_cases h:(v.1:Int)=w.1
 .simp[h]
 .simp[h]
theorem vc{op:Int}{v w:Vl}{a b:Ty}(hv:jR v a)(hw:jR w b)
 (h:((op=11\/op=12)/\a=b/\GO a.1)\/(op=13/\(b.1:Int)=2/\((a.1:Int)=2\/(a.1:Int)=3))\/(op=14/\(b.1:Int)=4/\((a.1:Int)=3\/(a.1:Int)=4))\/(op=15/\(((b.1:Int)=2/\((a.1:Int)=2\/(a.1:Int)=3))\/((a.1:Int)=3/\(b.1:Int)=3)))\/(op=16/\(a.1:Int)=3/\(b.1:Int)=3)\/((op=17\/op=18\/op=21\/op=22)/\a=b/\(GO a.1\/(a.1:Int)=5))\/((op=19\/op=20)/\a=b)\/((op=23\/op=24)/\(a.1:Int)=1/\(b.1:Int)=1)\/((op=27\/op=28)/\(a.1:Int)=5/\(b.1:Int)=2)\/((op=29\/op=30)/\(a.1:Int)=5/\(b.1:Int)=5)):M.cW aB op v w=some true:=by
 obtain⟨(k:Int),(e:Int),(n:Int)⟩:=v;obtain⟨(k':Int),(e':Int),(n':Int)⟩:=w;obtain⟨(p:Int),(q:Int)⟩:=a;obtain⟨(p':Int),(q':Int)⟩:=b;obtain⟨_,h2,h3⟩:=hv;obtain⟨_,h5,h6⟩:=hw;dsimp only[ae,Row.den]at*;subst h2 h3 h5 h6;unfold M.cW;dsimp only[ae,Row.den];simp only[GU,ml]
 rcases h with⟨ho,we,hn⟩|⟨ho,hb,ha⟩|⟨ho,hb,ha⟩|⟨ho,⟨hb,ha⟩|⟨ha,hb⟩⟩|⟨ho,ha,hb⟩|⟨ho,we,hn⟩|⟨ho,we⟩|⟨ho,ha,hb⟩|⟨ho,ha,hb⟩|⟨ho,ha,hb⟩
 .obtain⟨rfl,rfl⟩:k=k'/\e=e':=by simpa using we
  rcases ho with rfl|rfl<;>rcases hn with rfl|rfl|rfl<;>simp
 .subst ho hb;rcases ha with rfl|rfl<;>simp
 .subst ho hb;rcases ha with rfl|rfl<;>simp
 .subst ho hb;rcases ha with rfl|rfl<;>simp
 .subst ho hb ha;simp
 .subst ho hb ha;simp
 .obtain⟨rfl,rfl⟩:k=k'/\e=e':=by simpa using we
  rcases ho with rfl|rfl|rfl|rfl<;>rcases hn with(rfl|rfl|rfl)|rfl<;>simp
 .obtain⟨rfl,rfl⟩:k=k'/\e=e':=by simpa using we
  rcases ho with rfl|rfl<;>simp
 .subst hb ha;rcases ho with rfl|rfl<;>simp
 .subst hb ha;rcases ho with rfl|rfl<;>simp
 .subst hb ha;rcases ho with rfl|rfl<;>simp
theorem Mu{op m:Int}{ts:List Ty}{t:Ty}{args:List Vl}{env:cz.den}(hm:op=14\/op=15\/op=16->0<=m/\m<=5)(h:RT op ts t)(ha:ua args ts):Wp (M.bx aB (op,m) args env) (· =true)/\Wp (M.bD aB (op,m) args env) (Mt t):=by
 have c0:C3 0:= .inl rfl
 have un:∀{v:Vl}{a:Ty},DZ op->jR v a->M.cP aB op a.1=some true->(∀y:Vl,(y.2.1:Int)=0/\(op=10->(y.1:Int)=v.1)/\(op=25->(y.1:Int)=1)/\(op=31\/op=32->(y.1:Int)=2)->(y.1:Int)=t.1/\(y.2.1:Int)=t.2)->Wp (M.bx aB (op,m) [v] env) (· =true)/\Wp (M.bD aB (op,m) [v] env) (Mt t):=by
  intro v a hp hv h1 h2;rw[Mm hp,Mp hp,show v.1=a.1 from hv.2.1,h1];exact⟨.some rfl,Wp.seq _ (Mr ..) fun y hy=> .some ⟨c0,fun _=>h2 y hy⟩⟩
 have bin:∀{v w:Vl}{a b:Ty},DZ op->jR v a->jR w b->¬(op=17\/op=18)->(11<=op/\op<=30/\¬op=25/\¬op=26)->M.cW aB op v w=some true->(t.2:Int)=0->bk op a.1 b.1=t.1->Wp (M.bx aB (op,m) [v,w] env) (· =true)/\Wp (M.bD aB (op,m) [v,w] env) (Mt t):=by
  intro v w a b hp hv hw h17 Yn h1 h2 h3;rw[De hp,Df hp,h1];refine⟨.some rfl,Wp.seq _ (Jm hm h17 Yn) fun y hy=> .some ⟨hy.1.c3,fun _=>⟨?_,hy.2.1.trans h2.symm⟩⟩⟩;rw[<-h3,<-show v.1=a.1 from hv.2.1,<-show w.1=b.1 from hw.2.1];exact hy.2.2
 have p:10<=op/\op<=32->DZ op:=fun h=>h
 rcases h with⟨ho,a,rfl,hn,rfl⟩|⟨ho,a,rfl,hn,rfl⟩|⟨ho,a,rfl,hn,rfl⟩|⟨ho,a,rfl,hn,rfl⟩|⟨ho,a,b,rfl,hb,hk,rfl⟩|⟨ho,a,b,rfl,hb,hk,rfl⟩|⟨ho,a,b,rfl,⟨hb,hk,rfl⟩|⟨hk,hb,rfl⟩⟩|⟨ho,a,b,rfl,hk,hb,rfl⟩|⟨ho,a,rfl,hn,rfl⟩|⟨ho,a,rfl,rfl⟩|⟨ho,a,rfl,hn,rfl⟩|⟨ho,a,b,rfl,hk,hb,rfl⟩|⟨ho,a,b,rfl,hk,rfl⟩|⟨ho,a,b,rfl,hk,hb,rfl⟩|⟨ho,a,b,rfl,hk,hb,rfl⟩
 .obtain⟨v,rfl,hv⟩:=GS ha
  refine un (p (by omega)) hv ?_ fun y hy=>⟨(hy.2.1 ho).trans hv.2.1,hy.1.trans (Dg hv (by rcases hn with h|h|h<;>rw[h]<;>decide)).symm⟩
  subst ho;unfold M.cP;rw[ml]
  rcases hn with h|h|h<;>rw[h]<;>simp
 .obtain⟨v,rfl,hv⟩:=GS ha
  refine un (p (by omega)) hv ?_ fun y hy=>⟨hy.2.2.1 ho,hy.1⟩
  subst ho;unfold M.cP;rw[hn];simp
 .obtain⟨v,rfl,hv⟩:=GS ha
  refine un (p (by omega)) hv ?_ fun y hy=>⟨hy.2.2.2 ho,hy.1⟩
  unfold M.cP;rw[hn]
  rcases ho with rfl|rfl<;>simp
 .obtain⟨v,w,rfl,hv,hw⟩:=oZ ha;exact bin (p (by omega)) hv hw (by omega) (by omega) (vc hv hw (.inl ⟨ho,rfl,hn⟩)) (Dg hv (by rcases hn with h|h|h<;>rw[h]<;>decide)) (O7 (by omega))
 .obtain⟨v,w,rfl,hv,hw⟩:=oZ ha;exact bin (p (by omega)) hv hw (by omega) (by omega) (vc hv hw (.inr (.inl ⟨ho,hb,hk⟩))) rfl (by rw[Jl (by omega),if_neg (by omega)])
 .obtain⟨v,w,rfl,hv,hw⟩:=oZ ha;exact bin (p (by omega)) hv hw (by omega) (by omega) (vc hv hw (.inr (.inr (.inl ⟨ho,hb,hk⟩)))) rfl (by rw[Jl (by omega),if_neg (by omega)])
 .obtain⟨v,w,rfl,hv,hw⟩:=oZ ha;exact bin (p (by omega)) hv hw (by omega) (by omega) (vc hv hw (.inr (.inr (.inr (.inl ⟨ho, .inl ⟨hb,hk⟩⟩))))) rfl (by rw[Jl (by omega),if_neg (fun h=>h.2 hb)])
 .obtain⟨v,w,rfl,hv,hw⟩:=oZ ha;exact bin (p (by omega)) hv hw (by omega) (by omega) (vc hv hw (.inr (.inr (.inr (.inl ⟨ho, .inr ⟨hk,hb⟩⟩))))) rfl (by rw[Jl (by omega),if_pos ⟨ho,by rw[hb];decide⟩])
 .obtain⟨v,w,rfl,hv,hw⟩:=oZ ha;exact bin (p (by omega)) hv hw (by omega) (by omega) (vc hv hw (.inr (.inr (.inr (.inr (.inl ⟨ho,hk,hb⟩)))))) (Dg hv (by rw[hk];decide)) (by rw[Jl (by omega),if_neg (by omega)])
 .obtain⟨v,w,rfl,hv,hw⟩:=oZ ha;have hp:DZ op:=p (by omega);rw[De hp,Df hp,vc hv hw (.inr (.inr (.inr (.inr (.inr (.inl ⟨by omega,rfl,hn⟩))))))];refine⟨.some rfl,Wp.seq _ (Jn ho) fun y hy=> .some ⟨.inl hy.1,fun _=>?_⟩⟩
  rcases hy.2 with h|h<;>simp only[h]
  .exact hv.2
  .exact hw.2
 .obtain⟨v,w,rfl,hv,hw⟩:=oZ ha;exact bin (p (by omega)) hv hw (by omega) (by omega) (vc hv hw (.inr (.inr (.inr (.inr (.inr (.inr (.inl ⟨ho,rfl⟩)))))))) rfl (AS (by omega))
 .obtain⟨v,w,rfl,hv,hw⟩:=oZ ha;exact bin (p (by omega)) hv hw (by omega) (by omega) (vc hv hw (.inr (.inr (.inr (.inr (.inr (.inl ⟨by omega,rfl,hn⟩))))))) rfl (AS (by omega))
 .obtain⟨v,w,rfl,hv,hw⟩:=oZ ha;exact bin (p (by omega)) hv hw (by omega) (by omega) (vc hv hw (.inr (.inr (.inr (.inr (.inr (.inr (.inr (.inl ⟨ho,hk,hb⟩))))))))) rfl (AS (by omega))
 .obtain⟨v,w,x,rfl,hv,hw,hx⟩:=WM ha;have hp:DZ op:=p (by omega);rw[Mo hp (hv.2.1.trans hk),Mq hp,GU];refine⟨.some ?_,Wp.ite (fun _=> .some ⟨c0,fun _=>hw.2⟩) fun _=> .some ⟨c0,fun _=>hx.2⟩⟩;exact decide_eq_true ⟨hw.2.1.trans hx.2.1.symm,hw.2.2.trans hx.2.2.symm⟩
 .obtain⟨v,w,rfl,hv,hw⟩:=oZ ha;refine bin (p (by omega)) hv hw (by omega) (by omega) (vc hv hw (.inr (.inr (.inr (.inr (.inr (.inr (.inr (.inr (.inl ⟨ho,hk,hb⟩)))))))))) (Dg hv (by rw[hk];decide)) ?_
  rcases ho with h|h
  .exact O7 (by omega)
  .rw[WO h];exact hk.symm
 .obtain⟨v,w,rfl,hv,hw⟩:=oZ ha;exact bin (p (by omega)) hv hw (by omega) (by omega) (vc hv hw (.inr (.inr (.inr (.inr (.inr (.inr (.inr (.inr (.inr ⟨ho,hk,hb⟩)))))))))) rfl (SH ho)
end L.P
end Go.Proofs.YtmihpkfkbfgigaaGreatDoor
end
section
open _root_.Bool renaming false_eq_true->al2,not_true->am4
open _root_.Int renaming tdiv->amh,tmod->amy
open _root_.Go.IntKind renaming i64->alT
open _root_.List renaming getElem?_eq_some_iff->alW,getElem_mem->al0,length_eq_zero_iff->am1,mem_cons_self->amQ,mem_of_getElem?->amM
open _root_.Nat renaming zero_le->amj
open _root_.Option renaming bind_some->alS
namespace Go.Proofs.YtmihpkfkbfgigaaGreatDoor
open Go Go.RowKit
set_option maxRecDepth 100000
namespace L.P
structure SI(s:Sg)(env:cz.den):Prop where
 inp:∀(k:Nat)(t:Ty),s.2.2.1[k]? =some t->∃v,env.2.1[k]? =some v/\jR v t
 dfs:∀(k:Nat)(t:Ty),s.2.2.2.1[k]? =some t->∃v,env.2.2.1[k]? =some v/\(jR v t\/(v.1:Int)=0)
 mts:∀(k:Nat)(t:Ty),s.2.2.2.2.1[k]? =some t->env.2.2.2.2.1[k]? =some t
 mem:∀l∈env.2.2.2.1,∀(k:Nat)(t:Ty),s.2.2.2.2.1[k]? =some t->∃v,l[k]? =some v/\(jR v t\/(v.1:Int)=0)
 tbs:∀(k:Nat)(T:av.den),s.2.1[k]? =some T->∃T':av.den,env.2.2.2.2.2[k]? =some T'/\T'.2.1=T.2.1/\T'.2.2.1=T.2.2.1
def mo(t:Ty)(r:Vl×Int):Prop:=C3 r.2/\(r.2=0->jR r.1 t)
theorem Fk{l:List Vl}(hl:l.length<=100000)(h:∀v∈l,dp v.1 v.2.1 v.2.2):M.dm aB l=some true:=by
 apply Wp.eq;unfold M.dm;refine Wp.loop (fun s:Int=>∃i:Nat,s=i/\i<=l.length) (fun s=>(l.length-s).toNat) ⟨0,rfl,amj _⟩ (by unfold aB;omega) ?_
 rintro _ ⟨i,rfl,hi⟩
 refine Wp.dec (fun aj=>?_) fun _=> .some rfl
 have gr:i<l.length:=by omega
 rw[ah gr];simp only[alS,dc];rw[decide_eq_true (h _ (al0 gr))];simp only[am4,al2,if_false];rw[aD (by omega)];exact .some ⟨⟨i+1,rfl,gr⟩,by simp only;omega⟩
theorem Dh{op m:Int}(h0:0<=ar op)(hu:m=0\/us op)(Db:op=14\/op=15\/op=16->0<=m/\m<=5)(sY:op=34->0<=m/\amy m 8<=5)(h6:op=6->0<=m):M.cY aB (op,m)=some true:=by
 apply Wp.eq;unfold M.cY;dsimp only[ae,Row.den];rw[cJ,vb];simp only[alS,aF,mG]
 refine Wp.seq (· =false) ?_ fun j hj=>?_
 .refine Wp.dec (fun h=>by omega) fun _=>?_
  refine Wp.jz (fun h=>Wp.seq _ (GN ..) fun y hy=> .some ?_) fun _=> .some rfl
  have:y=true:=hy.2 (hu.resolve_left h);rw[this];rfl
 .subst hj;simp only[al2,if_false];refine .some ?_;by_cases c14:op=14\/op=15\/op=16
  .have:=Db c14;rw[if_pos (by simpa using c14)];simpa using this
  rw[if_neg (by simpa using c14)];by_cases c34:op=34
  .have:=sY c34;rw[if_pos (by simpa using c34)];simpa using this
  rw[if_neg (by simpa using c34)];by_cases c6:op=6
  .have:=h6 c6;rw[if_pos (by simpa using c6)];simpa using this
  rw[if_neg (by simpa using c6)]
theorem qU{op m:Int}{args:List Vl}{env:cz.den}{t:Ty}(Jf:M.cY aB (op,m)=some true)(ha:(args.length:Int)=ar op)(q9:∀v∈args,dp v.1 v.2.1 v.2.2)(hx:Wp (M.dQ aB (op,m) env) fun x=>x=true->Wp (M.bx aB (op,m) args env) (· =true)/\Wp (M.bD aB (op,m) args env) (Mt t)):Wp (M.bL aB (op,m) args env) (mo t):=by
 have Jd:=kK op;unfold M.bL;dsimp only[ae,Row.den];rw[Jf];simp only[alS,cJ,am4,al2,if_false];rw[decide_eq_true ha];simp only[am4,al2,if_false]
 refine Wp.seq _ hx fun x hx=>?_
 refine Wp.ite (fun _=> .some ⟨.inr (.inr (.inl rfl)),fun h=>by cases h⟩) fun hc=>?_
 obtain⟨h1,h2⟩:=hx (by simpa using hc);rw[Fk (by omega) q9,Wp.eq h1];simp only[alS,am4,al2,if_false]
 refine Wp.seq _ h2 fun y hy=>?_
 refine Wp.jz (fun h=> .some ⟨hy.1,fun g=>absurd g h⟩) fun h=>?_
 rw[dc];simp only[alS]
 exact Wp.jz (fun _=> .some ⟨.inr (.inl rfl),fun h=>by cases h⟩) fun hp=> .some ⟨.inl rfl,fun _=>⟨hp,hy.2 h⟩⟩
theorem sJ{N:Nat}{op m:Int}{env:cz.den}(h1:¬op=7)(h2:¬op=8)(h3:¬op=33)(h4:¬op=34)(h5:¬(op=36\/op=37\/op=38\/op=39)):M.bx N (op,m) [] env=some true:=by
 unfold M.bx;dsimp only[ae,Row.den];rw[qB,decide_eq_false h1,decide_eq_false h2,decide_eq_false h3,decide_eq_false h4,decide_eq_false h5];rfl
theorem nS{α:Type}{l:List α}{k:Nat}{x:α}(h:l[k]? =some x):idx l (k:Int)=some x:=by
 obtain⟨hk,rfl⟩:=alW.1 h;exact ah hk
theorem Di{op:Int}{t:Ty}{j:Nat}:{ms:List (List Vl)}->(∀l∈ms,∃v,l[j]? =some v/\(jR v t\/(v.1:Int)=0))->{first:Bool}->{acc c:Int}->oq op t j ms first acc= .inr c->c=3\/c=6
 |[],_,_,_,_,h=>by cases h
 |l::ms,hv,first,acc,c,h=>by
  obtain⟨v,h1,h2⟩:=hv l (amQ ..);rw[oq,h1]at h;simp only at h;split at h
  .cases h;exact .inr rfl
  .rename_i hn;rw[if_pos (h2.resolve_right hn)]at h;split at h
   .exact Di (fun l hl=>hv l (List.mem_cons_of_mem _ hl)) h
   .cases h;exact .inl rfl
theorem O8{op:Int}{t:Ty}{j:Nat}{ms:List (List Vl)}(h:∀l∈ms,∃v,l[j]? =some v/\(jR v t\/(v.1:Int)=0))(ht:(t.2:Int)=0):Mt t (I8 op t j ms):=by
 unfold I8;split
 .exact⟨.inr (.inr (.inl rfl)),fun g=>by cases g⟩
 .split
  .exact⟨.inl rfl,fun _=>⟨rfl,ht.symm⟩⟩
  .rename_i c hc;have:=Di h hc;refine⟨?_,fun g=>?_⟩
   .show C3 c
    unfold C3;omega
   .exact absurd g (by show¬c=0;omega)
theorem Mv{op m:Int}{ts:List Ty}{s:Sg}{t:Ty}{args:List Vl}{env:cz.den}(he:im env)(ag:SI s env)(nt:NT op m ts s t)(h0:0<=ar op)(hu:m=0\/us op)(hl:(ts.length:Int)=ar op)(ha:ua args ts):Wp (M.bL aB (op,m) args env) (mo t):=by
 have Bj:(args.length:Int)=ar op:=by rw[ha.len];exact hl
 have c0:C3 0:= .inl rfl
 have no:ar op=0->args=[]:=fun h=>am1.1 (by omega)
 have wf:∀(_:op=14\/op=15\/op=16->0<=m/\m<=5)(_:op=34->0<=m/\amy m 8<=5)(_:op=6->0<=m),M.cY aB (op,m)=some true:=fun a b c=>Dh h0 hu a b c
 have ex:∀Q:Prop,(WC op m env->Q)->Wp (M.dQ aB (op,m) env) fun x=>x=true->Q:=fun Q h=>(tW aB op m env).mono fun x hx g=>h (hx g)
 rcases nt with⟨ho,rfl⟩|⟨ho,hm,rfl⟩|⟨ho,hL⟩|⟨ho,hL⟩|⟨ho,rfl⟩|⟨ho,a,rfl,hT⟩|⟨ho,rfl⟩|⟨ho,hL,Gt,yw,Rx⟩|⟨hm,hR⟩
 .obtain rfl:=no (by unfold ar;rw[if_pos (by omega)]);refine qU (wf (by omega) (by omega) (by omega)) Bj ha.pl (ex _ fun _=>⟨?_,?_⟩)
  .rw[sJ (by omega) (by omega) (by omega) (by omega) (by omega)];exact .some rfl
  .unfold M.bD;dsimp only[ae,Row.den];rw[CX op 1 2 3 4 5];simp only[alS]
   exact Wp.dec (fun _=> .some ⟨c0,fun _=>⟨rfl,rfl⟩⟩) fun h=>by omega
 .subst ho;obtain rfl:=no rfl;refine qU (wf (by omega) (by omega) (fun _=>hm)) Bj ha.pl (ex _ fun _=>⟨?_,?_⟩)
  .rw[sJ (by omega) (by omega) (by omega) (by omega) (by omega)];exact .some rfl
  .exact .of (x:=(((6:Int),(alT.wrap (amh m 16),amy m 16)),(0:Int))) rfl ⟨c0,fun _=>⟨rfl,rfl⟩⟩
 .subst ho;obtain rfl:=no rfl;obtain⟨k,rfl,h1,_⟩:=hL;obtain⟨v,h2,h3⟩:=ag.inp k t h1;refine qU (wf (by omega) (by omega) (by omega)) Bj ha.pl (ex _ fun _=>⟨?_,?_⟩)
  .show Wp ((idx env.2.1 (k:Int)).bind fun x1=>(M.cI aB x1).bind fun y2=>some y2) _
   rw[nS h2];simp only[alS,dc];exact .some (decide_eq_true h3.1)
  .show Wp ((idx env.2.1 (k:Int)).bind fun x2=>some (x2,(0:Int))) _
   rw[nS h2];exact .some ⟨c0,fun _=>h3.2⟩
 .subst ho;obtain rfl:=no rfl;obtain⟨k,rfl,h1,_⟩:=hL;obtain⟨v,h2,h3⟩:=ag.dfs k t h1;have hk:k<env.2.2.1.length:=(alW.1 h2).1;refine qU (wf (by omega) (by omega) (by omega)) Bj ha.pl ?_
  refine Wp.of (x:= !decide ((v.1:Int)=0)) ?_ fun hx=>?_
  .unfold M.dQ;dsimp only[ae,Row.den];rw[nS h2];simp[hk]
  have h3:=h3.resolve_right (by simpa using hx);refine⟨?_,?_⟩
  .show Wp ((idx env.2.2.1 (k:Int)).bind fun x1=>(M.cI aB x1).bind fun y2=>some y2) _
   rw[nS h2];simp only[alS,dc];exact .some (decide_eq_true h3.1)
  .show Wp ((idx env.2.2.1 (k:Int)).bind fun x2=>some (x2,(0:Int))) _
   rw[nS h2];exact .some ⟨c0,fun _=>h3.2⟩
 .subst ho;obtain rfl:=no rfl;refine qU (wf (by omega) (by omega) (by omega)) Bj ha.pl (ex _ fun _=>⟨?_,?_⟩)
  .rw[sJ (by omega) (by omega) (by omega) (by omega) (by omega)];exact .some rfl
  .exact .of (x:=(((5:Int),((0:Int),env.1)),(0:Int))) rfl ⟨c0,fun _=>⟨rfl,rfl⟩⟩
 .obtain⟨v,rfl,hv⟩:=GS ha;obtain⟨k,T,h1,v1,v2,rfl,h3⟩:=hT;obtain⟨T',g1,g2,g3⟩:=ag.tbs k T h1;have hTl:=he.2 T' (amM g1)
  rcases h3 with⟨rfl,m0,m1,m2,hw,k1,k2,rfl⟩|⟨bR,rfl,rfl⟩
  .have key:T'.2.1=((3,0):Int×Int):=by
    rw[g2];refine Prod.ext k1 ?_;unfold jM at v1;rw[k1]at v1
    rcases v1 with h|h
    .exact h.2.2
    .exact absurd h.1 (by decide)
   have val:T'.2.2.1=((4,0):Int×Int):=by
    rw[g3];refine Prod.ext k2 ?_;unfold jM at v2;rw[k2]at v2
    rcases v2 with h|h
    .exact h.2.2
    .exact absurd h.1 (by decide)
   refine qU (wf (by omega) (fun _=>⟨m0,m2⟩) (by omega)) Bj ha.pl (ex _ fun _=>⟨?_,?_⟩)
   .unfold M.bx;dsimp only[ae,Row.den];rw[hw,nS g1];simp only[alS,mR];rw[key,val,show(v.1:Int)=3 from hv.2.1.trans k1];exact .of (x:=true) rfl rfl
   .unfold M.bD;dsimp only[ae,Row.den];rw[hw,nS g1];simp only[alS,mR]
    show Wp ((M.jh aB T' env.1 v.2.2 (amy m 8)).bind fun qs=>some (((3:Int),((0:Int),qs.1)),qs.2)) _
    refine Wp.seq _ (uH ⟨m1,m2⟩ key val hTl) fun r hr=> .some ⟨hr.c3,fun _=>?_⟩
    rw[<-g2,key];exact⟨rfl,rfl⟩
  .obtain rfl:op=33:=by omega
   refine qU (wf (by omega) (by omega) (by omega)) Bj ha.pl (ex _ fun _=>⟨?_,?_⟩)
   .unfold M.bx;dsimp only[ae,Row.den];rw[nS g1];simp only[alS,mR,ry];rw[g2,g3,decide_eq_true hv];unfold jM at v2;refine .of (x:=true) ?_ rfl
    have a1:(1:Int)<=T.2.2.1.1:=by rcases v2 with h|h;exact h.1;rw[h.1];decide
    have a2:(T.2.2.1.1:Int)<=6:=by rcases v2 with h|h;exact Int.le_trans h.2.1 (by decide);rw[h.1];decide
    simp[a1,a2]
   .unfold M.bD;dsimp only[ae,Row.den];rw[nS g1];simp only[alS,mR]
    show Wp ((M.k9 aB T' env.1 v.2.2).bind fun y8=>if(!y8.2)=true then some (((0:Int),((0:Int),(0:Int))),(6:Int))else(idx T'.2.2.2 y8.1).bind fun x9=>some ((T'.2.2.1.1,(T'.2.2.1.2,x9.2.2.2)),(0:Int))) _
    refine Wp.seq _ (zu _ _ _ hTl) fun r hr=>?_
    refine Wp.ite (fun _=> .some ⟨.inr (.inr (.inl rfl)),fun g=>by cases g⟩) fun hc=>?_
    obtain⟨a,b⟩:=hr (by simpa using hc);refine Wp.bind (Wp.fI a b fun z _ _=> .some ⟨c0,fun _=>?_⟩);rw[<-g3];exact⟨rfl,rfl⟩
 .subst ho;obtain rfl:=no rfl;refine qU (wf (by omega) (by omega) (by omega)) Bj ha.pl (ex _ fun _=>⟨?_,?_⟩)
  .rw[sJ (by omega) (by omega) (by omega) (by omega) (by omega)];exact .some rfl
  .exact .of (x:=(((2:Int),((0:Int),(env.2.2.2.1.length:Int))),(0:Int))) rfl ⟨c0,fun _=>⟨rfl,rfl⟩⟩
 .obtain rfl:=no (by rcases ho with h|h|h|h<;>rw[h]<;>rfl);obtain⟨k,rfl,h1,XN⟩:=hL;have g1:=ag.mts k t h1;obtain⟨hk,hkt⟩:=alW.1 g1
  have t5:(t.1:Int)≠6:=by
   intro h6
   rcases ho with h|h|h|h
   .rcases Gt h with g|g<;>rw[h6]at g<;>exact absurd g (by decide)
   .have g:=yw (.inl h);rw[h6]at g;exact absurd g (by decide)
   .have g:=yw (.inr h);rw[h6]at g;exact absurd g (by decide)
   .rcases Rx h with g|g<;>rw[h6]at g<;>exact absurd g (by decide)
  have t2:(t.2:Int)=0:=by
   unfold jM at XN
   rcases XN with h|h
   .exact h.2.2
   .exact absurd h.1 t5
  have alw:TN op t:=by
   refine⟨t2,?_⟩
   rcases ho with rfl|rfl|rfl|rfl
   .rw[if_pos rfl];exact Gt rfl
   .rw[if_neg (by decide),if_neg (by decide)];exact yw (.inl rfl)
   .rw[if_neg (by decide),if_neg (by decide)];exact yw (.inr rfl)
   .rw[if_neg (by decide),if_pos rfl]
    rcases Rx rfl with(g|g|g)|g<;>rw[g]<;>decide
  refine qU (wf (by omega) (by omega) (by omega)) Bj ha.pl (ex _ fun _=>⟨?_,?_⟩)
  .unfold M.bx;dsimp only[ae,Row.den];rw[qB,decide_eq_false (show¬op=7 by omega),decide_eq_false (show¬op=8 by omega),decide_eq_false (show¬op=33 by omega),decide_eq_false (show¬op=34 by omega),decide_eq_true ho];simp only[al2,if_false,if_true,alS];rw[nS g1];simp only[alS,oo];exact .some (decide_eq_true alw)
  .unfold M.bD;dsimp only[ae,Row.den];rw[CX,qB,decide_eq_false (show¬(op=1\/op=2\/op=3\/op=4\/op=5) by omega),decide_eq_false (show¬op=6 by omega),decide_eq_false (show¬op=7 by omega),decide_eq_false (show¬op=8 by omega),decide_eq_false (show¬op=9 by omega),decide_eq_false (show¬op=35 by omega),decide_eq_true ho];simp only[al2,if_false,if_true,alS];rw[pG (by unfold aB;omega) ho hk he.1 (by rw[hkt];exact alw),hkt];exact .some (O8 (fun l hl=>ag.mem l hl k t h1) t2)
 .have hp:DZ op:=by
   unfold DZ
   rcases hR with⟨h,_⟩|⟨h,_⟩|⟨h,_⟩|⟨h,_⟩|⟨h,_⟩|⟨h,_⟩|⟨h,_⟩|⟨h,_⟩|⟨h,_⟩|⟨h,_⟩|⟨h,_⟩|⟨h,_⟩|⟨h,_⟩|⟨h,_⟩|⟨h,_⟩<;>omega
  unfold DZ at hp;exact qU (wf hm (by omega) (by omega)) Bj ha.pl (ex _ fun _=>Mu hm hR ha)
def Kn(l:List Vl)(ts:List Ty)(u:Bool):Prop:=l.length=ts.length/\∀(k:Nat)(t:Ty),ts[k]? =some t->∃v,l[k]? =some v/\(jR v t\/(u=true/\(v.1:Int)=0))
structure ajL(s:Sg)(env:cz.den):Prop where
 inp:Kn env.2.1 s.2.2.1 false
 dfs:Kn env.2.2.1 s.2.2.2.1 true
 mts:∀(k:Nat)(t:Ty),s.2.2.2.2.1[k]? =some t->env.2.2.2.2.1[k]? =some t
 mem:∀l∈env.2.2.2.1,Kn l s.2.2.2.2.1 true
end L.P
end Go.Proofs.YtmihpkfkbfgigaaGreatDoor
end
section
open _root_.Go.IntKind renaming i64->alT
open _root_.List.cons renaming injEq->amR
open _root_.List renaming drop_append_of_le_length->amG,drop_of_length_le->amC,getD->amn,getElem?_eq_getElem->alV,getElem_mem->al0,length_map->amm,map_cons->am9,mem_cons_self->amQ,take_append_of_le_length->aml,take_length->amc
open _root_.Nat renaming le_refl->alZ,zero_le->amj
open _root_.Option renaming bind_some->alS,getD_some->amu
namespace Go.Proofs.YtmihpkfkbfgigaaGreatDoor
open Go Go.RowKit
set_option maxRecDepth 100000
namespace L.P
def XO(e:List Ty)(st:List Nat)(s:Sg)(ty:Nat->Ty)(i:Nat):Prop:=
 ∀h:i<e.length,((e[i].2:Int)=0\/us e[i].1)/\NT e[i].1 e[i].2 ((opsL st (ar e[i].1).toNat i).map ty) s (ty i)
theorem sK{e:List Ty}{st:List Nat}(v:xP e st){i:Nat}(h:i<e.length):∀o∈opsL st (ar e[i].1).toNat i,o<i:=fun o ho=>(v.ops h o ho).1
theorem Fl{st l:List Nat}{i:Nat}(c:Ch st i l){a:Nat}(ha:a<=l.length):∀o∈opsL st a i,o<i:=fun o ho=>(L9 c a ha o ho).1
theorem zx{e:List Ty}{s:Sg}(hw:∀n∈e,WF aa n):Wp (M.fS aB e s) fun r=>r.2.2=0->∃st,Whole e st/\∃ty:Nat->Ty,r.1=ty (e.length-1)/\∀i,XO e st s ty i:=by
 unfold M.fS;rw[mQ];simp only[alS]
 rcases Ff e with Mw|⟨st,w⟩
 .rw[if_pos (by simp[Mw])]
  exact .some fun h=>absurd h Mw
 rw[w.res];simp only;rw[if_neg (by simp)];have hp:0<e.length:=List.length_pos_iff.2 w.ne;have hle:=w.le;refine Wp.join (Wp.loop (fun q:Int×List Ty=>∃k:Nat,q.1=k/\k<=e.length/\∃l,Ch st k l/\∃ty:Nat->Ty,q.2=(opsL st l.length k).map ty/\∀j,j<k->XO e st s ty j) (fun q=>(e.length-q.1).toNat) ⟨0,rfl,amj _,[], .nil,fun _=>((0:Int),(0:Int)),rfl,fun j h=>by omega⟩ (by unfold aB;simp only;omega) ?_)
 rintro⟨_,iq⟩ ⟨k,rfl,hk,l,hc,ty,Mx,Jo⟩
 dsimp only at Mx⊢
 refine Wp.dec (fun aj=>?_) fun hge=> .some ?_
 .have aj:k<e.length:=by omega
  have Bo:=hw _ (al0 aj);obtain⟨v1,l',v2,v3,v4,v5⟩:=w.val.node k aj;obtain rfl:=v2.O0 hc;have Jd:=kK e[k].1
  have gJ:iq.length=l'.length:=by rw[Mx,amm,dg]
  rw[ah aj];simp only[alS,cJ]
  refine Wp.seq (fun j=>j=false->((e[k].2:Int)=0\/us e[k].1)) ?_ fun j hj=>?_
  .refine Wp.jz (fun _=>Wp.seq _ (GN ..) fun y hy=> .some fun h=> .inr (hy.1 (by simpa using h))) fun h=> .some fun _=> .inl h
  refine Wp.ite (fun _=> .some ?_) fun hcj=>?_
  .show(2:Int)=0->_
   exact fun h=>by cases h
  have TQ:=hj (by simpa using hcj)
  obtain⟨a,ha⟩:∃a:Nat,ar e[k].1=a:=⟨(ar e[k].1).toNat,by omega⟩
  have N3:(ar e[k].1).toNat=a:=by omega
  have My:=hc.next v1 v3 v5;rw[N3]at v3 My;rw[ha]at My v5
  have wl:alT.wrap ((iq.length:Int)-ar e[k].1)=((iq.length-a:Nat):Int):=by rw[aJ (by omega) (by omega)];omega
  rw[wl,lk (iq.length-a) iq.length rfl rfl (by omega) (alZ _),gG (by omega),amc];simp only[alS];have Fo:=Fi hc a v3
  have KQ:iq.drop (iq.length-a)=(opsL st a k).map ty:=by
   rw[gJ,Mx,<-List.map_drop,Fo,amG (by rw[dg];exact alZ _),amC (by rw[dg];exact alZ _),List.nil_append]
  have uq:iq.take (iq.length-a)=(opsL st (l'.length-a) (mW (a:Int) k l')).map ty:=by
   rw[gJ,Mx,<-List.map_take,Fo,aml (by rw[dg];exact alZ _),List.take_of_length_le (by rw[dg];exact alZ _)]
  rw[KQ,uq];have hm:(e[k].2:Int)<=9223372036854775807:=Bo.2.2;have QG:=O5 aB e[k].1 e[k].2 hm ((opsL st a k).map ty) s (by rw[amm,dg];exact ha.symm)
  refine Wp.seq _ QG fun r hr=>?_
  refine Wp.jz (fun h=> .some ?_) fun h0=>?_
  .exact fun g=>absurd g h
  have hr:=hr h0;rw[bh (by simp[dg];omega)];simp only[alS];rw[aD (by omega)];refine .some ⟨⟨k+1,rfl,aj,_,My,fun i=>if i=k then r.1 else ty i,?_,fun j hj h=>?_⟩,by simp only;omega⟩
  .have e1:(l'.take (l'.length-a)++[mW (a:Int) k l']).length=l'.length-a+1:=by simp
   have hg:st.getD (k+1-1) 0=mW (a:Int) k l':=by simp[amn,v5]
   have e2:opsL st (l'.length-a+1) (k+1)=opsL st (l'.length-a) (mW (a:Int) k l')++[k]:=by rw[opsL,hg];rfl
   have e3:(opsL st (l'.length-a) (mW (a:Int) k l')).map (fun i=>if i=k then r.1 else ty i)=(opsL st (l'.length-a) (mW (a:Int) k l')).map ty:=List.map_congr_left fun o ho=>by
    have:o<k:=Fl hc (alZ _) o (by rw[Fo];exact List.mem_append_left _ ho);rw[if_neg (by omega)]
   rw[e1,e2,List.map_append,e3];simp
  .have same:∀i,i<=k->∀o∈opsL st (ar e[j].1).toNat j,(if o=k then r.1 else ty o)=ty o:=fun i _ o ho=>by
    have:=sK w.val h o ho;rw[if_neg (by omega)]
   rw[List.map_congr_left (same k (alZ _))];by_cases WQ:j=k
   .subst WQ;refine⟨TQ,?_⟩;dsimp only;rw[if_pos rfl,N3];exact hr
   .dsimp only;rw[if_neg WQ];exact Jo j (by omega) h
 .obtain rfl:k=e.length:=by omega
  show Wp ((idx iq 0).bind _) _
  rw[Mx,O6 w hc]
  exact .some fun _=>⟨st,w,ty,rfl,fun i h=>Jo i h h⟩
theorem Dj{g:Nat->Vl×Int}{ty:Nat->Ty}:∀{os:List Nat},(∀o∈os,mo (ty o) (g o))->(∀vs,eQ g os= .inl vs->ua vs (os.map ty))/\∀c,eQ g os= .inr c->C3 c
 |[],_=>⟨fun vs h=>by cases h;trivial,fun c h=>by cases h⟩
 |o::os,h=>by
  obtain⟨i1,i2⟩:=Dj (os:=os) fun x hx=>h x (List.mem_cons_of_mem _ hx)
  obtain⟨t1,t2⟩:=h o (amQ ..);rw[eQ];split
  .rename_i h0
   cases hq:eQ g os with
   |inl vs=>exact⟨fun ws hw=>by cases hw;exact⟨t2 h0,i1 vs hq⟩,fun c hc=>by cases hc⟩
   |inr d=>exact⟨fun ws hw=>(by cases hw),fun c hc=>by cases hc;exact i2 _ hq⟩
  .exact⟨fun ws hw=>(by cases hw),fun c hc=>by cases hc;exact t1⟩
theorem vD{r:Vl×Int}{t:Ty}(h:mo t r)(ht:(t.1:Int)=1):(gH r).2=r.2/\(r.2=0->(gH r).1=r.1):=by
 unfold gH;by_cases h0:r.2=0
 .rw[if_neg (fun g=>g h0),if_pos ⟨(h.2 h0).2.1.trans ht,(h.2 h0).1⟩];exact⟨h0.symm,fun _=>rfl⟩
 .rw[if_pos h0];exact⟨rfl,fun g=>absurd g h0⟩
theorem AT{r:Vl×Int}{t:Ty}(h:mo t r)(ht:(t.1:Int)=1):mo t (gH r):=by
 obtain⟨h1,h2⟩:=vD h ht;exact⟨by rw[h1];exact h.1,fun g=>by rw[h2 (h1▸g)];exact h.2 (h1▸g)⟩
theorem AU{r:Vl×Int}{a:Ty}(h:mo a r)(ha:(a.1:Int)=1):mo ((1:Int),(0:Int)) r:=
 ⟨h.1,fun g=>⟨(h.2 g).1,(h.2 g).2.1.trans ha,(h.2 g).2.2.trans (Dg (h.2 g) (by rw[ha];decide))⟩⟩
theorem GV{op:Int}{ts:List Ty}{t:Ty}(hz:bM op)(h:RT op ts t):((op=23\/op=24)/\∃a b:Ty,ts=[a,b]/\(a.1:Int)=1/\(b.1:Int)=1/\t=((1:Int),(0:Int)))\/(op=26/\∃a b:Ty,ts=[a,b,b]/\(a.1:Int)=1/\t=b):=by
 unfold bM at hz
 rcases h with⟨h,_⟩|⟨h,_⟩|⟨h,_⟩|⟨h,_⟩|⟨h,_⟩|⟨h,_⟩|⟨h,_⟩|⟨h,_⟩|⟨h,_⟩|⟨h,_⟩|⟨h,_⟩|h|h|⟨h,_⟩|⟨h,_⟩
 case inr.inr.inr.inr.inr.inr.inr.inr.inr.inr.inr.inl=>exact .inl h
 case inr.inr.inr.inr.inr.inr.inr.inr.inr.inr.inr.inr.inl=>exact .inr h
 all_goals omega
theorem rz{e:List Ty}{st:List Nat}{s:Sg}{ty:Nat->Ty}{env:cz.den}(w:Whole e st)(he:im env)(ag:SI s env)(Jo:∀i,XO e st s ty i):∀(f i:Nat),i<f->i<e.length->mo (ty i) (fg (jL env) e st f i)
 |0,i,hf,_=>by omega
 |f+1,i,hf,hi=>by
  have ih:=rz w he ag Jo f;have aj:=sK w.val hi;obtain⟨TQ,QG⟩:=Jo i hi;obtain⟨v1,_⟩:=w.val.node i hi
  have hge:e.getD i ((0,0):Int×Int)=e[i]:=by simp only[amn,alV hi,amu]
  have hlen:=dg st (ar e[i].1).toNat i
  have JY:∀o∈opsL st (ar e[i].1).toNat i,mo (ty o) (fg (jL env) e st f o):=fun o ho=>ih o (by have:=aj o ho;omega) (by have:=aj o ho;omega)
  rw[fg,hge];generalize hn:e[i]=n at*;obtain⟨(op:Int),(m:Int)⟩:=n;dsimp only[ae,Row.den]at*;generalize opsL st (ar op).toNat i=os at*;generalize fg (jL env) e st f=g at*;by_cases hz:bM op
  .rw[if_pos hz]
   have hR:RT op (os.map ty) (ty i):=by
    unfold bM at hz
    rcases QG with⟨ho,_⟩|⟨ho,_⟩|⟨ho,_⟩|⟨ho,_⟩|⟨ho,_⟩|⟨ho,_⟩|⟨ho,_⟩|⟨ho,_⟩|⟨_,hR⟩
    .omega
    .omega
    .omega
    .omega
    .omega
    .omega
    .omega
    .omega
    .exact hR
   unfold C4;dsimp only;have JP:m=0:=TQ.resolve_right (by unfold bM at hz;unfold us;omega);rw[if_neg (fun h=>h JP)]
   rcases GV hz hR with⟨ho,a,b,wW,ha,hb,ht⟩|⟨ho,a,b,wW,ha,ht⟩
   .obtain⟨o1,o2,rfl⟩:=Fg (l:=os) (by rw[<-amm (f:=ty),wW];rfl);simp only[am9,List.map_nil,amR,and_true]at wW;have h1:=JY o1 (by simp);have h2:=JY o2 (by simp);rw[wW.1]at h1;rw[wW.2]at h2;have t1:=AU (AT h1 ha) ha;have t2:=AU (AT h2 hb) hb;rw[ht]
    show mo _ (if(gH (g o1)).2≠0 then(z3,(gH (g o1)).2)else if op=26/\((gH (g o1)).1.2.2:Int)=1 then g o2 else if op=26 then _ else if(op=23)=(((gH (g o1)).1.2.2:Int)=0)then((gH (g o1)).1,0)else gH (g o2))
    by_cases h0:(gH (g o1)).2≠0
    .rw[if_pos h0];exact⟨t1.1,fun h=>absurd h h0⟩
    .rw[if_neg h0,if_neg (by omega),if_neg (by omega)];split
     .exact⟨.inl rfl,fun _=>t1.2 (by omega)⟩
     .exact t2
   .obtain⟨o1,o2,o3,rfl⟩:=Da (l:=os) (by rw[<-amm (f:=ty),wW];rfl);simp only[am9,List.map_nil,amR,and_true]at wW;have h1:=JY o1 (by simp);have h2:=JY o2 (by simp);have h3:=JY o3 (by simp);rw[wW.1]at h1;rw[wW.2.1]at h2;rw[wW.2.2]at h3;have t1:=AU (AT h1 ha) ha;rw[ht]
    show mo _ (if(gH (g o1)).2≠0 then(z3,(gH (g o1)).2)else if op=26/\((gH (g o1)).1.2.2:Int)=1 then g o2 else if op=26 then g o3 else _)
    by_cases h0:(gH (g o1)).2≠0
    .rw[if_pos h0];exact⟨t1.1,fun h=>absurd h h0⟩
    .rw[if_neg h0];split
     .exact h2
     .exact h3
  .rw[if_neg hz];obtain⟨i1,i2⟩:=Dj JY
   cases hq:eQ g os with
   |inr c=>exact⟨i2 c hq,fun h=>absurd h (xl hq)⟩
   |inl vs=>
    obtain⟨r,hr,nX⟩:=Mv he ag QG v1 TQ (by rw[amm,hlen];omega) (i1 vs hq)
    show mo (ty i) ((M.bL aB (op,m) vs env).getD (z3,0))
    rw[hr];exact nX
end L.P
end Go.Proofs.YtmihpkfkbfgigaaGreatDoor
end
section
open _root_.List renaming append_assoc->amk,getD->amn,getD_cons_succ->anc,getD_cons_zero->anb,getElem?_eq_getElem->alV,getElem_mem->al0,length_append->alY,length_cons->al9,length_map->amm,length_singleton->al6,map_cons->am9,mem_append->amf,mem_cons->amg,mem_cons_self->amQ,mem_singleton->ama
open _root_.List.cons renaming injEq->amR
open _root_.Nat renaming add_assoc->am3
open _root_.Option renaming getD_some->amu
namespace Go.Proofs.YtmihpkfkbfgigaaGreatDoor
open Go Go.RowKit
set_option maxRecDepth 100000
namespace L.P
def Cmp(code:List Ty)(env:cz.den)(b b':Nat)(q:Vl×Int):Prop:=∀S:List Vl,(q.2=0->∀r,cF code env b' (S++[q.1]) r->cF code env b S r)/\(q.2≠0->cF code env b S (z3,q.2))
theorem Dk{code:List Ty}{F:List Int}{env:cz.den}{g:Nat->Nat->Int->List (Ty×Int)}{v:Nat->Vl×Int}:∀(os:List Nat)(b:Nat)(d:Int),(∀o∈os,∀(b:Nat)(d:Int),At code F b (g o b d)->b+(g o b d).length<=code.length->Cmp code env b (b+(g o b d).length) (v o))->At code F b (mX g os b d)->b+(mX g os b d).length<=code.length->∀S:List Vl,(∀vs,eQ v os= .inl vs->∀r,cF code env (b+(mX g os b d).length) (S++vs) r->cF code env b S r)/\(∀c,eQ v os= .inr c->cF code env b S (z3,c))
 |[],b,d,_,_,_,S=>by
  refine⟨fun vs h r hr=>?_,fun c h=>by cases h⟩;cases h;simpa[mX]using hr
 |o::os,b,d,hg,hA,hl,S=>by
  rw[mX]at hA hl⊢;rw[alY]at hl⊢;obtain⟨h1,h2⟩:=hg o (amQ ..) b d hA.left (by omega) S;have ih:=Dk (v:=v) (env:=env) os (b+(g o b d).length) (d+1) (fun o ho=>hg o (List.mem_cons_of_mem _ ho)) hA.right (by omega);rw[eQ];by_cases h0:(v o).2=0
  .rw[if_pos h0];obtain⟨i1,i2⟩:=ih (S++[(v o).1])
   cases hq:eQ v os with
   |inl vs=>
    refine⟨fun ws hw r hr=>?_,fun c hc=>by cases hc⟩;cases hw;refine h1 h0 r (i1 vs hq r ?_);rw[amk,List.singleton_append,am3];exact hr
   |inr c=>
    refine⟨fun ws hw=>(by cases hw),fun c' hc=>?_⟩;cases hc;exact h1 h0 _ (i2 c hq)
  .rw[if_neg h0];refine⟨fun ws hw=>(by cases hw),fun c hc=>?_⟩;cases hc;exact h2 h0
theorem SJ{op:Int}{E:Int}{top:Vl}(ho:op=23\/op=24)(hv:(top.2.2:Int)=0\/(top.2.2:Int)=1):vC ((if op=24 then 53 else 52,E):Int×Int) top=true↔((op=23)=((top.2.2:Int)=0)):=by
 unfold vC
 rcases ho with rfl|rfl<;>rcases hv with h|h<;>rw[h]<;>simp
theorem Mz{v:Vl}{a:Ty}(h:jR v a)(ha:(a.1:Int)=1):(v.1:Int)=1/\((v.2.2:Int)=0\/(v.2.2:Int)=1):=by
 obtain⟨(k:Int),(e:Int),(n:Int)⟩:=v;obtain⟨(p:Int),(q:Int)⟩:=a;obtain⟨h1,h2,h3⟩:=h;dsimp only[ae,Row.den]at*;unfold dp at h1;omega
theorem Pa{op m:Int}{ts:List Ty}{s:Sg}{t:Ty}(hz:bM op)(QG:NT op m ts s t):RT op ts t:=by
 unfold bM at hz
 rcases QG with⟨ho,_⟩|⟨ho,_⟩|⟨ho,_⟩|⟨ho,_⟩|⟨ho,_⟩|⟨ho,_⟩|⟨ho,_⟩|⟨ho,_⟩|⟨_,hR⟩
 case inr.inr.inr.inr.inr.inr.inr.inr=>exact hR
 all_goals omega
theorem GW{code:List Ty}{F:List Int}{e:List Ty}{st:List Nat}{s:Sg}{ty:Nat->Ty}{env:cz.den}(w:Whole e st)(he:im env)(ag:SI s env)(Jo:∀i,XO e st s ty i):∀(f i b:Nat)(d:Int),i<f->i<e.length->At code F b (cg e st f i b d)->b+(cg e st f i b d).length<=code.length->Cmp code env b (b+(cg e st f i b d).length) (fg (jL env) e st f i)
 |0,_,_,_,h,_,_,_=>by omega
 |f+1,i,b,d,hf,hi,hA,hl=>by
  have ih:=GW (code:=code) (F:=F) w he ag Jo f;have SK:=rz w he ag Jo f;have aj:=sK w.val hi;obtain⟨TQ,QG⟩:=Jo i hi;obtain⟨v1,_⟩:=w.val.node i hi
  have hge:e.getD i ((0,0):Int×Int)=e[i]:=by simp only[amn,alV hi,amu]
  have hlen:=dg st (ar e[i].1).toNat i;rw[fg,hge];rw[cg,hge]at hA hl⊢;generalize opsL st (ar e[i].1).toNat i=os at*;by_cases hz:bM e[i].1
  .rw[if_pos hz];have hR:=Pa hz QG
   have JP:(e[i].2:Int)=0:=TQ.resolve_right (by
    unfold bM at hz;unfold us
    rcases hz with h|h|h<;>rw[h]<;>decide)
   have It:∀o∈os,mo (ty o) (fg (jL env) e st f o):=fun o ho=>SK o (by have:=aj o ho;omega) (by have:=aj o ho;omega)
   have JY:∀o∈os,∀(b:Nat)(d:Int),At code F b (cg e st f o b d)->b+(cg e st f o b d).length<=code.length->Cmp code env b (b+(cg e st f o b d).length) (fg (jL env) e st f o):=fun o ho b d K4 r9=>ih o b d (by have:=aj o ho;omega) (by have:=aj o ho;omega) K4 r9
   unfold C4;generalize fg (jL env) e st f=g at*
   rcases GV hz hR with⟨ho,a,b',wW,ha,hb,ht⟩|⟨ho,a,b',wW,ha,ht⟩
   .obtain⟨o0,o1,rfl⟩:=Fg (l:=os) (by rw[<-amm (f:=ty),wW];rfl);simp only[am9,List.map_nil,amR,and_true]at wW;have t0:=It o0 (by simp);have t1:=It o1 (by simp);rw[wW.1]at t0;rw[wW.2]at t1;rw[if_pos ho]at hA hl⊢;rw[if_neg (fun h=>h JP)];unfold uJ at hA hl⊢;have i0:=JY o0 (by simp) b d;simp only[anb,anc]at hA hl⊢;generalize cg e st f o0 b d=g0 at*;have i1:=JY o1 (by simp) (b+g0.length+1) d;generalize cg e st f o1 (b+g0.length+1) d=g1 at*;rw[alY,al9]at hl⊢
    have eE:b+(g0.length+(g1.length+1))=b+g0.length+1+g1.length:=by omega
    rw[eE]at hl⊢;have a1:=hA.right.head.1;dsimp only at a1;intro S;obtain⟨c1,c2⟩:=i0 hA.left (by omega) S;obtain⟨d1,d2⟩:=i1 hA.right.tail (by omega) S;obtain⟨e1,e2⟩:=vD t0 ha;obtain⟨f1,f2⟩:=vD t1 hb;rw[e1];by_cases h0:(g o0).2=0
    .obtain⟨k1,k2⟩:=Mz (t0.2 h0) ha;rw[if_neg (fun h=>h h0),e2 h0,if_neg (fun h=>by rcases ho with g|g<;>(rw[h.1]at g;exact absurd g (by decide))),if_neg (fun h=>by rcases ho with g|g<;>(rw[h]at g;exact absurd g (by decide)))];have hj:=SJ (E:=((b+g0.length+1+g1.length:Nat):Int)) ho k2
     have gq:((if(e[i].1:Int)=24 then(53:Int)else 52)=50\/(if(e[i].1:Int)=24 then(53:Int)else 52)=52\/(if(e[i].1:Int)=24 then(53:Int)else 52)=53):=by split<;>simp
     have adA:¬(if(e[i].1:Int)=24 then(53:Int)else 52)=50:=by split<;>decide
     by_cases hJ:((e[i].1:Int)=23)=(((g o0).1.2.2:Int)=0)
     .rw[if_pos hJ];refine⟨fun _ r hr=>c1 h0 r (cF.cond a1 gq rfl (by omega) hl k1 k2 ?_),fun h=>absurd rfl h⟩;rw[if_pos (hj.2 hJ),if_neg (by rw[hj.2 hJ];exact fun h=>h.elim (fun h=>by cases h) adA)];exact hr
     .rw[if_neg hJ]
      have hjf:vC ((if(e[i].1:Int)=24 then 53 else 52,((b+g0.length+1+g1.length:Nat):Int)):Int×Int) (g o0).1=false:=by
       rw[<-Bool.not_eq_true];exact fun h=>hJ (hj.1 h)
      have step:∀r,cF code env (b+g0.length+1) S r->cF code env b S r:=fun r hr=>c1 h0 r (cF.cond a1 gq rfl (by omega) hl k1 k2 (by
       rw[hjf,if_neg (by simp),if_pos (.inl rfl)]
       exact hr))
      refine⟨fun h r hr=>step r (d1 (by rw[<-f1];exact h) r (by rw[f2 (by rw[<-f1];exact h)]at hr;exact hr)),fun h=>?_⟩;rw[f1]at h⊢;exact step _ (d2 h)
    .rw[if_pos h0];exact⟨fun h=>absurd h h0,fun _=>c2 h0⟩
   .obtain⟨o0,o1,o2,rfl⟩:=Da (l:=os) (by rw[<-amm (f:=ty),wW];rfl);simp only[am9,List.map_nil,amR,and_true]at wW;have t0:=It o0 (by simp);rw[wW.1]at t0
    have DY:¬((e[i].1:Int)=23\/(e[i].1:Int)=24):=fun h=>by rcases h with g|g<;>(rw[ho]at g;exact absurd g (by decide))
    rw[if_neg DY,if_pos ho]at hA hl⊢;rw[if_neg (fun h=>h JP)];unfold Dc at hA hl⊢;generalize hE:lS (cg e st f) [o0,o1,o2] b d=E at*;unfold lS at hE;have i0:=JY o0 (by simp) b d;simp only[anb,anc]at hA hl hE⊢;generalize cg e st f o0 b d=g0 at*;have i1:=JY o1 (by simp) (b+g0.length+1) d;generalize cg e st f o1 (b+g0.length+1) d=g1 at*;have i2:=JY o2 (by simp) E d;generalize cg e st f o2 E d=g2 at*;rw[alY,al9,alY,al9]at hl⊢
    have eE:b+(g0.length+(g1.length+(g2.length+1)+1))=E+g2.length:=by omega
    rw[eE]at hl⊢;have a1:=hA.right.head.1;have a2:=hA.right.tail;have a3:=a2.right.head.1;have a5:=a2.right.tail;rw[hE]at a5;dsimp only at a1 a3;intro S;obtain⟨c1,c2⟩:=i0 hA.left (by omega) S;obtain⟨d1,d2⟩:=i1 a2.left (by omega) S;obtain⟨x1,x2⟩:=i2 a5 hl S;obtain⟨e1,e2⟩:=vD t0 ha;rw[e1];by_cases h0:(g o0).2=0
    .obtain⟨k1,k2⟩:=Mz (t0.2 h0) ha;rw[if_neg (fun h=>h h0),e2 h0]
     have hj:vC ((50,(E:Int)):Int×Int) (g o0).1=true↔¬((g o0).1.2.2:Int)=1:=by
      unfold vC;simp
     by_cases hJ:((g o0).1.2.2:Int)=1
     .rw[if_pos ⟨ho,hJ⟩]
      have hjf:vC ((50,(E:Int)):Int×Int) (g o0).1=false:=by
       rw[<-Bool.not_eq_true];exact fun h=>hj.1 h hJ
      have step:∀r,cF code env (b+g0.length+1) S r->cF code env b S r:=fun r hr=>c1 h0 r (cF.cond a1 (.inl rfl) rfl (by omega) (by omega) k1 k2 (by
       rw[hjf,if_neg (by simp),if_pos (.inl rfl)]
       exact hr))
      exact⟨fun h r hr=>step r (d1 h r (cF.jump a3 rfl rfl (by omega) (by omega) hr)),fun h=>step _ (d2 h)⟩
     .rw[if_neg (fun h=>hJ h.2),if_pos ho]
      have step:∀r,cF code env E S r->cF code env b S r:=fun r hr=>c1 h0 r (cF.cond a1 (.inl rfl) rfl (by omega) (by omega) k1 k2 (by
       rw[if_pos (hj.2 hJ),if_pos (.inr rfl)]
       exact hr))
      exact⟨fun h r hr=>step r (x1 h r hr),fun h=>step _ (x2 h)⟩
    .rw[if_pos h0];exact⟨fun h=>absurd h h0,fun _=>c2 h0⟩
  have DY:¬((e[i].1:Int)=23\/(e[i].1:Int)=24):=fun h=>hz (h.elim .inl fun h=> .inr (.inl h))
  have GM:¬(e[i].1:Int)=26:=fun h=>hz (.inr (.inr h))
  rw[if_neg hz];rw[if_neg DY,if_neg GM]at hA hl⊢;rw[alY,al6]at hl⊢
  obtain⟨a,ha⟩:∃a:Nat,ar e[i].1=a:=⟨(ar e[i].1).toNat,by omega⟩
  have hj:¬(50<=(e[i].1:Int)/\(e[i].1:Int)<=53):=fun h=>by have:=Mj h.1;omega
  obtain⟨b1,_⟩:=hA.right.head;dsimp only at b1;intro S;obtain⟨h1,h2⟩:=Dk (code:=code) (F:=F) (env:=env) (g:=cg e st f) (v:=fg (jL env) e st f) os b d (fun o ho b' d' K4 r9=>ih o b' d' (by have:=aj o ho;omega) (by have:=aj o ho;omega) K4 r9) hA.left (by omega) S
  cases hq:eQ (fg (jL env) e st f) os with
  |inr c=>
   refine⟨fun h=>absurd h (xl hq),fun _=>h2 c hq⟩
  |inl vs=>
   have JW:vs.length=a:=by rw[tY hq,hlen];omega
   have gJ:(S++vs).length-a=S.length:=by rw[alY];omega
   have kD:(S++vs).drop ((S++vs).length-a)=vs:=by rw[gJ];simp
   have KP:(S++vs).take ((S++vs).length-a)=S:=by rw[gJ];simp
   refine⟨fun h0 r hr=>h1 vs hq r ?_,fun h0=>h1 vs hq _ ?_⟩
   .refine cF.op b1 hj ha (by rw[alY];omega) (by rw[kD];exact h0) ?_;rw[kD,KP];rw[<-am3]at hr;exact hr
   .have:=cF.fail (env:=env) (S:=S++vs) b1 hj ha (by rw[alY];omega) (by rw[kD];exact h0);rw[kD]at this;exact this
theorem GX{e:List Ty}{st:List Nat}{env:cz.den}(w:Whole e st)(he:im env)(hw:∀n∈e,WF aa n):∀(f i:Nat),i<f->i<e.length->(fg (jL env) e st f i).2≠0->(fg (jL env) e st f i).1=z3
 |0,_,h,_,_=>by omega
 |f+1,i,hf,hi,h=>by
  have hge:e.getD i ((0,0):Int×Int)=e[i]:=by simp only[amn,alV hi,amu]
  have aj:=sK w.val hi;have hlen:=dg st (ar e[i].1).toNat i
  have ih:∀o∈opsL st (ar e[i].1).toNat i,(fg (jL env) e st f o).2≠0->(fg (jL env) e st f o).1=z3:=fun o ho=>GX w he hw f o (by have:=aj o ho;omega) (by have:=aj o ho;omega)
  have zb:∀r:Vl×Int,(gH r).2≠0->(gH r).1=z3:=fun r=>by
   unfold gH;split
   .exact fun _=>rfl
   split
   .exact fun h=>absurd rfl h
   .exact fun _=>rfl
  rw[fg,hge]at h⊢;by_cases hz:bM e[i].1
  .rw[if_pos hz]at h⊢;generalize Nx:opsL st (ar e[i].1).toNat i=os at*;generalize fg (jL env) e st f=g at*;unfold C4 at h⊢;split at h
   .rename_i c;rw[if_pos c]
   rename_i c1;rw[if_neg c1];split at h
   .rename_i c;rw[if_pos c]
   rename_i c2;rw[if_neg c2]
   have h3:(e[i].1:Int)=26->∃o0 o1 o2,os=[o0,o1,o2]:=fun g=>Da (by rw[hlen,g];rfl)
   split at h
   .rename_i c;rw[if_pos c];obtain⟨o0,o1,o2,rfl⟩:=h3 c.1;exact ih o1 (by simp) h
   rename_i c3;rw[if_neg c3];split at h
   .rename_i c;rw[if_pos c];obtain⟨o0,o1,o2,rfl⟩:=h3 c;exact ih o2 (by simp) h
   rename_i c4;rw[if_neg c4];split at h
   .exact absurd rfl h
   .rename_i c;rw[if_neg c];exact zb _ h
  .rw[if_neg hz]at h⊢
   cases hq:eQ (fg (jL env) e st f) (opsL st (ar e[i].1).toNat i)with
   |inr c=>rfl
   |inl vs=>
    rw[hq]at h
    have hl:vs.length<=100000:=by
     have a1:=tY hq;have a3:=kK e[i].1;omega
    exact(GL he (hw _ (al0 hi)) hl).bad h
theorem GY{P:Ty×Int->Prop}{g:Nat->Nat->Int->List (Ty×Int)}:∀(os:List Nat)(b:Nat)(d:Int),(∀o∈os,∀b d,∀x∈g o b d,P x)->∀x∈mX g os b d,P x
 |[],_,_,_,x,h=>by simp[mX]at h
 |o::os,b,d,hg,x,h=>by
  rw[mX]at h
  rcases amf.1 h with h|h
  .exact hg o (amQ ..) _ _ x h
  .exact GY os _ _ (fun o ho=>hg o (List.mem_cons_of_mem _ ho)) x h
theorem MA{e:List Ty}{st:List Nat}(w:Whole e st):∀(f i b:Nat)(d:Int),i<e.length->∀x∈cg e st f i b d,((x.1.1:Int)=50\/(x.1.1:Int)=51\/(x.1.1:Int)=52\/(x.1.1:Int)=53)\/x.1∈e
 |0,_,_,_,_,x,h=>by simp[cg]at h
 |f+1,i,b,d,hi,x,h=>by
  have hge:e.getD i ((0,0):Int×Int)=e[i]:=by simp only[amn,alV hi,amu]
  have aj:=sK w.val hi;have hlen:=dg st (ar e[i].1).toNat i
  have ih:∀o∈opsL st (ar e[i].1).toNat i,∀b d,∀x∈cg e st f o b d,((x.1.1:Int)=50\/(x.1.1:Int)=51\/(x.1.1:Int)=52\/(x.1.1:Int)=53)\/x.1∈e:=fun o ho b d=>MA w f o b d (by have:=aj o ho;omega)
  rw[cg,hge]at h;generalize opsL st (ar e[i].1).toNat i=os at*;split at h
  .rename_i gq;obtain⟨o0,o1,rfl⟩:=Fg (l:=os) (by rw[hlen];rcases gq with g|g<;>rw[g]<;>rfl);unfold uJ at h
   rcases amf.1 h with h|h
   .exact ih o0 (by simp) _ _ x h
   rcases amg.1 h with rfl|h
   .left
    show(if _ then(53:Int)else 52)=50\/(if _ then(53:Int)else 52)=51\/(if _ then(53:Int)else 52)=52\/(if _ then(53:Int)else 52)=53
    split<;>simp
   .exact ih o1 (by simp) _ _ x h
  split at h
  .rename_i gq;obtain⟨o0,o1,o2,rfl⟩:=Da (l:=os) (by rw[hlen,gq];rfl);unfold Dc at h
   rcases amf.1 h with h|h
   .exact ih o0 (by simp) _ _ x h
   rcases amg.1 h with rfl|h
   .exact .inl (.inl rfl)
   rcases amf.1 h with h|h
   .exact ih o1 (by simp) _ _ x h
   rcases amg.1 h with rfl|h
   .exact .inl (.inr (.inl rfl))
   .exact ih o2 (by simp) _ _ x h
  .rcases amf.1 h with h|h
   .exact GY os _ _ ih x h
   .rw[ama.1 h];exact .inr (al0 hi)
end L.P
end Go.Proofs.YtmihpkfkbfgigaaGreatDoor
end
section
open _root_.Bool renaming false_eq_true->al2,not_true->am4
open _root_.Int renaming toNat_natCast->al1
open _root_.Go.IntKind renaming i64->alT
open _root_.List renaming getD->amn,length_set->ans,replicate->alX,replicate_succ->amX,set_append_right->amz
open _root_.Nat renaming le_refl->alZ,zero_le->amj
open _root_.Option renaming bind_some->alS
namespace Go.Proofs.YtmihpkfkbfgigaaGreatDoor
open Go Go.RowKit
set_option maxRecDepth 100000
namespace L.P.Q
def z3:Vl:=((0,0,0):Int×Int×Int)
def bM(op:Int):Prop:=op=23\/op=24\/op=26
instance(op:Int):Decidable (bM op):=by unfold bM;infer_instance
noncomputable def jL(env:cz.den)(n:Ty)(args:List Vl):Vl×Int:=(M.bL aB n args env).getD (z3,0)
theorem zv{env:cz.den}(he:im env){n:Ty}(hn:WF aa n){args:List Vl}(hl:args.length<=100000):M.bL aB n args env=some (jL env n args):=by
 obtain⟨r,hr,_⟩:=pI (n:=n) (args:=args) he hn hl;unfold jL;rw[hr];rfl
theorem GL{env:cz.den}(he:im env){n:Ty}(hn:WF aa n){args:List Vl}(hl:args.length<=100000):OZ (jL env n args):=by
 obtain⟨r,hr,h⟩:=pI (n:=n) (args:=args) he hn hl;unfold jL;rw[hr];exact h
theorem lR(N:Nat)(op:Int):M.eT N op=some (decide (50<=op/\op<=53)):=by
 unfold M.eT
 by_cases h:50<=op<;>simp[h]
theorem nk(N:Nat)(op:Int):M.da N op=some (decide (¬bM op/\(50<=op/\op<=53\/0<=ar op))):=by
 unfold M.da;rw[vb,lR,cJ];simp only[alS];unfold bM;by_cases h:op=23\/op=24\/op=26
 .simp[h]
 .by_cases h2:50<=op/\op<=53
  .simp[h,h2]
  .simp[h,h2]
theorem kM(N:Nat)(op:Int):M.fj N op=some (decide (op=50\/op=52\/op=53)):=by
 unfold M.fj;by_cases h:op=50
 .simp[h]
 .by_cases h2:op=52
  .simp[h2]
  .simp[h,h2]
def gd(D:List Int)(k:Nat):Int:=D.getD k (-1)
theorem iD{D:List Int}{t:Nat}(ht:t<D.length)(d:Int)(k:Nat):gd (D.set t d) k=if k=t then d else gd D k:=by
 unfold gd amn;by_cases h:k=t
 .subst h;rw[if_pos rfl,List.getElem?_set_self ht];rfl
 .rw[if_neg h,List.getElem?_set_ne (by omega)]
theorem kC{D:List Int}{t:Nat}(ht:t<D.length):idx D (t:Int)=some (gd D t):=by
 rw[ah ht];simp[gd,amn,ht]
def Bd(D:List Int):Prop:=∀k,-1<=gd D k/\gd D k<=12
structure Mn(D D':List Int)(i:Nat):Prop where
 len:D'.length=D.length
 keep:∀k,0<=gd D k->gd D' k=gd D k
 low:∀k,k<=i->gd D' k=gd D k
theorem Mn.refl(D:List Int)(i:Nat):Mn D D i:=⟨rfl,fun _ _=>rfl,fun _ _=>rfl⟩
theorem Mn.trans{A B C:List Int}{i:Nat}(h:Mn A B i)(h':Mn B C i):Mn A C i:=
 ⟨h'.len.trans h.len,fun k hk=>by rw[h'.keep k (by rw[h.keep k hk];exact hk),h.keep k hk],fun k hk=>by rw[h'.low k hk,h.low k hk]⟩
theorem lq{N:Nat}{D:List Int}{t i:Nat}{d:Int}(ht:t<D.length)(vV:i<t)(hd:0<=d/\d<=12)(hB:Bd D):Wp (M.aU N (t:Int) d D) fun r=>(r.1=0->Mn D r.2 i/\Bd r.2/\gd r.2 t=d)/\(gd D t= -1->r=(0,D.set t d)):=by
 unfold M.aU;rw[kC ht];simp only[alS,aF];by_cases h0:0<=gd D t
 .rw[decide_eq_true h0];simp only[if_true];by_cases h1:gd D t=d
  .rw[if_neg (by simp[h1])]
   refine .some ⟨fun _=>⟨⟨by simp[aH],fun k _=>?_,fun k hk=>?_⟩,fun k=>?_,?_⟩,fun h=>by omega⟩<;>simp only[aH,al1,iD ht]
   .split
    .rename_i h;rw[h,h1]
    .rfl
   .rw[if_neg (by omega)]
   .split
    .omega
    .exact hB k
   .simp
  .rw[if_pos (by simp[h1])];exact .some ⟨fun h=>by simp at h,fun h=>by omega⟩
 .rw[decide_eq_false h0];simp only[al2,if_false]
  refine .some ⟨fun _=>⟨⟨by simp[aH],fun k hk=>?_,fun k hk=>?_⟩,fun k=>?_,?_⟩,fun h=>by simp[aH]⟩<;>simp only[aH,al1,iD ht]
  .rw[if_neg (fun h=>by rw[h]at hk;exact h0 hk)]
  .rw[if_neg (by omega)]
  .split
   .omega
   .exact hB k
  .simp
def jJ(len:Nat)(D:List Int)(j:Nat)(n:Ty):Prop:=
 ((n.1:Int)=51/\∃t:Nat,(n.2:Int)=t/\j<t/\t<=len/\gd D t=gd D j)\/
 (((n.1:Int)=50\/(n.1:Int)=52\/(n.1:Int)=53)/\1<=gd D j/\gd D (j+1)=gd D j-1/\∃t:Nat,(n.2:Int)=t/\j<t/\t<=len/\gd D t=if(n.1:Int)=50 then gd D j-1 else gd D j)\/
 ((n.1:Int)≠51/\¬((n.1:Int)=50\/(n.1:Int)=52\/(n.1:Int)=53)/\0<=ar n.1/\ar n.1<=gd D j/\gd D (j+1)=gd D j-ar n.1+1/\gd D j-ar n.1+1<=12)
theorem jJ.mono{len j i:Nat}{D D':List Int}{n:Ty}(h:jJ len D j n)(hj:0<=gd D j)(m:Mn D D' i):jJ len D' j n:=by
 have e:=m.keep j hj
 rcases h with⟨h1,t,h2,h3,h4,h5⟩|⟨h1,h2,h3,t,h4,h5,h6,h7⟩|⟨h1,h2,h3,h4,h5,h6⟩
 .exact .inl ⟨h1,t,h2,h3,h4,by rw[m.keep t (by omega),h5,e]⟩
 .have e1:=m.keep (j+1) (by omega);have e2:=m.keep t (by rw[h7];split<;>omega);exact .inr (.inl ⟨h1,by omega,by omega,t,h4,h5,h6,by rw[e2,e];exact h7⟩)
 .have e1:=m.keep (j+1) (by omega);exact .inr (.inr ⟨h1,h2,h3,by omega,by omega,by omega⟩)
theorem vB{N:Nat}{code:List Ty}{D:List Int}{i:Nat}(hl:code.length<=128)(hi:i<code.length)(hD:D.length=code.length+1)(hB:Bd D)(h0:0<=gd D i):Wp (M.bC N code (i:Int) code[i] D) fun r=>r.1=0->Mn D r.2 i/\Bd r.2/\jJ code.length r.2 i code[i]/\¬bM code[i].1:=by
 unfold M.bC;generalize code[i]=n;obtain⟨(op:Int),(m:Int)⟩:=n;dsimp only[ae,Row.den]at*;have Jd:=kK op;have hBi:=hB i;rw[nk,lR,kC (by omega),cJ,vb];simp only[alS,aF];by_cases c1:¬bM op/\(50<=op/\op<=53\/0<=ar op)
 case neg=>
  rw[decide_eq_false c1];simp only[Bool.not_false,if_true]
  exact .some fun h=>by simp at h
 rw[decide_eq_true c1];simp only[am4,al2,if_false];by_cases c2:50<=op/\op<=53
 .rw[decide_eq_true c2];simp only[if_true];by_cases c3:m<=i\/(code.length:Int)<m
  .have:(if decide (m<=(i:Int))=true then true else decide ((code.length:Int)<m))=true:=by
    rcases c3 with c|c<;>simp[c]
   rw[if_pos this]
   exact .some fun h=>by simp at h
  have hc:(if decide (m<=(i:Int))=true then true else decide ((code.length:Int)<m))=false:=by
   rw[if_neg (by simp;omega)];simp;omega
  rw[if_neg (by rw[hc];simp)]
  obtain⟨t,rfl⟩:∃t:Nat,m=t:=⟨m.toNat,by omega⟩
  refine Wp.dec (fun c4=>?_) fun c4=>?_
  .refine Wp.seq _ (lq (t:=t) (i:=i) (by omega) (by omega) (by omega) hB) fun r hr=> .some fun h=>?_
   obtain⟨a1,a2,a3⟩:=hr.1 h;exact⟨a1,a2, .inl ⟨c4,t,rfl,by omega,by omega,by rw[a3,a1.low i (alZ _)]⟩,c1.1⟩
  refine Wp.dec (fun c5=>?_) fun c5=>by omega
  refine Wp.dec (fun c6=> .some fun h=>by simp at h) fun c6=>?_
  have w1:alT.wrap (gd D i-1)=gd D i-1:=aJ (by omega) (by omega);rw[w1,aD (by omega)]
  refine Wp.seq _ (lq (t:=i+1) (i:=i) (by omega) (by omega) (by omega) hB) fun r hr=>?_
  refine Wp.jz (fun c7=> .some fun h=>absurd h c7) fun c7=>?_
  obtain⟨a1,a2,a3⟩:=hr.1 c7;have sG:=a1.low i (alZ _)
  refine Wp.seq _ (lq (D:=r.2) (t:=t) (i:=i) (by rw[a1.len];omega) (by omega) (by split<;>omega) a2) fun r' p6=> .some fun h=>?_
  obtain⟨b1,b2,b3⟩:=p6.1 h;refine⟨a1.trans b1,b2, .inr (.inl ⟨c5,?_,?_,t,rfl,by omega,by omega,?_⟩),c1.1⟩
  .rw[b1.low i (alZ _)];show 1<=gd r.2 i;omega
  .show gd r'.2 (i+1)=gd r'.2 i-1
   rw[b1.low i (alZ _),b1.keep (i+1) (by omega)];omega
  .show gd r'.2 t=if op=50 then gd r'.2 i-1 else gd r'.2 i
   rw[b1.low i (alZ _),b3,sG]
   by_cases Bn:op=50<;>simp[Bn]
 .rw[decide_eq_false c2];simp only[al2,if_false]
  refine Wp.dec (fun c4=>by omega) fun c4=>?_
  refine Wp.dec (fun c5=>by omega) fun c5=>?_
  refine Wp.dec (fun c6=> .some fun h=>by simp at h) fun c6=>?_
  have w1:alT.wrap (gd D i-ar op)=gd D i-ar op:=aJ (by omega) (by omega);have w2:alT.wrap (gd D i-ar op+1)=gd D i-ar op+1:=aJ (by omega) (by omega);rw[w1,w2]
  refine Wp.dec (fun c7=> .some fun h=>by simp at h) fun c7=>?_
  rw[aD (by omega)]
  refine Wp.seq _ (lq (t:=i+1) (i:=i) (by omega) (by omega) (by omega) hB) fun r hr=> .some fun h=>?_
  obtain⟨a1,a2,a3⟩:=hr.1 h;have sG:=a1.low i (alZ _);exact⟨a1,a2, .inr (.inr ⟨c4,c5,by show 0<=ar op;omega,by show ar op<=gd r.2 i;omega,by show gd r.2 (i+1)=gd r.2 i-ar op+1;omega,by show gd r.2 i-ar op+1<=12;omega⟩),c1.1⟩
structure Fits(code:List Ty)(F:List Int):Prop where
 pos:0<code.length
 le:code.length<=128
 len:F.length=code.length+1
 bd:Bd F
 first:gd F 0=0
 last:gd F code.length=1
 step:∀j(h:j<code.length),0<=gd F j->jJ code.length F j code[j]/\¬bM code[j].1
theorem AO(n k:Nat):gd (alX n (-1)) k= -1:=by
 unfold gd amn;by_cases h:k<n
 .simp[h]
 .rw[List.getElem?_eq_none (by simp;omega)];rfl
theorem uK(code:List Ty):Wp (M.bY aB code) fun y=>y.2=0->∃F,Fits code F:=by
 unfold M.bY
 refine Wp.dec (fun h=> .some fun h=>by simp at h) fun h1=>?_
 refine Wp.dec (fun h=> .some fun h=>by simp at h) fun h2=>?_
 have hl:code.length<=128:=by omega
 have hp:0<code.length:=by omega
 rw[aD (by omega)]
 have uB:lB ((code.length+1:Nat):Int) (0:Int)=some (alX (code.length+1) 0):=by
  unfold lB;rw[if_pos (by omega),al1]
 rw[uB];simp only[alS];refine Wp.seq (· =alX (code.length+1) (-1:Int)) ?_ ?_
 .refine Wp.loop (fun s:Int×List Int=>∃k m:Nat,s=((k:Int),alX k (-1)++alX m 0)/\k+m=code.length+1) (fun s=>(code.length+1-s.1).toNat) ⟨0,code.length+1,by simp,by omega⟩ (by unfold aB;simp only;omega) ?_
  rintro _ ⟨k,m,rfl,hk⟩
  simp only[List.length_replicate]
  refine Wp.dec (fun h=>?_) fun h=> .some ?_
  .obtain⟨m,rfl⟩:∃m',m=m'+1:=⟨m-1,by omega⟩
   rw[ah (by simp)];simp only[alS];rw[aD (by omega)];refine .some ⟨⟨k+1,m,?_,by omega⟩,by simp only;omega⟩;refine Prod.ext rfl ?_;simp only[aH,al1];rw[amz _ _ (by simp),amX];simp[List.replicate_succ']
  .obtain rfl:m=0:=by omega
   obtain rfl:k=code.length+1:=by omega
   show _=_
   simp
 rintro _ rfl
 have e1:idx (alX (code.length+1) (-1:Int)) 0=some (-1):=by rw[amX];rfl
 rw[e1];simp only[alS];have e0:aH (alX (code.length+1) (-1:Int)) (0:Int) (0:Int)=(alX (code.length+1) (-1:Int)).set 0 0:=rfl;rw[e0]
 have g0:∀k,gd ((alX (code.length+1) (-1:Int)).set 0 0) k=if k=0 then 0 else-1:=fun k=>by
  rw[iD (by simp),AO]
 refine Wp.join (Wp.loop (fun s:Int×Int×List Int=>∃i:Nat,s.2.1=i/\i<=code.length/\s.2.2.length=code.length+1/\Bd s.2.2/\gd s.2.2 0=0/\∀j(h:j<code.length),j<i->0<=gd s.2.2 j->jJ code.length s.2.2 j code[j]/\¬bM code[j].1) (fun s=>(code.length-s.2.1).toNat) ⟨0,rfl,amj _,by simp,fun k=>?_,?_,fun j _ h=>by omega⟩ (by unfold aB;simp only;omega) ?_)
 .simp only[g0];split<;>omega
 .simp only[g0];rfl
 rintro⟨g,at',D⟩ ⟨i,oS,hi,hD,hB,hz,hs⟩
 dsimp only at oS hi hD hB hz hs⊢;subst oS
 refine Wp.dec (fun aj=>?_) fun hge=> .some ?_
 .have aj:i<code.length:=by omega
  rw[aD (by omega),ah aj,kC (by omega)];simp only[alS];refine Wp.join ?_
  refine Wp.dec (fun Fe=> .some ?_) fun nO=>?_
  .refine Wp.some ?_;refine⟨⟨i+1,rfl,aj,hD,hB,hz,fun j h hj h0=>hs j h ?_ h0⟩,by simp only;omega⟩
   rcases Nat.lt_or_ge j i with h'|h'
   .exact h'
   .have:j=i:=by omega
    subst this;dsimp only at h0;omega
  .refine Wp.seq _ (vB hl aj hD hB (by omega)) fun r hr=>?_
   refine Wp.jz (fun bR=> .some ?_) fun nX=> .some ?_
   .exact(fun h=>absurd h bR:r.1=0->∃F,Fits code F)
   .obtain⟨a1,a2,a3,a4⟩:=hr nX;refine Wp.some ?_;refine⟨⟨i+1,rfl,aj,by rw[<-hD];exact a1.len,a2,by rw[<-hz];exact a1.low 0 (amj _),fun j h hj h0=>?_⟩,by simp only;omega⟩
    rcases Nat.lt_or_ge j i with h'|h'
    .have e:=a1.low j (by omega)
     have h0':0<=gd D j:=by rw[<-e];exact h0
     obtain⟨b1,b2⟩:=hs j h h' h0';exact⟨b1.mono h0' a1,b2⟩
    .have:j=i:=by omega
     subst this;exact⟨a3,a4⟩
 .obtain rfl:i=code.length:=by omega
  show Wp ((idx D (code.length:Int)).bind _) _
  rw[kC (by omega)];simp only[alS]
  refine Wp.dec (fun h=> .some fun h=>by simp at h) fun h3=>?_
  refine Wp.dec (fun h=> .some fun h=>by simp at h) fun h4=> .some fun _=>⟨D,hp,hl,hD,hB,hz,by omega,fun j h h0=>hs j h h h0⟩
structure Cs(F D:List Int):Prop where
 len:D.length=F.length
 ok:∀k,gd D k= -1\/gd D k=gd F k
theorem Cs.set{F D:List Int}(c:Cs F D){t:Nat}(ht:t<F.length):Cs F (D.set t (gd F t)):=by
 refine⟨by rw[ans,c.len],fun k=>?_⟩;rw[iD (by rw[c.len];exact ht)];split
 .rename_i h;rw[h];exact .inr rfl
 .exact c.ok k
theorem mS{N:Nat}{F D:List Int}(c:Cs F D){t:Nat}(ht:t<F.length):M.aU N (t:Int) (gd F t) D=some (0,D.set t (gd F t)):=by
 have htD:t<D.length:=by rw[c.len];exact ht
 unfold M.aU;rw[kC htD];simp only[alS,aF]
 rcases c.ok t with h|h
 .rw[h];rfl
 .rw[h]
  by_cases h0:0<=gd F t<;>simp[h0,aH]
theorem Fj{N:Nat}{code:List Ty}{F D:List Int}(f:Fits code F)(c:Cs F D){i:Nat}(hi:i<code.length)(h0:gd D i=gd F i)(hp:0<=gd F i):Wp (M.bC N code (i:Int) code[i] D) fun r=>r.1=0/\Cs F r.2/\∃t,i<t/\t<=code.length/\0<=gd r.2 t:=by
 have hle:=f.le;have TO:=f.len;have hDl:=c.len;have hb:=f.bd i;have F8:=f.bd (i+1);obtain⟨hs,Ji⟩:=f.step i hi hp;unfold M.bC;generalize code[i]=n at*;obtain⟨(op:Int),(m:Int)⟩:=n;dsimp only[ae,Row.den]at*;have Jd:=kK op;rw[nk,lR,kC (by omega),cJ,vb,h0];simp only[alS]
 have e0:(50<=op/\op<=53\/0<=ar op)->(50<=op/\op<=53->(i:Int)<m/\m<=(code.length:Int))->(if(!decide (¬bM op/\(50<=op/\op<=53\/0<=ar op)))=true then some true else(if decide (50<=op/\op<=53)=true then(if decide (m<=(i:Int))=true then some true else some (decide ((code.length:Int)<m)))else some false))=some false:=by
  intro g1 g2;rw[decide_eq_true (show¬bM op/\(50<=op/\op<=53\/0<=ar op)from⟨Ji,g1⟩),if_neg (by simp)];by_cases g:50<=op/\op<=53
  .obtain⟨g3,g4⟩:=g2 g;rw[decide_eq_true g,if_pos rfl,decide_eq_false (by omega),if_neg (by simp),decide_eq_false (by omega)]
  .rw[decide_eq_false g,if_neg (by simp)]
 rcases hs with⟨h1,t,h2,h3,h4,h5⟩|⟨h1,h2,h3,t,h4,h5,h6,h7⟩|⟨h1,h2,h3,h4,h5,h6⟩
 .dsimp only[ae,Row.den]at*;subst h2;rw[e0 (.inl (by omega)) (fun _=>by omega)];simp only[alS,al2,if_false]
  refine Wp.dec (fun _=>?_) fun h=>absurd h1 h
  rw[<-h5,mS c (by omega)];refine .some ⟨rfl,c.set (by omega),t,h3,h4,?_⟩
  show 0<=gd (D.set t (gd F t)) t
  rw[iD (by omega),if_pos rfl];omega
 .dsimp only[ae,Row.den]at*;subst h4;rw[e0 (.inl (by omega)) (fun _=>by omega)];simp only[alS,al2,if_false]
  refine Wp.dec (fun h=>by omega) fun _=>?_
  refine Wp.dec (fun _=>?_) fun h=>absurd h1 h
  refine Wp.dec (fun h=>by omega) fun _=>?_
  have w1:alT.wrap (gd F i-1)=gd F (i+1):=by rw[aJ (by omega) (by omega),h3]
  rw[w1,aD (by omega),mS c (by omega)];have c1:=c.set (t:=i+1) (by omega);simp only[alS]
  refine Wp.jz (fun h=>absurd trivial h) fun _=>?_
  have e7:(if decide (op=50)=true then some (gd F (i+1))else some (gd F i))=some (gd F t):=by
   by_cases Bn:op=50
   .rw[decide_eq_true Bn,if_pos rfl,h7,if_pos Bn,h3]
   .rw[decide_eq_false Bn,if_neg (by simp),h7,if_neg Bn]
  rw[e7];simp only[alS];rw[mS c1 (by omega)];have c2:=c1.set (t:=t) (by omega);refine .some ⟨rfl,c2,t,h5,h6,?_⟩
  show 0<=gd (((D.set (i+1) (gd F (i+1)))).set t (gd F t)) t
  rw[iD (by rw[ans];omega),if_pos rfl,h7]
  split<;>omega
 .dsimp only[ae,Row.den]at*
  have gq:¬(50<=op/\op<=53):=by
   intro h
   have:op=50\/op=51\/op=52\/op=53:=by omega
   omega
  rw[e0 (.inr h3) (fun h=>absurd h gq)];simp only[alS,al2,if_false]
  refine Wp.dec (fun h=>absurd h h1) fun _=>?_
  refine Wp.dec (fun h=>absurd h h2) fun _=>?_
  refine Wp.dec (fun h=>by omega) fun _=>?_
  have w1:alT.wrap (gd F i-ar op)=gd F i-ar op:=aJ (by omega) (by omega)
  have w2:alT.wrap (gd F i-ar op+1)=gd F (i+1):=by rw[aJ (by omega) (by omega),h5]
  rw[w1,w2]
  refine Wp.dec (fun h=>by omega) fun _=>?_
  rw[aD (by omega),mS c (by omega)];refine .some ⟨rfl,c.set (by omega),i+1,by omega,by omega,?_⟩
  show 0<=gd (D.set (i+1) (gd F (i+1))) (i+1)
  rw[iD (by omega),if_pos rfl];omega
theorem Fits.verify{code:List Ty}{F:List Int}(f:Fits code F):Wp (M.bY aB code) fun y=>y.2=0:=by
 have hl:=f.le;have hp:=f.pos;have TO:=f.len;unfold M.bY
 refine Wp.dec (fun h=>by omega) fun h1=>?_
 refine Wp.dec (fun h=>by omega) fun h2=>?_
 rw[aD (by omega)]
 have uB:lB ((code.length+1:Nat):Int) (0:Int)=some (alX (code.length+1) 0):=by
  unfold lB;rw[if_pos (by omega),al1]
 rw[uB];simp only[alS];refine Wp.seq (· =alX (code.length+1) (-1:Int)) ?_ ?_
 .refine Wp.loop (fun s:Int×List Int=>∃k m:Nat,s=((k:Int),alX k (-1)++alX m 0)/\k+m=code.length+1) (fun s=>(code.length+1-s.1).toNat) ⟨0,code.length+1,by simp,by omega⟩ (by unfold aB;simp only;omega) ?_
  rintro _ ⟨k,m,rfl,hk⟩
  simp only[List.length_replicate]
  refine Wp.dec (fun h=>?_) fun h=> .some ?_
  .obtain⟨m,rfl⟩:∃m',m=m'+1:=⟨m-1,by omega⟩
   rw[ah (by simp)];simp only[alS];rw[aD (by omega)];refine .some ⟨⟨k+1,m,?_,by omega⟩,by simp only;omega⟩;refine Prod.ext rfl ?_;simp only[aH,al1];rw[amz _ _ (by simp),amX];simp[List.replicate_succ']
  .obtain rfl:m=0:=by omega
   obtain rfl:k=code.length+1:=by omega
   show _=_
   simp
 rintro _ rfl
 have e1:idx (alX (code.length+1) (-1:Int)) 0=some (-1):=by rw[amX];rfl
 rw[e1];simp only[alS];have e0:aH (alX (code.length+1) (-1:Int)) (0:Int) (0:Int)=(alX (code.length+1) (-1:Int)).set 0 0:=rfl;rw[e0]
 have g0:∀k,gd ((alX (code.length+1) (-1:Int)).set 0 0) k=if k=0 then 0 else-1:=fun k=>by
  rw[iD (by simp),AO]
 refine Wp.join (Wp.loop (fun s:Int×Int×List Int=>∃i:Nat,s.2.1=i/\i<=code.length/\Cs F s.2.2/\∃k,i<=k/\k<=code.length/\0<=gd s.2.2 k) (fun s=>(code.length-s.2.1).toNat) ⟨0,rfl,amj _,⟨by simp[TO],fun k=>?_⟩,0,alZ _,amj _,?_⟩ (by unfold aB;simp only;omega) ?_)
 .simp only[g0];split
  .rename_i h;rw[h,f.first];exact .inr rfl
  .exact .inl rfl
 .simp only[g0];decide
 rintro⟨g,at',D⟩ ⟨i,oS,hi,hc,k,Gt,yw,Rx⟩
 dsimp only at oS hi hc Rx⊢;subst oS;have hDl:=hc.len
 refine Wp.dec (fun aj=>?_) fun hge=> .some ?_
 .have aj:i<code.length:=by omega
  rw[aD (by omega),ah aj,kC (by omega)];simp only[alS];refine Wp.join ?_
  refine Wp.dec (fun Fe=> .some ?_) fun nO=>?_
  .refine Wp.some ⟨⟨i+1,rfl,aj,hc,k,?_,yw,Rx⟩,by simp only;omega⟩;by_cases e:k=i
   .subst e;omega
   .omega
  have hgi:gd D i=gd F i:=(hc.ok i).resolve_left (by omega)
  refine Wp.seq _ (Fj f hc aj hgi (by omega)) fun r hr=>?_
  obtain⟨r1,r2,t,r3,r4,r5⟩:=hr
  refine Wp.jz (fun h=>absurd r1 h) fun _=> .some ?_
  exact Wp.some ⟨⟨i+1,rfl,aj,r2,t,r3,r4,r5⟩,by simp only;omega⟩
 .obtain rfl:i=code.length:=by omega
  show Wp ((idx D (code.length:Int)).bind _) _
  obtain rfl:k=code.length:=by omega
  rw[kC (by omega),(hc.ok _).resolve_left (by omega),f.last];exact .some rfl
end L.P.Q
end Go.Proofs.YtmihpkfkbfgigaaGreatDoor
end
section
open _root_.Bool renaming false_eq_true->al2,not_true->am4
open _root_.Go.IntKind renaming i64->alT
open _root_.List renaming getElem?_eq_getElem->alV,getElem?_eq_some_iff->alW,length_append->alY,length_singleton->al6,length_take->amd,mem_of_getElem?->amM,take_append_of_le_length->aml,take_length->amc
open _root_.Nat renaming le_refl->alZ,min_eq_left->amF,zero_le->amj
open _root_.Option renaming bind_some->alS
namespace Go.Proofs.YtmihpkfkbfgigaaGreatDoor
open Go Go.RowKit
set_option maxRecDepth 100000
namespace L.P.Q
theorem sH{α:Type}(p:List α)(x:α):idx (p++[x]) (p.length:Int)=some x:=by
 rw[ah (by simp)];simp
def vC(n:Ty)(top:Vl):Bool:=decide (decide ((top.2.2:Int)=1)=decide ((n.1:Int)=53))
inductive cF(code:List Ty)(env:cz.den):Nat->List Vl->Vl×Int->Prop
 |done {v:Vl} {S:List Vl}:cF code env code.length (v::S) (v,0)
 |jump {p t:Nat} {S:List Vl} {r:Vl×Int} {n:Ty} (h:code[p]? =some n) (pb:(n.1:Int)=51) (ht:(n.2:Int)=t) (C7:p<t) (uY:t<=code.length) (next:cF code env t S r):cF code env p S r
 |op {p a:Nat} {S:List Vl} {r:Vl×Int} {n:Ty} (h:code[p]? =some n) (bR:¬(50<=(n.1:Int)/\(n.1:Int)<=53)) (ha:ar n.1=a) (hs:a<=S.length) (h0:(jL env n (S.drop (S.length-a))).2=0) (next:cF code env (p+1) (S.take (S.length-a)++[(jL env n (S.drop (S.length-a))).1]) r):cF code env p S r
 |fail {p a:Nat} {S:List Vl} {n:Ty} (h:code[p]? =some n) (bR:¬(50<=(n.1:Int)/\(n.1:Int)<=53)) (ha:ar n.1=a) (hs:a<=S.length) (h0:(jL env n (S.drop (S.length-a))).2≠0):cF code env p S (z3,(jL env n (S.drop (S.length-a))).2)
 |cond {p t:Nat} {S:List Vl} {r:Vl×Int} {n:Ty} {top:Vl} (h:code[p]? =some n) (gq:(n.1:Int)=50\/(n.1:Int)=52\/(n.1:Int)=53) (ht:(n.2:Int)=t) (C7:p<t) (uY:t<=code.length) (hk:(top.1:Int)=1) (hv:(top.2.2:Int)=0\/(top.2.2:Int)=1) (next:cF code env (if vC n top=true then t else p+1) (if vC n top=false\/(n.1:Int)=50 then S else S++[top]) r):cF code env p (S++[top]) r
 |cbad {p:Nat} {S:List Vl} {n:Ty} {top:Vl} (h:code[p]? =some n) (gq:(n.1:Int)=50\/(n.1:Int)=52\/(n.1:Int)=53) (hk:¬((top.1:Int)=1/\((top.2.2:Int)=0\/(top.2.2:Int)=1))):cF code env p (S++[top]) (z3,8)
theorem C8{code:List Ty}{env:cz.den}{r:Vl×Int}(he:im env)(hw:∀n∈code,WF aa n)(hl:code.length<=128)(SC:Wp (M.bY aB code) fun y=>y.2=0)(hr:cF code env 0 [] r):Wp (M.nh aB code env) fun x=>x.1=r.1/\x.2.2=r.2:=by
 unfold M.nh
 refine Wp.seq _ SC fun y hy=>?_
 refine Wp.jz (fun h=>absurd hy h) fun _=>?_
 refine Wp.join (Wp.loop (fun s:Int×Int×List Vl=>∃q k:Nat,s.1=q/\s.2.1=k/\k<=code.length/\q<=k/\s.2.2.length<=k/\cF code env k s.2.2 r) (fun s=>(code.length-s.2.1).toNat) ⟨0,0,rfl,rfl,amj _,alZ _,alZ _,hr⟩ (by unfold aB;simp only;omega) ?_)
 rintro⟨_,_,iq⟩ ⟨q,k,rfl,rfl,hk,hq,NH,bA⟩
 dsimp only at NH bA⊢
 cases bA with
 | @done v S=>
   refine Wp.dec (fun h=>by omega) fun _=> .some ?_
   show Wp ((idx (v::S) (0:Int)).bind _) _
   exact .some ⟨rfl,rfl⟩
 | @jump _ t _ _ n h pb ht C7 uY next=>
   obtain⟨aj,hn⟩:=alW.1 h
   refine Wp.dec (fun _=>?_) fun h=>by omega
   rw[ah aj,hn];simp only[alS];rw[aD (k:=q) (by omega)];refine Wp.join (Wp.dec (fun _=> .some ?_) fun h=>absurd pb h);refine Wp.some ⟨⟨q+1,t,rfl,ht,uY,by omega,by show iq.length<=t;omega,next⟩,?_⟩;simp only[ht];omega
 | @op _ a _ _ n h bR ha hs h0 next=>
   obtain⟨aj,hn⟩:=alW.1 h;have Bo:WF aa n:=hw n (amM h)
   refine Wp.dec (fun _=>?_) fun h=>by omega
   rw[ah aj,hn];simp only[alS,kM,cJ,aF];rw[aD (k:=q) (by omega)]
   have n1:¬(n.1:Int)=51:=fun h=>bR (by rw[h];decide)
   have n2:¬((n.1:Int)=50\/(n.1:Int)=52\/(n.1:Int)=53):=fun h=>bR (by rcases h with h|h|h<;>rw[h]<;>decide)
   refine Wp.join (Wp.dec (fun h=>absurd h n1) fun _=>?_);rw[decide_eq_false n2];simp only[Bool.not_false,if_true]
   have wl:alT.wrap ((iq.length:Int)-(a:Int))=((iq.length-a:Nat):Int):=by rw[aJ (by omega) (by omega)];omega
   rw[ha,wl,lk (iq.length-a) iq.length rfl rfl (by omega) (alZ _),gG (by omega),amc,aD (k:=k) (by omega)];simp only[alS];rw[zv he Bo (by simp;omega)];simp only[alS]
   refine Wp.jz (fun h=>absurd h0 h) fun _=>?_
   rw[bh (by simp;omega)];simp only[alS];refine .some (Wp.some ⟨⟨q+1,k+1,rfl,rfl,aj,by omega,?_,next⟩,by simp only;omega⟩);simp;omega
 | @fail _ a _ n h bR ha hs h0=>
   obtain⟨aj,hn⟩:=alW.1 h;have Bo:WF aa n:=hw n (amM h)
   refine Wp.dec (fun _=>?_) fun h=>by omega
   rw[ah aj,hn];simp only[alS,kM,cJ,aF]
   have n1:¬(n.1:Int)=51:=fun h=>bR (by rw[h];decide)
   have n2:¬((n.1:Int)=50\/(n.1:Int)=52\/(n.1:Int)=53):=fun h=>bR (by rcases h with h|h|h<;>rw[h]<;>decide)
   refine Wp.join (Wp.dec (fun h=>absurd h n1) fun _=>?_);rw[decide_eq_false n2];simp only[Bool.not_false,if_true]
   have wl:alT.wrap ((iq.length:Int)-(a:Int))=((iq.length-a:Nat):Int):=by rw[aJ (by omega) (by omega)];omega
   rw[ha,wl,lk (iq.length-a) iq.length rfl rfl (by omega) (alZ _),amc];simp only[alS];rw[zv he Bo (by simp;omega)];simp only[alS]
   refine Wp.jz (fun _=> .some ?_) fun h=>absurd h h0
   exact⟨rfl,rfl⟩
 | @cond _ t S _ n top h gq ht C7 uY hkd hv next=>
   obtain⟨aj,hn⟩:=alW.1 h
   refine Wp.dec (fun _=>?_) fun h=>by omega
   rw[ah aj,hn];simp only[alS,kM,cJ,aF];rw[aD (k:=q) (by omega)]
   have n1:¬(n.1:Int)=51:=fun h=>by rcases gq with g|g|g<;>(rw[h]at g;exact absurd g (by decide))
   refine Wp.join (Wp.dec (fun h=>absurd h n1) fun _=>?_);rw[decide_eq_true gq];simp only[am4,al2,if_false];rw[alY,al6]at NH⊢
   have wl:alT.wrap (((S.length+1:Nat):Int)-1)=(S.length:Int):=by rw[aJ (by omega) (by omega)];omega
   rw[wl,sH S top];simp only[alS];rw[if_neg (by rw[hkd];rcases hv with g|g<;>rw[g]<;>simp)];rw[gG (by simp),aD (k:=k) (by omega),aml (alZ _),amc];simp only[alS]
   have QD:∀b:Bool,(if b=true then n.2 else((k+1:Nat):Int))=((if b=true then t else k+1:Nat):Int):=fun b=>by cases b<;>simp[ht]
   rw[QD];have hb:decide (decide ((top.2.2:Int)=1)=decide ((n.1:Int)=53))=vC n top:=rfl;rw[hb];generalize vC n top=b at*
   have fin:∀(S':List Vl),S'.length<=k->cF code env (if b=true then t else k+1) S' r->w6 (fun s:Int×Int×List Vl=>∃q k:Nat,s.1=q/\s.2.1=k/\k<=code.length/\q<=k/\s.2.2.length<=k/\cF code env k s.2.2 r) (fun s=>(code.length-s.2.1).toNat) ((q:Int),(k:Int),S++[top]) (qT (fun j2:Int×List Vl=>(idx j2.2 0).bind fun JX=>some (JX,j2.1,0)) fun x:Vl×Int×Int=>x.1=r.1/\x.2.2=r.2) (Sum.inl (((q+1:Nat):Int),((if b=true then t else k+1:Nat):Int),S')):=by
    intro S' hS hR;refine⟨⟨q+1,if b=true then t else k+1,rfl,rfl,by split<;>omega,by split<;>omega,by show S'.length<=_;split<;>omega,hR⟩,?_⟩
    simp only;split<;>omega
   refine Wp.ite (fun hp=> .some ?_) fun hp=> .some ?_
   .have hx:b=false\/(n.1:Int)=50:=by
     cases b with
     |false=>exact .inl rfl
     |true=>exact .inr (by simpa using hp)
    have ex:(if b=false\/(n.1:Int)=50 then S else S++[top])=S:=if_pos hx
    rw[ex]at next
    exact Wp.some (fin S (by omega) next)
   .have hx:¬(b=false\/(n.1:Int)=50):=by
     cases b with
     |false=>simp at hp
     |true=>simpa using hp
    have ex:(if b=false\/(n.1:Int)=50 then S else S++[top])=S++[top]:=if_neg hx
    rw[ex]at next
    exact Wp.some (fin (S++[top]) (by rw[alY,al6];exact NH) next)
 | @cbad _ S n top h gq Mw=>
   obtain⟨aj,hn⟩:=alW.1 h
   refine Wp.dec (fun _=>?_) fun h=>by omega
   rw[ah aj,hn];simp only[alS,kM,cJ,aF]
   have n1:¬(n.1:Int)=51:=fun h=>by rcases gq with g|g|g<;>(rw[h]at g;exact absurd g (by decide))
   refine Wp.join (Wp.dec (fun h=>absurd h n1) fun _=>?_);rw[decide_eq_true gq];simp only[am4,al2,if_false];rw[alY,al6]at NH⊢
   have wl:alT.wrap (((S.length+1:Nat):Int)-1)=(S.length:Int):=by rw[aJ (by omega) (by omega)];omega
   rw[wl,sH S top];simp only[alS]
   rw[if_pos (by
    by_cases h1:(top.1:Int)=1
    .have h2:¬(top.2.2:Int)=0:=fun h=>Mw ⟨h1, .inl h⟩
     have h3:¬(top.2.2:Int)=1:=fun h=>Mw ⟨h1, .inr h⟩
     simp[h1,h2,h3]
    .simp[h1])]
   exact .some ⟨rfl,rfl⟩
theorem Fits.runs{code:List Ty}{F:List Int}{env:cz.den}(f:Fits code F):∀(m p:Nat)(S:List Vl),code.length-p<=m->p<=code.length->gd F p=S.length->∃r,cF code env p S r:=by
 intro m
 induction m with
 |zero=>
  intro p S hm hp hS
  obtain rfl:p=code.length:=by omega
  have hl:=f.last
  cases S with
  |nil=>simp at hS;omega
  |cons v S=>exact⟨_, .done⟩
 |succ m ih=>
  intro p S hm hp hS;by_cases aj:p<code.length
  case neg=>
   obtain rfl:p=code.length:=by omega
   have hl:=f.last
   cases S with
   |nil=>simp at hS;omega
   |cons v S=>exact⟨_, .done⟩
  have hge:=alV aj
  rcases(f.step p aj (by omega)).1 with⟨h1,t,h2,h3,h4,h5⟩|⟨h1,h2,h3,t,h4,h5,h6,h7⟩|⟨h1,h2,h3,h4,h5,h6⟩
  .obtain⟨r,hr⟩:=ih t S (by omega) h4 (by omega);exact⟨r, .jump hge h1 h2 h3 h4 hr⟩
  .rcases List.eq_nil_or_concat S with rfl|⟨S',top,rfl⟩
   .simp at hS;omega
   simp only[List.concat_eq_append]at hS⊢;rw[alY,al6]at hS;by_cases hg:(top.1:Int)=1/\((top.2.2:Int)=0\/(top.2.2:Int)=1)
   .obtain⟨r,hr⟩:=ih (if vC code[p] top=true then t else p+1) (if vC code[p] top=false\/(code[p].1:Int)=50 then S' else S'++[top]) (by split<;>omega) (by split<;>omega) (by
     by_cases hj:vC code[p] top=true
     .rw[if_pos hj,h7];by_cases Bn:(code[p].1:Int)=50
      .rw[if_pos Bn,if_pos (.inr Bn)];omega
      .rw[if_neg Bn,if_neg (by simp[hj,Bn]),alY,al6];omega
     .rw[if_neg hj,if_pos (.inl (by simpa using hj)),h3];omega)
    exact⟨r, .cond hge h1 h4 h5 h6 hg.1 hg.2 hr⟩
   .exact⟨_, .cbad hge h1 hg⟩
  .obtain⟨a,ha⟩:∃a:Nat,ar code[p].1=a:=⟨(ar code[p].1).toNat,by omega⟩
   have QH:¬(50<=(code[p].1:Int)/\(code[p].1:Int)<=53):=by
    generalize(code[p].1:Int)=o at h1 h2;dsimp only[ae,Row.den]at*;omega
   by_cases h0:(jL env code[p] (S.drop (S.length-a))).2=0
   .obtain⟨r,hr⟩:=ih (p+1) (S.take (S.length-a)++[(jL env code[p] (S.drop (S.length-a))).1]) (by omega) aj (by
     rw[h5,alY,amd,al6,amF (by omega)];omega)
    exact⟨r, .op hge QH ha (by omega) h0 hr⟩
   .exact⟨_, .fail hge QH ha (by omega) h0⟩
end L.P.Q
end Go.Proofs.YtmihpkfkbfgigaaGreatDoor
end
