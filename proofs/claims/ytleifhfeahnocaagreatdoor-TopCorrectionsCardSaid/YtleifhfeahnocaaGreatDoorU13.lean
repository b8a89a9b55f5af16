/- Joined texts: LB XA P42b XH XI XJ XK XL XM XN. -/
import Derived.Test.YtleifhfeahnocaaGreatDoorU10
import Derived.Test.YtleifhfeahnocaaGreatDoorU4
import Derived.Test.YtleifhfeahnocaaGreatDoorU1
import Derived.Test.YtleifhfeahnocaaGreatDoorU12
set_option linter.defProp false
open _root_.Option renaming none->ae,some->aa,bind_some->ai8
open _root_.Bool renaming true->af,false->ag,and_eq_true->akd,false_eq_true->ajI
open _root_.Go.IntWalk renaming i64_left->akF
open _root_.List renaming append_nil->ajS,filter_cons_of_neg->aj7,filter_cons_of_pos->aj6,getElem_mem->aje,length_filter_le->aj2,map_cons->ajD,mem_append->ajt,mem_singleton->ajy,sum_cons->ajR,take_append_getElem->ajk,take_length->ajn,cons_append->akk,length_cons->ajp,mem_cons->ajQ,nil_append->ajC,length_nil->ajJ,range->ajY,replicate->aji,getElem_of_mem->ajm,drop_eq_getElem_cons->ajx
open _root_.Option.some renaming inj->aja
open _root_.Int renaming le_refl->aj1,eq_ofNat_of_zero_le->ajd,toNat_natCast->ajg,not_lt->ajT
open _root_.Nat renaming le_refl->ajh,le_trans->ajs,zero_le->ajB,beq->ajf
open _root_.Go.IntKind renaming i64->ai9
open _root_.Classical renaming propDecidable->aju
namespace Go.Proofs.YtleifhfeahnocaaGreatDoor
open Go Go.RowKit
set_option maxRecDepth 100000
set_option linter.unusedSimpArgs false
set_option linter.unusedVariables false
set_option linter.defProp false
namespace L.B
abbrev A3:Type:=Int×Int×Int
def ng(b:P4):Int:=if wrap64 (b.2.1-b.2.2.1)<0 then 0 else wrap64 (b.2.1-b.2.2.1)
def mW(b:P4):Int:=if wrap64 (wrap64 (b.2.2.1-b.2.1)-b.2.2.2)<0 then 0 else wrap64 (wrap64 (b.2.2.1-b.2.1)-b.2.2.2)
def Nd(b:P4):M.eV aU b=aa (ng b):=by unfold M.eV ng;simp only[akF]
def QW(b:P4):M.cx aU b=aa (mW b):=by unfold M.cx mW;simp only[akF]
def Eg{k:Nat}(h:k<9223372036854775807):wrap64 ((k:Int)+1)=((k+1:Nat):Int):=by
 rw[<-akF];exact aS h
def J8(c:Int×Int)(b:P4):Int×Int:=(wrap64 (c.1+ng b),wrap64 (c.2+mW b))
def TE(l:List P4)(hl:l.length<=1048576):M.lQ aU l=aa (l.foldl J8 (0,0)):=by
 apply Wp.eq;unfold M.lQ
 refine Wp.fold (λs=>s.2.2) (λs=>(s.1,s.2.1)) l J8 (0,0) (λ_ _=>True) (by omega) rfl rfl trivial (λk s hk hs _=>?_) λs hs hc _=>?_
 .obtain⟨a,b,c⟩:=s;obtain rfl:c=_:=hs;simp only[ow hk,aF hk,Nd,QW,akF,W_,av,ax,reduceCtorEq,ai8,zO,J8,and_true];exact Eg (by omega)
 .obtain⟨a,b,c⟩:=s;obtain rfl:c=_:=hs;simp only[tv,W_,av,ax,reduceCtorEq,zP];exact hc
def fR(m:Int)(p:P4):Int:=if p.2.1=m then(if p.2.2.1=1 then p.2.2.2 else if p.2.2.1=2\/p.2.2.1=3 then-p.2.2.2 else 0)else 0
def fV(m:Int)(p:P4):Int:=if p.2.1=m then(if p.2.2.1=4 then p.2.2.2 else 0)else 0
def sR(m:Int)(ps:List P4):Int:=wrap64 (ps.map (fR m)).sum
def sV(m:Int)(ps:List P4):Int:=wrap64 (ps.map (fV m)).sum
def Yk(a b:Int):wrap64 (wrap64 a+b)=wrap64 (a+b):=by unfold wrap64;omega
def w_r(a b:Int):wrap64 (a+wrap64 b)=wrap64 (a+b):=by unfold wrap64;omega
def Un:wrap64 0=0:=by unfold wrap64;omega
def Yl(a:Int):wrap64 (wrap64 a)=wrap64 a:=by unfold wrap64;omega
def QX{m:Int}{p:P4}(h:p.2.1=m)(a:Int):wrap64 (a+amt p)=wrap64 (a+fR m p):=by
 unfold amt fR;rw[aj h];split
 .rfl
 .split
  .exact w_r _ _
  .rfl
def HQ(m:Int):∀(l:List P4)(acc:Int),wrap64 acc=acc->l.foldl (addR m) acc=wrap64 (acc+(l.map (fR m)).sum)
 |[],acc,h=>by simpa using h.symm
 |p::l,acc,h=>by
  rw[List.foldl_cons]
  have e:addR m acc p=wrap64 (acc+fR m p):=by
   unfold addR;split
   .rename_i hp;exact QX hp acc
   .rename_i hp;unfold fR;rw[ai hp,Int.add_zero];exact h.symm
  rw[e,HQ m l _ (Yl _),ajD,ajR,Yk,Int.add_assoc]
def QY(m:Int):∀(l:List P4)(acc:Int),wrap64 acc=acc->(ofK 4 l).foldl (addW m) acc=wrap64 (acc+(l.map (fV m)).sum)
 |[],acc,h=>by simpa[ofK]using h.symm
 |p::l,acc,h=>by
  have e:(ofK 4 (p::l)).foldl (addW m) acc=(ofK 4 l).foldl (addW m) (wrap64 (acc+fV m p)):=by
   unfold ofK;by_cases hk:p.2.2.1=4
   .rw[aj6 (by simpa using hk),List.foldl_cons]
    congr 1
    unfold addW fV;by_cases hm:p.2.1=m
    .rw[aj hm,aj hm,aj hk]
    .rw[ai hm,ai hm,Int.add_zero];exact h.symm
   .rw[aj7 (by simpa using hk)]
    congr 1
    unfold fV;rw[ai hk,ite_self,Int.add_zero];exact h.symm
  rw[e,QY m l _ (Yl _),ajD,ajR,Yk,Int.add_assoc]
def Ai(m:Int):∀ps:List P4,((ofK 1 ps).map (fR m)).sum+((ofK 2 ps).map (fR m)).sum+((ofK 3 ps).map (fR m)).sum=(ps.map (fR m)).sum
 |[]=>rfl
 |p::ps=>by
  have ih:=Ai m ps
  have key:∀k:Int,((ofK k (p::ps)).map (fR m)).sum=(if p.2.2.1=k then fR m p else 0)+((ofK k ps).map (fR m)).sum:=by
   intro k;unfold ofK;by_cases h:p.2.2.1=k
   .rw[aj6 (by simpa using h),ajD,ajR,aj h]
   .rw[aj7 (by simpa using h),ai h,Int.zero_add]
  rw[key,key,key,ajD,ajR,<-ih]
  have:(if p.2.2.1=1 then fR m p else 0)+(if p.2.2.1=2 then fR m p else 0)+(if p.2.2.1=3 then fR m p else 0)=fR m p:=by
   by_cases h1:p.2.2.1=1
   .simp[h1]
   .by_cases h2:p.2.2.1=2
    .simp[h2]
    .by_cases h3:p.2.2.1=3
     .simp[h3]
     .simp[h1,h2,h3,fR]
  omega
def rec_eq(m:Int)(ps:List P4):recN m ps 3=sR m ps:=by
 have e:recN m ps 3=(ofK 3 ps).foldl (addR m) ((ofK 2 ps).foldl (addR m) ((ofK 1 ps).foldl (addR m) 0)):=rfl;rw[e,HQ m _ 0 Un,HQ m _ _ (Yl _),HQ m _ _ (Yl _),Yk,Int.add_assoc,Yk];unfold sR;rw[show(ps.map (fR m)).sum=_ from(Ai m ps).symm]
 congr 1
 omega
def Nf(m:Int)(ps:List P4):wavW m (ofK 4 ps)=sV m ps:=by
 unfold wavW;rw[QY m _ 0 Un,Int.zero_add];rfl
def uQ(m:Int)(f:P4->Int)(hf:∀p:P4,p.2.1≠m->f p=0):∀ps:List P4,((ps.filter λp=>decide (p.2.1=m)).map f).sum=(ps.map f).sum
 |[]=>rfl
 |p::ps=>by
  have ih:=uQ m f hf ps;by_cases h:p.2.1=m
  .rw[aj6 (by simpa using h),ajD,ajR,ajD,ajR,ih]
  .rw[aj7 (by simpa using h),ajD,ajR,hf p h,Int.zero_add,ih]
def Ng(m:Int)(ps:List P4):sR m (ps.filter λp=>decide (p.2.1=m))=sR m ps:=by
 unfold sR;rw[uQ m (fR m) λp h=>by unfold fR;rw[ai h]]
def Nh(m:Int)(ps:List P4):sV m (ps.filter λp=>decide (p.2.1=m))=sV m ps:=by
 unfold sV;rw[uQ m (fV m) λp h=>by unfold fV;rw[ai h]]
def mb(ps:List P4)(a:A3):P4:=(a.1,(if a.2.2=0 then a.2.1 else sR a.1 ps),sR a.1 ps,sV a.1 ps)
def mw{α:Type}(l:List (Int×α))(k x:Int)(v:α):bn aB (fL aB l k v) x=if k=x then aa v else bn aB l x:=by
 induction l with
 |nil=>simp[fL,bn,c9]
 |cons p l ih=>
  obtain⟨a,b⟩:=p;unfold fL;by_cases h:a=k
  .have:c9 aB a k=af:=by simp[c9,h]
   rw[aj this]
   by_cases h':a=x<;>simp[bn,c9,h',<-h]
  .have:¬c9 aB a k=af:=by simp[c9,h]
   rw[ai this]
   show(if c9 aB a x=af then aa b else bn aB (fL aB l k v) x)=if k=x then aa v else if c9 aB a x=af then aa b else bn aB l x
   rw[ih];by_cases h':a=x
   .have:¬k=x:=λe=>h (by rw[h',e])
    simp[c9,h',this]
   .simp[c9,h']
def Aj{α:Type}:∀(l:List (Int×α))(k:Int)(v:α),bn aB l k=ae->yw aB l k v=l
 |[],_,_,_=>rfl
 |p::l,k,v,h=>by
  have h':(if c9 aB p.1 k=af then aa p.2 else bn aB l k)=ae:=h
  show(if c9 aB p.1 k=af then(p.1,v)::l else p::yw aB l k v)=p::l
  split at h'
  .cases h'
  .rename_i hk;rw[ai hk,Aj l k v h']
def Eh(aw:List A3)(ps:List P4)(W:List (Int×List P4)):Prop:=∀x,((∃a∈aw,a.1=x)->bn aB W x=aa (ps.filter λp=>decide (p.2.1=x)))/\((¬∃a∈aw,a.1=x)->bn aB W x=ae)
def BM{aw:List A3}{k:Nat}(h:k<aw.length)(x:Int):(∃a∈aw.take (k+1),a.1=x)↔(∃a∈aw.take k,a.1=x)\/aw[k].1=x:=by
 rw[<-ajk h];simp only[ajt,ajy];constructor
 .rintro⟨a,ha|rfl,e⟩
  .exact .inl ⟨a,ha,e⟩
  .exact .inr e
 .rintro(⟨a,ha,e⟩|e)
  .exact⟨a, .inl ha,e⟩
  .exact⟨_, .inr rfl,e⟩
def of_eq(aw:List A3)(ps:List P4)(ha:aw.length<=1048576)(hp:ps.length<=1048576):M.pI aU aw ps=aa (aw.map (mb ps)):=by
 apply Wp.eq;unfold M.pI
 refine Wp.seq (λW=>Eh aw [] W) ?_ λW hW=>Wp.seq (λW=>Eh aw ps W) ?_ λW2 Uk=>?_
 .refine Wp.count (λs=>s.1) aw.length (λk s=>Eh (aw.take k) [] s.2) (by omega) rfl (λx=>⟨λh=>(by simp at h),λ_=>rfl⟩) λk s hk hs hJ=>?_
  obtain⟨c,W⟩:=s;obtain rfl:c=_:=hs
  rcases Nat.lt_or_ge k aw.length with aG|hge
  .refine Wp.dec (λ_=>?_) λh=>absurd (show(k:Int)<(aw.length:Int) by omega) h
   rw[aF aG,ai8];refine .some ⟨aG,aS (by omega),λx=>?_⟩;have hJx:=hJ x
   have e:bn aB (fL aB W aw[k].1 ([]:List P4)) x=if aw[k].1=x then aa []else bn aB W x:=mw W aw[k].1 x []
   refine⟨λh=>?_,λh=>?_⟩
   .refine e.trans ?_;by_cases hx:aw[k].1=x
    .rw[aj hx];rfl
    .rw[ai hx];exact hJx.1 (((BM aG x).1 h).resolve_right hx)
   .refine e.trans ?_;rw[ai λhx=>h ((BM aG x).2 (.inr hx))]
    exact hJx.2 λhh=>h ((BM aG x).2 (.inl hh))
  .obtain rfl:k=aw.length:=by omega
   rw[ajn]at hJ
   refine Wp.dec (λh=>absurd (show(aw.length:Int)<aw.length from h) (by omega)) λ_=> .some hJ
 .refine Wp.count (λs=>s.1) ps.length (λk s=>Eh aw (ps.take k) s.2) (by omega) rfl hW λk s hk hs hJ=>?_
  obtain⟨c,W⟩:=s;obtain rfl:c=_:=hs
  rcases Nat.lt_or_ge k ps.length with aG|hge
  .have hJk:=hJ ps[k].2.1
   have sF:∀x,(ps.take (k+1)).filter (λp=>decide (p.2.1=x))=(ps.take k).filter (λp=>decide (p.2.1=x))++(if ps[k].2.1=x then[ps[k]]else[]):=by
    intro x;rw[<-ajk aG,List.filter_append];by_cases hx:ps[k].2.1=x
    .rw[aj hx,aj6 (by simpa using hx)];rfl
    .rw[ai hx,aj7 (by simpa using hx)];rfl
   refine Wp.dec (λ_=>?_) λh=>absurd (show(k:Int)<(ps.length:Int) by omega) h
   refine Wp.seq (λz=>Eh aw (ps.take (k+1)) z) ?_ λz hz=> .some ⟨aG,aS (by omega),hz⟩
   rw[aF aG,ai8];by_cases hex:∃a∈aw,a.1=ps[k].2.1
   .have hl:bn aB W ps[k].2.1=aa ((ps.take k).filter λp=>decide (p.2.1=ps[k].2.1)):=hJk.1 hex
    show Wp (if(bn aB W ps[k].2.1).isSome=af then(cu ((bn aB W ps[k].2.1).getD ([]:List P4)) [ps[k]]).bind _ else _) _
    rw[hl]
    refine Wp.ite (λ_=>?_) λh=>absurd rfl h
    rw[Option.getD_some];refine Wp.bind (Wp.app ?_ (Wp.dec (λ_=> .some λx=>?_) λh=>absurd rfl h))
    .have:=aj2 (λp:P4=>decide (p.2.1=ps[k].2.1)) (ps.take k);have:=List.length_take_le k ps;simp only[List.length_singleton];omega
    .have e:∀v:List P4,bn aB (fL aB W ps[k].2.1 v) x=if ps[k].2.1=x then aa v else bn aB W x:=λv=>mw W ps[k].2.1 x v
     rw[sF];refine⟨λh=>(e _).trans ?_,λh=>(e _).trans ?_⟩
     .by_cases hx:ps[k].2.1=x
      .subst hx;rw[aj rfl,aj rfl]
      .rw[ai hx,ai hx,ajS];exact(hJ x).1 h
     .rw[ai λhx:ps[k].2.1=x=>h (by rw[<-hx];exact hex)];exact(hJ x).2 h
   .have hl:bn aB W ps[k].2.1=ae:=hJk.2 hex
    refine Wp.ite (λh=>?_) λ_=> .some λx=>?_
    .have h:(bn aB W ps[k].2.1).isSome=af:=h;rw[hl]at h;cases h
    .have e:∀v:List P4,yw aB W ps[k].2.1 v=W:=λv=>Aj _ _ _ hl
     rw[sF];refine⟨λh=>?_,λh=>?_⟩
     .rw[ai λhx:ps[k].2.1=x=>hex (by rw[hx];exact h),ajS];exact(ay (λW=>bn aB W x) (e _)).trans ((hJ x).1 h)
     .exact(ay (λW=>bn aB W x) (e _)).trans ((hJ x).2 h)
  .obtain rfl:k=ps.length:=by omega
   rw[ajn]at hJ
   refine Wp.dec (λh=>absurd (show(ps.length:Int)<ps.length from h) (by omega)) λ_=> .some hJ
 .refine Wp.count (λs=>s.2.1) aw.length (λk s=>s.1=W2/\(∀x b,bn aB s.2.2.1 x=aa b->b=(x,0,sR x ps,sV x ps))/\s.2.2.2=(aw.take k).map (mb ps)) (by omega) rfl ⟨rfl,(λx b h=>by cases h),rfl⟩ λk s hk hs hJ=>?_
  obtain⟨W,c,Kn,out⟩:=s;obtain rfl:c=_:=hs;obtain⟨e1,hK,e2⟩:=hJ;obtain rfl:W=W2:=e1;obtain rfl:out=_:=e2
  rcases Nat.lt_or_ge k aw.length with aG|hge
  .have ab4:(bn aB W aw[k].1).getD []=ps.filter λp=>decide (p.2.1=aw[k].1):=by
    rw[(Uk aw[k].1).1 ⟨aw[k],aje _,rfl⟩];rfl
   have ab5:∀(l:List P4)m,M.dx aU l m=aa (recN m l 3):=λl m=>rfl
   have ab6:∀(l:List P4)m,M.gy aU l m=aa (wavW m (ofK 4 l)):=λl m=>rfl
   have Dq:(aw.take (k+1)).map (mb ps)=(aw.take k).map (mb ps)++[mb ps aw[k]]:=by
    rw[<-ajk aG,List.map_append];rfl
   refine Wp.dec (λ_=>?_) λh=>absurd (show(k:Int)<(aw.length:Int) by omega) h
   rw[aF aG,ai8]
   refine Wp.seq (λj=>j.2=(aw[k].1,0,sR aw[k].1 ps,sV aw[k].1 ps)/\∀x b,bn aB j.1 x=aa b->b=(x,0,sR x ps,sV x ps)) ?_ λj hj=>?_
   .have hK:∀x b,bn aB Kn x=aa b->b=(x,0,sR x ps,sV x ps):=hK
    show Wp (if(!(bn aB Kn aw[k].1).isSome)=af then(M.dx aU ((bn aB W aw[k].1).getD ([]:List P4)) aw[k].1).bind λy12=>(M.gy aU ((bn aB W aw[k].1).getD ([]:List P4)) aw[k].1).bind λXr=>
     some (fL aB Kn aw[k].1 ((aw[k].1,((0:Int),(y12,Xr))):P4),((aw[k].1,((0:Int),(y12,Xr))):P4))else aa (Kn,(bn aB Kn aw[k].1).getD ((0:Int),((0:Int),((0:Int),(0:Int)))))) _
    rw[ab4]
    cases hl:bn aB Kn aw[k].1 with
    |none=>
     refine Wp.ite (λ_=>?_) λh=>absurd rfl h
     rw[ab5,ai8,ab6,ai8,rec_eq,Nf,Ng,Nh];refine .some ⟨rfl,λx b hx=>?_⟩;have GO:bn aB (fL aB Kn aw[k].1 ((aw[k].1,(0:Int),sR aw[k].1 ps,sV aw[k].1 ps):P4)) x=aa b:=hx;rw[mw]at GO;split at GO
     .rename_i e;subst e;exact(aja GO).symm
     .exact hK x b GO
    |some b=>
     refine Wp.ite (λh=>by cases h) λ_=> .some ⟨hK _ _ hl,hK⟩
   .obtain⟨Kn',b⟩:=j;obtain⟨e,hK'⟩:=hj;obtain rfl:b=_:=e
    refine Wp.seq (λz=>z=mb ps aw[k]) ?_ λz hz=>?_
    .unfold mb
     refine Wp.eC (λh=> .some ?_) λh=> .some ?_
     .rw[ai h]
     .rw[aj h]
    .subst hz;refine Wp.bind (Wp.app ?_ (.some ?_))
     .have:=List.length_take_le k aw
      show((aw.take k).map (mb ps)).length+1<=_
      rw[List.length_map];omega
     .exact⟨aG,aS (by omega),rfl,hK',Dq.symm⟩
  .obtain rfl:k=aw.length:=by omega
   refine Wp.dec (λh=>absurd (show(aw.length:Int)<aw.length from h) (by omega)) λ_=> .some ?_
   show(aw.take aw.length).map (mb ps)=_
   rw[ajn]
end L.B
namespace L.B
def dst(k d:Int)(st:Int->Bool):List P4->Int->List P4
 |[],_=>[]
 |b::l,r=>if r<=0 then[]else if mW b<=0\/st b.1=af then dst k d st l r
  else(d,b.1,k,min (mW b) r)::dst k d st l (r-min (mW b) r)
def Ei(st:Int->Bool):List P4->Int->Int
 |[],r=>r
 |b::l,r=>if r<=0 then r else if mW b<=0\/st b.1=af then Ei st l r else Ei st l (r-min (mW b) r)
def Ni(l:List P4):Int:=(l.map λp=>p.2.2.2).sum
theorem nr{k d:Int}{st:Int->Bool}:∀(l:List P4)(r:Int),∀p∈dst k d st l r,p.1=d/\p.2.2.1=k/\st p.2.1=ag/\∃b∈l,b.1=p.2.1/\1<=p.2.2.2/\p.2.2.2<=mW b/\p.2.2.2<=r
 |[],_,p,h=>by cases h
 |b::l,r,p,h=>by
  unfold dst at h;split at h
  .cases h
  .split at h
   .obtain⟨h1,h2,h3,c,hc,h4⟩:=nr l r p h;exact⟨h1,h2,h3,c, .tail _ hc,h4⟩
   .rename_i hr hb
    rcases ajQ.1 h with rfl|h
    .refine⟨rfl,rfl,?_,b, .head _,rfl,?_⟩
     .cases hs:st b.1 with
      |true=>exact absurd (.inr hs) hb
      |false=>rfl
     .have:¬mW b<=0:=λh=>hb (.inl h)
      dsimp only;omega
    .obtain⟨h1,h2,h3,c,hc,h4,h5,h6,h7⟩:=nr l _ p h;refine⟨h1,h2,h3,c, .tail _ hc,h4,h5,h6,?_⟩
     have:¬mW b<=0:=λh=>hb (.inl h)
     omega
def tP{k d:Int}{st:Int->Bool}:∀(l:List P4)(r:Int),(dst k d st l r).length<=l.length
 |[],_=>ajh _
 |b::l,r=>by
  unfold dst;have h1:=tP (k:=k) (d:=d) (st:=st) l r;have h2:=tP (k:=k) (d:=d) (st:=st) l (r-min (mW b) r);split
  .simp
  .split<;>simp only[ajp]<;>omega
def Gx{k d:Int}(hk:k=2\/k=3){st:Int->Bool}(m c:Int)(hc:0<=c):∀(l:List P4)(r:Int),(l.map Prod.fst).Nodup->(∀b∈l,b.1=m->mW b<=c)->-c<=((dst k d st l r).map (fR m)).sum
 |[],_,_,_=>by simpa[dst]using hc
 |b::l,r,hn,hb=>by
  obtain⟨TY,TZ⟩:=List.nodup_cons.1 hn
  have hl:∀b∈l,b.1=m->mW b<=c:=λx hx=>hb x (.tail _ hx)
  unfold dst;split
  .simpa using hc
  .split
   .exact Gx hk m c hc l r TZ hl
   .rename_i hr ho;rw[ajD,ajR]
    have hf:fR m (d,b.1,k,min (mW b) r)=if b.1=m then-(min (mW b) r)else 0:=by
     have h1:¬k=1:=by omega
     simp only[fR,h1,hk,if_true,if_false]
    rw[hf];by_cases hm:b.1=m
    .have h0:((dst k d st l (r-min (mW b) r)).map (fR m)).sum=0:=by
      have:∀q:List P4,(∀p∈q,p.2.1≠m)->(q.map (fR m)).sum=0:=by
       intro q
       induction q with
       |nil=>exact λ_=>rfl
       |cons p q ih=>
        intro h;rw[ajD,ajR,ih λx hx=>h x (.tail _ hx)];unfold fR;rw[ai (h p (.head _))];rfl
      refine this _ λp hp YE=>?_
      obtain⟨_,_,_,x,hx,h4,_⟩:=nr l _ p hp;exact TY (List.mem_map.2 ⟨x,hx,by rw[h4,YE,hm]⟩)
     have:=hb b (.head _) hm;rw[aj hm,h0];omega
    .have:=Gx (d:=d) (st:=st) hk m c hc l (r-min (mW b) r) TZ hl;rw[ai hm];omega
def eX(k d:Int)(f:P4->Int):List P4->List P4
 |[]=>[]
 |b::l=>if f b<=0 then eX k d f l else(d,b.1,k,f b)::eX k d f l
def xT{k d:Int}{f:P4->Int}:∀(l:List P4),∀p∈eX k d f l,p.1=d/\p.2.2.1=k/\∃b∈l,b.1=p.2.1/\p.2.2.2=f b/\1<=f b
 |[],p,h=>by cases h
 |b::l,p,h=>by
  unfold eX at h;split at h
  .obtain⟨h1,h2,c,hc,h4⟩:=xT l p h;exact⟨h1,h2,c, .tail _ hc,h4⟩
  .rename_i hb
   rcases ajQ.1 h with rfl|h
   .exact⟨rfl,rfl,b, .head _,rfl,rfl,by omega⟩
   .obtain⟨h1,h2,c,hc,h4⟩:=xT l p h;exact⟨h1,h2,c, .tail _ hc,h4⟩
def lY{k d:Int}{f:P4->Int}:∀(l:List P4),(eX k d f l).length<=l.length
 |[]=>ajh _
 |b::l=>by
  have:=lY (k:=k) (d:=d) (f:=f) l;unfold eX
  split<;>simp only[ajp]<;>omega
def uR{k d:Int}{f:P4->Int}(b:P4):∀l:List P4,eX k d f (l++[b])=eX k d f l++(if f b<=0 then[]else[(d,b.1,k,f b)])
 |[]=>by simp only[ajC,eX]
 |c::l=>by
  rw[akk];unfold eX;rw[uR b l]
  split<;>simp
def TF(k:Int):Int:=if k=1 then 1 else if k=2\/k=3 then-1 else 0
def TG(m d k c:Int):fR m (d,m,k,c)=TF k*c:=by
 unfold fR TF;simp only[if_true];split
 .simp
 .split<;>simp
def xU{k d m:Int}{f:P4->Int}:∀l:List P4,(∀b∈l,b.1≠m)->((eX k d f l).map (fR m)).sum=0
 |[],_=>rfl
 |b::l,h=>by
  have ih:=xU (k:=k) (d:=d) (f:=f) l λx hx=>h x (.tail _ hx)
  unfold eX;split
  .exact ih
  .rw[ajD,ajR,ih];simp[fR,h b (.head _)]
def qK{k d:Int}{f:P4->Int}:∀l:List P4,(l.map Prod.fst).Nodup->∀b∈l,((eX k d f l).map (fR b.1)).sum=TF k*(if f b<=0 then 0 else f b)
 |[],_,b,h=>by cases h
 |c::l,hn,b,h=>by
  obtain⟨TY,TZ⟩:=List.nodup_cons.1 hn;unfold eX
  rcases ajQ.1 h with rfl|h
  .have h0:((eX k d f l).map (fR b.1)).sum=0:=xU l λx hx e=>TY (List.mem_map.2 ⟨x,hx,e⟩)
   split
   .rw[h0];simp
   .rw[ajD,ajR,h0,TG];simp
  .have ih:=qK (k:=k) (d:=d) (f:=f) l TZ b h
   have dw:c.1≠b.1:=λe=>TY (List.mem_map.2 ⟨b,h,e.symm⟩)
   split
   .exact ih
   .rw[ajD,ajR,ih];simp[fR,dw]
def ja(t:Int)(b:P4):Int:=if t<b.1 then 0 else ng b
def TH{b:P4}(h1:0<=b.2.1)(h2:b.2.1<=4700000000000000000)(h3:0<=b.2.2.1)(h4:b.2.2.1<=4000000000000000000)(h5:0<=b.2.2.2)(h6:b.2.2.2<=4000000000000000000):mW b<=b.2.2.1:=by
 unfold mW wrap64
 split<;>omega
def Ez(p:P4):Prop:=0<=p.2.1/\1<=p.2.2.2/\p.2.2.2<=1000000000000000/\1<=p.2.2.1/\p.2.2.1<=4
def Gy{m:Int}{p:P4}(h:Ez p): -1000000000000000<=fR m p/\fR m p<=1000000000000000:=by
 obtain⟨_,h1,h2,_⟩:=h;unfold fR
 repeat' split
 all_goals omega
def Nj{m:Int}{p:P4}(h:Ez p):0<=fV m p/\fV m p<=1000000000000000:=by
 obtain⟨_,h1,h2,_⟩:=h;unfold fV
 repeat' split
 all_goals omega
def HS{f:P4->Int}{c:Int}(hc:0<=c):∀q:List P4,(∀p∈q,-c<=f p/\f p<=c)->-(c*q.length)<=(q.map f).sum/\(q.map f).sum<=c*q.length
 |[],_=>by simp
 |p::q,h=>by
  have h1:=h p (.head _)
  have h2:=HS hc q λx hx=>h x (.tail _ hx)
  rw[ajD,ajR,ajp]
  have e:c*((q.length+1:Nat):Int)=c*q.length+c:=by
   rw[Int.natCast_add,Int.mul_add];simp
  rw[e];omega
def xV{f:P4->Int}{q:List P4}(h:∀p∈q,-1000000000000000<=f p/\f p<=1000000000000000)(hl:q.length<=4200): -4200000000000000000<=(q.map f).sum/\(q.map f).sum<=4200000000000000000:=by
 have:=HS (by omega) q h;omega
def QZ{m:Int}{q:List P4}(h:∀p∈q,Ez p)(hl:q.length<=4200):sR m q=(q.map (fR m)).sum:=by
 have:=xV (f:=fR m) (λp hp=>Gy (h p hp)) hl;unfold sR wrap64;omega
def Q0{m:Int}{q:List P4}(h:∀p∈q,Ez p)(hl:q.length<=4200):sV m q=(q.map (fV m)).sum:=by
 have:=xV (f:=fV m) (λp hp=>by have:=Nj (m:=m) (h p hp);omega) hl;unfold sV wrap64;omega
def gX(mc:List P4):Prop:=∀m,0<=(mc.map (fR m)).sum/\(mc.map (fR m)).sum<=1000000000000000
def lq(mc:List P4)(b:P4):Prop:=0<=b.2.1/\b.2.1<=4700000000000000000/\b.2.2.1=(mc.map (fR b.1)).sum/\0<=b.2.2.2/\b.2.2.2<=1000000000000000
def lq.ov{mc:List P4}{b:P4}(ho:gX mc)(h:lq mc b):mW b<=(mc.map (fR b.1)).sum:=by
 obtain⟨h1,h2,h3,h5,h6⟩:=h;have:=ho b.1;rw[<-h3]at this⊢;exact TH h1 (by omega) this.1 (by omega) h5 (by omega)
def lq.arr{mc:List P4}{b:P4}(ho:gX mc)(h:lq mc b):0<=ng b/\ng b<=4700000000000000000/\ng b=if b.2.1-(mc.map (fR b.1)).sum<0 then 0 else b.2.1-(mc.map (fR b.1)).sum:=by
 obtain⟨h1,h2,h3,h5,h6⟩:=h;have:=ho b.1;rw[<-h3]at this⊢;unfold ng wrap64
 split<;>split<;>omega
def lq.ovE{mc:List P4}{b:P4}(ho:gX mc)(h:lq mc b):mW b=if(mc.map (fR b.1)).sum-b.2.1-b.2.2.2<0 then 0 else(mc.map (fR b.1)).sum-b.2.1-b.2.2.2:=by
 obtain⟨h1,h2,h3,h5,h6⟩:=h;have:=ho b.1;rw[<-h3]at this⊢;unfold mW wrap64
 split<;>split<;>omega
def keeps(mc new:List P4):Prop:=∀m,-(mc.map (fR m)).sum<=(new.map (fR m)).sum/\(new.map (fR m)).sum<=4700000000000000000
def xW{f:P4->Int}:∀q:List P4,(∀p∈q,f p<=0)->(q.map f).sum<=0
 |[],_=>aj1 _
 |p::q,h=>by
  rw[ajD,ajR];have:=h p (.head _)
  have:=xW q λx hx=>h x (.tail _ hx)
  omega
def Nk{B:List P4}{k d r m:Int}{st:Int->Bool}(hk:k=2\/k=3):((dst k d st B r).map (fR m)).sum<=0:=by
 refine xW _ λp hp=>?_
 obtain⟨_,h2,_,_,_,_,h5,_⟩:=nr B r p hp
 have h1:¬p.2.2.1=1:=by omega
 have h2:p.2.2.1=2\/p.2.2.1=3:=by omega
 simp only[fR,h1,h2,if_true,if_false]
 split<;>omega
def HT{mc B:List P4}{k d r:Int}{st:Int->Bool}(hk:k=2\/k=3)(ho:gX mc)(hB:∀b∈B,lq mc b)(hn:(B.map Prod.fst).Nodup)(m:Int): -(mc.map (fR m)).sum<=((dst k d st B r).map (fR m)).sum:=by
 refine Gx hk m _ (ho m).1 B r hn λb hb hm=>?_
 have:=(hB b hb).ov ho;rw[hm]at this;exact this
def J9{mc B:List P4}{k d r:Int}{st:Int->Bool}(hk:k=2\/k=3)(ho:gX mc)(hB:∀b∈B,lq mc b)(hn:(B.map Prod.fst).Nodup):keeps mc (dst k d st B r):=λm=>by
 have:=Nk (B:=B) (d:=d) (r:=r) (m:=m) (st:=st) hk;have:=HT (d:=d) (r:=r) (st:=st) hk ho hB hn m;omega
def Nl{mc B:List P4}{t d:Int}(ho:gX mc)(hB:∀b∈B,lq mc b)(hn:(B.map Prod.fst).Nodup)(m:Int):0<=((eX 1 d (ja t) B).map (fR m)).sum/\((eX 1 d (ja t) B).map (fR m)).sum<=4700000000000000000:=by
 by_cases h:∃b∈B,b.1=m
 .obtain⟨b,hb,rfl⟩:=h;rw[qK B hn b hb,show TF 1=1 from rfl,Int.one_mul];have:=(hB b hb).arr ho;unfold ja
  split<;>split<;>omega
 .rw[xU B λb hb e=>h ⟨b,hb,e⟩];omega
def Ka{mc B:List P4}{t d r:Int}{st:Int->Bool}(ho:gX mc)(hB:∀b∈B,lq mc b)(hn:(B.map Prod.fst).Nodup):keeps mc (eX 1 d (ja t) B++dst 2 d st B r):=λm=>by
 have:=Nl (t:=t) (d:=d) ho hB hn m;have:=Nk (B:=B) (k:=2) (d:=d) (r:=r) (m:=m) (st:=st) (.inl rfl);have:=HT (k:=2) (d:=d) (r:=r) (st:=st) (.inl rfl) ho hB hn m;rw[List.map_append,List.sum_append];omega
def Ej{mc:List P4}{d m c:Int}(ho:gX mc):keeps mc [(d,m,4,c)]:=λx=>by
 have:=ho x
 have e:([((d,m,4,c):P4)].map (fR x)).sum=0:=by simp[fR]
 rw[e];omega
def Ak{mc:List P4}(ho:gX mc):keeps mc []:=λm=>by
 have:=ho m;simp only[List.map_nil,List.sum_nil];omega
def nk(l:List P4):Int:=l.foldl (λa p=>wrap64 (a+p.2.2.2)) 0
def Gz(l:List P4)(p:P4):nk (l++[p])=wrap64 (nk l+p.2.2.2):=by
 unfold nk;rw[List.foldl_append];rfl
def Kb{mc B:List P4}{d:Int}(ho:gX mc)(hB:∀b∈B,lq mc b)(hn:(B.map Prod.fst).Nodup){b:P4}(hb:b∈B)(hw:b.2.2.2=0):
 ((mc++(eX 1 d ng B++eX 3 d mW B)).map (fR b.1)).sum=b.2.1:=by
 rw[List.map_append,List.sum_append,List.map_append,List.sum_append,qK B hn b hb,qK B hn b hb,show TF 1=1 from rfl,show TF 3= -1 from rfl];have h1:=(hB b hb).arr ho;have h2:=(hB b hb).ovE ho;have:=(hB b hb).1
 split<;>split<;>omega
def Q1{m c:Int}{q:List P4}(h:(q.map (fR m)).sum=c)(h0:0<=c)(h1:c<=4700000000000000000):sR m q=c:=by
 unfold sR wrap64;omega
end L.B
namespace L.B
abbrev Ap:Type:=Int×Int×Int×Int×Int×Int×Int
def Ek(a:Ap):Bool:=decide (a.2.2.2.2.2.1=1)||decide (a.2.2.2.2.2.1=2)
def Ym(a:Ap)(m:Int):Bool:=decide (a.2.1<=m)&&decide (m<a.2.2.1)
def rS(a:Ap):Int:=if a.2.1<0 then 0 else a.2.1
def Nn(a:Ap):Int:=if 3600<a.2.2.1 then 3600 else a.2.2.1
def act(a:Ap):Bool:=Ek a&&decide (rS a<Nn a)
def dl(a:Ap)(m:Nat):Int:=if act a then(if rS a=m then 1 else 0)-(if Nn a=m then 1 else 0)else 0
def El:List Ap->Nat->Int
 |[],_=>0
 |a::l,m=>dl a m+El l m
def held(a:Ap)(m:Nat):Int:=if Ek a&&Ym a m then 1 else 0
def pn:List Ap->Nat->Int
 |[],_=>0
 |a::l,m=>held a m+pn l m
def sB(l:List Ap)(m:Int):Bool:=l.any λa=>Ek a&&Ym a m
def qJ(l:List Ap):List Int:=((ajY 3600).filter λm:Nat=>sB l m).map (λm:Nat=>(m:Int))
def sC(l:List Ap)(a:Ap)(m:Nat):El (l++[a]) m=El l m+dl a m:=by
 induction l with
 |nil=>simp[El]
 |cons b l ih=>simp only[akk,El,ih];omega
def No(a:Ap)(m:Nat): -1<=dl a m/\dl a m<=1:=by
 unfold dl;split<;>(try split)<;>(try split)<;>omega
def Kc(l:List Ap)(m:Nat): -(l.length:Int)<=El l m/\El l m<=l.length:=by
 induction l with
 |nil=>simp[El]
 |cons a l ih=>have:=No a m;simp only[El,ajp];omega
def vv(l:List Ap)(m:Nat):0<=pn l m/\pn l m<=l.length:=by
 induction l with
 |nil=>simp[pn]
 |cons a l ih=>have:0<=held a m/\held a m<=1:=by{unfold held;split<;>omega}
               simp only[pn,ajp];omega
def Kd(l:List Ap)(m:Nat):0<pn l m↔sB l m=af:=by
 induction l with
 |nil=>simp[pn,sB]
 |cons a l ih=>
  have h0:=vv l m
  have:0<=held a m/\(0<held a m↔(Ek a&&Ym a m)=af):=by{unfold held;split<;>simp_all}
  unfold sB at ih⊢;rw[List.any_cons,Bool.or_eq_true,<-ih,<-this.2];simp only[pn];omega
def Ke(a:Ap)(m:Nat)(hm:m<3600):held a m=(if m=0 then 0 else held a (m-1))+dl a m:=by
 have hF:(a.2.1<0/\rS a=0)\/(0<=a.2.1/\rS a=a.2.1):=by unfold rS;split<;>omega
 have hT:(3600<a.2.2.1/\Nn a=3600)\/(a.2.2.1<=3600/\Nn a=a.2.2.1):=by unfold Nn;split<;>omega
 unfold held dl act;cases hp:Ek a
 .simp
 .simp only[Bool.true_and,Ym,akd,az];generalize rS a=F at*;generalize Nn a=T at*;by_cases h0:m=0
  .subst h0;simp only[if_true]
   repeat' split
   all_goals omega
  .simp only[ai h0]
   have:((m-1:Nat):Int)=(m:Int)-1:=by omega
   rw[this]
   repeat' split
   all_goals omega
def GA(l:List Ap)(m:Nat)(hm:m<3600):pn l m=(if m=0 then 0 else pn l (m-1))+El l m:=by
 induction l with
 |nil=>simp[pn,El]
 |cons a l ih=>
  have:=Ke a m hm;simp only[pn,El];by_cases h0:m=0
  .simp only[h0,if_true]at*;omega
  .simp only[h0,if_false]at*;omega
def gm(m:Int)(x:Ap):Bool:=decide (x.2.2.2.2.2.1=3)&&(decide (x.2.1<=m)&&decide (m<x.2.2.1))
def granted(m:Int):List Ap->Int×Bool
 |[]=>(0,ag)
 |x::l=>if gm m x=af then(x.2.2.2.2.2.2,af)else granted m l
def if3{α:Type}(p q r:Bool)(f:Bool->Option α):((if p=af then(if q=af then aa r else aa ag)else aa ag):Option Bool).bind f=f (p&&(q&&r)):=by
 cases p<;>cases q<;>rfl
def tQ(l:List Ap)(m:Int)(hl:l.length<=1000):∀k,k<=l.length->∀N,k<N->M.gU N l m=M.gU N l m->Loop (S:=Int) (X:=Int×Bool) (λs1=>
(if(decide ((0:Int)<=s1))=af then
(idx l s1).bind λx2=>
((if(decide (x2.2.2.2.2.2.1=(3:Int)))=af then
(if(decide (x2.2.1<=m))=af then
some (decide (m<x2.2.2.1))
else
some ag)
else
some ag):Option (Bool)).bind λj3=>
(if j3=af then
some (Sum.inr (x2.2.2.2.2.2.2,af))
else
some (Sum.inl (ai9.wrap (s1-(1:Int)))))
else
some (Sum.inr ((0:Int),ag)))) N ((k:Int)-1)=aa (granted m (l.take k).reverse)
 |0,_,N,hN,_=>by
  obtain⟨N,rfl⟩:∃n,N=n+1:=⟨N-1,by omega⟩
  unfold Loop;rw[ai (by simp)];rfl
 |k+1,hk,N,hN,_=>by
  obtain⟨N,rfl⟩:∃n,N=n+1:=⟨N-1,by omega⟩
  have e:((k+1:Nat):Int)-1=(k:Int):=by omega
  rw[e];unfold Loop;rw[aj (by simp),aF (by omega)];simp only[ai8];rw[if3]
  have ht:(l.take (k+1)).reverse=l[k]::(l.take k).reverse:=by
   rw[List.take_succ_eq_append_getElem (by omega),List.reverse_append];rfl
  rw[ht];unfold granted;by_cases h:gm m l[k]=af
  .rw[aj h];unfold gm at h;rw[aj h]
  .rw[ai h];unfold gm at h;rw[ai h,aW (by omega) (by omega)];exact tQ l m hl k (by omega) N (by omega) rfl
def GB{l:List Ap}{m:Int}(hl:l.length<=1000):M.gU aU l m=aa (granted m l.reverse):=by
 have:=tQ l m hl l.length (ajh _) aU (by have:aU=18446744073709551616:=rfl;omega) rfl;rw[ajn]at this;unfold M.gU;rw[aW (by omega) (by omega)];exact this
def vK{N:Nat}(l:List Ap)(hl:l.length<=1000)(hN:10000<=N):M.fa N l=aa (qJ l):=by
 unfold M.fa;rw[show p6 (3601:Int) (0:Int)=aa (aji 3601 0)from rfl,ai8];refine JA (λi:Nat=>((i:Int),(ajY 3601).map (El (l.take i)))) l.length ((ajY 3601).map (El l)) ?_ ?_ ?_ (by omega) ?_
 .simp only[List.take_zero,El,List.map_const',List.length_range];rfl
 .intro i hi
  have hw:ai9.wrap ((i:Int)+1)=((i+1:Nat):Int):=by rw[aW]<;>omega
  have ht:l.take (i+1)=l.take i++[l[i]]:=List.take_succ_eq_append_getElem hi;simp only;rw[aj (by simpa using hi),aF hi,ai8,hw]
  have hj:∀(a:Ap)(k:Bool->Option (List Int)),((if(!decide (a.2.2.2.2.2.1=(1:Int)))=af then aa (!decide (a.2.2.2.2.2.1=(2:Int)))else aa ag):Option Bool).bind k=k (!Ek a):=by
   intro a k;unfold Ek
   cases decide (a.2.2.2.2.2.1=1)<;>cases decide (a.2.2.2.2.2.1=2)<;>rfl
  rw[hj];have hb:=Kc (l.take i)
  have hlen:(l.take i).length<=1000:=by simp;omega
  have fin:∀L:List Int,L=(ajY 3601).map (El (l.take (i+1)))->((aa L:Option (List Int)).bind λj4=>aa (Sum.inl ((((i+1:Nat):Int),j4)):(Int×List Int)⊕List Int))=aa (Sum.inl (((i+1:Nat):Int),(ajY 3601).map (El (l.take (i+1))))):=by
   intro L h;rw[h];rfl
  cases hp:Ek l[i]with
  |false=>
   simp only[Bool.not_false,if_true];refine fin _ (List.map_congr_left λm _=>?_);rw[ht,sC];simp[dl,act,hp]
  |true=>
   simp only[Bool.not_true,ajI,if_false];rw[show(if l[i].2.1<0 then(0:Int)else l[i].2.1)=rS l[i]from rfl,show(if(3600:Int)<l[i].2.2.1 then(3600:Int)else l[i].2.2.1)=Nn l[i]from rfl];by_cases h:rS l[i]<Nn l[i]
   .rw[aj (by simpa using h)]
    have h0:0<=rS l[i]:=by unfold rS;split<;>omega
    have h1:Nn l[i]<=3600:=by unfold Nn;split<;>omega
    obtain⟨f,hf⟩:=ajd h0;obtain⟨t,BW⟩:=ajd (show 0<=Nn l[i] by omega)
    have YL:t≠f:=by omega
    rw[hf,BW,aF (by simp;omega)];simp only[ai8,List.getElem_map,List.getElem_range];unfold b8;simp only[ajg,yL];rw[aF (by simp;omega)];simp only[List.getElem_map,List.getElem_range,ai YL];have hbf:=hb f;have hbt:=hb t;refine fin _ (List.map_congr_left λm _=>?_);rw[ht,sC];unfold dl act;rw[hp,hf,BW,aW (by omega) (by omega),aW (by omega) (by omega)];simp only[Bool.true_and,az];rw[aj (show(f:Int)<t by omega)];by_cases e1:m=t
    .subst e1;simp only[if_true];rw[ai (by omega)];omega
    .rw[ai e1];by_cases e2:m=f
     .subst e2;simp only[if_true];rw[ai (by omega)];omega
     .rw[ai e2,ai (by omega),ai (by omega)];omega
   .rw[ai (by simpa using h)];refine fin _ (List.map_congr_left λm _=>?_);rw[ht,sC];unfold dl act;rw[hp];simp[h]
 .simp only;rw[ai (by simp),ajn]
 .refine Hp (λi:Nat=>((if i=0 then 0 else pn l (i-1)),(i:Int),(((ajY i).filter λm:Nat=>sB l m).map (λm:Nat=>(m:Int)):List Int))) 3600 _ rfl ?_ ?_ (by omega)
  .intro i hi
   have hw:ai9.wrap ((i:Int)+1)=((i+1:Nat):Int):=by rw[aW]<;>omega
   simp only;rw[aj (by simp;omega),aF (by simp;omega),ai8,hw];simp only[List.getElem_map,List.getElem_range];have hs:=GA l i hi;have hb:=vv l i;rw[<-hs,aW (by omega) (by omega)];have hp:=Kd l i;by_cases h:sB l i=af
   .rw[aj (by simpa using hp.2 h),fU,ai8,lU,aj h]
    .simp
    .simp only[List.length_map,ajp,ajJ];have:=aj2 (λm:Nat=>sB l m) (ajY i);simp at this;omega
   .rw[ai (by simpa using λhh=>h (hp.1 hh)),lU,ai h];simp
  .simp only;rw[ai (by simp)];rfl
end L.B
section
namespace L
abbrev Ap:Type:=aP.den
abbrev vL:Type:=b9.den
open B (fR fV sR sV Ez gX)
def BN(c:cQ.den):Wp (M.gx aU c) λr=>r=af->c.2.length<=64:=by
 unfold M.gx
 refine Wp.seq (λj=>j=ag->c.2.length<=64) ?_ λj hj=> .ite (λ_=> .some λh=>by cases h) λg=>?_
 .exact .dec (λ_=> .some λh=>by cases h) λ_=> .dec (λ_=> .some λh=>by cases h) λ_=> .some λh=>by
   have:=ao h;omega
 have h64:=hj (by simpa using g)
 refine Wp.count (λs=>s) c.2.length (λ_ _=>True) (by omega) rfl trivial λk s hk hs _=>?_
 obtain rfl:s=_:=hs
 refine .dec (λaG=>?_) λ_=> .some λ_=>h64
 have aG:k<c.2.length:=by omega
 refine .bind (.idx k rfl aG (Wp.seq (λ_=>True) ?_ λj _=> .ite (λ_=> .some λh=>by cases h) λ_=> .some ⟨aG,aS (by omega),trivial⟩))
 refine Wp.seq (λ_=>True) ?_ λy _=> .ite (λ_=> .some trivial) λ_=> .dec (λh0=>?_) λ_=> .some trivial
 .unfold M.eN
  exact Wp.seq (λ_=>True) (.dec (λ_=> .some trivial) λ_=> .some trivial) λ_ _=> .some trivial
 .exact .bind (.idx (k-1) (by rw[aW (by omega) (by omega)];omega) (by omega) (.some trivial))
def PS{l:Lw}(hw:WF bG l)(eY:dG l)(sc:Int)(conf:Cf):Wp (M.cB aU l sc conf) λe=>e=0->Valid l/\((0:Int)<=conf.2.1/\(conf.2.1:Int)<=5)/\(0:Int)<=conf.2.2.2.2.2.1/\(conf.2.2.2.2.2.1:Int)<=3599:=by
 unfold M.cB;rw[Bz l hw eY,ai8]
 refine .ite (λ_=> .some λh=>by cases h) λg=>?_
 have hv:Valid l:=by
  have g':pT aC (Bo l) ((0:Int),((0:Int),((0:Int),(0:Int))))=af:=by simpa using g
  have:Bo l=((0:Int),((0:Int),((0:Int),(0:Int)))):=Av.1 g';unfold Valid;rw[this]
 refine Wp.seq (λj=>j=ag->∃s d:Nat,sc=(s:Int)/\(conf.1:Int)=(d:Int)/\∃hs:s<l.2.2.length,d<l.2.2[s].2.2.2.1.length) ?_ λj hj=> .ite (λ_=> .some λh=>by cases h) λg=>?_
 .refine .dec (λ_=> .some λh=>by cases h) λh1=> .dec (λ_=> .some λh=>by cases h) λh2=> .dec (λ_=> .some λh=>by cases h) λh3=>?_
  obtain⟨s,rfl⟩:=ajd (ajT.1 h1);obtain⟨d,hd⟩:=ajd (ajT.1 h3)
  have hs:s<l.2.2.length:=by omega
  refine .bind (.idx s rfl hs (.some λg=>⟨s,d,rfl,hd,hs,?_⟩));have g:¬(l.2.2[s].2.2.2.1.length:Int)<=conf.1:=ao g;have g:¬(l.2.2[s].2.2.2.1.length:Int)<=(d:Int):=hd▸g;omega
 obtain⟨s,d,rfl,hd,hs,XY⟩:=hj (by simpa using g);refine .bind (.idx s rfl hs (.bind (.idx d hd XY (.ite (λ_=> .some λh=>by cases h) λ_=>?_))))
 refine Wp.seq (λj=>j=ag->(0:Int)<=conf.2.1/\(conf.2.1:Int)<=5) ?_ λj hj=> .ite (λ_=> .some λh=>by cases h) λg=>?_
 .refine .dec (λ_=> .some λh=>by cases h) λh1=> .dec (λ_=> .some λh=>by cases h) λh2=>Wp.seq _ (BN _) λy _=> .some λ_=>⟨ajT.1 h1,ajT.1 h2⟩
 have hmd:=hj (by simpa using g)
 refine Wp.seq (λj=>j=ag->(0:Int)<=conf.2.2.2.2.2.1/\(conf.2.2.2.2.2.1:Int)<=3599) ?_ λj hj=> .ite (λ_=> .some λh=>by cases h) λg=> .some λ_=>⟨hv,hmd,hj (by simpa using g)⟩
 have two:∀a b:Int,∀c d:Int,Wp ((if(decide (a<b))=af then aa af else aa (decide (c<d))):Option Bool) λj=>j=ag->¬a<b/\¬c<d:=λa b c d=> .dec (λ_=> .some λh=>by cases h) λh=> .some λg=>⟨h,ao g⟩
 refine Wp.seq _ (two _ _ _ _) λj _=> .ite (λh=> .some λg=>by rw[h]at g;cases g) λ_=>Wp.seq _ (two _ _ _ _) λj _=> .ite (λh=> .some λg=>by rw[h]at g;cases g) λ_=>Wp.seq _ (two _ _ _ _) λj _=> .ite (λh=> .some λg=>by rw[h]at g;cases g) λ_=>?_
 refine Wp.seq _ (two _ _ _ _) λj hj=> .ite (λh=> .some λg=>by rw[h]at g;cases g) λh=>(two _ _ _ _).mono λr _ _=>?_
 obtain⟨g1,g2⟩:=hj (by simpa using h);exact⟨ajT.1 g1,ajT.1 g2⟩
def Kf(p:P4):M.mD aU p=aa (amt p):=by
 apply Wp.eq;unfold M.mD amt;simp only[akF,Int.zero_sub,W_,av,ax,reduceCtorEq];refine⟨λh=>?_,λh1=>⟨λh2=>⟨λ_=>?_,λh=>?_⟩,λh2=>⟨λh3=>?_,λh3=>?_⟩⟩⟩
 all_goals dsimp only[aB,Row.den]at*
 .rw[aj h]
 .rw[ai h1,aj (.inl h2)]
 .omega
 .rw[ai h1,aj (.inr h3)]
 .rw[ai h1,ai (by omega)]
def qL(ps:List P4)(m:Int):M.dx aU ps m=aa (sR m ps):=by
 unfold M.dx R5;rw[B.rec_eq]
def Kg(ps:List P4)(m:Int):M.gy aU ps m=aa (sV m ps):=by
 unfold M.gy R6;rw[B.Nf]
def Al(ps:List P4)(h:ps.length<=1000000):M.mA aU ps=aa (p9 (ps.map λp=>p.2.1)):=by
 unfold M.mA;refine Wp.eq (Wp.seq _ (Gv ps (λp=>p.2.1) [] (by simp;omega)) λo ho=>?_);subst ho;rw[ajC,v7 (by simp;omega)];exact .some rfl
def Np{m:Int}{p:P4}(h:p.2.1≠m):fR m p=0:=ai h
def Kh(ps:List P4):Wp (M.fP aU ps) λr=>r.2=0->ps.length<=4096/\(∀p∈ps,Ez p)/\∀m,0<=(ps.map (fR m)).sum:=by
 unfold M.fP
 refine .dec (λ_=> .some λh=>by cases h) λhl=>?_
 have hl:ps.length<=4096:=by omega
 refine Wp.count (λs=>s.1) ps.length (λk s=>(∀p∈ps.take k,Ez p)/\∀m,(bn aB s.2 m).getD (0:Int)=((ps.take k).map (fR m)).sum/\0<=((ps.take k).map (fR m)).sum) (by omega) rfl ⟨λp h=>(by cases h),λm=>⟨rfl,aj1 _⟩⟩ λk s hk hs hJ=>?_
 obtain⟨c,W⟩:=s;obtain⟨j1,j2⟩:=hJ;dsimp only at hs j1 j2;subst hs
 refine .dec (λaG=>?_) λhge=> .some λ_=>?_
 case refine_2=>
  have:k=ps.length:=by dsimp only at hge;omega
  subst this;rw[ajn]at j1 j2;exact⟨hl,j1,λm=>(j2 m).2⟩
 have aG:k<ps.length:=by dsimp only at aG;omega
 refine .bind (.idx k rfl aG ?_);have Uw:ps.take (k+1)=ps.take k++[ps[k]]:=(ajk aG).symm
 have Rg:(ps.take k).length<=4096:=by simp;omega
 generalize ps[k]=p at*;obtain⟨(d:Int),(m:Int),(kd:Int),(cc:Int)⟩:=p
 have two:∀a b:Int,∀c d:Int,Wp ((if(decide (a<b))=af then aa af else aa (decide (c<d))):Option Bool) λj=>j=ag->¬a<b/\¬c<d:=λa b c d=> .dec (λ_=> .some λh=>by cases h) λh=> .some λg=>⟨h,ao g⟩
 refine Wp.seq (λj=>j=ag->0<=m/\1<=cc/\cc<=1000000000000000) ?_ λj hj=> .ite (λ_=> .some λh=>by cases h) λg=>?_
 .refine Wp.seq _ (two _ _ _ _) λj _=> .ite (λh=> .some λg=>by rw[h]at g;cases g) λ_=>Wp.seq _ (two _ _ _ _) λj hj=> .ite (λh=> .some λg=>by rw[h]at g;cases g) λh=>(two _ _ _ _).mono λr hr g=>?_
  obtain⟨h1,_⟩:=hj (by simpa using h);obtain⟨h3,h4⟩:=hr g;dsimp only at h1 h3 h4;omega
 obtain⟨h1,h2,h3⟩:=hj (by simpa using g)
 refine Wp.seq _ (two _ _ _ _) λj hj=> .ite (λ_=> .some λh=>by cases h) λg=>?_
 obtain⟨h4,h5⟩:=hj (by simpa using g);dsimp only at h4 h5
 have ok:Ez (d,m,kd,cc):=⟨h1,h2,h3,by dsimp only;omega,by dsimp only;omega⟩
 refine Wp.seq (λ_=>True) (.dec (λh=> .bind (.idx (k-1) (by rw[aW (by omega) (by omega)];omega) (by omega) (.some trivial))) λ_=> .some trivial) λj _=> .ite (λ_=> .some λh=>by cases h) λ_=>?_
 rw[Kf,ai8];have ahg:=B.xV (f:=fR m) (λp hp=>B.Gy (j1 p hp)) (by omega:(ps.take k).length<=4200);have yf:=B.Gy (m:=m) ok
 have e1:ai9.wrap ((bn aB W m).getD (0:Int)+amt (d,m,kd,cc))=((ps.take k).map (fR m)).sum+fR m (d,m,kd,cc):=by
  rw[(j2 m).1,akF,B.QX (m:=m) (p:=(d,m,kd,cc)) rfl];generalize fR m (d,m,kd,cc)=z at*;unfold wrap64;omega
 dsimp only;rw[e1]
 have QI:∀x,bn aB (fL aB W m (((ps.take k).map (fR m)).sum+fR m (d,m,kd,cc))) x=if m=x then aa (((ps.take k).map (fR m)).sum+fR m (d,m,kd,cc))else bn aB W x:=λx=>B.mw W m x _
 rw[QI m,aj rfl]
 refine .dec (λ_=> .some λh=>by cases h) λhp=> .some ⟨aG,aS (by omega),λp HP=>?_,λx=>?_⟩
 .rw[Uw,ajt,ajy]at HP
  rcases HP with HP|rfl
  .exact j1 p HP
  .exact ok
 .have hp:¬((ps.take k).map (fR m)).sum+fR m (d,m,kd,cc)<0:=hp;dsimp only;rw[QI x,Uw,List.map_append,List.sum_append,ajD,List.map_nil,ajR,List.sum_nil,Int.add_zero];by_cases hx:m=x
  .subst hx;rw[aj rfl];exact⟨rfl,by omega⟩
  .rw[ai hx,Np hx,Int.add_zero];exact j2 x
def my(d:Int):M.jx aU d=aa (decide (0<=d/\d<=109572)):=by
 apply Wp.eq;unfold M.jx;simp only[W_,av,ax,reduceCtorEq];omega
def qM(conf:Cf)(m:Int):Prop:=(conf.2.2.2.2.2.1:Int)<=m/\m<=3599/\m<=(conf.2.2.2.2.2.1:Int)+119
def xX{conf:Cf}(h0:(0:Int)<=conf.2.2.2.2.2.1)(h1:(conf.2.2.2.2.2.1:Int)<=3599)(m:Int):∃b,M.iN aU conf m=aa b/\(b=af↔qM conf m):=by
 unfold M.iN qM
 obtain⟨(f:Int),hf⟩:∃f:Int,f=conf.2.2.2.2.2.1:=⟨_,rfl⟩
 have g0:(0:Int)<=f:=by rw[hf];exact h0
 have g1:f<=3599:=by rw[hf];exact h1
 rw[<-hf,aW (n:=f+120) (by omega) (by omega),aW (n:=f+120-1) (by omega) (by omega)];by_cases h:f<=m
 .rw[aj (aq h)];refine⟨_,rfl,?_⟩;rw[az];refine⟨λq=>?_,λq=>?_⟩
  .split at q<;>exact⟨h,by omega,by omega⟩
  .obtain⟨_,q1,q2⟩:=q
   split<;>omega
 .rw[ai (by simpa using h)];exact⟨_,rfl,aA (by decide) λg=>h g.1⟩
structure yk(l:Lw)(conf:Cf)(s:vL):Prop where
 vc:M.cB aU l s.1.2.1 conf=aa 0
 ok:Valid l
 md:(0:Int)<=conf.2.1/\(conf.2.1:Int)<=5
 f0:(0:Int)<=conf.2.2.2.2.2.1
 f1:(conf.2.2.2.2.2.1:Int)<=3599
 hh:(Gm l s.1).2=0
 dt:(0:Int)<=s.2.2.2.1/\(s.2.2.2.1:Int)<=109572
 lm:(s.2.2.2.2:Int)= -1\/qM conf s.2.2.2.2
 pl:s.2.1.length<=4096
 pk:∀p∈s.2.1,Ez p
 sm:gX s.2.1
 wv:∀m,0<=sV m s.2.1/\sV m s.2.1<=1000000000000000
 al:s.2.2.1.length<=16
 ac:∀a∈s.2.2.1,(0:Int)<=a.2.2.2.2.2.2/\(a.2.2.2.2.2.2:Int)<=1000000000000000
 ft:∀f∈s.1.2.2.2,(f.2.2.2.2.2:Int)<=s.2.2.2.1
def Ki(a:Ap):Wp (M.nu aU a) λr=>r=af->(0:Int)<=a.2.2.2.2.2.2/\(a.2.2.2.2.2.2:Int)<=1000000000000000:=by
 unfold M.nu
 refine Wp.seq (λ_=>True) (.dec (λ_=> .some trivial) λ_=>?_) λj _=> .ite (λ_=> .some λh=>by cases h) λ_=>?_
 .unfold M.fC
  exact Wp.seq (λ_=>True) (Wp.seq (λ_=>True) (.dec (λ_=> .dec (λ_=> .dec (λ_=> .some trivial) λ_=> .some trivial) λ_=> .some trivial) λ_=> .some trivial) λ_ _=> .some trivial) λ_ _=> .some trivial
 refine Wp.seq (λ_=>True) (.dec (λ_=> .some trivial) λ_=> .dec (λ_=> .some trivial) λ_=> .some trivial) λj _=> .ite (λ_=> .some λh=>by cases h) λ_=>?_
 refine Wp.seq (λ_=>True) (.dec (λ_=> .some trivial) λ_=> .some trivial) λj _=> .ite (λ_=> .some λh=>by cases h) λ_=>?_
 refine Wp.seq (λj=>j=af->(0:Int)<=a.2.2.2.2.2.2/\(a.2.2.2.2.2.2:Int)<=1000000000000000) ?_ λj hj=> .some hj
 exact .dec (λh1=> .dec (λh2=> .dec (λ_=> .some λ_=>⟨h1,h2⟩) λ_=> .some λ_=>⟨h1,h2⟩) λ_=> .some λh=>by cases h) λ_=> .some λh=>by cases h
def PT(s:vL)(h1:s.1.2.2.2.length<=1000000)(h2:s.2.1.length<=1000000)(h3:s.2.2.1.length<=1000000):Wp (M.gS aU s) λr=>r=af->∀f∈s.1.2.2.2,(f.2.2.2.2.2:Int)<=s.2.2.2.1:=by
 unfold M.gS;refine .join (Wp.count (λs=>s) s.1.2.2.2.length (λk _=>∀j,∀h:j<s.1.2.2.2.length,j<k->(s.1.2.2.2[j].2.2.2.2.2:Int)<=s.2.2.2.1) (by omega) rfl (λj h g=>by omega) λk q hk hq hJ=>?_);obtain rfl:q=_:=hq
 refine .dec (λaG=>?_) λhge=> .some ?_
 .have aG:k<s.1.2.2.2.length:=by omega
  refine .bind (.idx k rfl aG (.dec (λ_=> .some λh=>by cases h) λg=> .some ⟨aG,aS (by omega),λj hj Ul=>?_⟩));by_cases e:j<k
  .exact hJ j hj e
  .obtain rfl:j=k:=by omega
   exact ajT.1 g
 have fe:∀f∈s.1.2.2.2,(f.2.2.2.2.2:Int)<=s.2.2.2.1:=λf hf=>by
  obtain⟨j,hj,rfl⟩:=ajm hf;exact hJ j hj (by omega)
 refine .join (Wp.count (λs=>s) s.2.1.length (λk _=>True) (by omega) rfl trivial λk q hk hq _=>?_);obtain rfl:q=_:=hq
 refine .dec (λaG=>?_) λhge=> .some ?_
 .have aG:k<s.2.1.length:=by omega
  exact .bind (.idx k rfl aG (.dec (λ_=> .some λh=>by cases h) λg=> .some ⟨aG,aS (by omega),trivial⟩))
 refine Wp.count (λs=>s) s.2.2.1.length (λk _=>True) (by omega) rfl trivial λk q hk hq _=>?_
 obtain rfl:q=_:=hq
 refine .dec (λaG=>?_) λhge=> .some λ_=>fe
 have aG:k<s.2.2.1.length:=by omega
 exact .bind (.idx k rfl aG (.dec (λ_=> .some λh=>by cases h) λg=> .some ⟨aG,aS (by omega),trivial⟩))
def TJ{m:Int}{p:P4}(h:p.2.1≠m):fV m p=0:=ai h
def v8{f:P4->Int}:∀{ps:List P4},(∀p∈ps,f p=0)->(ps.map f).sum=0
 |[],_=>rfl
 |p::ps,h=>by rw[ajD,ajR,h p (.head _),v8 λq hq=>h q (.tail _ hq)];rfl
def HU{f:P4->Int}:∀{ps:List P4},(∀p∈ps,0<=f p)->0<=(ps.map f).sum
 |[],_=>aj1 _
 |p::ps,h=>by
  rw[ajD,ajR];have:=h p (.head _)
  have:=HU λq hq=>h q (.tail _ hq)
  omega
def qN{l:Lw}(hw:WF bG l)(eY:dG l)(conf:Cf)(s:vL):Wp (M.dL aU l conf s) λe=>e=0->yk l conf s:=by
 unfold M.dL;obtain⟨e0,he0,hc⟩:=PS hw eY s.1.2.1 conf;rw[he0,ai8]
 refine .eC (λ_=> .some λh=>by cases h) λh0=>?_
 have vc:=he0;rw[h0]at vc;obtain⟨ok,md,f0,f1⟩:=hc h0;rw[xL,ai8]
 refine .eC (λh=> .some λg=>absurd g h) λhh=>?_
 have ahh:s.1.2.2.2.length<=128:=by
  obtain⟨_,_,hs,hx⟩:=mT hh;exact(oC.1 (oD.1 hx).2.1).1
 refine Wp.seq (λj=>j=ag->((0:Int)<=s.2.2.2.1/\(s.2.2.2.1:Int)<=109572)/\((s.2.2.2.2:Int)= -1\/qM conf s.2.2.2.2)) ?_ λj hj=> .ite (λ_=> .some λh=>by cases h) λg=>?_
 .rw[my,ai8]
  refine .ite (λ_=> .some λh=>by cases h) λh1=>?_
  have h1:=an (by simpa using h1:decide ((0:Int)<=s.2.2.2.1/\(s.2.2.2.1:Int)<=109572)=af)
  refine .eC (λ_=>?_) λh2=> .some λ_=>⟨h1, .inl h2⟩
  obtain⟨b,hb,qR⟩:=xX f0 f1 s.2.2.2.2;rw[hb];exact .bind (.some (.some λg=>⟨h1, .inr (qR.1 (by simpa using g))⟩))
 obtain⟨dt,lm⟩:=hj (by simpa using g)
 refine Wp.seq _ (Kh s.2.1) λy hy=> .eC (λh=> .some λg=>absurd g h) λh0=>?_
 obtain⟨pl,pk,s0⟩:=hy h0
 have key:∀m,(((s.2.1.map (fR m)).sum<=1000000000000000/\sV m s.2.1<=1000000000000000)\/∃p∈s.2.1,p.2.1=m):=λm=>by
  by_cases h:∃p∈s.2.1,p.2.1=m
  .exact .inr h
  .refine .inl ?_;rw[v8 λp hp=>Np λe=>h ⟨p,hp,e⟩,B.Q0 pk (by omega),v8 λp hp=>TJ λe=>h ⟨p,hp,e⟩];omega
 have hR:=λm=>B.QZ (m:=m) pk (by omega)
 have hV:=λm=>B.Q0 (m:=m) pk (by omega)
 have hV0:∀m,0<=sV m s.2.1:=λm=>by
  rw[hV m]
  exact HU λp hp=>(B.Nj (pk p hp)).1
 refine .join (Wp.mono (Q:=λu=>(∃c,c≠0/\u=Sum.inr c)\/(u=Sum.inl ()/\∀m,(s.2.1.map (fR m)).sum<=1000000000000000/\sV m s.2.1<=1000000000000000)) ?_ λu hu=>?_)
 .rw[Al _ (by omega),ai8];have Rb:=mU (s.2.1.map λp:P4=>p.2.1)
  have Q8:∀y:Int,y∈p9 (s.2.1.map λp:P4=>p.2.1)↔y∈s.2.1.map λp:P4=>p.2.1:=λy=>xR
  rw[List.length_map]at Rb;generalize p9 (s.2.1.map λp:P4=>p.2.1)=ms at*
  refine Wp.count (λs=>s) ms.length (λk _=>∀j,∀h:j<ms.length,j<k->sR ms[j] s.2.1<=1000000000000000/\sV ms[j] s.2.1<=1000000000000000) (by omega) rfl (λj h g=>by omega) λk q hk hq hJ=>?_
  obtain rfl:q=_:=hq
  refine .dec (λaG=>?_) λhge=> .some (.inr ⟨rfl,λm=>?_⟩)
  .have aG:k<ms.length:=by omega
   refine .bind (.idx k rfl aG (Wp.seq (λ_=>True) (.dec (λ_=> .some trivial) λ_=> .some trivial) λj _=> .ite (λ_=> .some (.inl ⟨3,by decide,rfl⟩)) λ_=>?_))
   refine Wp.seq (λj=>j=ag->sR ms[k] s.2.1<=1000000000000000/\sV ms[k] s.2.1<=1000000000000000) ?_ λj hj=> .ite (λ_=> .some (.inl ⟨3,by decide,rfl⟩)) λg=> .some ⟨aG,aS (by omega),λj' Qe Ul=>?_⟩
   .rw[qL,ai8]
    refine .dec (λ_=> .some λh=>by cases h) λh1=>?_
    rw[Kg,ai8]
    exact .some λg=>⟨ajT.1 h1,ajT.1 (ao g)⟩
   .by_cases e:j'<k
    .exact hJ j' Qe e
    .obtain rfl:j'=k:=by omega
     exact hj (by simpa using g)
  .rcases key m with h|⟨p,hp,rfl⟩
   .exact h
   .obtain⟨j,hj,e⟩:=ajm ((Q8 p.2.1).2 (List.mem_map.2 ⟨p,hp,rfl⟩));have:=hJ j hj (by omega);rw[e,hR]at this;exact this
 .rcases hu with⟨c,hc,rfl⟩|⟨rfl,hs⟩
  .exact λh=>absurd h hc
  show Wp _ _
  refine .dec (λ_=> .some λh=>by cases h) λUS=>?_
  have US:s.2.2.1.length<=16:=by omega
  refine .join (Wp.count (λs=>s) s.2.2.1.length (λk _=>∀j,∀h:j<s.2.2.1.length,j<k->(0:Int)<=s.2.2.1[j].2.2.2.2.2.2/\(s.2.2.1[j].2.2.2.2.2.2:Int)<=1000000000000000) (by omega) rfl (λj h g=>by omega) λk q hk hq hJ=>?_);obtain rfl:q=_:=hq
  refine .dec (λaG=>?_) λhge=> .some ?_
  .have aG:k<s.2.2.1.length:=by omega
   refine .bind (.idx k rfl aG (Wp.seq (λj=>j=ag->(0:Int)<=s.2.2.1[k].2.2.2.2.2.2/\(s.2.2.1[k].2.2.2.2.2.2:Int)<=1000000000000000) ?_ λj hj=> .ite (λ_=> .some λh=>by cases h) λg=> .some ⟨aG,aS (by omega),λj' Qe Ul=>?_⟩))
   .refine Wp.seq _ (Ki _) λy hy=> .ite (λ_=> .some λh=>by cases h) λg=> .some λ_=>hy (by simpa using g)
   .by_cases e:j'<k
    .exact hJ j' Qe e
    .obtain rfl:j'=k:=by omega
     exact hj (by simpa using g)
  .refine Wp.seq _ (PT s (by omega) (by omega) (by omega)) λy hy=> .ite (λ_=> .some λh=>by cases h) λg=> .some λ_=>?_
   exact⟨vc,ok,md,f0,f1,hh,dt,lm,pl,pk,λm=>⟨s0 m,(hs m).1⟩,λm=>⟨hV0 m,(hs m).2⟩,US,λa ha=>by
    obtain⟨j,hj,rfl⟩:=ajm ha
    exact hJ j hj (by omega),hy (by simpa using g)⟩
def yk.acc{l:Lw}(hw:WF bG l)(eY:dG l){conf:Cf}{s:vL}(h:yk l conf s):Acc l s.1 conf:=⟨hw,eY,h.ok,h.md,h.hh,by
 obtain⟨_,_,hs,hx⟩:=mT h.hh;have:=(oC.1 (oD.1 hx).2.1).1
 omega,h.vc⟩
end L
end
section
namespace L
open B (fR fV sR sV Ez gX lq ng mW ja eX dst Ei nk)
noncomputable def gw(app:List Ap)(w:aE.den):aE.den:=if(B.granted w.1 app.reverse).2=af then(w.1,((B.granted w.1 app.reverse).1,(0:Int)))else w
def Xu(app:List Ap)(w:aE.den):(gw app w).1=w.1:=by unfold gw;split<;>rfl
def vw{m:Int}:∀{L:List Ap},(B.granted m L).2=af->∃a∈L,(B.granted m L).1=a.2.2.2.2.2.2
 |[],h=>by cases h
 |x::L,h=>by
  unfold B.granted at h⊢;by_cases g:B.gm m x=af
  .rw[aj g];exact⟨x, .head _,rfl⟩
  .rw[ai g]at h⊢;obtain⟨a,ha,e⟩:=vw h;exact⟨a, .tail _ ha,e⟩
def Kj(ws:List aE.den)(app:List Ap)(h1:ws.length<=1000000)(h2:app.length<=1000):M.nA aU ws app=aa (ws.map (gw app)):=by
 unfold M.nA;refine Wp.eq (Wp.count (λs=>s.1) ws.length (λk s=>s.2=(ws.take k).map (gw app)) (by omega) rfl rfl λk s hk hs hJ=>?_);obtain⟨c,o⟩:=s;dsimp only at hs hJ;subst hs hJ
 refine .dec (λaG=>?_) λhge=>?_
 .have aG:k<ws.length:=by dsimp only at aG;omega
  refine .bind (.idx k rfl aG (Wp.seq (λj=>j=gw app ws[k]) ?_ λj hj=> .bind (.app (by simp;omega) (.some ⟨aG,aS (by omega),?_⟩))))
  .rw[B.GB h2,ai8];unfold gw
   exact .ite (λh=>by rw[aj h];exact .some rfl) λh=>by rw[ai h];exact .some rfl
  .subst hj
   show(ws.take k).map (gw app)++[gw app ws[k]]=(ws.take (k+1)).map (gw app)
   rw[<-ajk aG,List.map_append];rfl
 .have hge:k=ws.length:=by dsimp only at hge;omega
  subst hge;exact .some (show(ws.take ws.length).map (gw app)=_ by rw[ajn])
noncomputable def l7(l:Lw)(h:Hh)(conf:Cf)(ps:List P4)(app:List Ap)(r:Int)(n:Nat):List P4:=(ajY n).map λi:Nat=>B.mb ps (gw app (aw l h conf r ((conf.2.2.2.2.2.1:Int)+i)))
def gG(conf:Cf)(t:Int):Nat:=(t+1-(conf.2.2.2.2.2.1:Int)).toNat
def qO{l:Lw}{h:Hh}{conf:Cf}(H:Acc l h conf)(f0:(0:Int)<=conf.2.2.2.2.2.1){ps:List P4}{app:List Ap}(h1:ps.length<=1000000)(h2:app.length<=1000)(dl:Ty){t:Int}(ht:t= -1\/qM conf t)(r:Int):
 M.cL aU l conf (h,(ps,(app,dl))) t r=aa (l7 l h conf ps app r (gG conf t)):=by
 unfold M.cL
 obtain⟨(f:Int),hf⟩:∃f:Int,f=conf.2.2.2.2.2.1:=⟨_,rfl⟩
 unfold l7 gG;unfold qM at ht;rw[<-hf]at ht⊢
 have g0:(0:Int)<=f:=by rw[hf];exact f0
 refine Wp.eq (Wp.seq (λj=>(j=af/\t+1-f<=0)\/(j=ag/\f<=t/\t<=3599)) ?_ λj hj=>?_)
 .refine .dec (λg=> .some (.inl ⟨rfl,by omega⟩)) λg=>?_
  rcases ht with ht|⟨q1,q2,q3⟩
  .omega
  .exact .some (.inr ⟨au (by omega),q1,q2⟩)
 rcases hj with⟨rfl,g⟩|⟨rfl,g1,g2⟩
 .refine .ite (λ_=> .some ?_) λg=>absurd rfl g
  rw[show(t+1-f).toNat=0 by omega];rfl
 .refine .ite (λg=>by cases g) λ_=>?_
  have hq:t<=f+119:=by omega
  rw[aW (n:=t+1) (by omega) (by omega),H.qJ (f:=f) (t:=t+1) (r:=r) g0 (by omega) (by omega) (by omega),ai8]
  refine .dec (λg=>?_) λ_=>?_
  .simp at g;omega
  .rw[Kj _ _ (by simp;omega) h2,ai8,B.of_eq _ _ (by simp;omega) (show ps.length<=1048576 by omega),ai8];refine .some ?_;rw[List.map_map,List.map_map];rfl
def nV(l:Lw)(h:Hh)(conf:Cf)(ps:List P4)(app:List Ap)(r:Int)(n:Nat):(l7 l h conf ps app r n).length=n:=by unfold l7;simp
def ry{conf:Cf}{t:Int}(f0:(0:Int)<=conf.2.2.2.2.2.1)(ht:t= -1\/qM conf t):gG conf t<=120:=by
 unfold gG;unfold qM at ht
 obtain⟨(f:Int),hf⟩:∃f:Int,f=conf.2.2.2.2.2.1:=⟨_,rfl⟩
 rw[<-hf]at ht⊢
 have g0:(0:Int)<=f:=by rw[hf];exact f0
 omega
def uS{l:Lw}{h:Hh}{conf:Cf}(H:Acc l h conf)(ps:List P4)(app:List Ap)(r m:Int):(B.mb ps (gw app (aw l h conf r m))).1=m:=by
 unfold B.mb;dsimp only;rw[Xu];exact(H.Ah r m).1
def xY{l:Lw}{h:Hh}{conf:Cf}(H:Acc l h conf)(ps:List P4)(app:List Ap)(r:Int)(n:Nat):((l7 l h conf ps app r n).map Prod.fst).Nodup:=by
 unfold l7;rw[List.map_map]
 have e:(Prod.fst∘λi:Nat=>B.mb ps (gw app (aw l h conf r ((conf.2.2.2.2.2.1:Int)+i))))=λi:Nat=>(conf.2.2.2.2.2.1:Int)+i:=by
  funext i;exact uS H ps app r _
 rw[e];refine List.pairwise_map.2 ((List.nodup_range (n:=n)).imp λ{a b}g q=>g ?_);have q:(conf.2.2.2.2.2.1:Int)+(a:Int)=(conf.2.2.2.2.2.1:Int)+(b:Int):=q;omega
def TK{l:Lw}{h:Hh}{conf:Cf}(H:Acc l h conf){ps:List P4}{app:List Ap}(pl:ps.length<=4096)(pk:∀p∈ps,Ez p)(so:gX ps)(wv:∀m,0<=sV m ps/\sV m ps<=1000000000000000)(ac:∀a∈app,(0:Int)<=a.2.2.2.2.2.2/\(a.2.2.2.2.2.2:Int)<=1000000000000000)(r m:Int):lq ps (B.mb ps (gw app (aw l h conf r m))):=by
 have hm:=(H.Ah r m).1;have ha:=(H.Ah r m).2;have hR:=B.QZ (m:=m) pk (by omega);have hV:=wv m;have hs:=so m;have hg:(gw app (aw l h conf r m)).1=m:=(Xu app _).trans hm
 have hd:((gw app (aw l h conf r m)).2.2:Int)=0->(0:Int)<=(gw app (aw l h conf r m)).2.1/\((gw app (aw l h conf r m)).2.1:Int)<=4611686018427387905:=by
  unfold gw;split
  .rename_i g;intro _;obtain⟨a,ha,e⟩:=vw g;have:=ac a (List.mem_reverse.1 ha);dsimp only;rw[e];exact⟨this.1,Int.le_trans this.2 (by decide)⟩
  .exact ha
 generalize gw app (aw l h conf r m)=w at*;obtain⟨(w1:Int),(w2:Int),(w3:Int)⟩:=w;have hg:w1=m:=hg;subst hg;have hd:w3=0->0<=w2/\w2<=4611686018427387905:=hd;unfold B.mb lq;dsimp only;rw[hR];refine⟨?_,?_,rfl,hV.1,hV.2⟩
 .split
  .exact(hd ‹_›).1
  .exact hs.1
 .split
  .have:=(hd ‹_›).2;omega
  .omega
def HV{l:Lw}{h:Hh}{conf:Cf}(H:Acc l h conf){ps:List P4}{app:List Ap}(pl:ps.length<=4096)(pk:∀p∈ps,Ez p)(so:gX ps)(wv:∀m,0<=sV m ps/\sV m ps<=1000000000000000)(ac:∀a∈app,(0:Int)<=a.2.2.2.2.2.2/\(a.2.2.2.2.2.2:Int)<=1000000000000000)(r:Int)(n:Nat):∀b∈l7 l h conf ps app r n,lq ps b:=λb hb=>by
 obtain⟨i,_,rfl⟩:=List.mem_map.1 hb;exact TK H pl pk so wv ac r _
def Kk(p:Int)(conf:Cf):Wp (M.eJ aU p conf) λ_=>True:=by
 unfold M.eJ
 refine .dec (λ_=> .some trivial) λ_=>Wp.seq (λ_=>True) ?_ λy _=> .eC (λ_=> .some trivial) λ_=> .some trivial
 unfold M.k7
 exact Wp.seq _ (P.uK (by omega)) λ_ _=> .some trivial
noncomputable def BO(p:Int)(conf:Cf):Int:=(M.eJ aU p conf).getD 0
def Nq(p:Int)(conf:Cf):M.eJ aU p conf=aa (BO p conf):=((Kk p conf).getD 0).1
def Nr(p:Int)(conf:Cf):0<=BO p conf/\BO p conf<=9223372036854775807:=by
 have KD:∀n,ai9.wrap n<=9223372036854775807:=λn=>by rw[IntKind.wrap_i64];omega
 have g:∀y z:Int,z<=9223372036854775807->0<=(if(if y<z then y else z)<0 then 0 else(if y<z then y else z))/\(if(if y<z then y else z)<0 then 0 else(if y<z then y else z))<=9223372036854775807:=λy z h=>by
  have hx:(if y<z then y else z)<=z:=by split<;>omega
  generalize(if y<z then y else z)=x at*
  split<;>omega
 have:Wp (M.eJ aU p conf) λr=>0<=r/\r<=9223372036854775807:=by
  unfold M.eJ
  refine .dec (λ_=> .some ⟨by decide,by decide⟩) λ_=>Wp.seq (λ_=>True) ?_ λy _=> .eC (λ_=> .some ⟨by decide,by decide⟩) λ_=> .some (g _ _ (KD _))
  unfold M.k7
  exact Wp.seq _ (P.uK (by omega)) λ_ _=> .some trivial
 exact(this.getD 0).2
def xZ(b:P4):M.eV aU b=aa (ng b):=B.Nd b
def BP(b:P4):M.cx aU b=aa (mW b):=B.QW b
def GC(b:P4):0<=mW b:=by unfold mW;split<;>omega
def HW(Bs:List P4)(r k d:Int)(W:List (Int×Bool))(hB:Bs.length<=1000000)(hr:r<=9223372036854775807):M.fb aU Bs r k d W=aa (Ei (λm=>(bn aB W m).getD ag) Bs r,dst k d (λm=>(bn aB W m).getD ag) Bs r):=by
 unfold M.fb
 obtain⟨st,gD⟩:∃st:Int->Bool,st=λm=>(bn aB W m).getD ag:=⟨_,rfl⟩
 rw[<-gD]
 have E4:∀m,(bn aB W m).getD ag=st m:=λm=>by rw[gD]
 have e0:we Bs (0:Int) (Bs.length:Int) (Bs.length:Int)=aa Bs:=by
  unfold we;rw[aj rfl,rn (i:=(0:Int)) 0 Bs.length rfl rfl (ajB _) (ajh _)];simp
 rw[e0,ai8];refine Wp.eq (Wp.loop (λs=>s.1<=9223372036854775807/\s.2.1.length<=Bs.length/\s.2.2.length+s.2.1.length<=Bs.length/\Ei st Bs r=Ei st s.2.1 s.1/\dst k d st Bs r=s.2.2++dst k d st s.2.1 s.1) (λs=>s.2.1.length) ⟨hr,ajh _,by simp,rfl,rfl⟩ (by dsimp only;unfold aU;omega) ?_)
 rintro⟨q,rest,o⟩ ⟨h0,h1,h2,h3,h4⟩
 dsimp only at h0 h1 h2 h3 h4⊢
 refine Wp.seq (λj=>(j=af/\0<rest.length/\0<q)\/(j=ag/\(rest=[]\/q<=0))) ?_ λj hj=>?_
 .refine .dec (λg=> .some ?_) λg=> .some (.inr ⟨rfl, .inl (List.length_eq_zero_iff.1 (by omega))⟩)
  by_cases g':0<q
  .exact .inl ⟨aq g',by omega,g'⟩
  .exact .inr ⟨au g', .inr (by omega)⟩
 rcases hj with⟨rfl,g1,g2⟩|⟨rfl,g⟩
 .refine .ite (λ_=>?_) λg=>absurd rfl g
  obtain⟨b,rest,rfl⟩:=List.exists_cons_of_length_pos g1;have hov:=GC b
  have ec:we (b::rest) (1:Int) ((b::rest).length:Int) ((b::rest).length:Int)=aa rest:=by
   unfold we;rw[aj rfl,rn (i:=(1:Int)) 1 (b::rest).length rfl rfl (by simp) (ajh _)];simp
  simp only[ajp]at h1 h2 g1⊢;rw[Ei]at h3;rw[dst]at h4;rw[ai (by omega)]at h3 h4
  refine Wp.seq (λj=>j.1<=9223372036854775807/\j.2.length+rest.length<=Bs.length/\Ei st Bs r=Ei st rest j.1/\dst k d st Bs r=j.2++dst k d st rest j.1) ?_ λj hj=> .oK ec (.some ⟨⟨hj.1,by dsimp only;omega,hj.2.1,hj.2.2.1,hj.2.2.2⟩,show rest.length<rest.length+1 by omega⟩)
  refine .bind (.idx 0 rfl (by simp) ?_)
  show Wp ((M.cx aU b).bind _) _
  rw[BP,ai8]
  show Wp (((if(decide (mW b<=(0:Int)))=af then aa af else aa ((bn aB W b.1).getD ag)):Option Bool).bind _) _
  rw[E4]
  refine Wp.seq (λj=>j=decide (mW b<=0\/st b.1=af)) (.dec (λg=> .some (aq (.inl g)).symm) λg=> .some ?_) λj hj=>?_
  .cases hs:st b.1 with
   |true=>simp
   |false=>simp;omega
  subst hj
  refine .dec (λg=>?_) λg=>?_
  .rw[aj g]at h3 h4;exact .some ⟨h0,by dsimp only;omega,h3,h4⟩
  .rw[ai g]at h3 h4
   have qa:0<mW b:=by
    rcases Int.lt_or_le 0 (mW b)with q|q
    .exact q
    .exact absurd (.inl q) g
   have em:(if q<mW b then q else mW b)=min (mW b) q:=by omega
   refine .bind (.app (by simp;omega) (.some ⟨?_,by simp;omega,?_,?_⟩))
   all_goals
    dsimp only;rw[em]
   .rw[aW (by omega) (by omega)];omega
   .rw[aW (by omega) (by omega)];exact h3
   .rw[aW (by omega) (by omega),List.append_assoc];exact h4
 .refine .ite (λg=>by cases g) λ_=> .some ?_
  show(q,o)=(Ei st Bs r,dst k d st Bs r)
  rw[h3,h4]
  rcases g with rfl|g
  .rw[Ei,dst,ajS]
  .cases rest with
   |nil=>rw[Ei,dst,ajS]
   |cons b rest=>rw[Ei,dst,aj g,aj g,ajS]
def PU(Bs:List P4)(p:Int)(conf:Cf)(d:Int)(S:List Int)(hB:Bs.length<=1000000)(hS:S.length<=1000000):M.mG aU Bs p conf d S=aa (dst 2 d (λm=>decide (m∈S)) Bs (BO p conf)):=by
 unfold M.mG;refine Wp.eq (Wp.seq (λW=>∀m,(bn aB W m).getD ag=decide (m∈S)) ?_ λW hW=>?_)
 .refine Wp.count (λs=>s.1) S.length (λk s=>∀m,(bn aB s.2 m).getD ag=decide (m∈S.take k)) (by omega) rfl (λm=>by simp;rfl) λk s hk hs hJ=>?_
  obtain⟨c,W⟩:=s;dsimp only at hs hJ;subst hs
  refine .dec (λaG=>?_) λhge=> .some ?_
  .have aG:k<S.length:=by dsimp only at aG;omega
   refine .bind (.idx k rfl aG (.some ⟨aG,aS (by omega),λm=>?_⟩));dsimp only
   have e:bn aB (fL aB W S[k] af) m=if S[k]=m then aa af else bn aB W m:=B.mw W S[k] m af
   rw[e,<-ajk aG];by_cases h:S[k]=m
   .rw[aj h];simp[h]
   .rw[ai h,hJ];refine decide_eq_decide.2 ?_;rw[ajt,ajy];exact⟨.inl,λq=>q.resolve_right λq=>h q.symm⟩
  .have:k=S.length:=by dsimp only at hge;omega
   subst this;rw[ajn]at hJ;exact hJ
 .rw[Nq,ai8,HW _ _ _ _ _ hB (Nr _ _).2,ai8];refine .some ?_;rw[show(λm=>(bn aB W m).getD ag)=λm=>decide (m∈S)from funext hW]
def TL(Bs:List P4)(t:Int)(conf:Cf)(d:Int)(S:List Int)(hB:Bs.length<=1000000)(hS:S.length<=1000000):M.oq aU Bs t conf d S=aa (eX 1 d (ja t) Bs++dst 2 d (λm=>decide (m∈S)) Bs (BO (nk (eX 1 d (ja t) Bs)) conf)):=by
 unfold M.oq;refine Wp.eq (Wp.seq (λj=>j=(nk (eX 1 d (ja t) Bs),eX 1 d (ja t) Bs)) ?_ λj hj=>?_)
 .refine Wp.count (λs=>s.2.1) Bs.length (λk s=>s.1=nk (eX 1 d (ja t) (Bs.take k))/\s.2.2=eX 1 d (ja t) (Bs.take k)) (by omega) rfl ⟨rfl,rfl⟩ λk s hk hs hJ=>?_
  obtain⟨a,c,o⟩:=s;obtain⟨j1,j2⟩:=hJ;dsimp only at hs j1 j2;subst hs j1 j2
  refine .dec (λaG=>?_) λhge=> .some ?_
  .have aG:k<Bs.length:=by dsimp only at aG;omega
   have BY:(eX 1 d (ja t) (Bs.take k)).length<=k:=ajs (B.lY _) (by simp;omega)
   refine Wp.seq (λj=>j.1=nk (eX 1 d (ja t) (Bs.take (k+1)))/\j.2=eX 1 d (ja t) (Bs.take (k+1))) ?_ λj hj=> .some ⟨aG,aS (by omega),hj⟩
   refine .bind (.idx k rfl aG ?_);rw[xZ,ai8,<-ajk aG,B.uR];generalize Bs[k]=b;generalize eX 1 d (ja t) (Bs.take k)=o at*
   refine Wp.seq (λj=>j=decide (ja t b<=0)) (.dec (λg=> .some ?_) λg=> .some ?_) λj hj=>?_
   .unfold ja;rw[aj g];rfl
   .unfold ja;rw[ai g]
   subst hj
   refine .dec (λg=>?_) λg=>?_
   .rw[aj g,ajS];exact .some ⟨rfl,rfl⟩
   .rw[ai g]
    have ea:ja t b=ng b:=by
     unfold ja at g⊢;split
     .rename_i q;rw[aj q]at g;omega
     .rfl
    rw[ea];refine .bind (.app (by simp;omega) (.some ⟨?_,rfl⟩));rw[B.Gz,akF]
  .have:k=Bs.length:=by dsimp only at hge;omega
   subst this;rw[ajn];exact(Eq.refl (nk (eX 1 d (ja t) Bs),eX 1 d (ja t) Bs))
 .subst hj;have h1:=B.lY (k:=1) (d:=d) (f:=ja t) Bs;have h2:=B.tP (k:=2) (d:=d) (st:=λm=>decide (m∈S)) Bs (BO (nk (eX 1 d (ja t) Bs)) conf);rw[PU _ _ _ _ _ hB hS,ai8];exact .bind (.app (by dsimp only;omega) (.some rfl))
end L
end
section
namespace L
open B (fR fV sR sV Ez gX lq ng mW ja eX dst Ei nk keeps)
def Kl(c:cQ.den)(hc:c.2.length<=64)(d:Int)(h0:0<=d)(h1:d<=109572):Wp (M.mI aU c d) λ_=>True:=by
 unfold M.mI
 refine Wp.seq (λw=>0<=w/\w<=6) ?_ λw hw=>?_
 .unfold M.pJ M.iu
  refine Wp.seq (λj=>j=af) (Wp.seq (λj=>j=af) (.dec (λ_=> .some (aq h1)) λg=>absurd h0 g) λj hj=> .some hj) λj hj=>?_
  subst hj
  refine .ite (λg=>by cases g) λ_=> .some ⟨Int.tmod_nonneg _ h0,?_⟩
  have:=Int.tmod_lt_of_pos d (b:=7) (by omega);omega
 .refine Wp.seq (λ_=>True) ?_ λx _=> .eC (λ_=> .some trivial) λ_=>Wp.seq _ (Af c.2 d (by omega)) λ_ _=> .some trivial
  unfold Cc;rw[ai (by omega)];exact .some trivial
def HX(c:cQ.den)(hc:c.2.length<=64)(d n:Int)(h0:0<=d)(h1:d<=109573):Wp (M.mQ aU c d n) λ_=>True:=by
 unfold M.mQ;refine Wp.loop (λs=>0<=s.1/\s.1<=109573) (λs=>(109573-s.1).toNat) ⟨h0,h1⟩ (by dsimp only;unfold aU;omega) ?_
 rintro⟨a,b⟩ ⟨h0,h1⟩
 dsimp only at h0 h1⊢
 refine .dec (λh=> .join (Wp.seq _ (Kl c hc a h0 h) λy _=>?_)) λ_=> .some trivial
 have next:∀j:Int,Wp (aa (Sum.inl (ai9.wrap (a+1),j)):Option ((Int×Int)⊕(Int×Int))) (zL (λs=>0<=s.1/\s.1<=109573) (λs=>(109573-s.1).toNat) (a,b) λ_=>True):=λj=>by
  rw[aW (by omega) (by omega)];exact .some ⟨⟨by dsimp only;omega,by dsimp only;omega⟩,by dsimp only;omega⟩
 exact .ite (λ_=> .some (next _)) λ_=> .dec (λ_=> .some trivial) λ_=> .some (next _)
def vx(c:cQ.den)(d n:Int):Wp (M.jK aU c d n) λ_=>True:=by
 unfold M.jK
 refine Wp.seq (λ_=>True) ?_ λy _=> .eC (λ_=> .some trivial) λ_=> .some trivial
 have Xv:∀d,M.eN aU d=aa (decide (0<=d/\d<=109572)):=λd=>my d
 unfold M.qv
 refine Wp.seq _ (BN c) λv hv=> .ite (λ_=> .some trivial) λg=>?_
 have hc:=hv (by simpa using g)
 refine Wp.seq (λj=>j=ag->0<=d/\d<=109572) ?_ λj hj=> .ite (λ_=> .some trivial) λg=>?_
 .rw[Xv,ai8]
  refine .ite (λ_=> .some λh=>by cases h) λh=> .dec (λ_=> .some λh=>by cases h) λ_=> .some λ_=>?_
  exact an (by simpa using h)
 obtain⟨h0,h1⟩:=hj (by simpa using g)
 refine .dec (λ_=>Wp.seq (λ_=>True) ?_ λ_ _=> .some trivial) λ_=>Wp.seq _ (HX c hc _ _ ?_ ?_) λ_ _=> .some trivial
 .unfold M.pK
  refine Wp.seq _ (BN c) λv _=> .ite (λ_=> .some trivial) λ_=>?_
  rw[Xv,ai8]
  exact .ite (λ_=> .some trivial) λ_=>Wp.seq _ (HX c hc d 1 h0 (by omega)) λ_ _=> .some trivial
 .rw[aW (by omega) (by omega)];omega
 .rw[aW (by omega) (by omega)];omega
def Ns(i a b d n:Int)(conf:Cf):Wp (M.ot aU i a b d n conf) λ_=>True:=by
 have Xv:∀d,M.mH aU d=aa (decide (0<=d/\d<=109572)):=λd=>my d
 unfold M.ot
 refine Wp.seq (λ_=>True) ?_ λ_ _=> .ite (λ_=> .some trivial) λ_=> .dec (λ_=> .some trivial) λ_=>Wp.seq (λ_=>True) ?_ λ_ _=> .ite (λ_=> .some trivial) λ_=>Wp.seq (λ_=>True) ?_ λ_ _=> .some trivial
 .rw[Xv,Xv,ai8]
  refine .dec (λ_=> .some trivial) λ_=> .ite (λ_=> .some trivial) λ_=>?_
  rw[ai8]
  refine .ite (λ_=> .some trivial) λ_=>?_
  unfold M.fC
  exact Wp.seq (λ_=>True) (Wp.seq (λ_=>True) (.dec (λ_=> .dec (λ_=> .dec (λ_=> .some trivial) λ_=> .some trivial) λ_=> .some trivial) λ_=> .some trivial) λ_ _=> .some trivial) λ_ _=> .some trivial
 .exact Wp.seq _ (BN _) λ_ _=> .ite (λ_=> .some trivial) λ_=> .dec (λ_=> .some trivial) λ_=> .some trivial
 .exact Wp.seq _ (vx _ _ _) λ_ _=> .dec (λ_=> .some trivial) λ_=>Wp.seq _ (vx _ _ _) λ_ _=> .some trivial
def Km(a:Ap)(st c d:Int):Wp (M.jn aU a st c d) λ_=>True:=by
 unfold M.jn
 refine Wp.seq (λ_=>True) ?_ λ_ _=> .ite (λ_=> .some trivial) λ_=> .dec (λ_=> .some trivial) λ_=>Wp.seq (λ_=>True) (.dec (λ_=> .dec (λ_=> .some trivial) λ_=> .some trivial) λ_=> .some trivial) λ_ _=> .ite (λ_=> .some trivial) λ_=>Wp.seq (λ_=>True) (.dec (λ_=> .some trivial) λ_=> .dec (λ_=> .some trivial) λ_=> .eC (λ_=> .some trivial) λ_=> .some trivial) λ_ _=> .ite (λ_=> .some trivial) λ_=> .some trivial
 unfold M.mu
 have three:∀b c d:Int,Wp (((if(decide (st=b))=af then aa af else(if(decide (st=c))=af then aa af else aa (decide (st=d)))):Option Bool).bind λj1=>aa j1) λ_=>True:=λb c d=>Wp.seq (λ_=>True) (.dec (λ_=> .some trivial) λ_=> .dec (λ_=> .some trivial) λ_=> .some trivial) λ_ _=> .some trivial
 exact .dec (λ_=>three _ _ _) λ_=> .dec (λ_=>three _ _ _) λ_=> .some trivial
def uT{α:Type}(l:List α)(h:l.length<=1048576):(if ajf l.length 0=af then yB (aa ([]:List α)) ((cu ([]:List α) l).bind λl1=>aa l1)else(cu ([]:List α) l).bind λl2=>aa l2)=aa l:=by
 rw[fU (by simp;omega),ajC,ai8];split
 .rename_i h0;obtain rfl:=List.length_eq_zero_iff.1 (beq_true h0);unfold yB;rw[aj rfl]
 .rfl
def Nt(l:List gn)(h:l.length<=1048576):M.bw aU l=aa l:=uT l h
def TM(l:List P4)(h:l.length<=1048576):M.bE aU l=aa l:=uT l h
def TN(l:List Ap)(h:l.length<=1048576):M.bF aU l=aa l:=uT l h
def qP(s:vL)(h1:s.1.2.2.2.length<=1048576)(h2:s.2.1.length<=1048576)(h3:s.2.2.1.length<=1048576):M.kC aU s=aa (s.1.1,s.1.2.1,s.1.2.2.1,s.2.2.2,s.1.2.2.2,s.2.1,s.2.2.1):=by
 unfold M.kC;rw[Nt _ h1,TM _ h2,TN _ h3];rfl
def BQ(new:List P4)(i c m:Int)(dl:Ty)(fs:List gn)(ps:List P4)(app:List Ap)(h1:new.length<=1000000)(h2:ps.length<=1000000):M.iB aU new i c m dl fs ps app=aa (if 4096<ps.length+new.length then((4:Int),i,c,m,dl,fs,app,ps)else((0:Int),i,c,m,dl,fs,app,ps++new)):=by
 unfold M.iB;rw[aW (by omega) (by omega)];by_cases h:4096<ps.length+new.length
 .rw[aj (aq (by omega)),aj h]
 .rw[ai (by rw[az];omega),ai h,fU (by omega),ai8]
noncomputable def pS(l:Lw)(h:Hh)(conf:Cf)(ps:List P4)(app:List Ap)(d t:Int):List P4:=
 eX 1 d (ja t) (l7 l h conf ps app d (gG conf t))++dst 2 d (λm=>decide (m∈B.qJ app)) (l7 l h conf ps app d (gG conf t)) (BO (nk (eX 1 d (ja t) (l7 l h conf ps app d (gG conf t)))) conf)
def GD(app:List Ap):(B.qJ app).length<=3600:=by
 unfold B.qJ;rw[List.length_map];exact ajs (aj2 _ _) (by simp)
def Ko(app:List Ap)(h:app.length<=1000):M.fa aU app=aa (B.qJ app):=B.vK app h (by unfold aU;omega)
def Em{l:Lw}{h:Hh}{conf:Cf}{ps:List P4}{app:List Ap}{d t:Int}:(pS l h conf ps app d t).length<=2*gG conf t:=by
 unfold pS;have h0:=nV l h conf ps app d (gG conf t);have h1:=B.lY (k:=1) (d:=d) (f:=ja t) (l7 l h conf ps app d (gG conf t));have h2:=B.tP (k:=2) (d:=d) (st:=λm=>decide (m∈B.qJ app)) (l7 l h conf ps app d (gG conf t)) (BO (nk (eX 1 d (ja t) (l7 l h conf ps app d (gG conf t)))) conf);rw[List.length_append];omega
noncomputable instance(conf:Cf)(m:Int):Decidable (qM conf m):=aju _
def uU{l:Lw}{conf:Cf}{i c m:Int}{fs:List gn}(H:Acc l (i,(c,(m,fs))) conf)(f0:(0:Int)<=conf.2.2.2.2.2.1)(f1:(conf.2.2.2.2.2.1:Int)<=3599)(e:bN.den)(dl:Ty){ps:List P4}{app:List Ap}(hp:ps.length<=4096)(ha:app.length<=1000):
 M.gV aU l conf e i c m dl fs ps app=aa (if¬qM conf e.2.2.1 then((3:Int),i,c,m,dl,fs,app,ps)else if(e.2.2.1:Int)<dl.2 then((9:Int),i,c,m,dl,fs,app,ps)else
   if 4096<ps.length+(pS l (i,(c,(m,fs))) conf ps app e.2.1 e.2.2.1).length then((4:Int),i,c,m,(dl.1,e.2.2.1),fs,app,ps)else((0:Int),i,c,m,(dl.1,e.2.2.1),fs,app,ps++pS l (i,(c,(m,fs))) conf ps app e.2.1 e.2.2.1)):=by
 unfold M.gV;obtain⟨b,hb,qR⟩:=xX f0 f1 e.2.2.1;rw[hb,ai8];by_cases HP:qM conf e.2.2.1
 .obtain rfl:=qR.2 HP;rw[ai (show¬¬qM conf e.2.2.1 from λg=>g HP)];refine Wp.eq (.ite (λg=>by cases g) λ_=> .dec (λaG=>by rw[aj aG];exact .some rfl) λaG=>?_);have hn:=ry f0 (.inr HP);have hl:=nV l (i,(c,(m,fs))) conf ps app e.2.1 (gG conf e.2.2.1);have hm:=GD app;have hq:(pS l (i,(c,(m,fs))) conf ps app e.2.1 e.2.2.1).length<=2*gG conf e.2.2.1:=Em;rw[ai aG,qO H f0 (by omega) ha dl (.inr HP) e.2.1,ai8,Ko _ ha,ai8,TL _ _ _ _ _ (by omega) (by omega),ai8]
  show Wp ((M.iB aU (pS l (i,(c,(m,fs))) conf ps app e.2.1 e.2.2.1) i c m (dl.1,e.2.2.1) fs ps app).bind λy5=>aa (y5.1,y5.2.1,y5.2.2.1,y5.2.2.2.1,y5.2.2.2.2.1,y5.2.2.2.2.2.1,y5.2.2.2.2.2.2.1,y5.2.2.2.2.2.2.2)) _
  rw[BQ _ _ _ _ _ _ _ _ (by omega) (by omega),ai8];exact .some rfl
 .have:b=ag:=by
   cases b with
   |true=>exact absurd (qR.1 rfl) HP
   |false=>rfl
  subst this;refine Wp.eq (.ite (λ_=>by rw[aj HP];exact .some rfl) λg=>absurd rfl g)
structure Q2(s:vL)(fs:List gn)(ps:List P4)(app:List Ap):Prop where
 new:∃q,ps=s.2.1++q/\keeps s.2.1 q
 pl:ps.length<=4096
 fl:fs.length<=s.1.2.2.2.length+1
 al:app.length<=17
def yk.facts{l:Lw}{conf:Cf}{s:vL}(h:yk l conf s):s.1.2.2.2.length<=128:=by
 obtain⟨_,_,hs,hx⟩:=mT h.hh;exact(oC.1 (oD.1 hx).2.1).1
def yk.same{l:Lw}{conf:Cf}{s:vL}(h:yk l conf s):Q2 s s.1.2.2.2 s.2.1 s.2.2.1:=⟨⟨[],by simp,B.Ak h.sm⟩,h.pl,by omega,by have:=h.al;omega⟩
def yk.TO{l:Lw}(hw:WF bG l)(eY:dG l){conf:Cf}{s:vL}(h:yk l conf s)(r:Int)(n:Nat):(∀b∈l7 l s.1 conf s.2.1 s.2.2.1 r n,lq s.2.1 b)/\((l7 l s.1 conf s.2.1 s.2.2.1 r n).map Prod.fst).Nodup:=⟨HV (h.acc hw eY) h.pl h.pk h.sm h.wv h.ac r n,xY (h.acc hw eY) _ _ _ _⟩
def GF{l:Lw}(hw:WF bG l)(eY:dG l){conf:Cf}{s:vL}(h:yk l conf s)(d t:Int):keeps s.2.1 (pS l s.1 conf s.2.1 s.2.2.1 d t):=by
 obtain⟨h1,h2⟩:=h.TO hw eY d (gG conf t);exact B.Ka h.sm h1 h2
def GG{l:Lw}{conf:Cf}{s:vL}(h:yk l conf s)(e:bN.den):Wp (M.jb aU l e s.1.1 s.1.2.1 s.1.2.2.1 s.2.2.2 s.1.2.2.2 s.2.1 s.2.2.1) λy=>y.1=0->y.2.1=s.1.1/\y.2.2.1=s.1.2.1/\y.2.2.2.1=s.1.2.2.1/\y.2.2.2.2.1=s.2.2.2/\Q2 s y.2.2.2.2.2.2.2 y.2.2.2.2.2.1 y.2.2.2.2.2.2.1:=by
 have h1:=h.facts;unfold M.jb
 refine .eC (λ_=> .some λg=>by cases g) λ_=> .bind (.app (by simp;omega) ?_)
 rw[xL,ai8]
 exact .some λ_=>⟨rfl,rfl,rfl,rfl,h.same.new,h.pl,by simp,h.same.al⟩
def BR{l:Lw}{conf:Cf}{s:vL}(h:yk l conf s)(e:bN.den):Wp (M.gJ aU conf e s.1.1 s.1.2.1 s.1.2.2.1 s.2.2.2 s.1.2.2.2 s.2.1 s.2.2.1) λy=>y.1=0->y.2.1=s.1.1/\y.2.2.1=s.1.2.1/\y.2.2.2.1=s.1.2.2.1/\y.2.2.2.2.1=s.2.2.2/\Q2 s y.2.2.2.2.2.1 y.2.2.2.2.2.2.1 y.2.2.2.2.2.2.2:=by
 unfold M.gJ
 refine .dec (λ_=> .some λg=>by cases g) λaG=>Wp.seq _ (Ns _ _ _ _ _ _) λy _=> .eC (λg=> .some λq=>absurd q g) λ_=> .bind (.app (by simp;omega) (.some λ_=>⟨rfl,rfl,rfl,rfl,h.same.new,h.pl,h.same.fl,by simp;omega⟩))
def BS{l:Lw}{conf:Cf}{s:vL}(h:yk l conf s)(e:bN.den):Wp (M.gK aU e s.1.1 s.1.2.1 s.1.2.2.1 s.2.2.2 s.1.2.2.2 s.2.1 s.2.2.1) λy=>y.1=0->y.2.1=s.1.1/\y.2.2.1=s.1.2.1/\y.2.2.2.1=s.1.2.2.1/\y.2.2.2.2.1=s.2.2.2/\Q2 s y.2.2.2.2.2.1 y.2.2.2.2.2.2.1 y.2.2.2.2.2.2.2:=by
 have US:=h.al;unfold M.gK
 refine Wp.seq (λj=>j=ag->(0:Int)<=e.2.2.2.2.2.1/\(e.2.2.2.2.2.1:Int)<(s.2.2.1.length:Int)) (.dec (λ_=> .some λg=>by cases g) λg=> .some λg'=>⟨ajT.1 g,Int.not_le.1 (ao g')⟩) λj hj=> .ite (λ_=> .some λg=>by cases g) λg=>?_
 obtain⟨h0,h1⟩:=hj (by simpa using g);obtain⟨k,hk⟩:=ajd h0
 have Pk:k<s.2.2.1.length:=by
  have:(k:Int)<(s.2.2.1.length:Int):=hk▸h1;omega
 refine .bind (.idx k hk Pk (Wp.seq _ (Km _ _ _ _) λy _=> .eC (λg=> .some λq=>absurd q g) λ_=> .bind (.idx k hk Pk (.some λ_=>⟨rfl,rfl,rfl,rfl,h.same.new,h.pl,h.same.fl,?_⟩))));rw[cC];omega
def yk.Nu{l:Lw}(hw:WF bG l)(eY:dG l){conf:Cf}{s:vL}(h:yk l conf s)(r:Int):M.cL aU l conf ((s.1.1,(s.1.2.1,(s.1.2.2.1,s.1.2.2.2))),(s.2.1,(s.2.2.1,s.2.2.2))) s.2.2.2.2 r=aa (l7 l s.1 conf s.2.1 s.2.2.1 r (gG conf s.2.2.2.2))/\gG conf s.2.2.2.2<=120:=
 ⟨qO (h.acc hw eY) h.f0 (by have:=h.pl;omega) (by have:=h.al;omega) _ h.lm r,ry h.f0 h.lm⟩
def Eo{l:Lw}(hw:WF bG l)(eY:dG l){conf:Cf}{s:vL}(h:yk l conf s)(e:bN.den):Wp (M.iC aU l conf e s.1.1 s.1.2.1 s.1.2.2.1 s.2.2.2 s.1.2.2.2 s.2.1 s.2.2.1) λy=>y.1=0->y.2.1=s.1.1/\y.2.2.1=s.1.2.1/\y.2.2.2.1=s.1.2.2.1/\y.2.2.2.2.1=s.2.2.2/\Q2 s y.2.2.2.2.2.1 y.2.2.2.2.2.2.2 y.2.2.2.2.2.2.1:=by
 have BY:=h.pl;unfold M.iC
 refine Wp.seq (λj=>j=ag->(1:Int)<=e.2.2.2.2.2.2.2.1/\(e.2.2.2.2.2.2.2.1:Int)<=1000000000000000) (.dec (λ_=> .some λg=>by cases g) λg=> .some λg'=>⟨ajT.1 g,ajT.1 (ao g')⟩) λj hj=> .ite (λ_=> .some λg=>by cases g) λg=>?_
 obtain⟨h0,h1⟩:=hj (by simpa using g);obtain⟨eb,hn⟩:=h.Nu hw eY e.2.1;obtain⟨b1,b2⟩:=h.TO hw eY e.2.1 (gG conf s.2.2.2.2);have hl:=nV l s.1 conf s.2.1 s.2.2.1 e.2.1 (gG conf s.2.2.2.2);rw[eb,ai8];generalize l7 l s.1 conf s.2.1 s.2.2.1 e.2.1 (gG conf s.2.2.2.2)=Bs at*
 refine Wp.seq (λy=>y.2=[]\/∃st,y.2=dst 3 e.2.1 st Bs e.2.2.2.2.2.2.2.1) ?_ λy hy=>?_
 .unfold M.nP
  refine .dec (λ_=> .some (.inl rfl)) λ_=>?_
  rw[HW _ _ _ _ _ (by omega) (Int.le_trans h1 (by decide)),ai8];exact .some (.inr ⟨_,rfl⟩)
 have hy':y.2.length<=120/\keeps s.2.1 y.2:=by
  rcases hy with hy|⟨st,hy⟩
  .rw[hy];exact⟨by simp,B.Ak h.sm⟩
  .rw[hy];exact⟨ajs (B.tP _ _) (by omega),B.J9 (.inr rfl) h.sm b1 b2⟩
 refine .dec (λ_=> .some λg=>by cases g) λ_=>?_
 rw[BQ _ _ _ _ _ _ _ _ (by omega) (by omega),ai8];split
 .exact .some λg=>by cases g
 .exact .some λ_=>⟨rfl,rfl,rfl,rfl,⟨_,rfl,hy'.2⟩,by simp;omega,h.same.fl,h.same.al⟩
def Ep{l:Lw}(hw:WF bG l)(eY:dG l){conf:Cf}{s:vL}(h:yk l conf s)(e:bN.den):Wp (M.iD aU l conf e s.1.1 s.1.2.1 s.1.2.2.1 s.2.2.2 s.1.2.2.2 s.2.1 s.2.2.1) λy=>y.1=0->y.2.1=s.1.1/\y.2.2.1=s.1.2.1/\y.2.2.2.1=s.1.2.2.1/\y.2.2.2.2.1=s.2.2.2/\Q2 s y.2.2.2.2.2.1 y.2.2.2.2.2.2.2 y.2.2.2.2.2.2.1:=by
 have BY:=h.pl;unfold M.iD
 refine Wp.seq (λ_=>True) (.dec (λ_=> .some trivial) λg=> .some trivial) λj _=> .ite (λ_=> .some λg=>by cases g) λg=>?_
 obtain⟨eb,hn⟩:=h.Nu hw eY e.2.1;have hl:=nV l s.1 conf s.2.1 s.2.2.1 e.2.1 (gG conf s.2.2.2.2);rw[eb,ai8];generalize l7 l s.1 conf s.2.1 s.2.2.1 e.2.1 (gG conf s.2.2.2.2)=Bs at*
 refine Wp.seq (λy=>(y.1:Int)<(Bs.length:Int)) ?_ λy hy=>?_
 .unfold M.bp
  refine Wp.count (λs=>s.1) Bs.length (λ_ _=>True) (by omega) rfl trivial λk q hk hq _=>?_
  obtain⟨c,z⟩:=q;dsimp only at hq;subst hq
  refine .dec (λaG=>?_) λ_=> .some (show(-1:Int)<(Bs.length:Int) by omega)
  have aG:k<Bs.length:=by dsimp only at aG;omega
  refine .bind (.idx k rfl aG ?_);unfold M.gB;exact .bind (.some (.ite (λ_=> .some (show(k:Int)<(Bs.length:Int) by omega)) λ_=> .some ⟨aG,aS (by omega),trivial⟩))
 refine .dec (λ_=> .some λg=>by cases g) λh0=>?_
 obtain⟨k,hk⟩:=ajd (ajT.1 h0)
 have Pk:k<Bs.length:=by
  have:(k:Int)<(Bs.length:Int):=hk▸hy;omega
 refine .bind (.idx k hk Pk ?_);rw[BP,ai8]
 refine .dec (λ_=> .some λg=>by cases g) λ_=>?_
 rw[BQ _ _ _ _ _ _ _ _ (by simp) (by omega),ai8];split
 .exact .some λg=>by cases g
 .exact .some λ_=>⟨rfl,rfl,rfl,rfl,⟨_,rfl,B.Ej h.sm⟩,by simp at*;omega,h.same.fl,h.same.al⟩
end L
end
section
namespace L
open B (fR fV sR sV Ez gX lq ng mW ja eX dst Ei nk keeps Ni)
abbrev Out:Type:=Int×Int×Int×(List bg.den)×(List aC.den)×(List aP.den)×aD.den×Int
def Xw(y:Out):vL:=((y.1,(y.2.1,(y.2.2.1,y.2.2.2.1))),(y.2.2.2.2.1,(y.2.2.2.2.2.1,y.2.2.2.2.2.2.1)))
def Nv{l:Lw}(hw:WF bG l)(eY:dG l)(conf:Cf)(s:vL)(e:bN.den):Wp (M.du aU l conf s e) λy=>
 ((y.2.2.2.2.2.2.2:Int)≠0/\Xw y=s)\/((y.2.2.2.2.2.2.2:Int)=0/\yk l conf s/\y.1=s.1.1/\y.2.1=s.1.2.1/\y.2.2.1=s.1.2.2.1/\Q2 s y.2.2.2.1 y.2.2.2.2.1 y.2.2.2.2.2.1/\((e.1:Int)=2->y.2.2.2.2.1=s.2.1++pS l s.1 conf s.2.1 s.2.2.1 e.2.1 e.2.2.1)):=by
 unfold M.du
 refine Wp.seq _ (qN hw eY conf s) λv hv=> .eC (λ_=> .some (.inl ⟨show(1:Int)≠0 by decide,rfl⟩)) λh0=>?_
 have h:=hv h0;have h1:=h.facts;have h2:=h.pl;have h3:=h.al;rw[my,ai8]
 refine .ite (λ_=> .some (.inl ⟨show(3:Int)≠0 by decide,rfl⟩)) λ_=> .dec (λ_=> .some (.inl ⟨show(9:Int)≠0 by decide,rfl⟩)) λ_=>?_
 rw[qP s (by omega) (by omega) (by omega),ai8]
 refine Wp.seq (λj=>j.1=0->j.2.1=s.1.1/\j.2.2.1=s.1.2.1/\j.2.2.2.1=s.1.2.2.1/\Q2 s j.2.2.2.2.2.1 j.2.2.2.2.2.2.1 j.2.2.2.2.2.2.2/\((e.1:Int)=2->j.2.2.2.2.2.2.1=s.2.1++pS l s.1 conf s.2.1 s.2.2.1 e.2.1 e.2.2.1)) ?_ λj hj=>?_
 .refine .dec (λg=>Wp.seq _ (GG h e) λy hy=> .some λq=>?_) λg1=> .dec (λg=>?_) λg2=> .dec (λg=>Wp.seq _ (BR h e) λy hy=> .some λq=>?_) λ_=> .dec (λg=>Wp.seq _ (BS h e) λy hy=> .some λq=>?_) λ_=> .dec (λg=>Wp.seq _ (Eo hw eY h e) λy hy=> .some λq=>?_) λ_=> .dec (λg=>Wp.seq _ (Ep hw eY h e) λy hy=> .some λq=>?_) λ_=> .some λq=>by cases q
  .obtain⟨a,b,c,_,d⟩:=hy q;exact⟨a,b,c,d,λk=>by have:(2:Int)=1:=k.symm.trans g;omega⟩
  .have e':=uU (i:=s.1.1) (c:=s.1.2.1) (m:=s.1.2.2.1) (fs:=s.1.2.2.2) (h.acc hw eY) h.f0 h.f1 e s.2.2.2 h2 (app:=s.2.2.1) (by omega);dsimp only;rw[e',ai8]
   refine .some λq=>?_
   split at q
   .cases q
   split at q
   .cases q
   split at q
   .cases q
   rename_i q1 q2 q3;rw[ai q1,ai q2,ai q3];refine⟨rfl,rfl,rfl,⟨⟨_,rfl,GF hw eY h _ _⟩,?_,h.same.fl,h.same.al⟩,λ_=>rfl⟩;rw[List.length_append];exact Nat.not_lt.1 q3
  .obtain⟨a,b,c,_,d⟩:=hy q;exact⟨a,b,c,d,λk=>by have:(2:Int)=3:=k.symm.trans g;omega⟩
  .obtain⟨a,b,c,_,d⟩:=hy q;exact⟨a,b,c,d,λk=>by have:(2:Int)=4:=k.symm.trans g;omega⟩
  .obtain⟨a,b,c,_,d⟩:=hy q;exact⟨a,b,c,d,λk=>by have:(2:Int)=5:=k.symm.trans g;omega⟩
  .obtain⟨a,b,c,_,d⟩:=hy q;exact⟨a,b,c,d,λk=>by have:(2:Int)=6:=k.symm.trans g;omega⟩
 .refine .eC (λg=> .some (.inl ⟨g,rfl⟩)) λg=> .some (.inr ⟨rfl,h,?_⟩)
  obtain⟨a,b,c,d,k⟩:=hj g;exact⟨a,b,c,d,k⟩
end L
end
section
namespace L
open B (fR fV sR sV ng mW ja eX dst)
def pq:bG.den:=(([]:List ef.den),(([]:List bl.den),([((⟨#[104,111,117,115,101]⟩:ByteArray),((-1:Int),(([((⟨#[97]⟩:ByteArray),((3:Int),(0:Int)))]:List bA.den),(([((⟨#[100]⟩:ByteArray),((3:Int),(0:Int)))]:List bA.den),([((⟨#[98,97,115,101]⟩:ByteArray),((0:Int),((-1:Int),((0:Int),(((0:Int),(109573:Int)),(([]:List aD.den),(([((7:Int),(0:Int))]:List aD.den),ByteArray.empty)))))))]:List db.den)))))]:List aM.den)))
def mV:Cf:=((0:Int),((0:Int),((1:Int),((0:Int),((0:Int),((0:Int),((0:Int),((0:Int),([]:List Int)))))))))
def BT:Hh:=((0:Int),((0:Int),((0:Int),([((0:Int),((-1:Int),((0:Int),(((3:Int),((0:Int),(500:Int))),(((0:Int),(109573:Int)),(0:Int))))))]:List bg.den))))
def Kp:vL:=(BT,(([]:List aC.den),(([]:List aP.den),((0:Int),(-1:Int)))))
def Xx:M.dL aU pq mV Kp=aa 0:=by kernel_rfl
def ab7:M.ln aU 0=aa (((0:Int),(31:Int)),(0:Int)):=by kernel_rfl
def ab8:M.jT aU ((0:Int),(31:Int)) []=aa [((0:Int),(31:Int))]:=by kernel_rfl
def am0:M.fk aU pq BT mV [((0:Int),(31:Int))] 9=aa ((500:Int),(0:Int)):=by kernel_rfl
def ab9:M.cv aU pq=aa []:=by
 have e:M.cv aU pq=(M.dN aU [((0:Int),(109573:Int))]).bind λy15=>(M.cG aU y15).bind λy16=>aa y16:=by kernel_rfl
 rw[e,uN _ (by simp),ai8];unfold M.cG pE;have hl:=mU (ph [((0:Int),(109573:Int))]);have hb:=pj [((0:Int),(109573:Int))];simp only[ajp,ajJ]at hb;rw[aj (by omega),ai8];refine ay aa (List.filter_eq_nil_iff.2 λy hy=>?_);have hy:=xR.1 hy
 have hy:y=0\/y=109573:=by simpa[ph,kg,VR]using hy
 rcases hy with rfl|rfl<;>decide
def aca:M.gj aU BT.2.2.2 9=aa []:=by
 rw[Ed _ _ (by decide)];refine ay aa (List.filter_eq_nil_iff.2 λy hy=>?_);have hy:=xR.1 hy;obtain⟨r,hr,hy⟩:=List.mem_flatMap.1 hy;obtain⟨f,hf,rfl⟩:=List.mem_map.1 hr;have hf:=(List.mem_filter.1 hf).1;obtain rfl:f=((0:Int),((-1:Int),((0:Int),(((3:Int),((0:Int),(500:Int))),(((0:Int),(109573:Int)),(0:Int)))))):=ajy.1 hf
 have hy:y=0\/y=109573:=by
  split at hy
  .simpa using hy
  .cases hy
 rcases hy with rfl|rfl<;>decide
def acb:M.dS aU pq BT 9=aa []:=by
 unfold M.dS;rw[aca,ai8,ab9,ai8,Ae _ _ (by simp) (by simp),ai8,ajC,v7 (by simp)];refine ay aa ?_;have:=mU [];exact List.length_eq_zero_iff.1 (Nat.le_zero.1 this)
def aw0:aw pq BT mV 9 0=((0:Int),((500:Int),(0:Int))):=by
 have e:M.cH aU pq BT mV 0 9=aa ((0:Int),((500:Int),(0:Int))):=by
  unfold M.cH
  have ea:M.gT aU pq BT mV=aa af:=by kernel_rfl
  rw[ab7,ai8,ai (by decide),ea,ai8,ai (by decide),acb,ai8,ab8,ai8,am0];rfl
 unfold aw;rw[e];rfl
def wfN{r:Row}:WF (.slice r) []:=⟨by show 0<=maxLen;unfold maxLen;omega,λx h=>by cases h⟩
def Xy{r:Row}{x:r.den}(h:WF r x):WF (.slice r) [x]:=⟨by show 1<=maxLen;unfold maxLen;omega,λy hy=>by obtain rfl:=ajy.1 hy;exact h⟩
def KH(n:Int)(h: -200000<=n/\n<=200000):WF aB n:=by
 show-9223372036854775808<=n/\n<=9223372036854775807
 omega
def Xz(s:ByteArray)(h:s.size<=100):WF .str s:=by
 show s.size<=maxLen
 unfold maxLen;omega
def wf0:WF bG pq:=
 ⟨wfN,wfN,Xy ⟨Xz _ (by decide),KH _ (by decide),Xy ⟨Xz _ (by decide),KH _ (by decide),KH _ (by decide)⟩,Xy ⟨Xz _ (by decide),KH _ (by decide),KH _ (by decide)⟩,
   Xy ⟨Xz _ (by decide),KH _ (by decide),KH _ (by decide),KH _ (by decide),⟨KH _ (by decide),KH _ (by decide)⟩,wfN,Xy ⟨KH _ (by decide),KH _ (by decide)⟩,Xz _ (by decide)⟩⟩⟩
def sm0:dG pq:=by
 obtain⟨r,hr,h⟩:=zQ pq wf0
 have e:M.iR aU pq=aa af:=by kernel_rfl
 rw[e]at hr;exact h (aja hr).symm
def ok0:yk pq mV Kp:=by
 obtain⟨e,he,h⟩:=qN wf0 sm0 mV Kp;rw[Xx]at he;exact h (aja he).symm
def XA:qM mV 0:=⟨by decide,by decide,by decide⟩
def acg:l7 pq BT mV [] [] 9 1=[((0:Int),((500:Int),((0:Int),(0:Int))))]:=by
 have e:((mV.2.2.2.2.2.1:Int)+((0:Nat):Int))=0:=by decide
 unfold l7;rw[show ajY 1=[0]from rfl,ajD,List.map_nil,e,aw0];have eg:gw [] ((0:Int),((500:Int),(0:Int)))=((0:Int),((500:Int),(0:Int))):=ai (by simp[B.granted]);rw[eg]
 show(_:List P4)=_
 kernel_rfl
def ach:pS pq BT mV [] [] 9 0=[((9:Int),((0:Int),((1:Int),(500:Int))))]:=by
 unfold pS;rw[show gG mV 0=1 from by decide,acg]
 have e1:eX 1 9 (ja 0) [((0:Int),((500:Int),((0:Int),(0:Int))))]=[((9:Int),((0:Int),((1:Int),(500:Int))))]:=by kernel_rfl
 have e2:mW ((0:Int),((500:Int),((0:Int),(0:Int))))=0:=by kernel_rfl
 rw[e1];generalize BO _ _=z;unfold dst dst;rw[aj (show mW ((0:Int),((500:Int),((0:Int),(0:Int))))<=0\/_ from .inl (Int.le_of_eq e2)),ite_self];rfl
def TP:bN.den:=((2:Int),((9:Int),((0:Int),((0:Int),((0:Int),((0:Int),((0:Int),((0:Int),((0:Int),((0:Int),((0:Int),(((0:Int),((0:Int),(0:Int))),(((0:Int),(0:Int)),(0:Int))))))))))))))
def aci:M.du aU pq mV Kp TP=aa ((0:Int),(0:Int),(0:Int),BT.2.2.2,[((9:Int),((0:Int),((1:Int),(500:Int))))],[],((9:Int),(0:Int)),(0:Int)):=by
 have e:=uU (i:=0) (c:=0) (m:=0) (fs:=BT.2.2.2) (ok0.acc wf0 sm0) ok0.f0 ok0.f1 TP ((0:Int),(-1:Int)) (ps:=[]) (app:=[]) (by simp) (by simp);rw[ai (show¬¬qM mV TP.2.2.1 from λg=>g XA),ai (by decide),show pS pq ((0:Int),((0:Int),((0:Int),BT.2.2.2))) mV [] [] TP.2.1 TP.2.2.1=_ from ach,ai (by decide)]at e;unfold M.du;rw[Xx,ai8,ai (by decide),my,ai8,ai (by decide),ai (by decide),qP Kp (by decide) (by decide) (by decide),ai8,ai (by decide),aj (by decide)];dsimp only;rw[show M.gV aU pq mV TP Kp.1.1 Kp.1.2.1 Kp.1.2.2.1 Kp.2.2.2 Kp.1.2.2.2 Kp.2.1 Kp.2.2.1=_ from e,ai8];rfl
def uV:M.nQ aU=aa af:=by
 have e:M.nQ aU=(M.du aU pq mV Kp TP).bind λy4=>((if(decide (y4.2.2.2.2.2.2.2=(0:Int)))=af then
(if(decide ((y4.2.2.2.2.1.length:Int)=(1:Int)))=af then
(idx y4.2.2.2.2.1 (0:Int)).bind λx6=>
(if(decide (x6.2.2.2=(500:Int)))=af then
(M.iE aU ((y4.1,(y4.2.1,(y4.2.2.1,y4.2.2.2.1))),(y4.2.2.2.2.1,(y4.2.2.2.2.2.1,y4.2.2.2.2.2.2.1)))).bind λy7=>
some (decide (y7=(500:Int)))
else
some ag)
else
some ag)
else
some ag):Option (Bool)).bind λj5=>
some j5:=by
  unfold M.nQ
  have en:M.ie aU ((0:Int),((0:Int),((0:Int),BT.2.2.2)))=aa ((0:Int),(0:Int),(0:Int),((0:Int),(-1:Int)),BT.2.2.2):=by kernel_rfl
  rw[show M.pL aU=aa pq.2.2 from rfl,ai8,show M.k9 aU 500=aa BT from rfl,ai8,show M.ie aU (BT.1,(BT.2.1,(BT.2.2.1,BT.2.2.2)))=_ from en,ai8];rfl
 rw[e,aci,ai8]
 show(_:Option Bool)=_
 kernel_rfl
end L
end
section
namespace L
open B (fR fV sR sV Ez gX lq ng mW ja eX dst Ei nk keeps Ni)
def GH(conf:Cf)(es:List bN.den):Wp (M.mO aU conf es) λr=>r=af->es.length<=12:=by
 unfold M.mO;refine .join (Wp.mono (Q:=λu=>(∃r:Bool,u=Sum.inr r/\r=ag)\/u=Sum.inl ()) ?_ λu hu=>?_)
 .refine Wp.count (λs=>s) 20 (λ_ _=>True) (by omega) rfl trivial λk s hk hs _=>?_
  obtain rfl:s=_:=hs
  refine Wp.seq (λj=>j=af->k<es.length/\k<20) (.dec (λh=> .some λg=>⟨by omega,by have:=an g;omega⟩) λ_=> .some λg=>by cases g) λj hj=>?_
  refine .ite (λh=>?_) λ_=> .some (.inr rfl)
  obtain⟨h1,h2⟩:=hj h;refine .bind (.idx k rfl h1 (Wp.seq (λ_=>True) (.bind (.idx k rfl h1 ?_)) λj _=> .ite (λ_=> .some (.inl ⟨_,rfl,rfl⟩)) λ_=> .some ⟨h2,aS (by omega),trivial⟩))
  exact .dec (λ_=> .dec (λ_=> .dec (λ_=> .some trivial) λ_=> .some trivial) λ_=> .some trivial) λ_=> .some trivial
 .rcases hu with⟨r,rfl,rfl⟩|rfl
  .exact λg=>by cases g
  .refine Wp.seq (λr=>r=af->es.length<=12) (.dec (λh=> .dec (λ_=>?_) λ_=> .some λg=>by cases g) λ_=> .some λg=>by cases g) λr hr=> .some hr
   unfold M.mm;exact .bind (.some (.some λ_=>by omega))
def Nw(h:Hh)(hf:h.2.2.2.length<=1000):Wp (M.ie aU h) λy=>y.1=h.1/\y.2.1=h.2.1/\y.2.2.1=h.2.2.1/\y.2.2.2.2=h.2.2.2/\(y.2.2.2.1.2:Int)= -1/\(0:Int)<=y.2.2.2.1.1/\(∀f∈h.2.2.2,(f.2.2.2.2.2:Int)<=y.2.2.2.1.1)/\((y.2.2.2.1.1:Int)=0\/∃f∈h.2.2.2,(y.2.2.2.1.1:Int)=f.2.2.2.2.2):=by
 unfold M.ie;rw[Nt _ (by omega),ai8];generalize hF:h.2.2.2=fs at*
 refine Wp.seq (λj=>j.1=fs/\j.2.1=h.1/\j.2.2.1=h.2.1/\j.2.2.2.1=h.2.2.1/\(j.2.2.2.2.2:Int)= -1/\(0:Int)<=j.2.2.2.2.1/\(∀f∈fs,(f.2.2.2.2.2:Int)<=j.2.2.2.2.1)/\((j.2.2.2.2.1:Int)=0\/∃f∈fs,(j.2.2.2.2.1:Int)=f.2.2.2.2.2)) ?_ λj hj=> .some ⟨hj.2.1,hj.2.2.1,hj.2.2.2.1,hj.1,hj.2.2.2.2⟩
 refine Wp.count (λs=>s.1) fs.length (λk s=>s.2.1=fs/\s.2.2.1=h.1/\s.2.2.2.1=h.2.1/\s.2.2.2.2.1=h.2.2.1/\(s.2.2.2.2.2.2:Int)= -1/\(0:Int)<=s.2.2.2.2.2.1/\(∀f∈fs.take k,(f.2.2.2.2.2:Int)<=s.2.2.2.2.2.1)/\((s.2.2.2.2.2.1:Int)=0\/∃f∈fs,(s.2.2.2.2.2.1:Int)=f.2.2.2.2.2)) (by omega) rfl ⟨rfl,rfl,rfl,rfl,rfl,aj1 _,λf hf=>(by cases hf), .inl rfl⟩ λk s hk hs hJ=>?_
 obtain⟨c,F,a,b,m,(d:Int),(lm:Int)⟩:=s;obtain⟨j1,j2,j3,j4,j5,j6,j7,j8⟩:=hJ;dsimp only at hs j1 j2 j3 j4 j5 j6 j7 j8;subst hs j1
 refine .dec (λaG=>?_) λhge=> .some ⟨rfl,j2,j3,j4,j5,j6,?_,j8⟩
 .have aG:k<F.length:=by dsimp only at aG;omega
  refine .bind (.idx k rfl aG (.some ⟨aG,aS (by omega),rfl,j2,j3,j4,j5,?_,λf hf=>?_,?_⟩))
  .dsimp only;split
   .rename_i g;exact Int.le_trans j6 (Int.le_of_lt g)
   .exact j6
  .rw[<-ajk aG,ajt,ajy]at hf;dsimp only
   rcases hf with hf|rfl
   .have:=j7 f hf;split
    .rename_i g;exact Int.le_trans this (Int.le_of_lt g)
    .exact this
   .split
    .exact aj1 _
    .rename_i g;exact ajT.1 g
  .dsimp only;split
   .exact .inr ⟨_,aje aG,rfl⟩
   .exact j8
 .have:k=F.length:=by dsimp only at hge;omega
  subst this;rw[ajn]at j7;exact j7
def Nx(l:Lw)(conf:Cf)(h:Hh)(es:List bN.den)(hw:WF bG l):Wp ((M.iR aU l).bind λy2=>
(if(!y2)=af then
some af
else
(M.gH aU h).bind λy3=>
(if(!y3)=af then
some af
else
(M.mO aU conf es).bind λy4=>
some (!y4)):Option (Bool))) λj=>j=ag->dG l/\h.2.2.2.length<=40/\es.length<=12:=by
 refine Wp.seq _ (zQ l hw) λy2 h2=> .ite (λ_=> .some λg=>by cases g) λg2=>?_
 rw[J1,ai8]
 refine .ite (λ_=> .some λg=>by cases g) λg3=>Wp.seq _ (GH conf es) λy4 h4=> .some λg4=>⟨h2 (by simpa using g2),?_,h4 (by simpa using g4)⟩
 have:=an (by simpa using g3:decide ((h.2.2.2.length:Int)<=40)=af);omega
end L
end
section
namespace L
open B (fR fV sR sV Ez gX lq ng mW ja eX dst Ei nk keeps Ni)
def TQ{l:Lw}(hw:WF bG l)(eY:dG l)(conf:Cf)(s:vL)(es:List bN.den)(h1:s.1.2.2.2.length<=1000)(h2:s.2.1.length<=1000)(h3:s.2.2.1.length<=1000)(h4:es.length<=1000):Wp (M.jU aU l conf s es) λy=>y.1.1.1=s.1.1/\y.1.1.2.1=s.1.2.1/\y.1.1.2.2.1=s.1.2.2.1:=by
 unfold M.jU;rw[qP s (by omega) (by omega) (by omega),ai8]
 refine Wp.seq (λj=>j.2.1.1=s.1.1/\j.2.1.2.1=s.1.2.1/\j.2.1.2.2.1=s.1.2.2.1) ?_ λj hj=> .some hj
 refine Wp.count (λs=>s.2.1) es.length (λk q=>q.2.2.1=s.1.1/\q.2.2.2.1=s.1.2.1/\q.2.2.2.2.1=s.1.2.2.1) (by omega) rfl ⟨rfl,rfl,rfl⟩ λk q hk hq hJ=>?_
 obtain⟨sk,c,i,sc,mb,fs,ps,app,dl⟩:=q;obtain⟨j1,j2,j3⟩:=hJ;dsimp only at hq j1 j2 j3;subst hq
 refine .dec (λaG=>?_) λ_=> .some ⟨j1,j2,j3⟩
 have aG:k<es.length:=by dsimp only at aG;omega
 refine Wp.seq (λj=>j.2.1.1=s.1.1/\j.2.1.2.1=s.1.2.1/\j.2.1.2.2.1=s.1.2.2.1) (.bind (.idx k rfl aG (Wp.seq _ (Nv hw eY conf ((i,(sc,(mb,fs))),(ps,(app,dl))) es[k]) λy hy=>?_))) λj hj=> .some ⟨aG,aS (by omega),hj⟩
 refine .eC (λ_=> .some ⟨j1,j2,j3⟩) λg=> .some ?_
 rcases hy with⟨y0,_⟩|⟨_,_,a,b,c,_⟩
 .exact absurd g y0
 .exact⟨a.trans j1,b.trans j2,c.trans j3⟩
def ya(Bs:List P4)(kd d:Int)(f:P4->Int)(ff:P4->Option Int)(hf:∀b,ff b=aa (f b))(o:List P4)(hB:Bs.length<=1000000)(ho:o.length<=1000000):Wp (Loop (S:=Int×List aC.den) (X:=List aC.den) (λs5=>
(if(decide (s5.1<(Bs.length:Int)))=af then
((idx Bs s5.1).bind λx7=>
(ff x7).bind λy8=>
(if(decide ((0:Int)<y8))=af then
(cu s5.2 ([(d,(x7.1,(kd,y8)))]:List aC.den)).bind λl9=>
some l9
else
some s5.2):Option (List aC.den)).bind λj6=>
some (Sum.inl (ai9.wrap (s5.1+(1:Int)),j6))
else
some (Sum.inr s5.2))) aU ((0:Int),o)) λr=>r=o++eX kd d f Bs:=by
 refine Wp.count (λs=>s.1) Bs.length (λk s=>s.2=o++eX kd d f (Bs.take k)) (by omega) rfl (show o=o++[] by simp) λk s hk hs hJ=>?_
 obtain⟨c,q⟩:=s;dsimp only at hs hJ;subst hs hJ
 refine .dec (λaG=>?_) λhge=>?_
 .have aG:k<Bs.length:=by dsimp only at aG;omega
  have BY:(eX kd d f (Bs.take k)).length<=k:=ajs (B.lY _) (by simp;omega)
  refine Wp.seq (λj=>j=o++eX kd d f (Bs.take (k+1))) (.bind (.idx k rfl aG ?_)) λj hj=> .some ⟨aG,aS (by omega),hj⟩
  rw[hf,ai8,<-ajk aG,B.uR]
  refine .dec (λg=>?_) λg=>?_
  .rw[ai (by omega),<-List.append_assoc];exact .bind (.app (by simp;omega) (.some rfl))
  .rw[aj (by omega),ajS];exact .some rfl
 .have hge:k=Bs.length:=by dsimp only at hge;omega
  subst hge;exact .some (show o++eX kd d f (Bs.take Bs.length)=_ by rw[ajn])
noncomputable def pt(l:Lw)(conf:Cf)(s:vL)(d:Int):List P4:=
 eX 1 d ng (l7 l s.1 conf s.2.1 s.2.2.1 d (gG conf s.2.2.2.2))++eX 3 d mW (l7 l s.1 conf s.2.1 s.2.2.1 d (gG conf s.2.2.2.2))
def Ny{l:Lw}(hw:WF bG l)(eY:dG l)(conf:Cf)(s:vL)(d:Int):Wp (M.jV aU l conf s d) λy=>(y.2.2.2.2.2.2.2:Int)=0->yk l conf s/\(0<=d/\d<=109572)/\y.1=s.1.1/\y.2.1=s.1.2.1/\y.2.2.1=s.1.2.2.1/\y.2.2.2.1=s.1.2.2.2/\y.2.2.2.2.1=s.2.1++pt l conf s d/\y.2.2.2.2.2.1=s.2.2.1/\y.2.2.2.2.2.2.1=(d,s.2.2.2.2):=by
 unfold M.jV
 refine Wp.seq _ (qN hw eY conf s) λv hv=> .eC (λ_=> .some λg=>by cases g) λh0=>?_
 have h:=hv h0;have h1:=h.facts;have h2:=h.pl;have h3:=h.al
 refine Wp.seq (λj=>j=ag->0<=d/\d<=109572) (.dec (λ_=> .some λg=>by cases g) λg=> .some λg'=>⟨by omega,ajT.1 (ao g')⟩) λj hj=> .ite (λ_=> .some λg=>by cases g) λg=> .dec (λ_=> .some λg=>by cases g) λ_=>?_
 have hd:=hj (by simpa using g);obtain⟨eb,hn⟩:=h.Nu hw eY d;have hl:=nV l s.1 conf s.2.1 s.2.2.1 d (gG conf s.2.2.2.2);rw[show M.cL aU l conf s s.2.2.2.2 d=_ from eb,ai8];unfold pt;generalize l7 l s.1 conf s.2.1 s.2.2.1 d (gG conf s.2.2.2.2)=Bs at*;have l1:=B.lY (k:=1) (d:=d) (f:=ng) Bs;have l3:=B.lY (k:=3) (d:=d) (f:=mW) Bs
 refine Wp.seq _ (ya Bs 1 d ng _ xZ [] (by omega) (by simp)) λa ha=>?_
 subst ha
 refine Wp.seq _ (ya Bs 3 d mW _ BP _ (by omega) (by simp;omega)) λa ha=>?_
 subst ha;rw[ajC]
 refine .dec (λ_=> .some λg=>by cases g) λ_=>?_
 have ec:M.lO aU s=aa (s.1.1,s.1.2.1,s.1.2.2.1,s.2.2.2,s.1.2.2.2,s.2.1,s.2.2.1):=qP s (by omega) (by omega) (by omega);rw[ec,ai8];exact .bind (.app (by simp;omega) (.some λ_=>⟨h,hd,rfl,rfl,rfl,rfl,rfl,rfl,rfl⟩))
def Nz(s:vL)(h:s.2.1.length<=1000000):Wp (M.lP aU s) λr=>r=af->(∀p∈s.2.1,p.2.2.1≠4)/\s.2.2.1=[]:=by
 unfold M.lP;refine .join (Wp.mono (Q:=λu=>u=Sum.inr ag\/(u=Sum.inl ()/\∀p∈s.2.1,p.2.2.1≠4)) ?_ λu hu=>?_)
 .refine Wp.count (λs=>s) s.2.1.length (λk _=>∀j,∀h:j<s.2.1.length,j<k->s.2.1[j].2.2.1≠4) (by omega) rfl (λj h g=>by omega) λk q hk hq hJ=>?_
  obtain rfl:q=_:=hq
  refine .dec (λaG=>?_) λhge=> .some (.inr ⟨rfl,λp hp=>?_⟩)
  .have aG:k<s.2.1.length:=by omega
   refine .bind (.idx k rfl aG (.dec (λ_=> .some (.inl rfl)) λg=> .some ⟨aG,aS (by omega),λj hj Ul=>?_⟩));by_cases e:j<k
   .exact hJ j hj e
   .obtain rfl:j=k:=by omega
    exact g
  .obtain⟨j,hj,rfl⟩:=ajm hp;exact hJ j hj (by omega)
 .rcases hu with rfl|⟨rfl,hp⟩
  .exact λg=>by cases g
  .exact .some λg=>⟨hp,List.length_eq_zero_iff.1 (by have:=an g;omega)⟩
def TR(fs:List gn)(hf:fs.length<=1000)(i sc mb:Int):Wp (Loop (S:=Int×Int×Int×Int×List bg.den) (X:=Int×Int×Int×List bg.den) (λyQ=>
(if(decide ((0:Int)<=yQ.1))=af then
(idx fs yQ.1).bind λPp=>
(cu yQ.2.2.2.2 ([Pp]:List bg.den)).bind λl15=>
some (Sum.inl (ai9.wrap (yQ.1-(1:Int)),yQ.2.1,yQ.2.2.1,yQ.2.2.2.1,l15))
else
some (Sum.inr (yQ.2.1,yQ.2.2.1,yQ.2.2.2.1,yQ.2.2.2.2)))) aU (ai9.wrap ((fs.length:Int)-(1:Int)),i,sc,mb,([]:List bg.den))) λr=>r=(i,sc,mb,fs.reverse):=by
 rw[aW (by omega) (by omega)]
 refine Wp.count (λs=>(fs.length:Int)-1-s.1) fs.length (λk s=>s.2=(i,sc,mb,(fs.drop (fs.length-k)).reverse)) (by omega) (by dsimp only;omega) (by simp) λk s hk hs hJ=>?_
 obtain⟨c,q⟩:=s;dsimp only at hs hJ
 obtain rfl:c=(fs.length:Int)-1-k:=by omega
 subst hJ
 refine .dec (λh=>?_) λh=> .some ?_
 .have aG:k<fs.length:=by dsimp only at h;omega
  refine .bind (.idx (fs.length-1-k) (by dsimp only;omega) (by omega) (.bind (.app (by simp;omega) (.some ⟨aG,?_,?_⟩))))
  .dsimp only;rw[aW (by omega) (by omega)];omega
  .have e:fs.drop (fs.length-(k+1))=fs[fs.length-1-k]::fs.drop (fs.length-k):=by
    rw[show fs.length-(k+1)=fs.length-1-k by omega,ajx (by omega),show fs.length-1-k+1=fs.length-k by omega]
   show(i,sc,mb,(fs.drop (fs.length-k)).reverse++[fs[fs.length-1-k]])=(i,sc,mb,(fs.drop (fs.length-(k+1))).reverse)
   rw[e,List.reverse_cons]
 .have:k=fs.length:=by dsimp only at h;omega
  subst this
  show(i,sc,mb,(fs.drop (fs.length-fs.length)).reverse)=_
  rw[Nat.sub_self,List.drop_zero]
def PV{l:Lw}{conf:Cf}{i sc mb:Int}{fs:List gn}(H:Acc l (i,(sc,(mb,fs))) conf){d:Int}(h0:0<=d)(h1:d<=109572)(ht:∀f∈fs,(f.2.2.2.2.2:Int)<=d):M.dL aU l conf ((i,(sc,(mb,fs))),([],([],(d,(-1:Int)))))=aa 0:=by
 unfold M.dL;have hf:=H.hf;dsimp only at hf;rw[show M.cB aU l ((i,(sc,(mb,fs))),(([]:List P4),(([]:List Ap),(d,(-1:Int))))).1.2.1 conf=aa 0 from H.vc,ai8];refine Wp.eq (.eC (λg=>absurd rfl g) λ_=>?_);rw[xL,ai8]
 refine .eC (λg=>absurd H.hh g) λ_=>Wp.seq (λj=>j=ag) ?_ λj hj=>?_
 .rw[my,ai8]
  refine .ite (λg=>?_) λ_=> .eC (λg=>absurd rfl g) λ_=> .some rfl
  have:decide ((0:Int)<=d/\d<=109572)=af:=aq ⟨h0,h1⟩;rw[this]at g;cases g
 subst hj
 refine .ite (λg=>by cases g) λ_=>?_
 have el:M.fP aU ([]:List P4)=aa ((0:Int),(0:Int)):=by kernel_rfl
 have e0:p9 []=[]:=List.length_eq_zero_iff.1 (Nat.le_zero.1 (mU []));rw[show M.fP aU ((i,(sc,(mb,fs))),(([]:List P4),(([]:List Ap),(d,(-1:Int))))).2.1=_ from el,ai8]
 refine .eC (λg=>absurd rfl g) λ_=> .join (Wp.mono (Q:=λu=>u=Sum.inl ()) ?_ λu hu=>?_)
 .rw[Al _ (by simp),ai8]
  show Wp (Loop _ _ _) _
  refine Wp.count (λs=>s) 0 (λ_ _=>True) (by omega) rfl trivial λk q hk hq _=>?_
  obtain rfl:q=_:=hq
  obtain rfl:k=0:=by omega
  refine .dec (λg=>?_) λ_=> .some rfl
  have g:(0:Int)<((p9 []).length:Int):=g;rw[e0]at g;simp at g
 .subst hu
  show Wp _ _
  refine .dec (λg=>by simp at g) λ_=> .join (Wp.mono (Q:=λu=>u=Sum.inl ()) ?_ λu hu=>?_)
  .refine Wp.count (λs=>s) 0 (λ_ _=>True) (by omega) rfl trivial λk q hk hq _=>?_
   obtain rfl:q=_:=hq
   obtain rfl:k=0:=by omega
   exact .dec (λg=>absurd g (show¬(0:Int)<0 by omega)) λ_=> .some rfl
  .subst hu
   show Wp ((M.gS aU _).bind _) _
   refine Wp.seq (λr=>r=af) ?_ λr hr=>?_
   .unfold M.gS;refine .join (Wp.mono (Q:=λu=>u=Sum.inl ()) ?_ λu hu=>?_)
    .refine Wp.count (λs=>s) fs.length (λ_ _=>True) (by omega) rfl trivial λk q hk hq _=>?_
     obtain rfl:q=_:=hq
     refine .dec (λaG=>?_) λ_=> .some rfl
     have aG:k<fs.length:=by dsimp only at aG;omega
     refine .bind (.idx k rfl aG (.dec (λg=>absurd g (ajT.2 (ht _ (aje aG)))) λ_=> .some ⟨aG,aS (by omega),trivial⟩))
    .subst hu;refine .join (Wp.mono (Q:=λu=>u=Sum.inl ()) ?_ λu hu=>?_)
     .refine Wp.count (λs=>s) 0 (λ_ _=>True) (by omega) rfl trivial λk q hk hq _=>?_
      obtain rfl:q=_:=hq
      obtain rfl:k=0:=by omega
      exact .dec (λg=>absurd g (show¬(0:Int)<0 by omega)) λ_=> .some rfl
     .subst hu
      refine Wp.count (λs=>s) 0 (λ_ _=>True) (by omega) rfl trivial λk q hk hq _=>?_
      obtain rfl:q=_:=hq
      obtain rfl:k=0:=by omega
      exact .dec (λg=>absurd g (show¬(0:Int)<0 by omega)) λ_=> .some rfl
   .subst hr
    exact .ite (λg=>by cases g) λ_=> .some rfl
def PW{l:Lw}{conf:Cf}{i sc mb:Int}{fs:List gn}(H:Acc l (i,(sc,(mb,fs))) conf)(f0:(0:Int)<=conf.2.2.2.2.2.1)(f1:(conf.2.2.2.2.2.1:Int)<=3599){d:Int}(h0:0<=d)(h1:d<=109572)(ht:∀f∈fs,(f.2.2.2.2.2:Int)<=d)(e:bN.den)(ek:(e.1:Int)=2)(ed:d<=(e.2.1:Int)/\(e.2.1:Int)<=109572)(em:qM conf e.2.2.1)(ep:(-1:Int)<=e.2.2.1):
 M.du aU l conf ((i,(sc,(mb,fs))),([],([],(d,(-1:Int))))) e=aa (i,sc,mb,fs,pS l (i,(sc,(mb,fs))) conf [] [] e.2.1 e.2.2.1,[],((e.2.1:Int),(e.2.2.1:Int)),(0:Int)):=by
 have hf:=H.hf;dsimp only at hf;have hn:=ry f0 (.inr em);have hq:(pS l (i,(sc,(mb,fs))) conf [] [] e.2.1 e.2.2.1).length<=2*gG conf e.2.2.1:=Em;have e':=uU H f0 f1 e (d,(-1:Int)) (ps:=[]) (app:=[]) (by simp) (by simp);rw[ai (show¬¬qM conf e.2.2.1 from λg=>g em),ai (show¬(e.2.2.1:Int)< -1 from ajT.2 ep),ai (show¬4096<([]:List P4).length+(pS l (i,(sc,(mb,fs))) conf [] [] e.2.1 e.2.2.1).length by rw[ajJ];omega),ajC]at e';unfold M.du;rw[PV H h0 h1 ht,ai8];refine Wp.eq (.eC (λg=>absurd rfl g) λ_=>?_);rw[my,ai8]
 refine .ite (λg=>?_) λ_=> .dec (λg=>absurd ed.1 (Int.not_le.2 g)) λ_=>?_
 .rw[aq (show(0:Int)<=e.2.1/\(e.2.1:Int)<=109572 from⟨Int.le_trans h0 ed.1,ed.2⟩)]at g;cases g
 rw[qP _ (by dsimp only;omega) (by simp) (by simp),ai8]
 refine Wp.seq (λj=>j=((0:Int),i,sc,mb,(d,(e.2.2.1:Int)),fs,pS l (i,(sc,(mb,fs))) conf [] [] e.2.1 e.2.2.1,[])) ?_ λj hj=>?_
 .refine .dec (λg=>by have:(2:Int)=1:=ek.symm.trans g;omega) λ_=> .dec (λ_=>?_) λg=>absurd ek g
  dsimp only;rw[e',ai8];exact .some rfl
 .subst hj
  exact .eC (λg=>absurd rfl g) λ_=> .some rfl
def GI(w:aE.den):gw [] w=w:=ai (by simp[B.granted])
def Er{k d:Int}{st:Int->Bool}:∀{Bs:List P4}{r:Int},(∀b∈Bs,mW b<=0)->dst k d st Bs r=[]
 |[],_,_=>rfl
 |b::Bs,r,h=>by
  rw[dst];split
  .rfl
  .rw[aj (.inl (h b (.head _)))]
   exact Er λx hx=>h x (.tail _ hx)
def Am{k d:Int}{f:P4->Int}{Bs:List P4}:∀p∈eX k d f Bs,p.2.2.1=k:=λp hp=>(B.xT Bs p hp).2.1
def PX{m:Int}{p:P4}(h:p.2.2.1≠4):fV m p=0:=by
 unfold B.fV;rw[ai h,ite_self]
def BU{ps:List P4}(h:∀p∈ps,p.2.2.1≠4)(m:Int):sV m ps=0:=by
 unfold B.sV;rw[v8 λp hp=>PX (h p hp)];exact B.Un
def NA{l:Lw}{h:Hh}{conf:Cf}(ps:List P4)(app:List Ap)(r:Int){n k:Nat}(hk:k<n):B.mb ps (gw app (aw l h conf r ((conf.2.2.2.2.2.1:Int)+k)))∈l7 l h conf ps app r n:=List.mem_map.2 ⟨k,List.mem_range.2 hk,rfl⟩
def An{l:Lw}(hw:WF bG l)(eY:dG l){conf:Cf}{s:vL}(h:yk l conf s)(h4:∀p∈s.2.1,p.2.2.1≠4)(ha:s.2.2.1=[]){d:Int}{k:Nat}(hk:k<gG conf s.2.2.2.2)(h0:((aw l s.1 conf d ((conf.2.2.2.2.2.1:Int)+k)).2.2:Int)=0):
 sR ((conf.2.2.2.2.2.1:Int)+k) (s.2.1++pt l conf s d)=(aw l s.1 conf d ((conf.2.2.2.2.2.1:Int)+k)).2.1:=by
 obtain⟨b1,b2⟩:=h.TO hw eY d (gG conf s.2.2.2.2);have hm:=NA (l:=l) (h:=s.1) (conf:=conf) s.2.1 s.2.2.1 d hk;have hc:=B.Kb (d:=d) h.sm b1 b2 hm (BU h4 _);have ok:=((h.acc hw eY).Ah d ((conf.2.2.2.2.2.1:Int)+k)).2 h0;rw[uS (h.acc hw eY)]at hc
 have e:(B.mb s.2.1 (gw s.2.2.1 (aw l s.1 conf d ((conf.2.2.2.2.2.1:Int)+k)))).2.1=(aw l s.1 conf d ((conf.2.2.2.2.2.1:Int)+k)).2.1:=by
  rw[ha,GI];unfold B.mb;exact aj h0
 rw[e]at hc;unfold pt;exact B.Q1 hc ok.1 (Int.le_trans ok.2 (by decide))
def PY{l:Lw}{h:Hh}{conf:Cf}(H:Acc l h conf){d t:Int}{k:Nat}(hk:k<gG conf t)(h0:((aw l h conf d ((conf.2.2.2.2.2.1:Int)+k)).2.2:Int)=0):
 sR ((conf.2.2.2.2.2.1:Int)+k) (pS l h conf [] [] d t)=(aw l h conf d ((conf.2.2.2.2.2.1:Int)+k)).2.1:=by
 have so:gX []:=λm=>⟨aj1 _,by show(0:Int)<=_;omega⟩
 have wv:∀m,0<=sV m []/\sV m []<=1000000000000000:=λm=>by
  rw[BU (λp hp=>by cases hp)];omega
 have b1:=HV H (ps:=[]) (app:=[]) (by simp) (λp hp=>by cases hp) so wv (λa ha=>by cases ha) d (gG conf t);have b2:=xY H [] [] d (gG conf t);have hm:=NA (l:=l) (h:=h) (conf:=conf) [] [] d hk
 have hov:∀b∈l7 l h conf [] [] d (gG conf t),mW b<=0:=λb hb=>by
  have:=(b1 b hb).ov so;exact this
 have hs:=B.qK (k:=1) (d:=d) (f:=ja t) _ b2 _ hm;have ok:=(H.Ah d ((conf.2.2.2.2.2.1:Int)+k)).2 h0;have hmo:=uS H [] [] d ((conf.2.2.2.2.2.1:Int)+k);have hba:=(b1 _ hm).arr so;unfold pS;rw[Er hov,ajS]
 have e:(B.mb [] (gw [] (aw l h conf d ((conf.2.2.2.2.2.1:Int)+k)))).2.1=(aw l h conf d ((conf.2.2.2.2.2.1:Int)+k)).2.1:=by
  rw[GI];unfold B.mb;exact aj h0
 rw[e]at hba
 have ht:¬t<(conf.2.2.2.2.2.1:Int)+k:=by
  unfold gG at hk;omega
 have ea:ja t (B.mb [] (gw [] (aw l h conf d ((conf.2.2.2.2.2.1:Int)+k))))=(aw l h conf d ((conf.2.2.2.2.2.1:Int)+k)).2.1:=by
  unfold ja;rw[hmo,ai ht,hba.2.2];simp only[List.map_nil,List.sum_nil,Int.sub_zero];exact ai (ajT.2 ok.1)
 rw[hmo,ea]at hs;refine B.Q1 (hs.trans ?_) ok.1 (Int.le_trans ok.2 (by decide));have ok1:=ok.1;generalize((aw l h conf d ((conf.2.2.2.2.2.1:Int)+k)).2.1:Int)=c at*;rw[show B.TF 1=1 from rfl,Int.one_mul]
 split<;>omega
def settled{l:Lw}(hw:WF bG l)(eY:dG l){conf:Cf}{s:vL}(h:yk l conf s)(h4:∀p∈s.2.1,p.2.2.1≠4)(ha:s.2.2.1=[]){d:Int}:M.eK aU l conf (s.1,(s.2.1++pt l conf s d,(s.2.2.1,(d,s.2.2.2.2))))=aa af:=by
 have hl:=nV l s.1 conf s.2.1 s.2.2.1 d (gG conf s.2.2.2.2);have hn:=ry h.f0 h.lm;have BY:=h.pl
 have Qd:(pt l conf s d).length<=240:=by
  unfold pt;have l1:=B.lY (k:=1) (d:=d) (f:=ng) (l7 l s.1 conf s.2.1 s.2.2.1 d (gG conf s.2.2.2.2));have l3:=B.lY (k:=3) (d:=d) (f:=mW) (l7 l s.1 conf s.2.1 s.2.2.1 d (gG conf s.2.2.2.2));rw[List.length_append];omega
 have Y7:∀p∈s.2.1++pt l conf s d,p.2.2.1≠4:=λp hp=>by
  rcases ajt.1 hp with hp|hp
  .exact h4 p hp
  .unfold pt at hp
   rcases ajt.1 hp with hp|hp
   .rw[Am p hp];decide
   .rw[Am p hp];decide
 unfold M.eK;dsimp only;rw[qO (h.acc hw eY) h.f0 (by rw[List.length_append];omega) (by have:=h.al;omega) (d,s.2.2.2.2) h.lm d,ai8,B.TE _ (by rw[nV];omega),ai8]
 have key:∀b∈l7 l s.1 conf (s.2.1++pt l conf s d) s.2.2.1 d (gG conf s.2.2.2.2),ng b=0/\mW b=0:=λb hb=>by
  obtain⟨k,hk,rfl⟩:=List.mem_map.1 hb;have hk:=List.mem_range.1 hk;have hm:=((h.acc hw eY).Ah d ((conf.2.2.2.2.2.1:Int)+k)).1
  have e:∀c:Int,c=sR ((conf.2.2.2.2.2.1:Int)+k) (s.2.1++pt l conf s d)->ng ((conf.2.2.2.2.2.1:Int)+k,c,sR ((conf.2.2.2.2.2.1:Int)+k) (s.2.1++pt l conf s d),0)=0/\mW ((conf.2.2.2.2.2.1:Int)+k,c,sR ((conf.2.2.2.2.2.1:Int)+k) (s.2.1++pt l conf s d),0)=0:=λc hc=>by
   rw[<-hc];unfold ng mW;dsimp only;rw[Int.sub_self,B.Un];exact⟨rfl,by rw[Int.sub_zero,B.Un];rfl⟩
  rw[ha,GI];unfold B.mb;rw[hm,BU Y7];refine e _ ?_;split
  .rename_i g;exact(An hw eY h h4 ha hk g).symm
  .rfl
 have fold:∀L:List P4,(∀b∈L,ng b=0/\mW b=0)->L.foldl B.J8 (0,0)=(0,0):=by
  intro L
  induction L with
  |nil=>exact λ_=>rfl
  |cons b L ih=>
   intro h;obtain⟨h1,h2⟩:=h b (.head _);rw[List.foldl_cons]
   have e:B.J8 (0,0) b=(0,0):=by
    unfold B.J8;rw[h1,h2];dsimp only;rw[Int.add_zero,B.Un]
   rw[e]
   exact ih λx hx=>h x (.tail _ hx)
 rw[fold _ key];rfl
def rD(l:Lw)(conf:Cf)(h:Hh)(es:List bN.den)(hw:WF bG l)(_:WF aO conf)(_:WF bI h)(_:WF (.slice bN) es):M.la aU l conf h es=aa af:=by
 unfold M.la;refine Wp.eq (Wp.seq _ (Nx l conf h es hw) λj hj=> .ite (λ_=> .oK uV (.some rfl)) λg=>?_);obtain⟨eY,h40,h12⟩:=hj (by simpa using g)
 refine Wp.seq _ (Nw h (by omega)) λy hy=>?_
 obtain⟨n1,n2,n3,n4,_⟩:=hy
 refine Wp.seq _ (TQ hw eY conf _ es (by dsimp only;rw[n4];omega) (by simp) (by simp) (by omega)) λz hz=>?_
 obtain⟨z1,z2,z3⟩:=hz;dsimp only at z1 z2 z3;rw[n1]at z1;rw[n2]at z2;rw[n3]at z3;obtain⟨s,sk⟩:=z;dsimp only at z1 z2 z3⊢
 refine Wp.seq _ (Ny hw eY conf s s.2.2.2.1) λx hx=>?_
 refine Wp.seq (λj=>j=ag->(x.2.2.2.2.2.2.2:Int)=0/\(∀p∈s.2.1,p.2.2.1≠4)/\s.2.2.1=[]/\(0:Int)<=s.2.2.2.2) ?_ λj hj=> .ite (λ_=> .oK uV (.some rfl)) λg=>?_
 .refine .eC (λ_=> .some λg=>by cases g) λg=>?_
  have BY:=(hx g).1.pl
  exact Wp.seq _ (Nz s (by omega)) λr hr=> .ite (λ_=> .some λg=>by cases g) λg1=> .some λg2=>⟨g,(hr (by simpa using g1)).1,(hr (by simpa using g1)).2,ajT.1 (ao g2)⟩
 obtain⟨x0,h4,ha,Yv⟩:=hj (by simpa using g);obtain⟨ok,hd,x1,x2,x3,x4,x5,x6,x7⟩:=hx x0;have XV:=ok.facts;have H:=ok.acc hw eY
 have hpb:qM conf s.2.2.2.2:=by
  rcases ok.lm with q|q
  .have:(0:Int)<=-1:=q▸Yv;omega
  .exact q
 refine Wp.seq _ (TR s.1.2.2.2 (by omega) _ _ _) λr hr=>?_
 subst hr;dsimp only;have DK:s.1.2.2.2.Perm s.1.2.2.2.reverse:=(List.reverse_perm _).symm
 have es1:s.1=(h.1,(h.2.1,(h.2.2.1,s.1.2.2.2))):=by
  rw[<-z1,<-z2,<-z3]
 have H1:Acc l (h.1,(h.2.1,(h.2.2.1,s.1.2.2.2))) conf:=es1▸H;have H2:=H1.perm DK
 have eaw:∀m,aw l (h.1,(h.2.1,(h.2.2.1,s.1.2.2.2.reverse))) conf s.2.2.2.1 m=aw l s.1 conf s.2.2.2.1 m:=λm=>by
  rw[PR DK H1,<-es1]
 refine Wp.seq _ (Nw (h.1,(h.2.1,(h.2.2.1,s.1.2.2.2.reverse))) (by simp;omega)) λy' hy'=>?_
 obtain⟨m1,m2,m3,m4,m5,m6,m7,m8⟩:=hy';obtain⟨a1,a2,a3,⟨(a4:Int),(a5:Int)⟩,a6⟩:=y';dsimp only at m1 m2 m3 m4 m5 m6 m7 m8⊢;subst m1 m2 m3 m4 m5
 have hdt:a4<=(s.2.2.2.1:Int):=by
  rcases m8 with m8|⟨f,hf,m8⟩
  .rw[m8];exact ok.dt.1
  .rw[m8];exact ok.ft f (List.mem_reverse.1 hf)
 refine .oK (PW H2 ok.f0 ok.f1 m6 (Int.le_trans hdt ok.dt.2) m7 _ rfl ⟨hdt,ok.dt.2⟩ hpb (Int.le_trans (by decide) Yv)) ?_
 refine .eC (λg=>absurd rfl g) λ_=> .join (Wp.mono (Q:=λu=>u=Sum.inl ()) ?_ λu hu=>?_)
 .refine Wp.count (λq=>q-(conf.2.2.2.2.2.1:Int)) (gG conf s.2.2.2.2) (λ_ _=>True) (by have:=ry ok.f0 ok.lm;omega) (Int.sub_self _) trivial λk q hk hq _=>?_
  obtain rfl:q=(conf.2.2.2.2.2.1:Int)+k:=by omega
  refine .dec (λhle=>?_) λ_=> .some rfl
  have aG:k<gG conf s.2.2.2.2:=by
   unfold gG;have hle:(conf.2.2.2.2.2.1:Int)+k<=s.2.2.2.2:=hle;omega
  refine .oK (H2.QV _ _) ?_;rw[eaw,qL,ai8]
  refine Wp.seq (λj=>j=ag) ?_ λj hj=>?_
  .refine .dec (λh0=>?_) λ_=> .some rfl
   have r1:sR ((conf.2.2.2.2.2.1:Int)+k) x.2.2.2.2.1=(aw l s.1 conf s.2.2.2.1 ((conf.2.2.2.2.2.1:Int)+k)).2.1:=by
    rw[x5];exact An hw eY ok h4 ha aG h0
   have r2:sR ((conf.2.2.2.2.2.1:Int)+k) (pS l (h.1,(h.2.1,(h.2.2.1,s.1.2.2.2.reverse))) conf [] [] s.2.2.2.1 s.2.2.2.2)=(aw l s.1 conf s.2.2.2.1 ((conf.2.2.2.2.2.1:Int)+k)).2.1:=by
    have:=PY H2 (d:=s.2.2.2.1) aG (by rw[eaw];exact h0);rw[eaw]at this;exact this
   refine .eC (λg=>absurd r1 g) λ_=>?_
   rw[qL,ai8];refine .some ?_;dsimp only;rw[r1,r2];simp
  .subst hj
   refine .ite (λg=>by cases g) λ_=> .some ⟨aG,?_,trivial⟩
   clear hpb;have hn:=ry ok.f0 ok.lm
   obtain⟨(f:Int),hf⟩:∃f:Int,f=conf.2.2.2.2.2.1:=⟨_,rfl⟩
   have g0:(0:Int)<=f:=by rw[hf];exact ok.f0
   have g1:f<=3599:=by rw[hf];exact ok.f1
   rw[<-hf];dsimp only;rw[aW (by omega) (by omega)];omega
 .subst hu
  show Wp _ _
  have ex:M.eK aU l conf ((x.1,(x.2.1,(x.2.2.1,x.2.2.2.1))),(x.2.2.2.2.1,(x.2.2.2.2.2.1,x.2.2.2.2.2.2.1)))=aa af:=by
   rw[x1,x2,x3,x4,x5,x6,x7];exact settled hw eY ok h4 ha
  refine Wp.seq (λr=>r=af) (.oK ex (.ite (λ_=> .oK uV (.some rfl)) λg=>absurd rfl g)) λr hr=> .some hr
end L
end
end Go.Proofs.YtleifhfeahnocaaGreatDoor
