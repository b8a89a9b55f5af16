/- Joined texts: LB XA P42b XH XI XJ XK XL XM. -/
import Derived.Test.YtleifhfeahnocaaGreatDoorU10
import Derived.Test.YtleifhfeahnocaaGreatDoorU4
import Derived.Test.YtleifhfeahnocaaGreatDoorU1
import Derived.Test.YtleifhfeahnocaaGreatDoorU12
set_option linter.defProp false
open _root_.Option renaming none->ae,some->aa,bind_some->aiD
open _root_.Bool renaming true->af,false->ag,and_eq_true->ajH,false_eq_true->aiX
open _root_.List renaming append_nil->ajv,filter_cons_of_neg->ajB,filter_cons_of_pos->ajA,getElem_mem->aiJ,length_filter_le->ajt,map_cons->ai2,mem_append->aje,sum_cons->ai9,take_append_getElem->aiP,take_length->aiS,cons_append->ajP,length_cons->aiU,mem_cons->aju,nil_append->ajf,take_append_drop->ajU,length_nil->ajl,range->ajp,replicate->aiN,getElem_of_mem->aiR,getElem?_eq_getElem->aiG,getElem_append_left->ai7,getElem_append_right->ajc,take_of_length_le->ajD
open _root_.Option.some renaming inj->aiF
open _root_.Int renaming le_refl->ajs,eq_ofNat_of_zero_le->aiI,toNat_natCast->aiL,not_lt->ajy
open _root_.Nat renaming le_refl->aiM,le_trans->aiY,zero_le->ai6,beq->aiK
open _root_.Go.IntKind renaming i64->aiE
open _root_.Classical renaming propDecidable->aiZ
namespace Go.Proofs.YtleifhfeahnocaaGreatDoor
open Go Go.RowKit
set_option maxRecDepth 100000
set_option linter.unusedSimpArgs false
set_option linter.unusedVariables false
set_option linter.defProp false
namespace L.B
abbrev A3:Type:=Int×Int×Int
def tt(b:P4):Int:=if wrap64 (b.2.1-b.2.2.1)<0 then 0 else wrap64 (b.2.1-b.2.2.1)
def pR(b:P4):Int:=if wrap64 (wrap64 (b.2.2.1-b.2.1)-b.2.2.2)<0 then 0 else wrap64 (wrap64 (b.2.2.1-b.2.1)-b.2.2.2)
def Td(b:P4):M.iE aV b=aa (tt b):=by unfold M.iE tt;simp only[IntWalk.i64_left]
def WS(b:P4):M.c9 aV b=aa (pR b):=by unfold M.c9 pR;simp only[IntWalk.i64_left]
def fR(m:Int)(p:P4):Int:=if p.2.1=m then(if p.2.2.1=1 then p.2.2.2 else if p.2.2.1=2\/p.2.2.1=3 then-p.2.2.2 else 0)else 0
def fV(m:Int)(p:P4):Int:=if p.2.1=m then(if p.2.2.1=4 then p.2.2.2 else 0)else 0
def sR(m:Int)(ps:List P4):Int:=wrap64 (ps.map (fR m)).sum
def sV(m:Int)(ps:List P4):Int:=wrap64 (ps.map (fV m)).sum
def XP(a b:Int):wrap64 (wrap64 a+b)=wrap64 (a+b):=by unfold wrap64;omega
def w_r(a b:Int):wrap64 (a+wrap64 b)=wrap64 (a+b):=by unfold wrap64;omega
def w_0:wrap64 0=0:=by unfold wrap64;omega
def XQ(a:Int):wrap64 (wrap64 a)=wrap64 a:=by unfold wrap64;omega
def Qx{m:Int}{p:P4}(h:p.2.1=m)(a:Int):wrap64 (a+amt p)=wrap64 (a+fR m p):=by
 unfold amt fR;rw[aj h];split
 .rfl
 .split
  .exact w_r _ _
  .rfl
def Hz(m:Int):∀(l:List P4)(acc:Int),wrap64 acc=acc->l.foldl (addR m) acc=wrap64 (acc+(l.map (fR m)).sum)
 |[],acc,h=>by simpa using h.symm
 |p::l,acc,h=>by
  rw[List.foldl_cons]
  have e:addR m acc p=wrap64 (acc+fR m p):=by
   unfold addR;split
   .rename_i hp;exact Qx hp acc
   .rename_i hp;unfold fR;rw[ai hp,Int.add_zero];exact h.symm
  rw[e,Hz m l _ (XQ _),ai2,ai9,XP,Int.add_assoc]
def Qy(m:Int):∀(l:List P4)(acc:Int),wrap64 acc=acc->(ofK 4 l).foldl (addW m) acc=wrap64 (acc+(l.map (fV m)).sum)
 |[],acc,h=>by simpa[ofK]using h.symm
 |p::l,acc,h=>by
  have e:(ofK 4 (p::l)).foldl (addW m) acc=(ofK 4 l).foldl (addW m) (wrap64 (acc+fV m p)):=by
   unfold ofK;by_cases hk:p.2.2.1=4
   .rw[ajA (by simpa using hk),List.foldl_cons]
    congr 1
    unfold addW fV;by_cases hm:p.2.1=m
    .rw[aj hm,aj hm,aj hk]
    .rw[ai hm,ai hm,Int.add_zero];exact h.symm
   .rw[ajB (by simpa using hk)]
    congr 1
    unfold fV;rw[ai hk,ite_self,Int.add_zero];exact h.symm
  rw[e,Qy m l _ (XQ _),ai2,ai9,XP,Int.add_assoc]
def zP(m:Int):∀ps:List P4,((ofK 1 ps).map (fR m)).sum+((ofK 2 ps).map (fR m)).sum+((ofK 3 ps).map (fR m)).sum=(ps.map (fR m)).sum
 |[]=>rfl
 |p::ps=>by
  have ih:=zP m ps
  have key:∀k:Int,((ofK k (p::ps)).map (fR m)).sum=(if p.2.2.1=k then fR m p else 0)+((ofK k ps).map (fR m)).sum:=by
   intro k;unfold ofK;by_cases h:p.2.2.1=k
   .rw[ajA (by simpa using h),ai2,ai9,aj h]
   .rw[ajB (by simpa using h),ai h,Int.zero_add]
  rw[key,key,key,ai2,ai9,<-ih]
  have:(if p.2.2.1=1 then fR m p else 0)+(if p.2.2.1=2 then fR m p else 0)+(if p.2.2.1=3 then fR m p else 0)=fR m p:=by
   by_cases h1:p.2.2.1=1
   .simp[h1]
   .by_cases h2:p.2.2.1=2
    .simp[h2]
    .by_cases h3:p.2.2.1=3
     .simp[h3]
     .simp[h1,h2,h3,fR]
  omega
def rec_eq(m:Int)(ps:List P4):recN m ps 3=sR m ps:=by
 have e:recN m ps 3=(ofK 3 ps).foldl (addR m) ((ofK 2 ps).foldl (addR m) ((ofK 1 ps).foldl (addR m) 0)):=rfl;rw[e,Hz m _ 0 w_0,Hz m _ _ (XQ _),Hz m _ _ (XQ _),XP,Int.add_assoc,XP];unfold sR;rw[show(ps.map (fR m)).sum=_ from(zP m ps).symm]
 congr 1
 omega
def MZ(m:Int)(ps:List P4):wavW m (ofK 4 ps)=sV m ps:=by
 unfold wavW;rw[Qy m _ 0 w_0,Int.zero_add];rfl
def uA(m:Int)(f:P4->Int)(hf:∀p:P4,p.2.1≠m->f p=0):∀ps:List P4,((ps.filter λp=>decide (p.2.1=m)).map f).sum=(ps.map f).sum
 |[]=>rfl
 |p::ps=>by
  have ih:=uA m f hf ps;by_cases h:p.2.1=m
  .rw[ajA (by simpa using h),ai2,ai9,ai2,ai9,ih]
  .rw[ajB (by simpa using h),ai2,ai9,hf p h,Int.zero_add,ih]
def M0(m:Int)(ps:List P4):sR m (ps.filter λp=>decide (p.2.1=m))=sR m ps:=by
 unfold sR;rw[uA m (fR m) λp h=>by unfold fR;rw[ai h]]
def M1(m:Int)(ps:List P4):sV m (ps.filter λp=>decide (p.2.1=m))=sV m ps:=by
 unfold sV;rw[uA m (fV m) λp h=>by unfold fV;rw[ai h]]
def mb(ps:List P4)(a:A3):P4:=(a.1,(if a.2.2=0 then a.2.1 else sR a.1 ps),sR a.1 ps,sV a.1 ps)
def mh{α:Type}(l:List (Int×α))(k x:Int)(v:α):bo aB (fC aB l k v) x=if k=x then aa v else bo aB l x:=by
 induction l with
 |nil=>simp[fC,bo,cZ]
 |cons p l ih=>
  obtain⟨a,b⟩:=p;unfold fC;by_cases h:a=k
  .have:cZ aB a k=af:=by simp[cZ,h]
   rw[aj this]
   by_cases h':a=x<;>simp[bo,cZ,h',<-h]
  .have:¬cZ aB a k=af:=by simp[cZ,h]
   rw[ai this]
   show(if cZ aB a x=af then aa b else bo aB (fC aB l k v) x)=if k=x then aa v else if cZ aB a x=af then aa b else bo aB l x
   rw[ih];by_cases h':a=x
   .have:¬k=x:=λe=>h (by rw[h',e])
    simp[cZ,h',this]
   .simp[cZ,h']
def zQ{α:Type}:∀(l:List (Int×α))(k:Int)(v:α),bo aB l k=ae->ya aB l k v=l
 |[],_,_,_=>rfl
 |p::l,k,v,h=>by
  have h':(if cZ aB p.1 k=af then aa p.2 else bo aB l k)=ae:=h
  show(if cZ aB p.1 k=af then(p.1,v)::l else p::ya aB l k v)=p::l
  split at h'
  .cases h'
  .rename_i hk;rw[ai hk,zQ l k v h']
def DX(aw:List A3)(ps:List P4)(W:List (Int×List P4)):Prop:=∀x,((∃a∈aw,a.1=x)->bo aB W x=aa (ps.filter λp=>decide (p.2.1=x)))/\((¬∃a∈aw,a.1=x)->bo aB W x=ae)
def Bv{aw:List A3}{k:Nat}(h:k<aw.length)(x:Int):(∃a∈aw.take (k+1),a.1=x)↔(∃a∈aw.take k,a.1=x)\/aw[k].1=x:=by
 rw[<-aiP h];simp only[aje,List.mem_singleton];constructor
 .rintro⟨a,ha|rfl,e⟩
  .exact .inl ⟨a,ha,e⟩
  .exact .inr e
 .rintro(⟨a,ha,e⟩|e)
  .exact⟨a, .inl ha,e⟩
  .exact⟨_, .inr rfl,e⟩
def of_eq(aw:List A3)(ps:List P4)(ha:aw.length<=1048576)(hp:ps.length<=1048576):M.px aV aw ps=aa (aw.map (mb ps)):=by
 apply Wp.eq;unfold M.px
 refine Wp.seq (λW=>DX aw [] W) ?_ λW hW=>Wp.seq (λW=>DX aw ps W) ?_ λW2 TP=>?_
 .refine Wp.count (λs=>s.1) aw.length (λk s=>DX (aw.take k) [] s.2) (by omega) rfl (λx=>⟨λh=>(by simp at h),λ_=>rfl⟩) λk s hk hs hJ=>?_
  obtain⟨c,W⟩:=s;obtain rfl:c=_:=hs
  rcases Nat.lt_or_ge k aw.length with aH|hge
  .refine Wp.dec (λ_=>?_) λh=>absurd (show(k:Int)<(aw.length:Int) by omega) h
   rw[aF aH,aiD];refine .some ⟨aH,aT (by omega),λx=>?_⟩;have hJx:=hJ x
   have e:bo aB (fC aB W aw[k].1 ([]:List P4)) x=if aw[k].1=x then aa []else bo aB W x:=mh W aw[k].1 x []
   refine⟨λh=>?_,λh=>?_⟩
   .refine e.trans ?_;by_cases hx:aw[k].1=x
    .rw[aj hx];rfl
    .rw[ai hx];exact hJx.1 (((Bv aH x).1 h).resolve_right hx)
   .refine e.trans ?_;rw[ai λhx=>h ((Bv aH x).2 (.inr hx))]
    exact hJx.2 λhh=>h ((Bv aH x).2 (.inl hh))
  .obtain rfl:k=aw.length:=by omega
   rw[aiS]at hJ
   refine Wp.dec (λh=>absurd (show(aw.length:Int)<aw.length from h) (by omega)) λ_=> .some hJ
 .refine Wp.count (λs=>s.1) ps.length (λk s=>DX aw (ps.take k) s.2) (by omega) rfl hW λk s hk hs hJ=>?_
  obtain⟨c,W⟩:=s;obtain rfl:c=_:=hs
  rcases Nat.lt_or_ge k ps.length with aH|hge
  .have hJk:=hJ ps[k].2.1
   have sa:∀x,(ps.take (k+1)).filter (λp=>decide (p.2.1=x))=(ps.take k).filter (λp=>decide (p.2.1=x))++(if ps[k].2.1=x then[ps[k]]else[]):=by
    intro x;rw[<-aiP aH,List.filter_append];by_cases hx:ps[k].2.1=x
    .rw[aj hx,ajA (by simpa using hx)];rfl
    .rw[ai hx,ajB (by simpa using hx)];rfl
   refine Wp.dec (λ_=>?_) λh=>absurd (show(k:Int)<(ps.length:Int) by omega) h
   refine Wp.seq (λz=>DX aw (ps.take (k+1)) z) ?_ λz hz=> .some ⟨aH,aT (by omega),hz⟩
   rw[aF aH,aiD];by_cases hex:∃a∈aw,a.1=ps[k].2.1
   .have hl:bo aB W ps[k].2.1=aa ((ps.take k).filter λp=>decide (p.2.1=ps[k].2.1)):=hJk.1 hex
    show Wp (if(bo aB W ps[k].2.1).isSome=af then(cA ((bo aB W ps[k].2.1).getD ([]:List P4)) [ps[k]]).bind _ else _) _
    rw[hl]
    refine Wp.ite (λ_=>?_) λh=>absurd rfl h
    rw[Option.getD_some];refine Wp.bind (Wp.app ?_ (Wp.dec (λ_=> .some λx=>?_) λh=>absurd rfl h))
    .have:=ajt (λp:P4=>decide (p.2.1=ps[k].2.1)) (ps.take k);have:=List.length_take_le k ps;simp only[List.length_singleton];omega
    .have e:∀v:List P4,bo aB (fC aB W ps[k].2.1 v) x=if ps[k].2.1=x then aa v else bo aB W x:=λv=>mh W ps[k].2.1 x v
     rw[sa];refine⟨λh=>(e _).trans ?_,λh=>(e _).trans ?_⟩
     .by_cases hx:ps[k].2.1=x
      .subst hx;rw[aj rfl,aj rfl]
      .rw[ai hx,ai hx,ajv];exact(hJ x).1 h
     .rw[ai λhx:ps[k].2.1=x=>h (by rw[<-hx];exact hex)];exact(hJ x).2 h
   .have hl:bo aB W ps[k].2.1=ae:=hJk.2 hex
    refine Wp.ite (λh=>?_) λ_=> .some λx=>?_
    .have h:(bo aB W ps[k].2.1).isSome=af:=h;rw[hl]at h;cases h
    .have e:∀v:List P4,ya aB W ps[k].2.1 v=W:=λv=>zQ _ _ _ hl
     rw[sa];refine⟨λh=>?_,λh=>?_⟩
     .rw[ai λhx:ps[k].2.1=x=>hex (by rw[hx];exact h),ajv];exact(ay (λW=>bo aB W x) (e _)).trans ((hJ x).1 h)
     .exact(ay (λW=>bo aB W x) (e _)).trans ((hJ x).2 h)
  .obtain rfl:k=ps.length:=by omega
   rw[aiS]at hJ
   refine Wp.dec (λh=>absurd (show(ps.length:Int)<ps.length from h) (by omega)) λ_=> .some hJ
 .refine Wp.count (λs=>s.2.1) aw.length (λk s=>s.1=W2/\(∀x b,bo aB s.2.2.1 x=aa b->b=(x,0,sR x ps,sV x ps))/\s.2.2.2=(aw.take k).map (mb ps)) (by omega) rfl ⟨rfl,(λx b h=>by cases h),rfl⟩ λk s hk hs hJ=>?_
  obtain⟨W,c,Kn,out⟩:=s;obtain rfl:c=_:=hs;obtain⟨e1,hK,e2⟩:=hJ;obtain rfl:W=W2:=e1;obtain rfl:out=_:=e2
  rcases Nat.lt_or_ge k aw.length with aH|hge
  .have abB:(bo aB W aw[k].1).getD []=ps.filter λp=>decide (p.2.1=aw[k].1):=by
    rw[(TP aw[k].1).1 ⟨aw[k],aiJ _,rfl⟩];rfl
   have abC:∀(l:List P4)m,M.dR aV l m=aa (recN m l 3):=λl m=>rfl
   have abD:∀(l:List P4)m,M.gh aV l m=aa (wavW m (ofK 4 l)):=λl m=>rfl
   have C9:(aw.take (k+1)).map (mb ps)=(aw.take k).map (mb ps)++[mb ps aw[k]]:=by
    rw[<-aiP aH,List.map_append];rfl
   refine Wp.dec (λ_=>?_) λh=>absurd (show(k:Int)<(aw.length:Int) by omega) h
   rw[aF aH,aiD]
   refine Wp.seq (λj=>j.2=(aw[k].1,0,sR aw[k].1 ps,sV aw[k].1 ps)/\∀x b,bo aB j.1 x=aa b->b=(x,0,sR x ps,sV x ps)) ?_ λj hj=>?_
   .have hK:∀x b,bo aB Kn x=aa b->b=(x,0,sR x ps,sV x ps):=hK
    show Wp (if(!(bo aB Kn aw[k].1).isSome)=af then(M.dR aV ((bo aB W aw[k].1).getD ([]:List P4)) aw[k].1).bind λy12=>(M.gh aV ((bo aB W aw[k].1).getD ([]:List P4)) aw[k].1).bind λWO=>
     some (fC aB Kn aw[k].1 ((aw[k].1,((0:Int),(y12,WO))):P4),((aw[k].1,((0:Int),(y12,WO))):P4))else aa (Kn,(bo aB Kn aw[k].1).getD ((0:Int),((0:Int),((0:Int),(0:Int)))))) _
    rw[abB]
    cases hl:bo aB Kn aw[k].1 with
    |none=>
     refine Wp.ite (λ_=>?_) λh=>absurd rfl h
     rw[abC,aiD,abD,aiD,rec_eq,MZ,M0,M1];refine .some ⟨rfl,λx b hx=>?_⟩;have Gw:bo aB (fC aB Kn aw[k].1 ((aw[k].1,(0:Int),sR aw[k].1 ps,sV aw[k].1 ps):P4)) x=aa b:=hx;rw[mh]at Gw;split at Gw
     .rename_i e;subst e;exact(aiF Gw).symm
     .exact hK x b Gw
    |some b=>
     refine Wp.ite (λh=>by cases h) λ_=> .some ⟨hK _ _ hl,hK⟩
   .obtain⟨Kn',b⟩:=j;obtain⟨e,hK'⟩:=hj;obtain rfl:b=_:=e
    refine Wp.seq (λz=>z=mb ps aw[k]) ?_ λz hz=>?_
    .unfold mb
     refine Wp.fD (λh=> .some ?_) λh=> .some ?_
     .rw[ai h]
     .rw[aj h]
    .subst hz;refine Wp.bind (Wp.app ?_ (.some ?_))
     .have:=List.length_take_le k aw
      show((aw.take k).map (mb ps)).length+1<=_
      rw[List.length_map];omega
     .exact⟨aH,aT (by omega),rfl,hK',C9.symm⟩
  .obtain rfl:k=aw.length:=by omega
   refine Wp.dec (λh=>absurd (show(aw.length:Int)<aw.length from h) (by omega)) λ_=> .some ?_
   show(aw.take aw.length).map (mb ps)=_
   rw[aiS]
end L.B
namespace L.B
def dst(k d:Int)(st:Int->Bool):List P4->Int->List P4
 |[],_=>[]
 |b::l,r=>if r<=0 then[]else if pR b<=0\/st b.1=af then dst k d st l r
  else(d,b.1,k,min (pR b) r)::dst k d st l (r-min (pR b) r)
def Ee(st:Int->Bool):List P4->Int->Int
 |[],r=>r
 |b::l,r=>if r<=0 then r else if pR b<=0\/st b.1=af then Ee st l r else Ee st l (r-min (pR b) r)
def jD(l:List P4):Int:=(l.map λp=>p.2.2.2).sum
def Gb(k d:Int)(st:Int->Bool):∀(l:List P4)(r:Int),dst k d st l r=[]\/jD (dst k d st l r)<=r
 |[],_=> .inl rfl
 |b::l,r=>by
  unfold dst;split
  .exact .inl rfl
  .split
   .exact Gb k d st l r
   .refine .inr ?_;have:=Gb k d st l (r-min (pR b) r);unfold jD at*;rw[ai2,ai9]
    rcases this with h|h
    .rw[h];simp only[List.map_nil,List.sum_nil];omega
    .dsimp only at*;omega
theorem mj{k d:Int}{st:Int->Bool}:∀(l:List P4)(r:Int),∀p∈dst k d st l r,p.1=d/\p.2.2.1=k/\st p.2.1=ag/\∃b∈l,b.1=p.2.1/\1<=p.2.2.2/\p.2.2.2<=pR b/\p.2.2.2<=r
 |[],_,p,h=>by cases h
 |b::l,r,p,h=>by
  unfold dst at h;split at h
  .cases h
  .split at h
   .obtain⟨h1,h2,h3,c,hc,h4⟩:=mj l r p h;exact⟨h1,h2,h3,c, .tail _ hc,h4⟩
   .rename_i hr hb
    rcases aju.1 h with rfl|h
    .refine⟨rfl,rfl,?_,b, .head _,rfl,?_⟩
     .cases hs:st b.1 with
      |true=>exact absurd (.inr hs) hb
      |false=>rfl
     .have:¬pR b<=0:=λh=>hb (.inl h)
      dsimp only;omega
    .obtain⟨h1,h2,h3,c,hc,h4,h5,h6,h7⟩:=mj l _ p h;refine⟨h1,h2,h3,c, .tail _ hc,h4,h5,h6,?_⟩
     have:¬pR b<=0:=λh=>hb (.inl h)
     omega
def tv{k d:Int}{st:Int->Bool}:∀(l:List P4)(r:Int),(dst k d st l r).length<=l.length
 |[],_=>aiM _
 |b::l,r=>by
  unfold dst;have h1:=tv (k:=k) (d:=d) (st:=st) l r;have h2:=tv (k:=k) (d:=d) (st:=st) l (r-min (pR b) r);split
  .simp
  .split<;>simp only[aiU]<;>omega
def Gc{k d:Int}(hk:k=2\/k=3){st:Int->Bool}(m c:Int)(hc:0<=c):∀(l:List P4)(r:Int),(l.map Prod.fst).Nodup->(∀b∈l,b.1=m->pR b<=c)->-c<=((dst k d st l r).map (fR m)).sum
 |[],_,_,_=>by simpa[dst]using hc
 |b::l,r,hn,hb=>by
  obtain⟨Tv,Tw⟩:=List.nodup_cons.1 hn
  have hl:∀b∈l,b.1=m->pR b<=c:=λx hx=>hb x (.tail _ hx)
  unfold dst;split
  .simpa using hc
  .split
   .exact Gc hk m c hc l r Tw hl
   .rename_i hr ho;rw[ai2,ai9]
    have hf:fR m (d,b.1,k,min (pR b) r)=if b.1=m then-(min (pR b) r)else 0:=by
     have h1:¬k=1:=by omega
     simp only[fR,h1,hk,if_true,if_false]
    rw[hf];by_cases hm:b.1=m
    .have h0:((dst k d st l (r-min (pR b) r)).map (fR m)).sum=0:=by
      have:∀q:List P4,(∀p∈q,p.2.1≠m)->(q.map (fR m)).sum=0:=by
       intro q
       induction q with
       |nil=>exact λ_=>rfl
       |cons p q ih=>
        intro h;rw[ai2,ai9,ih λx hx=>h x (.tail _ hx)];unfold fR;rw[ai (h p (.head _))];rfl
      refine this _ λp hp X9=>?_
      obtain⟨_,_,_,x,hx,h4,_⟩:=mj l _ p hp;exact Tv (List.mem_map.2 ⟨x,hx,by rw[h4,X9,hm]⟩)
     have:=hb b (.head _) hm;rw[aj hm,h0];omega
    .have:=Gc (d:=d) (st:=st) hk m c hc l (r-min (pR b) r) Tw hl;rw[ai hm];omega
def gp(k d:Int)(f:P4->Int):List P4->List P4
 |[]=>[]
 |b::l=>if f b<=0 then gp k d f l else(d,b.1,k,f b)::gp k d f l
def xA{k d:Int}{f:P4->Int}:∀(l:List P4),∀p∈gp k d f l,p.1=d/\p.2.2.1=k/\∃b∈l,b.1=p.2.1/\p.2.2.2=f b/\1<=f b
 |[],p,h=>by cases h
 |b::l,p,h=>by
  unfold gp at h;split at h
  .obtain⟨h1,h2,c,hc,h4⟩:=xA l p h;exact⟨h1,h2,c, .tail _ hc,h4⟩
  .rename_i hb
   rcases aju.1 h with rfl|h
   .exact⟨rfl,rfl,b, .head _,rfl,rfl,by omega⟩
   .obtain⟨h1,h2,c,hc,h4⟩:=xA l p h;exact⟨h1,h2,c, .tail _ hc,h4⟩
def tw{k d:Int}{f:P4->Int}:∀(l:List P4),(gp k d f l).length<=l.length
 |[]=>aiM _
 |b::l=>by
  have:=tw (k:=k) (d:=d) (f:=f) l;unfold gp
  split<;>simp only[aiU]<;>omega
def zR{k d:Int}{f:P4->Int}(b:P4):∀l:List P4,gp k d f (l++[b])=gp k d f l++(if f b<=0 then[]else[(d,b.1,k,f b)])
 |[]=>by simp only[ajf,gp]
 |c::l=>by
  rw[ajP];unfold gp;rw[zR b l]
  split<;>simp
def XR(k:Int):Int:=if k=1 then 1 else if k=2\/k=3 then-1 else 0
def Te(m d k c:Int):fR m (d,m,k,c)=XR k*c:=by
 unfold fR XR;simp only[if_true];split
 .simp
 .split<;>simp
def xB{k d m:Int}{f:P4->Int}:∀l:List P4,(∀b∈l,b.1≠m)->((gp k d f l).map (fR m)).sum=0
 |[],_=>rfl
 |b::l,h=>by
  have ih:=xB (k:=k) (d:=d) (f:=f) l λx hx=>h x (.tail _ hx)
  unfold gp;split
  .exact ih
  .rw[ai2,ai9,ih];simp[fR,h b (.head _)]
def DY{k d:Int}{f:P4->Int}:∀l:List P4,(l.map Prod.fst).Nodup->∀b∈l,((gp k d f l).map (fR b.1)).sum=XR k*(if f b<=0 then 0 else f b)
 |[],_,b,h=>by cases h
 |c::l,hn,b,h=>by
  obtain⟨Tv,Tw⟩:=List.nodup_cons.1 hn;unfold gp
  rcases aju.1 h with rfl|h
  .have h0:((gp k d f l).map (fR b.1)).sum=0:=xB l λx hx e=>Tv (List.mem_map.2 ⟨x,hx,e⟩)
   split
   .rw[h0];simp
   .rw[ai2,ai9,h0,Te];simp
  .have ih:=DY (k:=k) (d:=d) (f:=f) l Tw b h
   have du:c.1≠b.1:=λe=>Tv (List.mem_map.2 ⟨b,h,e.symm⟩)
   split
   .exact ih
   .rw[ai2,ai9,ih];simp[fR,du]
def ja(t:Int)(b:P4):Int:=if t<b.1 then 0 else tt b
def Tf{b:P4}(h1:0<=b.2.1)(h2:b.2.1<=4700000000000000000)(h3:0<=b.2.2.1)(h4:b.2.2.1<=4000000000000000000)(h5:0<=b.2.2.2)(h6:b.2.2.2<=4000000000000000000):pR b<=b.2.2.1:=by
 unfold pR wrap64
 split<;>omega
def Gd(p:P4):Prop:=0<=p.2.1/\1<=p.2.2.2/\p.2.2.2<=1000000000000000/\1<=p.2.2.1/\p.2.2.1<=4
def Ge{m:Int}{p:P4}(h:Gd p): -1000000000000000<=fR m p/\fR m p<=1000000000000000:=by
 obtain⟨_,h1,h2,_⟩:=h;unfold fR
 repeat' split
 all_goals omega
def M2{m:Int}{p:P4}(h:Gd p):0<=fV m p/\fV m p<=1000000000000000:=by
 obtain⟨_,h1,h2,_⟩:=h;unfold fV
 repeat' split
 all_goals omega
def HA{f:P4->Int}{c:Int}(hc:0<=c):∀q:List P4,(∀p∈q,-c<=f p/\f p<=c)->-(c*q.length)<=(q.map f).sum/\(q.map f).sum<=c*q.length
 |[],_=>by simp
 |p::q,h=>by
  have h1:=h p (.head _)
  have h2:=HA hc q λx hx=>h x (.tail _ hx)
  rw[ai2,ai9,aiU]
  have e:c*((q.length+1:Nat):Int)=c*q.length+c:=by
   rw[Int.natCast_add,Int.mul_add];simp
  rw[e];omega
def xC{f:P4->Int}{q:List P4}(h:∀p∈q,-1000000000000000<=f p/\f p<=1000000000000000)(hl:q.length<=4200): -4200000000000000000<=(q.map f).sum/\(q.map f).sum<=4200000000000000000:=by
 have:=HA (by omega) q h;omega
def Qz{m:Int}{q:List P4}(h:∀p∈q,Gd p)(hl:q.length<=4200):sR m q=(q.map (fR m)).sum:=by
 have:=xC (f:=fR m) (λp hp=>Ge (h p hp)) hl;unfold sR wrap64;omega
def QA{m:Int}{q:List P4}(h:∀p∈q,Gd p)(hl:q.length<=4200):sV m q=(q.map (fV m)).sum:=by
 have:=xC (f:=fV m) (λp hp=>by have:=M2 (m:=m) (h p hp);omega) hl;unfold sV wrap64;omega
def jE(k9:List P4):Prop:=∀m,0<=(k9.map (fR m)).sum/\(k9.map (fR m)).sum<=1000000000000000
def mX(k9:List P4)(b:P4):Prop:=0<=b.2.1/\b.2.1<=4700000000000000000/\b.2.2.1=(k9.map (fR b.1)).sum/\0<=b.2.2.2/\b.2.2.2<=1000000000000000
def mX.ov{k9:List P4}{b:P4}(ho:jE k9)(h:mX k9 b):pR b<=(k9.map (fR b.1)).sum:=by
 obtain⟨h1,h2,h3,h5,h6⟩:=h;have:=ho b.1;rw[<-h3]at this⊢;exact Tf h1 (by omega) this.1 (by omega) h5 (by omega)
def mX.arr{k9:List P4}{b:P4}(ho:jE k9)(h:mX k9 b):0<=tt b/\tt b<=4700000000000000000/\tt b=if b.2.1-(k9.map (fR b.1)).sum<0 then 0 else b.2.1-(k9.map (fR b.1)).sum:=by
 obtain⟨h1,h2,h3,h5,h6⟩:=h;have:=ho b.1;rw[<-h3]at this⊢;unfold tt wrap64
 split<;>split<;>omega
def keeps(k9 new:List P4):Prop:=∀m,-(k9.map (fR m)).sum<=(new.map (fR m)).sum/\(new.map (fR m)).sum<=4700000000000000000
def xD{f:P4->Int}:∀q:List P4,(∀p∈q,f p<=0)->(q.map f).sum<=0
 |[],_=>ajs _
 |p::q,h=>by
  rw[ai2,ai9];have:=h p (.head _)
  have:=xD q λx hx=>h x (.tail _ hx)
  omega
def M3{B:List P4}{k d r m:Int}{st:Int->Bool}(hk:k=2\/k=3):((dst k d st B r).map (fR m)).sum<=0:=by
 refine xD _ λp hp=>?_
 obtain⟨_,h2,_,_,_,_,h5,_⟩:=mj B r p hp
 have h1:¬p.2.2.1=1:=by omega
 have h2:p.2.2.1=2\/p.2.2.1=3:=by omega
 simp only[fR,h1,h2,if_true,if_false]
 split<;>omega
def HB{k9 B:List P4}{k d r:Int}{st:Int->Bool}(hk:k=2\/k=3)(ho:jE k9)(hB:∀b∈B,mX k9 b)(hn:(B.map Prod.fst).Nodup)(m:Int): -(k9.map (fR m)).sum<=((dst k d st B r).map (fR m)).sum:=by
 refine Gc hk m _ (ho m).1 B r hn λb hb hm=>?_
 have:=(hB b hb).ov ho;rw[hm]at this;exact this
def JO{k9 B:List P4}{k d r:Int}{st:Int->Bool}(hk:k=2\/k=3)(ho:jE k9)(hB:∀b∈B,mX k9 b)(hn:(B.map Prod.fst).Nodup):keeps k9 (dst k d st B r):=λm=>by
 have:=M3 (B:=B) (d:=d) (r:=r) (m:=m) (st:=st) hk;have:=HB (d:=d) (r:=r) (st:=st) hk ho hB hn m;omega
def M4{k9 B:List P4}{t d:Int}(ho:jE k9)(hB:∀b∈B,mX k9 b)(hn:(B.map Prod.fst).Nodup)(m:Int):0<=((gp 1 d (ja t) B).map (fR m)).sum/\((gp 1 d (ja t) B).map (fR m)).sum<=4700000000000000000:=by
 by_cases h:∃b∈B,b.1=m
 .obtain⟨b,hb,rfl⟩:=h;rw[DY B hn b hb,show XR 1=1 from rfl,Int.one_mul];have:=(hB b hb).arr ho;unfold ja
  split<;>split<;>omega
 .rw[xB B λb hb e=>h ⟨b,hb,e⟩];omega
def JP{k9 B:List P4}{t d r:Int}{st:Int->Bool}(ho:jE k9)(hB:∀b∈B,mX k9 b)(hn:(B.map Prod.fst).Nodup):keeps k9 (gp 1 d (ja t) B++dst 2 d st B r):=λm=>by
 have:=M4 (t:=t) (d:=d) ho hB hn m;have:=M3 (B:=B) (k:=2) (d:=d) (r:=r) (m:=m) (st:=st) (.inl rfl);have:=HB (k:=2) (d:=d) (r:=r) (st:=st) (.inl rfl) ho hB hn m;rw[List.map_append,List.sum_append];omega
def DZ{k9:List P4}{d m c:Int}(ho:jE k9):keeps k9 [(d,m,4,c)]:=λx=>by
 have:=ho x
 have e:([((d,m,4,c):P4)].map (fR x)).sum=0:=by simp[fR]
 rw[e];omega
def zS{k9:List P4}(ho:jE k9):keeps k9 []:=λm=>by
 have:=ho m;simp only[List.map_nil,List.sum_nil];omega
def M5{k9 new:List P4}(ho:jE k9)(h:keeps k9 new)(m:Int):0<=sR m (k9++new):=by
 unfold sR;rw[List.map_append,List.sum_append];have:=h m;have:=ho m;unfold wrap64;omega
def gR(l:List P4):Int:=l.foldl (λa p=>wrap64 (a+p.2.2.2)) 0
def xE(l:List P4)(p:P4):gR (l++[p])=wrap64 (gR l+p.2.2.2):=by
 unfold gR;rw[List.foldl_append];rfl
def Gf{l:List P4}(h:∀p∈l,1<=p.2.2.2)(n:Nat):0<=jD (l.take n)/\jD (l.take n)<=jD l:=by
 have key:∀q:List P4,(∀p∈q,1<=p.2.2.2)->0<=jD q:=by
  intro q
  induction q with
  |nil=>exact λ_=>ajs _
  |cons p q ih=>
   intro h;have:=h p (.head _)
   have:=ih λx hx=>h x (.tail _ hx)
   unfold jD at*;rw[ai2,ai9];omega
 have h1:=key (l.take n) λp hp=>h p (List.mem_of_mem_take hp)
 have h2:=key (l.drop n) λp hp=>h p (List.mem_of_mem_drop hp)
 refine⟨h1,?_⟩
 have:jD l=jD (l.take n)+jD (l.drop n):=by
  unfold jD;rw[<-List.sum_append,<-List.map_append,ajU]
 omega
end L.B
namespace L.B
abbrev Ap:Type:=Int×Int×Int×Int×Int×Int×Int
def D1(a:Ap):Bool:=decide (a.2.2.2.2.2.1=1)||decide (a.2.2.2.2.2.1=2)
def XS(a:Ap)(m:Int):Bool:=decide (a.2.1<=m)&&decide (m<a.2.2.1)
def rA(a:Ap):Int:=if a.2.1<0 then 0 else a.2.1
def M6(a:Ap):Int:=if 3600<a.2.2.1 then 3600 else a.2.2.1
def act(a:Ap):Bool:=D1 a&&decide (rA a<M6 a)
def dl(a:Ap)(m:Nat):Int:=if act a then(if rA a=m then 1 else 0)-(if M6 a=m then 1 else 0)else 0
def D2:List Ap->Nat->Int
 |[],_=>0
 |a::l,m=>dl a m+D2 l m
def held(a:Ap)(m:Nat):Int:=if D1 a&&XS a m then 1 else 0
def o7:List Ap->Nat->Int
 |[],_=>0
 |a::l,m=>held a m+o7 l m
def rZ(l:List Ap)(m:Int):Bool:=l.any λa=>D1 a&&XS a m
def pH(l:List Ap):List Int:=((ajp 3600).filter λm:Nat=>rZ l m).map (λm:Nat=>(m:Int))
def r6(l:List Ap)(a:Ap)(m:Nat):D2 (l++[a]) m=D2 l m+dl a m:=by
 induction l with
 |nil=>simp[D2]
 |cons b l ih=>simp only[ajP,D2,ih];omega
def M7(a:Ap)(m:Nat): -1<=dl a m/\dl a m<=1:=by
 unfold dl;split<;>(try split)<;>(try split)<;>omega
def JQ(l:List Ap)(m:Nat): -(l.length:Int)<=D2 l m/\D2 l m<=l.length:=by
 induction l with
 |nil=>simp[D2]
 |cons a l ih=>have:=M7 a m;simp only[D2,aiU];omega
def uX(l:List Ap)(m:Nat):0<=o7 l m/\o7 l m<=l.length:=by
 induction l with
 |nil=>simp[o7]
 |cons a l ih=>have:0<=held a m/\held a m<=1:=by{unfold held;split<;>omega}
               simp only[o7,aiU];omega
def JR(l:List Ap)(m:Nat):0<o7 l m↔rZ l m=af:=by
 induction l with
 |nil=>simp[o7,rZ]
 |cons a l ih=>
  have h0:=uX l m
  have:0<=held a m/\(0<held a m↔(D1 a&&XS a m)=af):=by{unfold held;split<;>simp_all}
  unfold rZ at ih⊢;rw[List.any_cons,Bool.or_eq_true,<-ih,<-this.2];simp only[o7];omega
def JT(a:Ap)(m:Nat)(hm:m<3600):held a m=(if m=0 then 0 else held a (m-1))+dl a m:=by
 have hF:(a.2.1<0/\rA a=0)\/(0<=a.2.1/\rA a=a.2.1):=by unfold rA;split<;>omega
 have hT:(3600<a.2.2.1/\M6 a=3600)\/(a.2.2.1<=3600/\M6 a=a.2.2.1):=by unfold M6;split<;>omega
 unfold held dl act;cases hp:D1 a
 .simp
 .simp only[Bool.true_and,XS,ajH,az];generalize rA a=F at*;generalize M6 a=T at*;by_cases h0:m=0
  .subst h0;simp only[if_true]
   repeat' split
   all_goals omega
  .simp only[ai h0]
   have:((m-1:Nat):Int)=(m:Int)-1:=by omega
   rw[this]
   repeat' split
   all_goals omega
def Gg(l:List Ap)(m:Nat)(hm:m<3600):o7 l m=(if m=0 then 0 else o7 l (m-1))+D2 l m:=by
 induction l with
 |nil=>simp[o7,D2]
 |cons a l ih=>
  have:=JT a m hm;simp only[o7,D2];by_cases h0:m=0
  .simp only[h0,if_true]at*;omega
  .simp only[h0,if_false]at*;omega
def gm(m:Int)(x:Ap):Bool:=decide (x.2.2.2.2.2.1=3)&&(decide (x.2.1<=m)&&decide (m<x.2.2.1))
def granted(m:Int):List Ap->Int×Bool
 |[]=>(0,ag)
 |x::l=>if gm m x=af then(x.2.2.2.2.2.2,af)else granted m l
def if3{α:Type}(p q r:Bool)(f:Bool->Option α):((if p=af then(if q=af then aa r else aa ag)else aa ag):Option Bool).bind f=f (p&&(q&&r)):=by
 cases p<;>cases q<;>rfl
def tx(l:List Ap)(m:Int)(hl:l.length<=1000):∀k,k<=l.length->∀N,k<N->M.gK N l m=M.gK N l m->Loop (S:=Int) (X:=Int×Bool) (λs1=>
(if(decide ((0:Int)<=s1))=af then
(idx l s1).bind λx2=>
((if(decide (x2.2.2.2.2.2.1=(3:Int)))=af then
(if(decide (x2.2.1<=m))=af then
some (decide (m<x2.2.2.1))
else
some ag)
else
some ag):Option (Bool)).bind λj3=>
(if j3=af then
some (Sum.inr (x2.2.2.2.2.2.2,af))
else
some (Sum.inl (aiE.wrap (s1-(1:Int)))))
else
some (Sum.inr ((0:Int),ag)))) N ((k:Int)-1)=aa (granted m (l.take k).reverse)
 |0,_,N,hN,_=>by
  obtain⟨N,rfl⟩:∃n,N=n+1:=⟨N-1,by omega⟩
  unfold Loop;rw[ai (by simp)];rfl
 |k+1,hk,N,hN,_=>by
  obtain⟨N,rfl⟩:∃n,N=n+1:=⟨N-1,by omega⟩
  have e:((k+1:Nat):Int)-1=(k:Int):=by omega
  rw[e];unfold Loop;rw[aj (by simp),aF (by omega)];simp only[aiD];rw[if3]
  have ht:(l.take (k+1)).reverse=l[k]::(l.take k).reverse:=by
   rw[List.take_succ_eq_append_getElem (by omega),List.reverse_append];rfl
  rw[ht];unfold granted;by_cases h:gm m l[k]=af
  .rw[aj h];unfold gm at h;rw[aj h]
  .rw[ai h];unfold gm at h;rw[ai h,aX (by omega) (by omega)];exact tx l m hl k (by omega) N (by omega) rfl
def Gh{l:List Ap}{m:Int}(hl:l.length<=1000):M.gK aV l m=aa (granted m l.reverse):=by
 have:=tx l m hl l.length (aiM _) aV (by have:aV=18446744073709551616:=rfl;omega) rfl;rw[aiS]at this;unfold M.gK;rw[aX (by omega) (by omega)];exact this
def vr{N:Nat}(l:List Ap)(hl:l.length<=1000)(hN:10000<=N):M.dP N l=aa (pH l):=by
 unfold M.dP;rw[show pT (3601:Int) (0:Int)=aa (aiN 3601 0)from rfl,aiD];refine Jj (λi:Nat=>((i:Int),(ajp 3601).map (D2 (l.take i)))) l.length ((ajp 3601).map (D2 l)) ?_ ?_ ?_ (by omega) ?_
 .simp only[List.take_zero,D2,List.map_const',List.length_range];rfl
 .intro i hi
  have hw:aiE.wrap ((i:Int)+1)=((i+1:Nat):Int):=by rw[aX]<;>omega
  have ht:l.take (i+1)=l.take i++[l[i]]:=List.take_succ_eq_append_getElem hi;simp only;rw[aj (by simpa using hi),aF hi,aiD,hw]
  have hj:∀(a:Ap)(k:Bool->Option (List Int)),((if(!decide (a.2.2.2.2.2.1=(1:Int)))=af then aa (!decide (a.2.2.2.2.2.1=(2:Int)))else aa ag):Option Bool).bind k=k (!D1 a):=by
   intro a k;unfold D1
   cases decide (a.2.2.2.2.2.1=1)<;>cases decide (a.2.2.2.2.2.1=2)<;>rfl
  rw[hj];have hb:=JQ (l.take i)
  have hlen:(l.take i).length<=1000:=by simp;omega
  have fin:∀L:List Int,L=(ajp 3601).map (D2 (l.take (i+1)))->((aa L:Option (List Int)).bind λj4=>aa (Sum.inl ((((i+1:Nat):Int),j4)):(Int×List Int)⊕List Int))=aa (Sum.inl (((i+1:Nat):Int),(ajp 3601).map (D2 (l.take (i+1))))):=by
   intro L h;rw[h];rfl
  cases hp:D1 l[i]with
  |false=>
   simp only[Bool.not_false,if_true];refine fin _ (List.map_congr_left λm _=>?_);rw[ht,r6];simp[dl,act,hp]
  |true=>
   simp only[Bool.not_true,aiX,if_false];rw[show(if l[i].2.1<0 then(0:Int)else l[i].2.1)=rA l[i]from rfl,show(if(3600:Int)<l[i].2.2.1 then(3600:Int)else l[i].2.2.1)=M6 l[i]from rfl];by_cases h:rA l[i]<M6 l[i]
   .rw[aj (by simpa using h)]
    have h0:0<=rA l[i]:=by unfold rA;split<;>omega
    have h1:M6 l[i]<=3600:=by unfold M6;split<;>omega
    obtain⟨f,hf⟩:=aiI h0;obtain⟨t,BH⟩:=aiI (show 0<=M6 l[i] by omega)
    have Yg:t≠f:=by omega
    rw[hf,BH,aF (by simp;omega)];simp only[aiD,List.getElem_map,List.getElem_range];unfold b8;simp only[aiL,yr];rw[aF (by simp;omega)];simp only[List.getElem_map,List.getElem_range,ai Yg];have hbf:=hb f;have hbt:=hb t;refine fin _ (List.map_congr_left λm _=>?_);rw[ht,r6];unfold dl act;rw[hp,hf,BH,aX (by omega) (by omega),aX (by omega) (by omega)];simp only[Bool.true_and,az];rw[aj (show(f:Int)<t by omega)];by_cases e1:m=t
    .subst e1;simp only[if_true];rw[ai (by omega)];omega
    .rw[ai e1];by_cases e2:m=f
     .subst e2;simp only[if_true];rw[ai (by omega)];omega
     .rw[ai e2,ai (by omega),ai (by omega)];omega
   .rw[ai (by simpa using h)];refine fin _ (List.map_congr_left λm _=>?_);rw[ht,r6];unfold dl act;rw[hp];simp[h]
 .simp only;rw[ai (by simp),aiS]
 .refine AY (λi:Nat=>((if i=0 then 0 else o7 l (i-1)),(i:Int),(((ajp i).filter λm:Nat=>rZ l m).map (λm:Nat=>(m:Int)):List Int))) 3600 _ rfl ?_ ?_ (by omega)
  .intro i hi
   have hw:aiE.wrap ((i:Int)+1)=((i+1:Nat):Int):=by rw[aX]<;>omega
   simp only;rw[aj (by simp;omega),aF (by simp;omega),aiD,hw];simp only[List.getElem_map,List.getElem_range];have hs:=Gg l i hi;have hb:=uX l i;rw[<-hs,aX (by omega) (by omega)];have hp:=JR l i;by_cases h:rZ l i=af
   .rw[aj (by simpa using hp.2 h),fJ,aiD,lO,aj h]
    .simp
    .simp only[List.length_map,aiU,ajl];have:=ajt (λm:Nat=>rZ l m) (ajp i);simp at this;omega
   .rw[ai (by simpa using λhh=>h (hp.1 hh)),lO,ai h];simp
  .simp only;rw[ai (by simp)];rfl
end L.B
section
namespace L
abbrev Ap:Type:=aP.den
abbrev xF:Type:=bH.den
open B (fR fV sR sV Gd jE)
def Bw(c:cO.den):Wp (M.gb aV c) λr=>r=af->c.2.length<=64:=by
 unfold M.gb
 refine Wp.seq (λj=>j=ag->c.2.length<=64) ?_ λj hj=> .ite (λ_=> .some λh=>by cases h) λg=>?_
 .exact .dec (λ_=> .some λh=>by cases h) λ_=> .dec (λ_=> .some λh=>by cases h) λ_=> .some λh=>by
   have:=ao h;omega
 have h64:=hj (by simpa using g)
 refine Wp.count (λs=>s) c.2.length (λ_ _=>True) (by omega) rfl trivial λk s hk hs _=>?_
 obtain rfl:s=_:=hs
 refine .dec (λaH=>?_) λ_=> .some λ_=>h64
 have aH:k<c.2.length:=by omega
 refine .bind (.idx k rfl aH (Wp.seq (λ_=>True) ?_ λj _=> .ite (λ_=> .some λh=>by cases h) λ_=> .some ⟨aH,aT (by omega),trivial⟩))
 refine Wp.seq (λ_=>True) ?_ λy _=> .ite (λ_=> .some trivial) λ_=> .dec (λh0=>?_) λ_=> .some trivial
 .unfold M.eJ
  exact Wp.seq (λ_=>True) (.dec (λ_=> .some trivial) λ_=> .some trivial) λ_ _=> .some trivial
 .exact .bind (.idx (k-1) (by rw[aX (by omega) (by omega)];omega) (by omega) (.some trivial))
def Py{l:Lw}(hw:WF bV l)(gv:ei l)(sc:Int)(aN:Cf):Wp (M.cR aV l sc aN) λe=>e=0->Valid l/\((0:Int)<=aN.2.1/\(aN.2.1:Int)<=5)/\(0:Int)<=aN.2.2.2.2.2.1/\(aN.2.2.2.2.2.1:Int)<=3599:=by
 unfold M.cR;rw[Bd l hw gv,aiD]
 refine .ite (λ_=> .some λh=>by cases h) λg=>?_
 have hv:Valid l:=by
  have g':oo aC (A4 l) ((0:Int),((0:Int),((0:Int),(0:Int))))=af:=by simpa using g
  have:A4 l=((0:Int),((0:Int),((0:Int),(0:Int)))):=z8.1 g';unfold Valid;rw[this]
 refine Wp.seq (λj=>j=ag->∃s d:Nat,sc=(s:Int)/\(aN.1:Int)=(d:Int)/\∃hs:s<l.2.2.length,d<l.2.2[s].2.2.2.1.length) ?_ λj hj=> .ite (λ_=> .some λh=>by cases h) λg=>?_
 .refine .dec (λ_=> .some λh=>by cases h) λh1=> .dec (λ_=> .some λh=>by cases h) λh2=> .dec (λ_=> .some λh=>by cases h) λh3=>?_
  obtain⟨s,rfl⟩:=aiI (ajy.1 h1);obtain⟨d,hd⟩:=aiI (ajy.1 h3)
  have hs:s<l.2.2.length:=by omega
  refine .bind (.idx s rfl hs (.some λg=>⟨s,d,rfl,hd,hs,?_⟩));have g:¬(l.2.2[s].2.2.2.1.length:Int)<=aN.1:=ao g;have g:¬(l.2.2[s].2.2.2.1.length:Int)<=(d:Int):=hd▸g;omega
 obtain⟨s,d,rfl,hd,hs,Xu⟩:=hj (by simpa using g);refine .bind (.idx s rfl hs (.bind (.idx d hd Xu (.ite (λ_=> .some λh=>by cases h) λ_=>?_))))
 refine Wp.seq (λj=>j=ag->(0:Int)<=aN.2.1/\(aN.2.1:Int)<=5) ?_ λj hj=> .ite (λ_=> .some λh=>by cases h) λg=>?_
 .refine .dec (λ_=> .some λh=>by cases h) λh1=> .dec (λ_=> .some λh=>by cases h) λh2=>Wp.seq _ (Bw _) λy _=> .some λ_=>⟨ajy.1 h1,ajy.1 h2⟩
 have hmd:=hj (by simpa using g)
 refine Wp.seq (λj=>j=ag->(0:Int)<=aN.2.2.2.2.2.1/\(aN.2.2.2.2.2.1:Int)<=3599) ?_ λj hj=> .ite (λ_=> .some λh=>by cases h) λg=> .some λ_=>⟨hv,hmd,hj (by simpa using g)⟩
 have two:∀a b:Int,∀c d:Int,Wp ((if(decide (a<b))=af then aa af else aa (decide (c<d))):Option Bool) λj=>j=ag->¬a<b/\¬c<d:=λa b c d=> .dec (λ_=> .some λh=>by cases h) λh=> .some λg=>⟨h,ao g⟩
 refine Wp.seq _ (two _ _ _ _) λj _=> .ite (λh=> .some λg=>by rw[h]at g;cases g) λ_=>Wp.seq _ (two _ _ _ _) λj _=> .ite (λh=> .some λg=>by rw[h]at g;cases g) λ_=>Wp.seq _ (two _ _ _ _) λj _=> .ite (λh=> .some λg=>by rw[h]at g;cases g) λ_=>?_
 refine Wp.seq _ (two _ _ _ _) λj hj=> .ite (λh=> .some λg=>by rw[h]at g;cases g) λh=>(two _ _ _ _).mono λr _ _=>?_
 obtain⟨g1,g2⟩:=hj (by simpa using h);exact⟨ajy.1 g1,ajy.1 g2⟩
def JU(p:P4):M.mo aV p=aa (amt p):=by
 apply Wp.eq;unfold M.mo amt;simp only[IntWalk.i64_left,Int.zero_sub,W_,av,ax,reduceCtorEq];refine⟨λh=>?_,λh1=>⟨λh2=>⟨λ_=>?_,λh=>?_⟩,λh2=>⟨λh3=>?_,λh3=>?_⟩⟩⟩
 all_goals dsimp only[aB,Row.den]at*
 .rw[aj h]
 .rw[ai h1,aj (.inl h2)]
 .omega
 .rw[ai h1,aj (.inr h3)]
 .rw[ai h1,ai (by omega)]
def uY(ps:List P4)(m:Int):M.dR aV ps m=aa (sR m ps):=by
 unfold M.dR RG;rw[B.rec_eq]
def JV(ps:List P4)(m:Int):M.gh aV ps m=aa (sV m ps):=by
 unfold M.gh RH;rw[B.MZ]
def zT(ps:List P4)(h:ps.length<=1000000):M.kl aV ps=aa (tq (ps.map λp=>p.2.1)):=by
 unfold M.kl;refine Wp.eq (Wp.seq _ (F8 ps (λp=>p.2.1) [] (by simp;omega)) λo ho=>?_);subst ho;rw[ajf,vJ (by simp;omega)];exact .some rfl
def M8{m:Int}{p:P4}(h:p.2.1≠m):fR m p=0:=ai h
def JW(ps:List P4):Wp (M.kF aV ps) λr=>r.2=0->ps.length<=4096/\(∀p∈ps,Gd p)/\∀m,0<=(ps.map (fR m)).sum:=by
 unfold M.kF
 refine .dec (λ_=> .some λh=>by cases h) λhl=>?_
 have hl:ps.length<=4096:=by omega
 refine Wp.count (λs=>s.1) ps.length (λk s=>(∀p∈ps.take k,Gd p)/\∀m,(bo aB s.2 m).getD (0:Int)=((ps.take k).map (fR m)).sum/\0<=((ps.take k).map (fR m)).sum) (by omega) rfl ⟨λp h=>(by cases h),λm=>⟨rfl,ajs _⟩⟩ λk s hk hs hJ=>?_
 obtain⟨c,W⟩:=s;obtain⟨j1,j2⟩:=hJ;dsimp only at hs j1 j2;subst hs
 refine .dec (λaH=>?_) λhge=> .some λ_=>?_
 case refine_2=>
  have:k=ps.length:=by dsimp only at hge;omega
  subst this;rw[aiS]at j1 j2;exact⟨hl,j1,λm=>(j2 m).2⟩
 have aH:k<ps.length:=by dsimp only at aH;omega
 refine .bind (.idx k rfl aH ?_);have TZ:ps.take (k+1)=ps.take k++[ps[k]]:=(aiP aH).symm
 have QR:(ps.take k).length<=4096:=by simp;omega
 generalize ps[k]=p at*;obtain⟨(d:Int),(m:Int),(kd:Int),(cc:Int)⟩:=p
 have two:∀a b:Int,∀c d:Int,Wp ((if(decide (a<b))=af then aa af else aa (decide (c<d))):Option Bool) λj=>j=ag->¬a<b/\¬c<d:=λa b c d=> .dec (λ_=> .some λh=>by cases h) λh=> .some λg=>⟨h,ao g⟩
 refine Wp.seq (λj=>j=ag->0<=m/\1<=cc/\cc<=1000000000000000) ?_ λj hj=> .ite (λ_=> .some λh=>by cases h) λg=>?_
 .refine Wp.seq _ (two _ _ _ _) λj _=> .ite (λh=> .some λg=>by rw[h]at g;cases g) λ_=>Wp.seq _ (two _ _ _ _) λj hj=> .ite (λh=> .some λg=>by rw[h]at g;cases g) λh=>(two _ _ _ _).mono λr hr g=>?_
  obtain⟨h1,_⟩:=hj (by simpa using h);obtain⟨h3,h4⟩:=hr g;dsimp only at h1 h3 h4;omega
 obtain⟨h1,h2,h3⟩:=hj (by simpa using g)
 refine Wp.seq _ (two _ _ _ _) λj hj=> .ite (λ_=> .some λh=>by cases h) λg=>?_
 obtain⟨h4,h5⟩:=hj (by simpa using g);dsimp only at h4 h5
 have ok:Gd (d,m,kd,cc):=⟨h1,h2,h3,by dsimp only;omega,by dsimp only;omega⟩
 refine Wp.seq (λ_=>True) (.dec (λh=> .bind (.idx (k-1) (by rw[aX (by omega) (by omega)];omega) (by omega) (.some trivial))) λ_=> .some trivial) λj _=> .ite (λ_=> .some λh=>by cases h) λ_=>?_
 rw[JU,aiD];have agK:=B.xC (f:=fR m) (λp hp=>B.Ge (j1 p hp)) (by omega:(ps.take k).length<=4200);have xM:=B.Ge (m:=m) ok
 have e1:aiE.wrap ((bo aB W m).getD (0:Int)+amt (d,m,kd,cc))=((ps.take k).map (fR m)).sum+fR m (d,m,kd,cc):=by
  rw[(j2 m).1,IntWalk.i64_left,B.Qx (m:=m) (p:=(d,m,kd,cc)) rfl];generalize fR m (d,m,kd,cc)=z at*;unfold wrap64;omega
 dsimp only;rw[e1]
 have Qi:∀x,bo aB (fC aB W m (((ps.take k).map (fR m)).sum+fR m (d,m,kd,cc))) x=if m=x then aa (((ps.take k).map (fR m)).sum+fR m (d,m,kd,cc))else bo aB W x:=λx=>B.mh W m x _
 rw[Qi m,aj rfl]
 refine .dec (λ_=> .some λh=>by cases h) λhp=> .some ⟨aH,aT (by omega),λp Hy=>?_,λx=>?_⟩
 .rw[TZ,aje,List.mem_singleton]at Hy
  rcases Hy with Hy|rfl
  .exact j1 p Hy
  .exact ok
 .have hp:¬((ps.take k).map (fR m)).sum+fR m (d,m,kd,cc)<0:=hp;dsimp only;rw[Qi x,TZ,List.map_append,List.sum_append,ai2,List.map_nil,ai9,List.sum_nil,Int.add_zero];by_cases hx:m=x
  .subst hx;rw[aj rfl];exact⟨rfl,by omega⟩
  .rw[ai hx,M8 hx,Int.add_zero];exact j2 x
def o8(d:Int):M.jn aV d=aa (decide (0<=d/\d<=109572)):=by
 apply Wp.eq;unfold M.jn;simp only[W_,av,ax,reduceCtorEq];omega
def tA(aN:Cf)(m:Int):Prop:=(aN.2.2.2.2.2.1:Int)<=m/\m<=3599/\m<=(aN.2.2.2.2.2.1:Int)+119
def xG{aN:Cf}(h0:(0:Int)<=aN.2.2.2.2.2.1)(h1:(aN.2.2.2.2.2.1:Int)<=3599)(m:Int):∃b,M.iC aV aN m=aa b/\(b=af↔tA aN m):=by
 unfold M.iC tA
 obtain⟨(f:Int),hf⟩:∃f:Int,f=aN.2.2.2.2.2.1:=⟨_,rfl⟩
 have g0:(0:Int)<=f:=by rw[hf];exact h0
 have g1:f<=3599:=by rw[hf];exact h1
 rw[<-hf,aX (n:=f+120) (by omega) (by omega),aX (n:=f+120-1) (by omega) (by omega)];by_cases h:f<=m
 .rw[aj (aq h)];refine⟨_,rfl,?_⟩;rw[az];refine⟨λq=>?_,λq=>?_⟩
  .split at q<;>exact⟨h,by omega,by omega⟩
  .obtain⟨_,q1,q2⟩:=q
   split<;>omega
 .rw[ai (by simpa using h)];exact⟨_,rfl,aA (by decide) λg=>h g.1⟩
structure By(l:Lw)(aN:Cf)(s:xF):Prop where
 vc:M.cR aV l s.1.2.1 aN=aa 0
 ok:Valid l
 md:(0:Int)<=aN.2.1/\(aN.2.1:Int)<=5
 f0:(0:Int)<=aN.2.2.2.2.2.1
 f1:(aN.2.2.2.2.2.1:Int)<=3599
 hh:(Qw l s.1).2=0
 dt:(0:Int)<=s.2.2.2.1/\(s.2.2.2.1:Int)<=109572
 lm:(s.2.2.2.2:Int)= -1\/tA aN s.2.2.2.2
 pl:s.2.1.length<=4096
 pk:∀p∈s.2.1,Gd p
 sm:jE s.2.1
 wv:∀m,0<=sV m s.2.1/\sV m s.2.1<=1000000000000000
 al:s.2.2.1.length<=16
 ac:∀a∈s.2.2.1,(0:Int)<=a.2.2.2.2.2.2/\(a.2.2.2.2.2.2:Int)<=1000000000000000
 ft:∀f∈s.1.2.2.2,(f.2.2.2.2.2:Int)<=s.2.2.2.1
def JX(a:Ap):Wp (M.nc aV a) λr=>r=af->(0:Int)<=a.2.2.2.2.2.2/\(a.2.2.2.2.2.2:Int)<=1000000000000000:=by
 unfold M.nc
 refine Wp.seq (λ_=>True) (.dec (λ_=> .some trivial) λ_=>?_) λj _=> .ite (λ_=> .some λh=>by cases h) λ_=>?_
 .unfold M.fj
  exact Wp.seq (λ_=>True) (Wp.seq (λ_=>True) (.dec (λ_=> .dec (λ_=> .dec (λ_=> .some trivial) λ_=> .some trivial) λ_=> .some trivial) λ_=> .some trivial) λ_ _=> .some trivial) λ_ _=> .some trivial
 refine Wp.seq (λ_=>True) (.dec (λ_=> .some trivial) λ_=> .dec (λ_=> .some trivial) λ_=> .some trivial) λj _=> .ite (λ_=> .some λh=>by cases h) λ_=>?_
 refine Wp.seq (λ_=>True) (.dec (λ_=> .some trivial) λ_=> .some trivial) λj _=> .ite (λ_=> .some λh=>by cases h) λ_=>?_
 refine Wp.seq (λj=>j=af->(0:Int)<=a.2.2.2.2.2.2/\(a.2.2.2.2.2.2:Int)<=1000000000000000) ?_ λj hj=> .some hj
 exact .dec (λh1=> .dec (λh2=> .dec (λ_=> .some λ_=>⟨h1,h2⟩) λ_=> .some λ_=>⟨h1,h2⟩) λ_=> .some λh=>by cases h) λ_=> .some λh=>by cases h
def Pz(s:xF)(h1:s.1.2.2.2.length<=1000000)(h2:s.2.1.length<=1000000)(h3:s.2.2.1.length<=1000000):Wp (M.lD aV s) λr=>r=af->∀f∈s.1.2.2.2,(f.2.2.2.2.2:Int)<=s.2.2.2.1:=by
 unfold M.lD;refine .join (Wp.count (λs=>s) s.1.2.2.2.length (λk _=>∀j,∀h:j<s.1.2.2.2.length,j<k->(s.1.2.2.2[j].2.2.2.2.2:Int)<=s.2.2.2.1) (by omega) rfl (λj h g=>by omega) λk q hk hq hJ=>?_);obtain rfl:q=_:=hq
 refine .dec (λaH=>?_) λhge=> .some ?_
 .have aH:k<s.1.2.2.2.length:=by omega
  refine .bind (.idx k rfl aH (.dec (λ_=> .some λh=>by cases h) λg=> .some ⟨aH,aT (by omega),λj hj Wj=>?_⟩));by_cases e:j<k
  .exact hJ j hj e
  .obtain rfl:j=k:=by omega
   exact ajy.1 g
 have eV:∀f∈s.1.2.2.2,(f.2.2.2.2.2:Int)<=s.2.2.2.1:=λf hf=>by
  obtain⟨j,hj,rfl⟩:=aiR hf;exact hJ j hj (by omega)
 refine .join (Wp.count (λs=>s) s.2.1.length (λk _=>True) (by omega) rfl trivial λk q hk hq _=>?_);obtain rfl:q=_:=hq
 refine .dec (λaH=>?_) λhge=> .some ?_
 .have aH:k<s.2.1.length:=by omega
  exact .bind (.idx k rfl aH (.dec (λ_=> .some λh=>by cases h) λg=> .some ⟨aH,aT (by omega),trivial⟩))
 refine Wp.count (λs=>s) s.2.2.1.length (λk _=>True) (by omega) rfl trivial λk q hk hq _=>?_
 obtain rfl:q=_:=hq
 refine .dec (λaH=>?_) λhge=> .some λ_=>eV
 have aH:k<s.2.2.1.length:=by omega
 exact .bind (.idx k rfl aH (.dec (λ_=> .some λh=>by cases h) λg=> .some ⟨aH,aT (by omega),trivial⟩))
def Tg{m:Int}{p:P4}(h:p.2.1≠m):fV m p=0:=ai h
def Bz{f:P4->Int}:∀{ps:List P4},(∀p∈ps,f p=0)->(ps.map f).sum=0
 |[],_=>rfl
 |p::ps,h=>by rw[ai2,ai9,h p (.head _),Bz λq hq=>h q (.tail _ hq)];rfl
def HC{f:P4->Int}:∀{ps:List P4},(∀p∈ps,0<=f p)->0<=(ps.map f).sum
 |[],_=>ajs _
 |p::ps,h=>by
  rw[ai2,ai9];have:=h p (.head _)
  have:=HC λq hq=>h q (.tail _ hq)
  omega
def uZ{l:Lw}(hw:WF bV l)(gv:ei l)(aN:Cf)(s:xF):Wp (M.gI aV l aN s) λe=>e=0->By l aN s:=by
 unfold M.gI;obtain⟨e0,he0,hc⟩:=Py hw gv s.1.2.1 aN;rw[he0,aiD]
 refine .fD (λ_=> .some λh=>by cases h) λh0=>?_
 have vc:=he0;rw[h0]at vc;obtain⟨ok,md,f0,f1⟩:=hc h0;rw[Bq,aiD]
 refine .fD (λh=> .some λg=>absurd g h) λhh=>?_
 have agL:s.1.2.2.2.length<=128:=by
  obtain⟨_,_,hs,hx⟩:=qB hh;exact(Br.1 (Bt.1 hx).2.1).1
 refine Wp.seq (λj=>j=ag->((0:Int)<=s.2.2.2.1/\(s.2.2.2.1:Int)<=109572)/\((s.2.2.2.2:Int)= -1\/tA aN s.2.2.2.2)) ?_ λj hj=> .ite (λ_=> .some λh=>by cases h) λg=>?_
 .rw[o8,aiD]
  refine .ite (λ_=> .some λh=>by cases h) λh1=>?_
  have h1:=an (by simpa using h1:decide ((0:Int)<=s.2.2.2.1/\(s.2.2.2.1:Int)<=109572)=af)
  refine .fD (λ_=>?_) λh2=> .some λ_=>⟨h1, .inl h2⟩
  obtain⟨b,hb,pX⟩:=xG f0 f1 s.2.2.2.2;rw[hb];exact .bind (.some (.some λg=>⟨h1, .inr (pX.1 (by simpa using g))⟩))
 obtain⟨dt,lm⟩:=hj (by simpa using g)
 refine Wp.seq _ (JW s.2.1) λy hy=> .fD (λh=> .some λg=>absurd g h) λh0=>?_
 obtain⟨pl,pk,s0⟩:=hy h0
 have key:∀m,(((s.2.1.map (fR m)).sum<=1000000000000000/\sV m s.2.1<=1000000000000000)\/∃p∈s.2.1,p.2.1=m):=λm=>by
  by_cases h:∃p∈s.2.1,p.2.1=m
  .exact .inr h
  .refine .inl ?_;rw[Bz λp hp=>M8 λe=>h ⟨p,hp,e⟩,B.QA pk (by omega),Bz λp hp=>Tg λe=>h ⟨p,hp,e⟩];omega
 have hR:=λm=>B.Qz (m:=m) pk (by omega)
 have hV:=λm=>B.QA (m:=m) pk (by omega)
 have hV0:∀m,0<=sV m s.2.1:=λm=>by
  rw[hV m]
  exact HC λp hp=>(B.M2 (pk p hp)).1
 refine .join (Wp.mono (Q:=λu=>(∃c,c≠0/\u=Sum.inr c)\/(u=Sum.inl ()/\∀m,(s.2.1.map (fR m)).sum<=1000000000000000/\sV m s.2.1<=1000000000000000)) ?_ λu hu=>?_)
 .rw[zT _ (by omega),aiD];have NP:=mL (s.2.1.map λp:P4=>p.2.1)
  have QJ:∀y:Int,y∈tq (s.2.1.map λp:P4=>p.2.1)↔y∈s.2.1.map λp:P4=>p.2.1:=λy=>xz
  rw[List.length_map]at NP;generalize tq (s.2.1.map λp:P4=>p.2.1)=ms at*
  refine Wp.count (λs=>s) ms.length (λk _=>∀j,∀h:j<ms.length,j<k->sR ms[j] s.2.1<=1000000000000000/\sV ms[j] s.2.1<=1000000000000000) (by omega) rfl (λj h g=>by omega) λk q hk hq hJ=>?_
  obtain rfl:q=_:=hq
  refine .dec (λaH=>?_) λhge=> .some (.inr ⟨rfl,λm=>?_⟩)
  .have aH:k<ms.length:=by omega
   refine .bind (.idx k rfl aH (Wp.seq (λ_=>True) (.dec (λ_=> .some trivial) λ_=> .some trivial) λj _=> .ite (λ_=> .some (.inl ⟨3,by decide,rfl⟩)) λ_=>?_))
   refine Wp.seq (λj=>j=ag->sR ms[k] s.2.1<=1000000000000000/\sV ms[k] s.2.1<=1000000000000000) ?_ λj hj=> .ite (λ_=> .some (.inl ⟨3,by decide,rfl⟩)) λg=> .some ⟨aH,aT (by omega),λj' PL Wj=>?_⟩
   .rw[uY,aiD]
    refine .dec (λ_=> .some λh=>by cases h) λh1=>?_
    rw[JV,aiD]
    exact .some λg=>⟨ajy.1 h1,ajy.1 (ao g)⟩
   .by_cases e:j'<k
    .exact hJ j' PL e
    .obtain rfl:j'=k:=by omega
     exact hj (by simpa using g)
  .rcases key m with h|⟨p,hp,rfl⟩
   .exact h
   .obtain⟨j,hj,e⟩:=aiR ((QJ p.2.1).2 (List.mem_map.2 ⟨p,hp,rfl⟩));have:=hJ j hj (by omega);rw[e,hR]at this;exact this
 .rcases hu with⟨c,hc,rfl⟩|⟨rfl,hs⟩
  .exact λh=>absurd h hc
  show Wp _ _
  refine .dec (λ_=> .some λh=>by cases h) λUp=>?_
  have Up:s.2.2.1.length<=16:=by omega
  refine .join (Wp.count (λs=>s) s.2.2.1.length (λk _=>∀j,∀h:j<s.2.2.1.length,j<k->(0:Int)<=s.2.2.1[j].2.2.2.2.2.2/\(s.2.2.1[j].2.2.2.2.2.2:Int)<=1000000000000000) (by omega) rfl (λj h g=>by omega) λk q hk hq hJ=>?_);obtain rfl:q=_:=hq
  refine .dec (λaH=>?_) λhge=> .some ?_
  .have aH:k<s.2.2.1.length:=by omega
   refine .bind (.idx k rfl aH (Wp.seq (λj=>j=ag->(0:Int)<=s.2.2.1[k].2.2.2.2.2.2/\(s.2.2.1[k].2.2.2.2.2.2:Int)<=1000000000000000) ?_ λj hj=> .ite (λ_=> .some λh=>by cases h) λg=> .some ⟨aH,aT (by omega),λj' PL Wj=>?_⟩))
   .refine Wp.seq _ (JX _) λy hy=> .ite (λ_=> .some λh=>by cases h) λg=> .some λ_=>hy (by simpa using g)
   .by_cases e:j'<k
    .exact hJ j' PL e
    .obtain rfl:j'=k:=by omega
     exact hj (by simpa using g)
  .refine Wp.seq _ (Pz s (by omega) (by omega) (by omega)) λy hy=> .ite (λ_=> .some λh=>by cases h) λg=> .some λ_=>?_
   exact⟨vc,ok,md,f0,f1,hh,dt,lm,pl,pk,λm=>⟨s0 m,(hs m).1⟩,λm=>⟨hV0 m,(hs m).2⟩,Up,λa ha=>by
    obtain⟨j,hj,rfl⟩:=aiR ha
    exact hJ j hj (by omega),hy (by simpa using g)⟩
def By.acc{l:Lw}(hw:WF bV l)(gv:ei l){aN:Cf}{s:xF}(h:By l aN s):Acc l s.1 aN:=⟨hw,gv,h.ok,h.md,h.hh,by
 obtain⟨_,_,hs,hx⟩:=qB h.hh;have:=(Br.1 (Bt.1 hx).2.1).1
 omega,h.vc⟩
end L
end
section
namespace L
open B (fR fV sR sV Gd jE mX tt pR ja gp dst Ee gR)
noncomputable def gw(app:List Ap)(w:aE.den):aE.den:=if(B.granted w.1 app.reverse).2=af then(w.1,((B.granted w.1 app.reverse).1,(0:Int)))else w
def WT(app:List Ap)(w:aE.den):(gw app w).1=w.1:=by unfold gw;split<;>rfl
def u9{m:Int}:∀{L:List Ap},(B.granted m L).2=af->∃a∈L,(B.granted m L).1=a.2.2.2.2.2.2
 |[],h=>by cases h
 |x::L,h=>by
  unfold B.granted at h⊢;by_cases g:B.gm m x=af
  .rw[aj g];exact⟨x, .head _,rfl⟩
  .rw[ai g]at h⊢;obtain⟨a,ha,e⟩:=u9 h;exact⟨a, .tail _ ha,e⟩
def JY(ws:List aE.den)(app:List Ap)(h1:ws.length<=1000000)(h2:app.length<=1000):M.nk aV ws app=aa (ws.map (gw app)):=by
 unfold M.nk;refine Wp.eq (Wp.count (λs=>s.1) ws.length (λk s=>s.2=(ws.take k).map (gw app)) (by omega) rfl rfl λk s hk hs hJ=>?_);obtain⟨c,o⟩:=s;dsimp only at hs hJ;subst hs hJ
 refine .dec (λaH=>?_) λhge=>?_
 .have aH:k<ws.length:=by dsimp only at aH;omega
  refine .bind (.idx k rfl aH (Wp.seq (λj=>j=gw app ws[k]) ?_ λj hj=> .bind (.app (by simp;omega) (.some ⟨aH,aT (by omega),?_⟩))))
  .rw[B.Gh h2,aiD];unfold gw
   exact .ite (λh=>by rw[aj h];exact .some rfl) λh=>by rw[ai h];exact .some rfl
  .subst hj
   show(ws.take k).map (gw app)++[gw app ws[k]]=(ws.take (k+1)).map (gw app)
   rw[<-aiP aH,List.map_append];rfl
 .have hge:k=ws.length:=by dsimp only at hge;omega
  subst hge;exact .some (show(ws.take ws.length).map (gw app)=_ by rw[aiS])
noncomputable def oA(l:Lw)(h:Hh)(aN:Cf)(ps:List P4)(app:List Ap)(r:Int)(n:Nat):List P4:=(ajp n).map λi:Nat=>B.mb ps (gw app (aw l h aN r ((aN.2.2.2.2.2.1:Int)+i)))
def nr(aN:Cf)(t:Int):Nat:=(t+1-(aN.2.2.2.2.2.1:Int)).toNat
def va{l:Lw}{h:Hh}{aN:Cf}(H:Acc l h aN)(f0:(0:Int)<=aN.2.2.2.2.2.1){ps:List P4}{app:List Ap}(h1:ps.length<=1000000)(h2:app.length<=1000)(dl:Ty){t:Int}(ht:t= -1\/tA aN t)(r:Int):
 M.eh aV l aN (h,(ps,(app,dl))) t r=aa (oA l h aN ps app r (nr aN t)):=by
 unfold M.eh
 obtain⟨(f:Int),hf⟩:∃f:Int,f=aN.2.2.2.2.2.1:=⟨_,rfl⟩
 unfold oA nr;unfold tA at ht;rw[<-hf]at ht⊢
 have g0:(0:Int)<=f:=by rw[hf];exact f0
 refine Wp.eq (Wp.seq (λj=>(j=af/\t+1-f<=0)\/(j=ag/\f<=t/\t<=3599)) ?_ λj hj=>?_)
 .refine .dec (λg=> .some (.inl ⟨rfl,by omega⟩)) λg=>?_
  rcases ht with ht|⟨q1,q2,q3⟩
  .omega
  .exact .some (.inr ⟨au (by omega),q1,q2⟩)
 rcases hj with⟨rfl,g⟩|⟨rfl,g1,g2⟩
 .refine .ite (λ_=> .some ?_) λg=>absurd rfl g
  rw[show(t+1-f).toNat=0 by omega];rfl
 .refine .ite (λg=>by cases g) λ_=>?_
  have hq:t<=f+119:=by omega
  rw[aX (n:=t+1) (by omega) (by omega),H.pH (f:=f) (t:=t+1) (r:=r) g0 (by omega) (by omega) (by omega),aiD]
  refine .dec (λg=>?_) λ_=>?_
  .simp at g;omega
  .rw[JY _ _ (by simp;omega) h2,aiD,B.of_eq _ _ (by simp;omega) (show ps.length<=1048576 by omega),aiD];refine .some ?_;rw[List.map_map,List.map_map];rfl
def tB(l:Lw)(h:Hh)(aN:Cf)(ps:List P4)(app:List Ap)(r:Int)(n:Nat):(oA l h aN ps app r n).length=n:=by unfold oA;simp
def HD{aN:Cf}{t:Int}(f0:(0:Int)<=aN.2.2.2.2.2.1)(ht:t= -1\/tA aN t):nr aN t<=120:=by
 unfold nr;unfold tA at ht
 obtain⟨(f:Int),hf⟩:∃f:Int,f=aN.2.2.2.2.2.1:=⟨_,rfl⟩
 rw[<-hf]at ht⊢
 have g0:(0:Int)<=f:=by rw[hf];exact f0
 omega
def JZ{l:Lw}{h:Hh}{aN:Cf}(H:Acc l h aN)(ps:List P4)(app:List Ap)(r m:Int):(B.mb ps (gw app (aw l h aN r m))).1=m:=by
 unfold B.mb;dsimp only;rw[WT];exact(H.MY r m).1
def Gi{l:Lw}{h:Hh}{aN:Cf}(H:Acc l h aN)(ps:List P4)(app:List Ap)(r:Int)(n:Nat):((oA l h aN ps app r n).map Prod.fst).Nodup:=by
 unfold oA;rw[List.map_map]
 have e:(Prod.fst∘λi:Nat=>B.mb ps (gw app (aw l h aN r ((aN.2.2.2.2.2.1:Int)+i))))=λi:Nat=>(aN.2.2.2.2.2.1:Int)+i:=by
  funext i;exact JZ H ps app r _
 rw[e];refine List.pairwise_map.2 ((List.nodup_range (n:=n)).imp λ{a b}g q=>g ?_);have q:(aN.2.2.2.2.2.1:Int)+(a:Int)=(aN.2.2.2.2.2.1:Int)+(b:Int):=q;omega
def Ti{l:Lw}{h:Hh}{aN:Cf}(H:Acc l h aN){ps:List P4}{app:List Ap}(pl:ps.length<=4096)(pk:∀p∈ps,Gd p)(so:jE ps)(wv:∀m,0<=sV m ps/\sV m ps<=1000000000000000)(ac:∀a∈app,(0:Int)<=a.2.2.2.2.2.2/\(a.2.2.2.2.2.2:Int)<=1000000000000000)(r m:Int):mX ps (B.mb ps (gw app (aw l h aN r m))):=by
 have hm:=(H.MY r m).1;have ha:=(H.MY r m).2;have hR:=B.Qz (m:=m) pk (by omega);have hV:=wv m;have hs:=so m;have hg:(gw app (aw l h aN r m)).1=m:=(WT app _).trans hm
 have hd:((gw app (aw l h aN r m)).2.2:Int)=0->(0:Int)<=(gw app (aw l h aN r m)).2.1/\((gw app (aw l h aN r m)).2.1:Int)<=4611686018427387905:=by
  unfold gw;split
  .rename_i g;intro _;obtain⟨a,ha,e⟩:=u9 g;have:=ac a (List.mem_reverse.1 ha);dsimp only;rw[e];exact⟨this.1,Int.le_trans this.2 (by decide)⟩
  .exact ha
 generalize gw app (aw l h aN r m)=w at*;obtain⟨(w1:Int),(w2:Int),(w3:Int)⟩:=w;have hg:w1=m:=hg;subst hg;have hd:w3=0->0<=w2/\w2<=4611686018427387905:=hd;unfold B.mb mX;dsimp only;rw[hR];refine⟨?_,?_,rfl,hV.1,hV.2⟩
 .split
  .exact(hd ‹_›).1
  .exact hs.1
 .split
  .have:=(hd ‹_›).2;omega
  .omega
def PA{l:Lw}{h:Hh}{aN:Cf}(H:Acc l h aN){ps:List P4}{app:List Ap}(pl:ps.length<=4096)(pk:∀p∈ps,Gd p)(so:jE ps)(wv:∀m,0<=sV m ps/\sV m ps<=1000000000000000)(ac:∀a∈app,(0:Int)<=a.2.2.2.2.2.2/\(a.2.2.2.2.2.2:Int)<=1000000000000000)(r:Int)(n:Nat):∀b∈oA l h aN ps app r n,mX ps b:=λb hb=>by
 obtain⟨i,_,rfl⟩:=List.mem_map.1 hb;exact Ti H pl pk so wv ac r _
def J0(p:Int)(aN:Cf):Wp (M.dq aV p aN) λ_=>True:=by
 unfold M.dq
 refine .dec (λ_=> .some trivial) λ_=>Wp.seq (λ_=>True) ?_ λy _=> .fD (λ_=> .some trivial) λ_=> .some trivial
 unfold M.kY
 exact Wp.seq _ (P.uv (by omega)) λ_ _=> .some trivial
noncomputable def uB(p:Int)(aN:Cf):Int:=(M.dq aV p aN).getD 0
def D3(p:Int)(aN:Cf):M.dq aV p aN=aa (uB p aN):=((J0 p aN).getD 0).1
def D4(p:Int)(aN:Cf):0<=uB p aN/\uB p aN<=9223372036854775807:=by
 have Ki:∀n,aiE.wrap n<=9223372036854775807:=λn=>by rw[IntKind.wrap_i64];omega
 have g:∀y z:Int,z<=9223372036854775807->0<=(if(if y<z then y else z)<0 then 0 else(if y<z then y else z))/\(if(if y<z then y else z)<0 then 0 else(if y<z then y else z))<=9223372036854775807:=λy z h=>by
  have hx:(if y<z then y else z)<=z:=by split<;>omega
  generalize(if y<z then y else z)=x at*
  split<;>omega
 have:Wp (M.dq aV p aN) λr=>0<=r/\r<=9223372036854775807:=by
  unfold M.dq
  refine .dec (λ_=> .some ⟨by decide,by decide⟩) λ_=>Wp.seq (λ_=>True) ?_ λy _=> .fD (λ_=> .some ⟨by decide,by decide⟩) λ_=> .some (g _ _ (Ki _))
  unfold M.kY
  exact Wp.seq _ (P.uv (by omega)) λ_ _=> .some trivial
 exact(this.getD 0).2
def Gj(b:P4):M.iE aV b=aa (tt b):=B.Td b
def HE(b:P4):M.c9 aV b=aa (pR b):=B.WS b
def Gk(b:P4):0<=pR b:=by unfold pR;split<;>omega
def HF(Bs:List P4)(r k d:Int)(W:List (Int×Bool))(hB:Bs.length<=1000000)(hr:r<=9223372036854775807):M.eT aV Bs r k d W=aa (Ee (λm=>(bo aB W m).getD ag) Bs r,dst k d (λm=>(bo aB W m).getD ag) Bs r):=by
 unfold M.eT
 obtain⟨st,gq⟩:∃st:Int->Bool,st=λm=>(bo aB W m).getD ag:=⟨_,rfl⟩
 rw[<-gq]
 have EN:∀m,(bo aB W m).getD ag=st m:=λm=>by rw[gq]
 have e0:vN Bs (0:Int) (Bs.length:Int) (Bs.length:Int)=aa Bs:=by
  unfold vN;rw[aj rfl,qU (i:=(0:Int)) 0 Bs.length rfl rfl (ai6 _) (aiM _)];simp
 rw[e0,aiD];refine Wp.eq (Wp.loop (λs=>s.1<=9223372036854775807/\s.2.1.length<=Bs.length/\s.2.2.length+s.2.1.length<=Bs.length/\Ee st Bs r=Ee st s.2.1 s.1/\dst k d st Bs r=s.2.2++dst k d st s.2.1 s.1) (λs=>s.2.1.length) ⟨hr,aiM _,by simp,rfl,rfl⟩ (by dsimp only;unfold aV;omega) ?_)
 rintro⟨q,rest,o⟩ ⟨h0,h1,h2,h3,h4⟩
 dsimp only at h0 h1 h2 h3 h4⊢
 refine Wp.seq (λj=>(j=af/\0<rest.length/\0<q)\/(j=ag/\(rest=[]\/q<=0))) ?_ λj hj=>?_
 .refine .dec (λg=> .some ?_) λg=> .some (.inr ⟨rfl, .inl (List.length_eq_zero_iff.1 (by omega))⟩)
  by_cases g':0<q
  .exact .inl ⟨aq g',by omega,g'⟩
  .exact .inr ⟨au g', .inr (by omega)⟩
 rcases hj with⟨rfl,g1,g2⟩|⟨rfl,g⟩
 .refine .ite (λ_=>?_) λg=>absurd rfl g
  obtain⟨b,rest,rfl⟩:=List.exists_cons_of_length_pos g1;have hov:=Gk b
  have ec:vN (b::rest) (1:Int) ((b::rest).length:Int) ((b::rest).length:Int)=aa rest:=by
   unfold vN;rw[aj rfl,qU (i:=(1:Int)) 1 (b::rest).length rfl rfl (by simp) (aiM _)];simp
  simp only[aiU]at h1 h2 g1⊢;rw[Ee]at h3;rw[dst]at h4;rw[ai (by omega)]at h3 h4
  refine Wp.seq (λj=>j.1<=9223372036854775807/\j.2.length+rest.length<=Bs.length/\Ee st Bs r=Ee st rest j.1/\dst k d st Bs r=j.2++dst k d st rest j.1) ?_ λj hj=> .qk ec (.some ⟨⟨hj.1,by dsimp only;omega,hj.2.1,hj.2.2.1,hj.2.2.2⟩,show rest.length<rest.length+1 by omega⟩)
  refine .bind (.idx 0 rfl (by simp) ?_)
  show Wp ((M.c9 aV b).bind _) _
  rw[HE,aiD]
  show Wp (((if(decide (pR b<=(0:Int)))=af then aa af else aa ((bo aB W b.1).getD ag)):Option Bool).bind _) _
  rw[EN]
  refine Wp.seq (λj=>j=decide (pR b<=0\/st b.1=af)) (.dec (λg=> .some (aq (.inl g)).symm) λg=> .some ?_) λj hj=>?_
  .cases hs:st b.1 with
   |true=>simp
   |false=>simp;omega
  subst hj
  refine .dec (λg=>?_) λg=>?_
  .rw[aj g]at h3 h4;exact .some ⟨h0,by dsimp only;omega,h3,h4⟩
  .rw[ai g]at h3 h4
   have pW:0<pR b:=by
    rcases Int.lt_or_le 0 (pR b)with q|q
    .exact q
    .exact absurd (.inl q) g
   have em:(if q<pR b then q else pR b)=min (pR b) q:=by omega
   refine .bind (.app (by simp;omega) (.some ⟨?_,by simp;omega,?_,?_⟩))
   all_goals
    dsimp only;rw[em]
   .rw[aX (by omega) (by omega)];omega
   .rw[aX (by omega) (by omega)];exact h3
   .rw[aX (by omega) (by omega),List.append_assoc];exact h4
 .refine .ite (λg=>by cases g) λ_=> .some ?_
  show(q,o)=(Ee st Bs r,dst k d st Bs r)
  rw[h3,h4]
  rcases g with rfl|g
  .rw[Ee,dst,ajv]
  .cases rest with
   |nil=>rw[Ee,dst,ajv]
   |cons b rest=>rw[Ee,dst,aj g,aj g,ajv]
def PB(Bs:List P4)(p:Int)(aN:Cf)(d:Int)(S:List Int)(hB:Bs.length<=1000000)(hS:S.length<=1000000):M.mw aV Bs p aN d S=aa (dst 2 d (λm=>decide (m∈S)) Bs (uB p aN)):=by
 unfold M.mw;refine Wp.eq (Wp.seq (λW=>∀m,(bo aB W m).getD ag=decide (m∈S)) ?_ λW hW=>?_)
 .refine Wp.count (λs=>s.1) S.length (λk s=>∀m,(bo aB s.2 m).getD ag=decide (m∈S.take k)) (by omega) rfl (λm=>by simp;rfl) λk s hk hs hJ=>?_
  obtain⟨c,W⟩:=s;dsimp only at hs hJ;subst hs
  refine .dec (λaH=>?_) λhge=> .some ?_
  .have aH:k<S.length:=by dsimp only at aH;omega
   refine .bind (.idx k rfl aH (.some ⟨aH,aT (by omega),λm=>?_⟩));dsimp only
   have e:bo aB (fC aB W S[k] af) m=if S[k]=m then aa af else bo aB W m:=B.mh W S[k] m af
   rw[e,<-aiP aH];by_cases h:S[k]=m
   .rw[aj h];simp[h]
   .rw[ai h,hJ];refine decide_eq_decide.2 ?_;rw[aje,List.mem_singleton];exact⟨.inl,λq=>q.resolve_right λq=>h q.symm⟩
  .have:k=S.length:=by dsimp only at hge;omega
   subst this;rw[aiS]at hJ;exact hJ
 .rw[D3,aiD,HF _ _ _ _ _ hB (D4 _ _).2,aiD];refine .some ?_;rw[show(λm=>(bo aB W m).getD ag)=λm=>decide (m∈S)from funext hW]
def Tj(Bs:List P4)(t:Int)(aN:Cf)(d:Int)(S:List Int)(hB:Bs.length<=1000000)(hS:S.length<=1000000):M.oa aV Bs t aN d S=aa (gp 1 d (ja t) Bs++dst 2 d (λm=>decide (m∈S)) Bs (uB (gR (gp 1 d (ja t) Bs)) aN)):=by
 unfold M.oa;refine Wp.eq (Wp.seq (λj=>j=(gR (gp 1 d (ja t) Bs),gp 1 d (ja t) Bs)) ?_ λj hj=>?_)
 .refine Wp.count (λs=>s.2.1) Bs.length (λk s=>s.1=gR (gp 1 d (ja t) (Bs.take k))/\s.2.2=gp 1 d (ja t) (Bs.take k)) (by omega) rfl ⟨rfl,rfl⟩ λk s hk hs hJ=>?_
  obtain⟨a,c,o⟩:=s;obtain⟨j1,j2⟩:=hJ;dsimp only at hs j1 j2;subst hs j1 j2
  refine .dec (λaH=>?_) λhge=> .some ?_
  .have aH:k<Bs.length:=by dsimp only at aH;omega
   have EA:(gp 1 d (ja t) (Bs.take k)).length<=k:=aiY (B.tw _) (by simp;omega)
   refine Wp.seq (λj=>j.1=gR (gp 1 d (ja t) (Bs.take (k+1)))/\j.2=gp 1 d (ja t) (Bs.take (k+1))) ?_ λj hj=> .some ⟨aH,aT (by omega),hj⟩
   refine .bind (.idx k rfl aH ?_);rw[Gj,aiD,<-aiP aH,B.zR];generalize Bs[k]=b;generalize gp 1 d (ja t) (Bs.take k)=o at*
   refine Wp.seq (λj=>j=decide (ja t b<=0)) (.dec (λg=> .some ?_) λg=> .some ?_) λj hj=>?_
   .unfold ja;rw[aj g];rfl
   .unfold ja;rw[ai g]
   subst hj
   refine .dec (λg=>?_) λg=>?_
   .rw[aj g,ajv];exact .some ⟨rfl,rfl⟩
   .rw[ai g]
    have ea:ja t b=tt b:=by
     unfold ja at g⊢;split
     .rename_i q;rw[aj q]at g;omega
     .rfl
    rw[ea];refine .bind (.app (by simp;omega) (.some ⟨?_,rfl⟩));rw[B.xE,IntWalk.i64_left]
  .have:k=Bs.length:=by dsimp only at hge;omega
   subst this;rw[aiS];exact(Eq.refl (gR (gp 1 d (ja t) Bs),gp 1 d (ja t) Bs))
 .subst hj;have h1:=B.tw (k:=1) (d:=d) (f:=ja t) Bs;have h2:=B.tv (k:=2) (d:=d) (st:=λm=>decide (m∈S)) Bs (uB (gR (gp 1 d (ja t) Bs)) aN);rw[PB _ _ _ _ _ hB hS,aiD];exact .bind (.app (by dsimp only;omega) (.some rfl))
end L
end
section
namespace L
open B (fR fV sR sV Gd jE mX tt pR ja gp dst Ee gR keeps)
def J1(c:cO.den)(hc:c.2.length<=64)(d:Int)(h0:0<=d)(h1:d<=109572):Wp (M.mz aV c d) λ_=>True:=by
 unfold M.mz
 refine Wp.seq (λw=>0<=w/\w<=6) ?_ λw hw=>?_
 .unfold M.py M.gZ
  refine Wp.seq (λj=>j=af) (Wp.seq (λj=>j=af) (.dec (λ_=> .some (aq h1)) λg=>absurd h0 g) λj hj=> .some hj) λj hj=>?_
  subst hj
  refine .ite (λg=>by cases g) λ_=> .some ⟨Int.tmod_nonneg _ h0,?_⟩
  have:=Int.tmod_lt_of_pos d (b:=7) (by omega);omega
 .refine Wp.seq (λ_=>True) ?_ λx _=> .fD (λ_=> .some trivial) λ_=>Wp.seq _ (zN c.2 d (by omega)) λ_ _=> .some trivial
  unfold BU;rw[ai (by omega)];exact .some trivial
def HG(c:cO.den)(hc:c.2.length<=64)(d n:Int)(h0:0<=d)(h1:d<=109573):Wp (M.mJ aV c d n) λ_=>True:=by
 unfold M.mJ;refine Wp.loop (λs=>0<=s.1/\s.1<=109573) (λs=>(109573-s.1).toNat) ⟨h0,h1⟩ (by dsimp only;unfold aV;omega) ?_
 rintro⟨a,b⟩ ⟨h0,h1⟩
 dsimp only at h0 h1⊢
 refine .dec (λh=> .join (Wp.seq _ (J1 c hc a h0 h) λy _=>?_)) λ_=> .some trivial
 have next:∀j:Int,Wp (aa (Sum.inl (aiE.wrap (a+1),j)):Option ((Int×Int)⊕(Int×Int))) (zo (λs=>0<=s.1/\s.1<=109573) (λs=>(109573-s.1).toNat) (a,b) λ_=>True):=λj=>by
  rw[aX (by omega) (by omega)];exact .some ⟨⟨by dsimp only;omega,by dsimp only;omega⟩,by dsimp only;omega⟩
 exact .ite (λ_=> .some (next _)) λ_=> .dec (λ_=> .some trivial) λ_=> .some (next _)
def vb(c:cO.den)(d n:Int):Wp (M.jC aV c d n) λ_=>True:=by
 unfold M.jC
 refine Wp.seq (λ_=>True) ?_ λy _=> .fD (λ_=> .some trivial) λ_=> .some trivial
 have WU:∀d,M.eJ aV d=aa (decide (0<=d/\d<=109572)):=λd=>o8 d
 unfold M.qi
 refine Wp.seq _ (Bw c) λv hv=> .ite (λ_=> .some trivial) λg=>?_
 have hc:=hv (by simpa using g)
 refine Wp.seq (λj=>j=ag->0<=d/\d<=109572) ?_ λj hj=> .ite (λ_=> .some trivial) λg=>?_
 .rw[WU,aiD]
  refine .ite (λ_=> .some λh=>by cases h) λh=> .dec (λ_=> .some λh=>by cases h) λ_=> .some λ_=>?_
  exact an (by simpa using h)
 obtain⟨h0,h1⟩:=hj (by simpa using g)
 refine .dec (λ_=>Wp.seq (λ_=>True) ?_ λ_ _=> .some trivial) λ_=>Wp.seq _ (HG c hc _ _ ?_ ?_) λ_ _=> .some trivial
 .unfold M.pz
  refine Wp.seq _ (Bw c) λv _=> .ite (λ_=> .some trivial) λ_=>?_
  rw[WU,aiD]
  exact .ite (λ_=> .some trivial) λ_=>Wp.seq _ (HG c hc d 1 h0 (by omega)) λ_ _=> .some trivial
 .rw[aX (by omega) (by omega)];omega
 .rw[aX (by omega) (by omega)];omega
def M9(i a b d n:Int)(aN:Cf):Wp (M.oc aV i a b d n aN) λ_=>True:=by
 have WU:∀d,M.my aV d=aa (decide (0<=d/\d<=109572)):=λd=>o8 d
 unfold M.oc
 refine Wp.seq (λ_=>True) ?_ λ_ _=> .ite (λ_=> .some trivial) λ_=> .dec (λ_=> .some trivial) λ_=>Wp.seq (λ_=>True) ?_ λ_ _=> .ite (λ_=> .some trivial) λ_=>Wp.seq (λ_=>True) ?_ λ_ _=> .some trivial
 .rw[WU,WU,aiD]
  refine .dec (λ_=> .some trivial) λ_=> .ite (λ_=> .some trivial) λ_=>?_
  rw[aiD]
  refine .ite (λ_=> .some trivial) λ_=>?_
  unfold M.fj
  exact Wp.seq (λ_=>True) (Wp.seq (λ_=>True) (.dec (λ_=> .dec (λ_=> .dec (λ_=> .some trivial) λ_=> .some trivial) λ_=> .some trivial) λ_=> .some trivial) λ_ _=> .some trivial) λ_ _=> .some trivial
 .exact Wp.seq _ (Bw _) λ_ _=> .ite (λ_=> .some trivial) λ_=> .dec (λ_=> .some trivial) λ_=> .some trivial
 .exact Wp.seq _ (vb _ _ _) λ_ _=> .dec (λ_=> .some trivial) λ_=>Wp.seq _ (vb _ _ _) λ_ _=> .some trivial
def J2(a:Ap)(st c d:Int):Wp (M.iZ aV a st c d) λ_=>True:=by
 unfold M.iZ
 refine Wp.seq (λ_=>True) ?_ λ_ _=> .ite (λ_=> .some trivial) λ_=> .dec (λ_=> .some trivial) λ_=>Wp.seq (λ_=>True) (.dec (λ_=> .dec (λ_=> .some trivial) λ_=> .some trivial) λ_=> .some trivial) λ_ _=> .ite (λ_=> .some trivial) λ_=>Wp.seq (λ_=>True) (.dec (λ_=> .some trivial) λ_=> .dec (λ_=> .some trivial) λ_=> .fD (λ_=> .some trivial) λ_=> .some trivial) λ_ _=> .ite (λ_=> .some trivial) λ_=> .some trivial
 unfold M.mf
 have three:∀b c d:Int,Wp (((if(decide (st=b))=af then aa af else(if(decide (st=c))=af then aa af else aa (decide (st=d)))):Option Bool).bind λj1=>aa j1) λ_=>True:=λb c d=>Wp.seq (λ_=>True) (.dec (λ_=> .some trivial) λ_=> .dec (λ_=> .some trivial) λ_=> .some trivial) λ_ _=> .some trivial
 exact .dec (λ_=>three _ _ _) λ_=> .dec (λ_=>three _ _ _) λ_=> .some trivial
def uC{α:Type}(l:List α)(h:l.length<=1048576):(if aiK l.length 0=af then yg (aa ([]:List α)) ((cA ([]:List α) l).bind λl1=>aa l1)else(cA ([]:List α) l).bind λl2=>aa l2)=aa l:=by
 rw[fJ (by simp;omega),ajf,aiD];split
 .rename_i h0;obtain rfl:=List.length_eq_zero_iff.1 (beq_true h0);unfold yg;rw[aj rfl]
 .rfl
def Na(l:List ku)(h:l.length<=1048576):M.bP aV l=aa l:=uC l h
def Tl(l:List P4)(h:l.length<=1048576):M.cd aV l=aa l:=uC l h
def Tm(l:List Ap)(h:l.length<=1048576):M.cg aV l=aa l:=uC l h
def D5(s:xF)(h1:s.1.2.2.2.length<=1048576)(h2:s.2.1.length<=1048576)(h3:s.2.2.1.length<=1048576):M.mq aV s=aa (s.1.1,s.1.2.1,s.1.2.2.1,s.2.2.2,s.1.2.2.2,s.2.1,s.2.2.1):=by
 unfold M.mq;rw[Na _ h1,Tl _ h2,Tm _ h3];rfl
def BA(new:List P4)(i c m:Int)(dl:Ty)(fs:List ku)(ps:List P4)(app:List Ap)(h1:new.length<=1000000)(h2:ps.length<=1000000):M.ig aV new i c m dl fs ps app=aa (if 4096<ps.length+new.length then((4:Int),i,c,m,dl,fs,app,ps)else((0:Int),i,c,m,dl,fs,app,ps++new)):=by
 unfold M.ig;rw[aX (by omega) (by omega)];by_cases h:4096<ps.length+new.length
 .rw[aj (aq (by omega)),aj h]
 .rw[ai (by rw[az];omega),ai h,fJ (by omega),aiD]
noncomputable def vu(l:Lw)(h:Hh)(aN:Cf)(ps:List P4)(app:List Ap)(d t:Int):List P4:=
 gp 1 d (ja t) (oA l h aN ps app d (nr aN t))++dst 2 d (λm=>decide (m∈B.pH app)) (oA l h aN ps app d (nr aN t)) (uB (gR (gp 1 d (ja t) (oA l h aN ps app d (nr aN t)))) aN)
def xH(app:List Ap):(B.pH app).length<=3600:=by
 unfold B.pH;rw[List.length_map];exact aiY (ajt _ _) (by simp)
def zU(app:List Ap)(h:app.length<=1000):M.dP aV app=aa (B.pH app):=B.vr app h (by unfold aV;omega)
def Nb{l:Lw}{h:Hh}{aN:Cf}{ps:List P4}{app:List Ap}{d t:Int}:(vu l h aN ps app d t).length<=2*nr aN t:=by
 unfold vu;have h0:=tB l h aN ps app d (nr aN t);have h1:=B.tw (k:=1) (d:=d) (f:=ja t) (oA l h aN ps app d (nr aN t));have h2:=B.tv (k:=2) (d:=d) (st:=λm=>decide (m∈B.pH app)) (oA l h aN ps app d (nr aN t)) (uB (gR (gp 1 d (ja t) (oA l h aN ps app d (nr aN t)))) aN);rw[List.length_append];omega
noncomputable instance(aN:Cf)(m:Int):Decidable (tA aN m):=aiZ _
def zV{l:Lw}{aN:Cf}{i c m:Int}{fs:List ku}(H:Acc l (i,(c,(m,fs))) aN)(f0:(0:Int)<=aN.2.2.2.2.2.1)(f1:(aN.2.2.2.2.2.1:Int)<=3599)(e:b7.den)(dl:Ty){ps:List P4}{app:List Ap}(hp:ps.length<=4096)(ha:app.length<=1000):
 M.gL aV l aN e i c m dl fs ps app=aa (if¬tA aN e.2.2.1 then((3:Int),i,c,m,dl,fs,app,ps)else if(e.2.2.1:Int)<dl.2 then((9:Int),i,c,m,dl,fs,app,ps)else
   if 4096<ps.length+(vu l (i,(c,(m,fs))) aN ps app e.2.1 e.2.2.1).length then((4:Int),i,c,m,(dl.1,e.2.2.1),fs,app,ps)else((0:Int),i,c,m,(dl.1,e.2.2.1),fs,app,ps++vu l (i,(c,(m,fs))) aN ps app e.2.1 e.2.2.1)):=by
 unfold M.gL;obtain⟨b,hb,pX⟩:=xG f0 f1 e.2.2.1;rw[hb,aiD];by_cases Hy:tA aN e.2.2.1
 .obtain rfl:=pX.2 Hy;rw[ai (show¬¬tA aN e.2.2.1 from λg=>g Hy)];refine Wp.eq (.ite (λg=>by cases g) λ_=> .dec (λaH=>by rw[aj aH];exact .some rfl) λaH=>?_);have hn:=HD f0 (.inr Hy);have hl:=tB l (i,(c,(m,fs))) aN ps app e.2.1 (nr aN e.2.2.1);have hm:=xH app;have hq:(vu l (i,(c,(m,fs))) aN ps app e.2.1 e.2.2.1).length<=2*nr aN e.2.2.1:=Nb;rw[ai aH,va H f0 (by omega) ha dl (.inr Hy) e.2.1,aiD,zU _ ha,aiD,Tj _ _ _ _ _ (by omega) (by omega),aiD]
  show Wp ((M.ig aV (vu l (i,(c,(m,fs))) aN ps app e.2.1 e.2.2.1) i c m (dl.1,e.2.2.1) fs ps app).bind λy5=>aa (y5.1,y5.2.1,y5.2.2.1,y5.2.2.2.1,y5.2.2.2.2.1,y5.2.2.2.2.2.1,y5.2.2.2.2.2.2.1,y5.2.2.2.2.2.2.2)) _
  rw[BA _ _ _ _ _ _ _ _ (by omega) (by omega),aiD];exact .some rfl
 .have:b=ag:=by
   cases b with
   |true=>exact absurd (pX.1 rfl) Hy
   |false=>rfl
  subst this;refine Wp.eq (.ite (λ_=>by rw[aj Hy];exact .some rfl) λg=>absurd rfl g)
structure QB(s:xF)(fs:List ku)(ps:List P4)(app:List Ap):Prop where
 new:∃q,ps=s.2.1++q/\keeps s.2.1 q
 pl:ps.length<=4096
 fl:fs.length<=s.1.2.2.2.length+1
 al:app.length<=17
def By.facts{l:Lw}{aN:Cf}{s:xF}(h:By l aN s):s.1.2.2.2.length<=128:=by
 obtain⟨_,_,hs,hx⟩:=qB h.hh;exact(Br.1 (Bt.1 hx).2.1).1
def By.same{l:Lw}{aN:Cf}{s:xF}(h:By l aN s):QB s s.1.2.2.2 s.2.1 s.2.2.1:=⟨⟨[],by simp,B.zS h.sm⟩,h.pl,by omega,by have:=h.al;omega⟩
def By.WV{l:Lw}(hw:WF bV l)(gv:ei l){aN:Cf}{s:xF}(h:By l aN s)(r:Int)(n:Nat):(∀b∈oA l s.1 aN s.2.1 s.2.2.1 r n,mX s.2.1 b)/\((oA l s.1 aN s.2.1 s.2.2.1 r n).map Prod.fst).Nodup:=⟨PA (h.acc hw gv) h.pl h.pk h.sm h.wv h.ac r n,Gi (h.acc hw gv) _ _ _ _⟩
def Gl{l:Lw}(hw:WF bV l)(gv:ei l){aN:Cf}{s:xF}(h:By l aN s)(d t:Int):keeps s.2.1 (vu l s.1 aN s.2.1 s.2.2.1 d t):=by
 obtain⟨h1,h2⟩:=h.WV hw gv d (nr aN t);exact B.JP h.sm h1 h2
def Gm{l:Lw}{aN:Cf}{s:xF}(h:By l aN s)(e:b7.den):Wp (M.iR aV l e s.1.1 s.1.2.1 s.1.2.2.1 s.2.2.2 s.1.2.2.2 s.2.1 s.2.2.1) λy=>y.1=0->y.2.1=s.1.1/\y.2.2.1=s.1.2.1/\y.2.2.2.1=s.1.2.2.1/\y.2.2.2.2.1=s.2.2.2/\QB s y.2.2.2.2.2.2.2 y.2.2.2.2.2.1 y.2.2.2.2.2.2.1:=by
 have h1:=h.facts;unfold M.iR
 refine .fD (λ_=> .some λg=>by cases g) λ_=> .bind (.app (by simp;omega) ?_)
 rw[Bq,aiD]
 exact .some λ_=>⟨rfl,rfl,rfl,rfl,h.same.new,h.pl,by simp,h.same.al⟩
def BB{l:Lw}{aN:Cf}{s:xF}(h:By l aN s)(e:b7.den):Wp (M.gz aV aN e s.1.1 s.1.2.1 s.1.2.2.1 s.2.2.2 s.1.2.2.2 s.2.1 s.2.2.1) λy=>y.1=0->y.2.1=s.1.1/\y.2.2.1=s.1.2.1/\y.2.2.2.1=s.1.2.2.1/\y.2.2.2.2.1=s.2.2.2/\QB s y.2.2.2.2.2.1 y.2.2.2.2.2.2.1 y.2.2.2.2.2.2.2:=by
 unfold M.gz
 refine .dec (λ_=> .some λg=>by cases g) λaH=>Wp.seq _ (M9 _ _ _ _ _ _) λy _=> .fD (λg=> .some λq=>absurd q g) λ_=> .bind (.app (by simp;omega) (.some λ_=>⟨rfl,rfl,rfl,rfl,h.same.new,h.pl,h.same.fl,by simp;omega⟩))
def BC{l:Lw}{aN:Cf}{s:xF}(h:By l aN s)(e:b7.den):Wp (M.gA aV e s.1.1 s.1.2.1 s.1.2.2.1 s.2.2.2 s.1.2.2.2 s.2.1 s.2.2.1) λy=>y.1=0->y.2.1=s.1.1/\y.2.2.1=s.1.2.1/\y.2.2.2.1=s.1.2.2.1/\y.2.2.2.2.1=s.2.2.2/\QB s y.2.2.2.2.2.1 y.2.2.2.2.2.2.1 y.2.2.2.2.2.2.2:=by
 have Up:=h.al;unfold M.gA
 refine Wp.seq (λj=>j=ag->(0:Int)<=e.2.2.2.2.2.1/\(e.2.2.2.2.2.1:Int)<(s.2.2.1.length:Int)) (.dec (λ_=> .some λg=>by cases g) λg=> .some λg'=>⟨ajy.1 g,Int.not_le.1 (ao g')⟩) λj hj=> .ite (λ_=> .some λg=>by cases g) λg=>?_
 obtain⟨h0,h1⟩:=hj (by simpa using g);obtain⟨k,hk⟩:=aiI h0
 have Kj:k<s.2.2.1.length:=by
  have:(k:Int)<(s.2.2.1.length:Int):=hk▸h1;omega
 refine .bind (.idx k hk Kj (Wp.seq _ (J2 _ _ _ _) λy _=> .fD (λg=> .some λq=>absurd q g) λ_=> .bind (.idx k hk Kj (.some λ_=>⟨rfl,rfl,rfl,rfl,h.same.new,h.pl,h.same.fl,?_⟩))));rw[cB];omega
def By.QC{l:Lw}(hw:WF bV l)(gv:ei l){aN:Cf}{s:xF}(h:By l aN s)(r:Int):M.eh aV l aN ((s.1.1,(s.1.2.1,(s.1.2.2.1,s.1.2.2.2))),(s.2.1,(s.2.2.1,s.2.2.2))) s.2.2.2.2 r=aa (oA l s.1 aN s.2.1 s.2.2.1 r (nr aN s.2.2.2.2))/\nr aN s.2.2.2.2<=120:=
 ⟨va (h.acc hw gv) h.f0 (by have:=h.pl;omega) (by have:=h.al;omega) _ h.lm r,HD h.f0 h.lm⟩
def D6{l:Lw}(hw:WF bV l)(gv:ei l){aN:Cf}{s:xF}(h:By l aN s)(e:b7.den):Wp (M.ij aV l aN e s.1.1 s.1.2.1 s.1.2.2.1 s.2.2.2 s.1.2.2.2 s.2.1 s.2.2.1) λy=>y.1=0->y.2.1=s.1.1/\y.2.2.1=s.1.2.1/\y.2.2.2.1=s.1.2.2.1/\y.2.2.2.2.1=s.2.2.2/\QB s y.2.2.2.2.2.1 y.2.2.2.2.2.2.2 y.2.2.2.2.2.2.1:=by
 have EA:=h.pl;unfold M.ij
 refine Wp.seq (λj=>j=ag->(1:Int)<=e.2.2.2.2.2.2.2.1/\(e.2.2.2.2.2.2.2.1:Int)<=1000000000000000) (.dec (λ_=> .some λg=>by cases g) λg=> .some λg'=>⟨ajy.1 g,ajy.1 (ao g')⟩) λj hj=> .ite (λ_=> .some λg=>by cases g) λg=>?_
 obtain⟨h0,h1⟩:=hj (by simpa using g);obtain⟨eb,hn⟩:=h.QC hw gv e.2.1;obtain⟨b1,b2⟩:=h.WV hw gv e.2.1 (nr aN s.2.2.2.2);have hl:=tB l s.1 aN s.2.1 s.2.2.1 e.2.1 (nr aN s.2.2.2.2);rw[eb,aiD];generalize oA l s.1 aN s.2.1 s.2.2.1 e.2.1 (nr aN s.2.2.2.2)=Bs at*
 refine Wp.seq (λy=>y.2=[]\/∃st,y.2=dst 3 e.2.1 st Bs e.2.2.2.2.2.2.2.1) ?_ λy hy=>?_
 .unfold M.nG
  refine .dec (λ_=> .some (.inl rfl)) λ_=>?_
  rw[HF _ _ _ _ _ (by omega) (Int.le_trans h1 (by decide)),aiD];exact .some (.inr ⟨_,rfl⟩)
 have N5:y.2.length<=120/\keeps s.2.1 y.2:=by
  rcases hy with hy|⟨st,hy⟩
  .rw[hy];exact⟨by simp,B.zS h.sm⟩
  .rw[hy];exact⟨aiY (B.tv _ _) (by omega),B.JO (.inr rfl) h.sm b1 b2⟩
 refine .dec (λ_=> .some λg=>by cases g) λ_=>?_
 rw[BA _ _ _ _ _ _ _ _ (by omega) (by omega),aiD];split
 .exact .some λg=>by cases g
 .exact .some λ_=>⟨rfl,rfl,rfl,rfl,⟨_,rfl,N5.2⟩,by simp;omega,h.same.fl,h.same.al⟩
def D7{l:Lw}(hw:WF bV l)(gv:ei l){aN:Cf}{s:xF}(h:By l aN s)(e:b7.den):Wp (M.ik aV l aN e s.1.1 s.1.2.1 s.1.2.2.1 s.2.2.2 s.1.2.2.2 s.2.1 s.2.2.1) λy=>y.1=0->y.2.1=s.1.1/\y.2.2.1=s.1.2.1/\y.2.2.2.1=s.1.2.2.1/\y.2.2.2.2.1=s.2.2.2/\QB s y.2.2.2.2.2.1 y.2.2.2.2.2.2.2 y.2.2.2.2.2.2.1:=by
 have EA:=h.pl;unfold M.ik
 refine Wp.seq (λ_=>True) (.dec (λ_=> .some trivial) λg=> .some trivial) λj _=> .ite (λ_=> .some λg=>by cases g) λg=>?_
 obtain⟨eb,hn⟩:=h.QC hw gv e.2.1;have hl:=tB l s.1 aN s.2.1 s.2.2.1 e.2.1 (nr aN s.2.2.2.2);rw[eb,aiD];generalize oA l s.1 aN s.2.1 s.2.2.1 e.2.1 (nr aN s.2.2.2.2)=Bs at*
 refine Wp.seq (λy=>(y.1:Int)<(Bs.length:Int)) ?_ λy hy=>?_
 .unfold M.bq
  refine Wp.count (λs=>s.1) Bs.length (λ_ _=>True) (by omega) rfl trivial λk q hk hq _=>?_
  obtain⟨c,z⟩:=q;dsimp only at hq;subst hq
  refine .dec (λaH=>?_) λ_=> .some (show(-1:Int)<(Bs.length:Int) by omega)
  have aH:k<Bs.length:=by dsimp only at aH;omega
  refine .bind (.idx k rfl aH ?_);unfold M.gk;exact .bind (.some (.ite (λ_=> .some (show(k:Int)<(Bs.length:Int) by omega)) λ_=> .some ⟨aH,aT (by omega),trivial⟩))
 refine .dec (λ_=> .some λg=>by cases g) λh0=>?_
 obtain⟨k,hk⟩:=aiI (ajy.1 h0)
 have Kj:k<Bs.length:=by
  have:(k:Int)<(Bs.length:Int):=hk▸hy;omega
 refine .bind (.idx k hk Kj ?_);rw[HE,aiD]
 refine .dec (λ_=> .some λg=>by cases g) λ_=>?_
 rw[BA _ _ _ _ _ _ _ _ (by simp) (by omega),aiD];split
 .exact .some λg=>by cases g
 .exact .some λ_=>⟨rfl,rfl,rfl,rfl,⟨_,rfl,B.DZ h.sm⟩,by simp at*;omega,h.same.fl,h.same.al⟩
end L
end
section
namespace L
open B (fR fV sR sV Gd jE mX tt pR ja gp dst Ee gR keeps jD)
abbrev Out:Type:=Int×Int×Int×(List bj.den)×(List aC.den)×(List aP.den)×aD.den×Int
def Nc(y:Out):xF:=((y.1,(y.2.1,(y.2.2.1,y.2.2.2.1))),(y.2.2.2.2.1,(y.2.2.2.2.2.1,y.2.2.2.2.2.2.1)))
def Nd{l:Lw}(hw:WF bV l)(gv:ei l)(aN:Cf)(s:xF)(e:b7.den):Wp (M.fc aV l aN s e) λy=>
 ((y.2.2.2.2.2.2.2:Int)≠0/\Nc y=s)\/((y.2.2.2.2.2.2.2:Int)=0/\By l aN s/\y.1=s.1.1/\y.2.1=s.1.2.1/\y.2.2.1=s.1.2.2.1/\QB s y.2.2.2.1 y.2.2.2.2.1 y.2.2.2.2.2.1/\((e.1:Int)=2->y.2.2.2.2.1=s.2.1++vu l s.1 aN s.2.1 s.2.2.1 e.2.1 e.2.2.1)):=by
 unfold M.fc
 refine Wp.seq _ (uZ hw gv aN s) λv hv=> .fD (λ_=> .some (.inl ⟨show(1:Int)≠0 by decide,rfl⟩)) λh0=>?_
 have h:=hv h0;have h1:=h.facts;have h2:=h.pl;have h3:=h.al;rw[o8,aiD]
 refine .ite (λ_=> .some (.inl ⟨show(3:Int)≠0 by decide,rfl⟩)) λ_=> .dec (λ_=> .some (.inl ⟨show(9:Int)≠0 by decide,rfl⟩)) λ_=>?_
 rw[D5 s (by omega) (by omega) (by omega),aiD]
 refine Wp.seq (λj=>j.1=0->j.2.1=s.1.1/\j.2.2.1=s.1.2.1/\j.2.2.2.1=s.1.2.2.1/\QB s j.2.2.2.2.2.1 j.2.2.2.2.2.2.1 j.2.2.2.2.2.2.2/\((e.1:Int)=2->j.2.2.2.2.2.2.1=s.2.1++vu l s.1 aN s.2.1 s.2.2.1 e.2.1 e.2.2.1)) ?_ λj hj=>?_
 .refine .dec (λg=>Wp.seq _ (Gm h e) λy hy=> .some λq=>?_) λg1=> .dec (λg=>?_) λg2=> .dec (λg=>Wp.seq _ (BB h e) λy hy=> .some λq=>?_) λ_=> .dec (λg=>Wp.seq _ (BC h e) λy hy=> .some λq=>?_) λ_=> .dec (λg=>Wp.seq _ (D6 hw gv h e) λy hy=> .some λq=>?_) λ_=> .dec (λg=>Wp.seq _ (D7 hw gv h e) λy hy=> .some λq=>?_) λ_=> .some λq=>by cases q
  .obtain⟨a,b,c,_,d⟩:=hy q;exact⟨a,b,c,d,λk=>by have:(2:Int)=1:=k.symm.trans g;omega⟩
  .have e':=zV (i:=s.1.1) (c:=s.1.2.1) (m:=s.1.2.2.1) (fs:=s.1.2.2.2) (h.acc hw gv) h.f0 h.f1 e s.2.2.2 h2 (app:=s.2.2.1) (by omega);dsimp only;rw[e',aiD]
   refine .some λq=>?_
   split at q
   .cases q
   split at q
   .cases q
   split at q
   .cases q
   rename_i q1 q2 q3;rw[ai q1,ai q2,ai q3];refine⟨rfl,rfl,rfl,⟨⟨_,rfl,Gl hw gv h _ _⟩,?_,h.same.fl,h.same.al⟩,λ_=>rfl⟩;rw[List.length_append];exact Nat.not_lt.1 q3
  .obtain⟨a,b,c,_,d⟩:=hy q;exact⟨a,b,c,d,λk=>by have:(2:Int)=3:=k.symm.trans g;omega⟩
  .obtain⟨a,b,c,_,d⟩:=hy q;exact⟨a,b,c,d,λk=>by have:(2:Int)=4:=k.symm.trans g;omega⟩
  .obtain⟨a,b,c,_,d⟩:=hy q;exact⟨a,b,c,d,λk=>by have:(2:Int)=5:=k.symm.trans g;omega⟩
  .obtain⟨a,b,c,_,d⟩:=hy q;exact⟨a,b,c,d,λk=>by have:(2:Int)=6:=k.symm.trans g;omega⟩
 .refine .fD (λg=> .some (.inl ⟨g,rfl⟩)) λg=> .some (.inr ⟨rfl,h,?_⟩)
  obtain⟨a,b,c,d,k⟩:=hj g;exact⟨a,b,c,d,k⟩
def Gn(l:List ku)(h:l.length<=1048576):M.pB aV l l=aa af:=by
 unfold M.pB;rw[ai (by simp)];refine w9 h (λk hk=>?_) ?_
 .simp only[mB hk,aF hk,aiD,if_true,w8,Bool.not_true,aiX,if_false]
 .simp only[oX,decide_false,aiX,if_false,aiD]
def Gp(l:List P4)(h:l.length<=1048576):M.mA aV l l=aa af:=by
 unfold M.mA;rw[ai (by simp)];refine w9 h (λk hk=>?_) ?_
 .simp only[mB hk,aF hk,aiD,if_true,w8,Bool.not_true,aiX,if_false]
 .simp only[oX,decide_false,aiX,if_false,aiD]
def BD(l:List Ap)(h:l.length<=1048576):M.nl aV l l=aa af:=by
 unfold M.nl;rw[ai (by simp)];refine w9 h (λk hk=>?_) ?_
 .simp only[mB hk,aF hk,aiD,if_true,w8,Bool.not_true,aiX,if_false]
 .simp only[oX,decide_false,aiX,if_false,aiD]
def BE(s:xF)(h1:s.1.2.2.2.length<=1048576)(h2:s.2.1.length<=1048576)(h3:s.2.2.1.length<=1048576):M.lK aV s s=aa af:=by
 unfold M.lK M.nI;simp only[decide_true,if_true,Gn _ h1,Gp _ h2,BD _ h3,aiD]
def J3(a:xF)(k9:List P4)(d t:Int)(Bs:List P4)(aN:Cf)(S:List Int)(hS:S.length<=1000000)(ho:a.2.1=k9++(gp 1 d (ja t) Bs++dst 2 d (λm=>decide (m∈S)) Bs (uB (gR (gp 1 d (ja t) Bs)) aN)))(hl:a.2.1.length<=1000000):M.kM aV a (k9.length:Int) aN S=aa af:=by
 obtain⟨P,hP⟩:∃P,P=gp 1 d (ja t) Bs:=⟨_,rfl⟩
 obtain⟨D,hD⟩:∃D,D=dst 2 d (λm=>decide (m∈S)) Bs (uB (gR P) aN):=⟨_,rfl⟩
 rw[<-hP,<-hD]at ho
 have hPk:∀p∈P,p.2.2.1=1:=λp hp=>(B.xA Bs p (hP▸hp)).2.1
 have hDk:∀p∈D,p.2.2.1=2/\p.2.1∉S/\1<=p.2.2.2:=λp hp=>by
  obtain⟨_,h2,h3,_,_,_,h4,_⟩:=B.mj Bs _ p (hD▸hp);exact⟨h2,ao h3,h4⟩
 obtain⟨L0,L1⟩:=D4 (gR P) aN
 have hc:jD D<=uB (gR P) aN:=by
  rcases B.Gb 2 d (λm=>decide (m∈S)) Bs (uB (gR P) aN)with h|h
  .rw[hD,h];exact L0
  .rw[hD];exact h
 have LV:=λn=>B.Gf (l:=D) (λp hp=>(hDk p hp).2.2) n
 have hlen:a.2.1.length=k9.length+P.length+D.length:=by rw[ho];simp;omega
 unfold M.kM;refine Wp.eq (.join (Wp.mono (Q:=λu=>u=Sum.inl (gR P,jD D)) ?_ λu hu=>?_))
 .refine Wp.count (λs=>s.2.2-(k9.length:Int)) (P.length+D.length) (λk s=>s.1=gR (P.take k)/\s.2.1=jD (D.take (k-P.length))) (by omega) (by dsimp only;omega) ⟨rfl,by simp;rfl⟩ λk s hk hs hJ=>?_
  obtain⟨x,y,c⟩:=s;obtain⟨j1,j2⟩:=hJ;dsimp only at hs j1 j2
  obtain rfl:c=((k9.length+k:Nat):Int):=by omega
  subst j1 j2
  refine .dec (λaH=>?_) λhge=> .some ?_
  .have aH:k9.length+k<a.2.1.length:=by dsimp only at aH;omega
   have Kj:k<P.length+D.length:=by omega
   have hw:aiE.wrap (((k9.length+k:Nat):Int)+1)-(k9.length:Int)=((k+1:Nat):Int):=by rw[aX (by omega) (by omega)];omega
   refine .join (Wp.mono (Q:=λu=>u=Sum.inl (gR (P.take (k+1)),jD (D.take (k+1-P.length)))) ?_ λu hu=>?_)
   .refine .join (.bind (.idx (k9.length+k) rfl aH ?_))
    have hg:a.2.1[k9.length+k]? =(P++D)[k]? :=by rw[ho,List.getElem?_append_right (by omega)];congr 1;omega
    rw[aiG aH,aiG (by rw[List.length_append];exact Kj)]at hg;have hg:=aiF hg;rw[hg];by_cases hkP:k<P.length
    .rw[ai7 hkP];have h1:=hPk _ (aiJ hkP)
     refine .dec (λ_=> .some (.some ?_)) λg=>absurd h1 g
     rw[<-aiP hkP,B.xE,IntWalk.i64_left,show k-P.length=0 by omega,show k+1-P.length=0 by omega]
    .rw[ajc (by omega)]
     have hkD:k-P.length<D.length:=by omega
     obtain⟨h1,h2,h3⟩:=hDk _ (aiJ hkD)
     have e1:k+1-P.length=(k-P.length)+1:=by omega
     have e2:P.take (k+1)=P.take k:=by rw[ajD (by omega),ajD (by omega)]
     have e3:jD (D.take (k-P.length+1))=jD (D.take (k-P.length))+D[k-P.length].2.2.2:=by
      rw[<-aiP hkD];unfold jD;rw[List.map_append,List.sum_append,ai2,List.map_nil,ai9,List.sum_nil,Int.add_zero]
     have hb:=LV (k-P.length);have pX:=LV (k-P.length+1);rw[e1,e2];generalize D[k-P.length]=p at*
     refine .dec (λg=>by have:(2:Int)=1:=h1.symm.trans g;omega) λ_=>?_
     refine Wp.count (λs=>s) S.length (λ_ _=>True) (by omega) rfl trivial λi q hi hq _=>?_
     obtain rfl:q=_:=hq
     refine .dec (λg=>?_) λ_=> .some (.some ?_)
     .have pJ:i<S.length:=by omega
      refine .bind (.idx i rfl pJ (.dec (λg=>absurd (g▸aiJ pJ) h2) λ_=> .some ⟨pJ,aT (by omega),trivial⟩))
     .dsimp only;rw[aX (by omega) (by omega),e3]
   .subst hu;exact .some ⟨Kj,hw,rfl,rfl⟩
  .have:k=P.length+D.length:=by dsimp only at hge;omega
   subst this;dsimp only;rw[ajD (by omega),ajD (by omega)];exact(rfl:(Sum.inl (gR P,jD D):(Int×Int)⊕Bool)=Sum.inl (gR P,jD D))
 .subst hu
  show Wp ((M.dq aV (gR P) aN).bind λy8=>aa (decide (jD D<=y8))) _
  rw[D3,aiD];exact .some (aq hc)
end L
end
section
namespace L
open B (fR fV sR sV tt pR ja gp dst)
def o9:bV.den:=(([]:List dY.den),(([]:List bm.den),([((⟨#[104,111,117,115,101]⟩:ByteArray),((-1:Int),(([((⟨#[97]⟩:ByteArray),((3:Int),(0:Int)))]:List bA.den),(([((⟨#[100]⟩:ByteArray),((3:Int),(0:Int)))]:List bA.den),([((⟨#[98,97,115,101]⟩:ByteArray),((0:Int),((-1:Int),((0:Int),(((0:Int),(109573:Int)),(([]:List aD.den),(([((7:Int),(0:Int))]:List aD.den),ByteArray.empty)))))))]:List da.den)))))]:List aM.den)))
def mN:Cf:=((0:Int),((0:Int),((1:Int),((0:Int),((0:Int),((0:Int),((0:Int),((0:Int),([]:List Int)))))))))
def BF:Hh:=((0:Int),((0:Int),((0:Int),([((0:Int),((-1:Int),((0:Int),(((3:Int),((0:Int),(500:Int))),(((0:Int),(109573:Int)),(0:Int))))))]:List bj.den))))
def J4:xF:=(BF,(([]:List aC.den),(([]:List aP.den),((0:Int),(-1:Int)))))
def WW:M.gI aV o9 mN J4=aa 0:=by kernel_rfl
def abF:M.lg aV 0=aa (((0:Int),(31:Int)),(0:Int)):=by kernel_rfl
def abG:M.jP aV ((0:Int),(31:Int)) []=aa [((0:Int),(31:Int))]:=by kernel_rfl
def am0:M.jN aV o9 BF mN [((0:Int),(31:Int))] 9=aa ((500:Int),(0:Int)):=by kernel_rfl
def abH:M.cv aV o9=aa []:=by
 have e:M.cv aV o9=(M.dJ aV [((0:Int),(109573:Int))]).bind λy15=>(M.cF aV y15).bind λy16=>aa y16:=by kernel_rfl
 rw[e,ux _ (by simp),aiD];unfold M.cF pq;have hl:=mL (pG [((0:Int),(109573:Int))]);have hb:=o6 [((0:Int),(109573:Int))];simp only[aiU,ajl]at hb;rw[aj (by omega),aiD];refine ay aa (List.filter_eq_nil_iff.2 λy hy=>?_);have hy:=xz.1 hy
 have hy:y=0\/y=109573:=by simpa[pG,jW,VR]using hy
 rcases hy with rfl|rfl<;>decide
def abI:M.fU aV BF.2.2.2 9=aa []:=by
 rw[DU _ _ (by decide)];refine ay aa (List.filter_eq_nil_iff.2 λy hy=>?_);have hy:=xz.1 hy;obtain⟨r,hr,hy⟩:=List.mem_flatMap.1 hy;obtain⟨f,hf,rfl⟩:=List.mem_map.1 hr;have hf:=(List.mem_filter.1 hf).1;obtain rfl:f=((0:Int),((-1:Int),((0:Int),(((3:Int),((0:Int),(500:Int))),(((0:Int),(109573:Int)),(0:Int)))))):=List.mem_singleton.1 hf
 have hy:y=0\/y=109573:=by
  split at hy
  .simpa using hy
  .cases hy
 rcases hy with rfl|rfl<;>decide
def abJ:M.dO aV o9 BF 9=aa []:=by
 unfold M.dO;rw[abI,aiD,abH,aiD,zM _ _ (by simp) (by simp),aiD,ajf,vJ (by simp)];refine ay aa ?_;have:=mL [];exact List.length_eq_zero_iff.1 (Nat.le_zero.1 this)
def aw0:aw o9 BF mN 9 0=((0:Int),((500:Int),(0:Int))):=by
 have e:M.fm aV o9 BF mN 0 9=aa ((0:Int),((500:Int),(0:Int))):=by
  unfold M.fm
  have ea:M.gJ aV o9 BF mN=aa af:=by kernel_rfl
  rw[abF,aiD,ai (by decide),ea,aiD,ai (by decide),abJ,aiD,abG,aiD,am0];rfl
 unfold aw;rw[e];rfl
def wfN{r:Row}:WF (.slice r) []:=⟨by show 0<=maxLen;unfold maxLen;omega,λx h=>by cases h⟩
def WX{r:Row}{x:r.den}(h:WF r x):WF (.slice r) [x]:=⟨by show 1<=maxLen;unfold maxLen;omega,λy hy=>by obtain rfl:=List.mem_singleton.1 hy;exact h⟩
def Ko(n:Int)(h: -200000<=n/\n<=200000):WF aB n:=by
 show-9223372036854775808<=n/\n<=9223372036854775807
 omega
def WY(s:ByteArray)(h:s.size<=100):WF .str s:=by
 show s.size<=maxLen
 unfold maxLen;omega
def wf0:WF bV o9:=
 ⟨wfN,wfN,WX ⟨WY _ (by decide),Ko _ (by decide),WX ⟨WY _ (by decide),Ko _ (by decide),Ko _ (by decide)⟩,WX ⟨WY _ (by decide),Ko _ (by decide),Ko _ (by decide)⟩,
   WX ⟨WY _ (by decide),Ko _ (by decide),Ko _ (by decide),Ko _ (by decide),⟨Ko _ (by decide),Ko _ (by decide)⟩,wfN,WX ⟨Ko _ (by decide),Ko _ (by decide)⟩,WY _ (by decide)⟩⟩⟩
def sm0:ei o9:=by
 obtain⟨r,hr,h⟩:=zt o9 wf0
 have e:M.iH aV o9=aa af:=by kernel_rfl
 rw[e]at hr;exact h (aiF hr).symm
def ok0:By o9 mN J4:=by
 obtain⟨e,he,h⟩:=uZ wf0 sm0 mN J4;rw[WW]at he;exact h (aiF he).symm
def WZ:tA mN 0:=⟨by decide,by decide,by decide⟩
def abN:oA o9 BF mN [] [] 9 1=[((0:Int),((500:Int),((0:Int),(0:Int))))]:=by
 have e:((mN.2.2.2.2.2.1:Int)+((0:Nat):Int))=0:=by decide
 unfold oA;rw[show ajp 1=[0]from rfl,ai2,List.map_nil,e,aw0];have eg:gw [] ((0:Int),((500:Int),(0:Int)))=((0:Int),((500:Int),(0:Int))):=ai (by simp[B.granted]);rw[eg]
 show(_:List P4)=_
 kernel_rfl
def abO:vu o9 BF mN [] [] 9 0=[((9:Int),((0:Int),((1:Int),(500:Int))))]:=by
 unfold vu;rw[show nr mN 0=1 from by decide,abN]
 have e1:gp 1 9 (ja 0) [((0:Int),((500:Int),((0:Int),(0:Int))))]=[((9:Int),((0:Int),((1:Int),(500:Int))))]:=by kernel_rfl
 have e2:pR ((0:Int),((500:Int),((0:Int),(0:Int))))=0:=by kernel_rfl
 rw[e1];generalize uB _ _=z;unfold dst dst;rw[aj (show pR ((0:Int),((500:Int),((0:Int),(0:Int))))<=0\/_ from .inl (Int.le_of_eq e2)),ite_self];rfl
def Tn:b7.den:=((2:Int),((9:Int),((0:Int),((0:Int),((0:Int),((0:Int),((0:Int),((0:Int),((0:Int),((0:Int),((0:Int),(((0:Int),((0:Int),(0:Int))),(((0:Int),(0:Int)),(0:Int))))))))))))))
def abP:M.fc aV o9 mN J4 Tn=aa ((0:Int),(0:Int),(0:Int),BF.2.2.2,[((9:Int),((0:Int),((1:Int),(500:Int))))],[],((9:Int),(0:Int)),(0:Int)):=by
 have e:=zV (i:=0) (c:=0) (m:=0) (fs:=BF.2.2.2) (ok0.acc wf0 sm0) ok0.f0 ok0.f1 Tn ((0:Int),(-1:Int)) (ps:=[]) (app:=[]) (by simp) (by simp);rw[ai (show¬¬tA mN Tn.2.2.1 from λg=>g WZ),ai (by decide),show vu o9 ((0:Int),((0:Int),((0:Int),BF.2.2.2))) mN [] [] Tn.2.1 Tn.2.2.1=_ from abO,ai (by decide)]at e;unfold M.fc;rw[WW,aiD,ai (by decide),o8,aiD,ai (by decide),ai (by decide),D5 J4 (by decide) (by decide) (by decide),aiD,ai (by decide),aj (by decide)];dsimp only;rw[show M.gL aV o9 mN Tn J4.1.1 J4.1.2.1 J4.1.2.2.1 J4.2.2.2 J4.1.2.2.2 J4.2.1 J4.2.2.1=_ from e,aiD];rfl
def zW:M.oW aV=aa af:=by
 have e:M.oW aV=(M.fc aV o9 mN J4 Tn).bind λy4=>((if(decide (y4.2.2.2.2.2.2.2=(0:Int)))=af then
(if(decide ((y4.2.2.2.2.1.length:Int)=(1:Int)))=af then
(idx y4.2.2.2.2.1 (0:Int)).bind λx6=>
(if(decide (x6.2.2.2=(500:Int)))=af then
(M.il aV ((y4.1,(y4.2.1,(y4.2.2.1,y4.2.2.2.1))),(y4.2.2.2.2.1,(y4.2.2.2.2.2.1,y4.2.2.2.2.2.2.1)))).bind λy7=>
some (decide (y7=(500:Int)))
else
some ag)
else
some ag)
else
some ag):Option (Bool)).bind λj5=>
some j5:=by
  unfold M.oW
  have en:M.jm aV ((0:Int),((0:Int),((0:Int),BF.2.2.2)))=aa ((0:Int),(0:Int),(0:Int),((0:Int),(-1:Int)),BF.2.2.2):=by kernel_rfl
  rw[show M.pA aV=aa o9.2.2 from rfl,aiD,show M.k6 aV 500=aa BF from rfl,aiD,show M.jm aV (BF.1,(BF.2.1,(BF.2.2.1,BF.2.2.2)))=_ from en,aiD];rfl
 rw[e,abP,aiD]
 show(_:Option Bool)=_
 kernel_rfl
end L
end
section
namespace L
open B (fR fV sR sV Gd jE mX tt pR ja gp dst Ee gR keeps jD)
def Gq(aN:Cf)(es:List b7.den):Wp (M.mH aV aN es) λr=>r=af->es.length<=12:=by
 unfold M.mH;refine .join (Wp.mono (Q:=λu=>(∃r:Bool,u=Sum.inr r/\r=ag)\/u=Sum.inl ()) ?_ λu hu=>?_)
 .refine Wp.count (λs=>s) 20 (λ_ _=>True) (by omega) rfl trivial λk s hk hs _=>?_
  obtain rfl:s=_:=hs
  refine Wp.seq (λj=>j=af->k<es.length/\k<20) (.dec (λh=> .some λg=>⟨by omega,by have:=an g;omega⟩) λ_=> .some λg=>by cases g) λj hj=>?_
  refine .ite (λh=>?_) λ_=> .some (.inr rfl)
  obtain⟨h1,h2⟩:=hj h;refine .bind (.idx k rfl h1 (Wp.seq (λ_=>True) (.bind (.idx k rfl h1 ?_)) λj _=> .ite (λ_=> .some (.inl ⟨_,rfl,rfl⟩)) λ_=> .some ⟨h2,aT (by omega),trivial⟩))
  exact .dec (λ_=> .dec (λ_=> .dec (λ_=> .some trivial) λ_=> .some trivial) λ_=> .some trivial) λ_=> .some trivial
 .rcases hu with⟨r,rfl,rfl⟩|rfl
  .exact λg=>by cases g
  .refine Wp.seq (λr=>r=af->es.length<=12) (.dec (λh=> .dec (λ_=>?_) λ_=> .some λg=>by cases g) λ_=> .some λg=>by cases g) λr hr=> .some hr
   unfold M.ma;exact .bind (.some (.some λ_=>by omega))
def To(h:Hh)(hf:h.2.2.2.length<=1000):Wp (M.jm aV h) λy=>y.1=h.1/\y.2.1=h.2.1/\y.2.2.1=h.2.2.1/\y.2.2.2.2=h.2.2.2/\(y.2.2.2.1.2:Int)= -1/\(0:Int)<=y.2.2.2.1.1/\(∀f∈h.2.2.2,(f.2.2.2.2.2:Int)<=y.2.2.2.1.1)/\((y.2.2.2.1.1:Int)=0\/∃f∈h.2.2.2,(y.2.2.2.1.1:Int)=f.2.2.2.2.2):=by
 unfold M.jm;rw[Na _ (by omega),aiD];generalize hF:h.2.2.2=fs at*
 refine Wp.seq (λj=>j.1=fs/\j.2.1=h.1/\j.2.2.1=h.2.1/\j.2.2.2.1=h.2.2.1/\(j.2.2.2.2.2:Int)= -1/\(0:Int)<=j.2.2.2.2.1/\(∀f∈fs,(f.2.2.2.2.2:Int)<=j.2.2.2.2.1)/\((j.2.2.2.2.1:Int)=0\/∃f∈fs,(j.2.2.2.2.1:Int)=f.2.2.2.2.2)) ?_ λj hj=> .some ⟨hj.2.1,hj.2.2.1,hj.2.2.2.1,hj.1,hj.2.2.2.2⟩
 refine Wp.count (λs=>s.1) fs.length (λk s=>s.2.1=fs/\s.2.2.1=h.1/\s.2.2.2.1=h.2.1/\s.2.2.2.2.1=h.2.2.1/\(s.2.2.2.2.2.2:Int)= -1/\(0:Int)<=s.2.2.2.2.2.1/\(∀f∈fs.take k,(f.2.2.2.2.2:Int)<=s.2.2.2.2.2.1)/\((s.2.2.2.2.2.1:Int)=0\/∃f∈fs,(s.2.2.2.2.2.1:Int)=f.2.2.2.2.2)) (by omega) rfl ⟨rfl,rfl,rfl,rfl,rfl,ajs _,λf hf=>(by cases hf), .inl rfl⟩ λk s hk hs hJ=>?_
 obtain⟨c,F,a,b,m,(d:Int),(lm:Int)⟩:=s;obtain⟨j1,j2,j3,j4,j5,j6,j7,j8⟩:=hJ;dsimp only at hs j1 j2 j3 j4 j5 j6 j7 j8;subst hs j1
 refine .dec (λaH=>?_) λhge=> .some ⟨rfl,j2,j3,j4,j5,j6,?_,j8⟩
 .have aH:k<F.length:=by dsimp only at aH;omega
  refine .bind (.idx k rfl aH (.some ⟨aH,aT (by omega),rfl,j2,j3,j4,j5,?_,λf hf=>?_,?_⟩))
  .dsimp only;split
   .rename_i g;exact Int.le_trans j6 (Int.le_of_lt g)
   .exact j6
  .rw[<-aiP aH,aje,List.mem_singleton]at hf;dsimp only
   rcases hf with hf|rfl
   .have:=j7 f hf;split
    .rename_i g;exact Int.le_trans this (Int.le_of_lt g)
    .exact this
   .split
    .exact ajs _
    .rename_i g;exact ajy.1 g
  .dsimp only;split
   .exact .inr ⟨_,aiJ aH,rfl⟩
   .exact j8
 .have:k=F.length:=by dsimp only at hge;omega
  subst this;rw[aiS]at j7;exact j7
def Nf(l:Lw)(aN:Cf)(h:Hh)(es:List b7.den)(hw:WF bV l):Wp ((M.iH aV l).bind λy2=>
(if(!y2)=af then
some af
else
(M.gx aV h).bind λy3=>
(if(!y3)=af then
some af
else
(M.mH aV aN es).bind λy4=>
some (!y4)):Option (Bool))) λj=>j=ag->ei l/\h.2.2.2.length<=40/\es.length<=12:=by
 refine Wp.seq _ (zt l hw) λy2 h2=> .ite (λ_=> .some λg=>by cases g) λg2=>?_
 rw[JM,aiD]
 refine .ite (λ_=> .some λg=>by cases g) λg3=>Wp.seq _ (Gq aN es) λy4 h4=> .some λg4=>⟨h2 (by simpa using g2),?_,h4 (by simpa using g4)⟩
 have:=an (by simpa using g3:decide ((h.2.2.2.length:Int)<=40)=af);omega
def pI(l:Lw)(aN:Cf)(h:Hh)(es:List b7.den)(hw:WF bV l)(_:WF aS aN)(_:WF bB h)(_:WF (.slice b7) es):M.iQ aV l aN h es=aa af:=by
 unfold M.iQ;refine Wp.eq (Wp.seq _ (Nf l aN h es hw) λj hj=> .ite (λ_=> .qk zW (.some rfl)) λg=>?_);obtain⟨gv,h40,h12⟩:=hj (by simpa using g)
 refine Wp.seq _ (To h (by omega)) λy hy=>?_
 obtain⟨_,_,_,hF,_⟩:=hy;refine .join (Wp.mono (Q:=λu=>∃a,u=Sum.inl a) ?_ λu hu=>?_)
 .refine Wp.count (λs=>s.1) es.length (λk s=>s.2.2.2.2.1.length<=40+k/\s.2.2.2.2.2.1.length<=4096/\s.2.2.2.2.2.2.1.length<=17) (by omega) rfl ⟨by dsimp only;rw[hF];omega,by simp,by simp⟩ λk s hk hs hJ=>?_
  obtain⟨c,i,sc,mb,fs,ps,app,dl⟩:=s;obtain⟨j1,j2,j3⟩:=hJ;dsimp only at hs j1 j2 j3;subst hs
  refine .dec (λaH=>?_) λ_=> .some ⟨_,rfl⟩
  have aH:k<es.length:=by dsimp only at aH;omega
  refine .join (Wp.mono (Q:=λu=>∃a:xF,u=Sum.inl a/\a.1.2.2.2.length<=40+(k+1)/\a.2.1.length<=4096/\a.2.2.1.length<=17) ?_ λu hu=>?_)
  .refine .join (Wp.mono (Q:=λu=>∃a:xF,u=Sum.inl a/\a.1.2.2.2.length<=40+(k+1)/\a.2.1.length<=4096/\a.2.2.1.length<=17) ?_ λu hu=>?_)
   .refine .bind (.idx k rfl aH (Wp.seq _ (Nd hw gv aN ((i,(sc,(mb,fs))),(ps,(app,dl))) es[k]) λy hy=>?_))
    rcases hy with⟨y0,ye⟩|⟨y0,ok,_,_,_,nx,W1⟩
    .refine .fD (λ_=>?_) λg=>absurd g y0
     have er:=BE ((i,(sc,(mb,fs))),(ps,(app,dl))) (show fs.length<=_ by omega) (show ps.length<=_ by omega) (show app.length<=_ by omega)
     have ea:M.lK aV (Nc y) ((i,(sc,(mb,fs))),(ps,(app,dl)))=aa af:=by rw[ye];exact er
     refine .qk ea (.ite (λg=>by cases g) λ_=> .some ⟨_,rfl,by dsimp only;omega,j2,j3⟩)
    .refine .fD (λg=>absurd y0 g) λ_=>?_
     have n1:=nx.pl;have n2:=nx.fl;have n3:=nx.al;obtain⟨q,hq,QD⟩:=nx.new;dsimp only at n2 hq QD W1
     refine Wp.seq (λj=>j=ag) (.bind (.idx k rfl aH (.dec (λh2=>?_) λ_=> .some rfl))) λj hj=>?_
     .dsimp only;rw[zU app (by omega),aiD];have hp:=W1 h2;have hm:=xH app;have Yl:=J3 (Nc y) ps es[k].2.1 es[k].2.2.1 (oA l (i,(sc,(mb,fs))) aN ps app es[k].2.1 (nr aN es[k].2.2.1)) aN (B.pH app) (by omega) hp (by show y.2.2.2.2.1.length<=_;omega);exact .qk Yl (.some rfl)
     .subst hj
      refine .ite (λg=>by cases g) λ_=>?_
      rw[zT _ (by omega),aiD];have NP:=mL (y.2.2.2.2.1.map λp:P4=>p.2.1);rw[List.length_map]at NP;generalize tq (y.2.2.2.2.1.map λp:P4=>p.2.1)=ms at*;refine .join (Wp.mono (Q:=λu=>u=Sum.inl ()) ?_ λu hu=>?_)
      .refine Wp.count (λs=>s) ms.length (λ_ _=>True) (by omega) rfl trivial λi' s hi hs _=>?_
       obtain rfl:s=_:=hs
       refine .dec (λOu=>?_) λ_=> .some rfl
       have Ou:i'<ms.length:=by omega
       refine .bind (.idx i' rfl Ou ?_);rw[uY,aiD]
       refine .dec (λg=>?_) λ_=> .some ⟨Ou,aT (by omega),trivial⟩
       have:=B.M5 ok.sm QD ms[i'];dsimp only at this;rw[<-hq]at this;exact absurd g (ajy.2 this)
      .subst hu;exact .some ⟨_,rfl,by show y.2.2.2.1.length<=_;omega,n1,n3⟩
   .obtain⟨a,rfl,ha⟩:=hu;exact .some ⟨a,rfl,ha⟩
  .obtain⟨a,rfl,a1,a2,a3⟩:=hu;exact .some ⟨aH,aT (by omega),a1,a2,a3⟩
 .obtain⟨a,rfl⟩:=hu;exact .qk zW (.some rfl)
end L
end
end Go.Proofs.YtleifhfeahnocaaGreatDoor
