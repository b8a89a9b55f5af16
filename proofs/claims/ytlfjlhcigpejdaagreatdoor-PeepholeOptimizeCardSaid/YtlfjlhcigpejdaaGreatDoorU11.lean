/- Joined texts: KP3. -/
import Derived.Test.YtlfjlhcigpejdaaGreatDoorU10
section
open _root_.Bool renaming false_eq_true->X8,not_false->YC,not_true->Yp
open _root_.Go.IntKind renaming i64->X6
open _root_.List renaming all_eq_true->Zo,getElem_mem->YL,mem_of_getElem?->Y8,take_length->YU,take_succ_eq_append_getElem->YQ
open _root_.Nat renaming le_refl->Yd,lt_or_ge->YN,zero_le->Yk
open _root_.Option renaming bind_assoc->YD,bind_eq_some_iff->Yx,bind_some->X5
open _root_.Option.some renaming inj->X7
open _root_.Sum renaming inl->YT,inr->Yv
open _root_.Sum.inl renaming inj->Zs
namespace Go.Proofs.YtlfjlhcigpejdaaGreatDoor
open Go Go.RowKit
set_option maxRecDepth 100000
set_option linter.unusedVariables false
set_option linter.unusedSimpArgs false
namespace L
def Hz:Ty×Int×Bool:=(((0,0):Int×Int),0,false)
def M8(r:Ty×Int×Bool):Ty×Int×Bool:=if r.2.2=true then r else Hz
theorem Fw{J R:Type}{m:Option (J⊕R)}{k k':J->Option R}(f:R->R)(hk:∀j,m=some (.inl j)->k j=(k' j).map f)(hr:∀r,m=some (.inr r)->f r=r):da m k=(da m k').map f:=by
 cases m with
 |none=>rfl
 |some x=>cases x with
  |inl j=>exact hk j rfl
  |inr r=>rw[n5,n5,Option.map_some,hr r rfl]
theorem uS(N:Nat)(n:Ty):M.fR N n=M.bB N n:=by
 unfold M.fR M.bB
 have e:decide ((n.2:Int)<=127)=decide ((n.2:Int)<128):=by
  rw[decide_eq_decide];generalize(n.2:Int)=z;exact Int.le_iff_lt_add_one
 rw[e]
theorem CD(N:Nat)(v:Vl):M.m5 N v=M.bV N v:=rfl
def pK(l:List Ty):(List Vl)⊕(Ty×Int×Bool):=if l.all (fun x=>(jl x).isSome)=true then .inl (l.map fun x=>(jl x).getD z3)else .inr Hz
theorem CE{l:List Ty}(hl:l.length<=1000):Loop (S:=Int×List af.den) (X:=(List af.den)⊕(aa.den×Int×Bool)) (fun s7=>(if(decide (s7.1<(l.length:Int)))=true then(idx l s7.1).bind fun x8=>(M.bB az x8).bind fun y9=>(if(!y9.2)=true then some (Yv (Yv (((0:Int),(0:Int)),(0:Int),false)))else(eW s7.2 ([y9.1]:List af.den)).bind fun GW=>some (YT (X6.wrap (s7.1+(1:Int)),GW)))else some (Yv (YT s7.2)))) az ((0:Int),([]:List af.den))=some (pK l):=by
 apply Wp.eq;refine Wp.loop (fun s:Int×List Vl=>∃j:Nat,s.1=j/\j<=l.length/\s.2=(l.take j).map (fun x=>(jl x).getD z3)/\∀x∈l.take j,(jl x).isSome=true) (fun s=>(l.length-s.1).toNat) ⟨0,rfl,Yk _,rfl,fun x h=>by simp at h⟩ (by unfold az;simp only;omega) ?_
 rintro⟨_,_⟩ ⟨j,rfl,hj,rfl,hs⟩
 dsimp only
 refine Wp.dec (fun h=>?_) fun h=> .some ?_
 .have uU:j<l.length:=by omega
  have hm:=YL uU;have ht:=YQ uU;rw[ax uU,X5,iL,X5];generalize l[j]=x at hm ht
  cases hx:jl x with
  |none=>
   simp only[YC,if_true];refine .some ?_
   show _=pK l
   unfold pK;rw[if_neg]
   .rfl
   .rw[Zo];intro g;have:=g x hm;rw[hx]at this;cases this
  |some v=>
   simp only[Yp,X8,if_false];rw[dG (by simp;omega),X5,al (by omega)];refine .some ⟨⟨j+1,rfl,uU,?_,fun y hy=>?_⟩,by simp only;omega⟩
   .rw[ht,List.map_append];simp[hx]
   .rw[ht]at hy
    rcases List.mem_append.1 hy with hy|hy
    .exact hs y hy
    .obtain rfl:=List.mem_singleton.1 hy;rw[hx];rfl
 .have:j=l.length:=by omega
  subst this
  show _=pK l
  unfold pK;rw[YU]at hs⊢;rw[if_pos (Zo.2 hs)]
theorem Fx{code:List Ty}{i k:Nat}(hk:k<=i)(hi:i<=code.length)(hl:code.length<=1000):Loop (S:=Int×List af.den) (X:=(List af.den)⊕(aa.den×Int×Bool)) (fun s7=>(if(decide (s7.1<(i:Int)))=true then(idx code s7.1).bind fun x8=>(M.fR az x8).bind fun y9=>(if(!y9.2)=true then some (Yv (Yv (((0:Int),(0:Int)),(0:Int),false)))else(eW s7.2 ([y9.1]:List af.den)).bind fun GW=>some (YT (X6.wrap (s7.1+(1:Int)),GW)))else some (Yv (YT s7.2)))) az (((i-k:Nat):Int),([]:List af.den))=some (pK ((code.take i).drop (i-k))):=by
 apply Wp.eq
 have Ir:((code.take i).drop (i-k)).length=k:=by simp;omega
 have J8:∀j(h:j<((code.take i).drop (i-k)).length),idx code ((i-k+j:Nat):Int)=some (((code.take i).drop (i-k))[j]):=by
  intro j h;rw[List.getElem_drop,List.getElem_take];exact ax (by omega)
 generalize(code.take i).drop (i-k)=l at Ir J8⊢;refine Wp.loop (fun s:Int×List Vl=>∃j:Nat,s.1=((i-k+j:Nat):Int)/\j<=l.length/\s.2=(l.take j).map (fun x=>(jl x).getD z3)/\∀x∈l.take j,(jl x).isSome=true) (fun s=>(i-s.1).toNat) ⟨0,rfl,Yk _,rfl,fun x h=>by simp at h⟩ (by unfold az;simp only;omega) ?_
 rintro⟨_,_⟩ ⟨j,rfl,hj,rfl,hs⟩
 dsimp only
 refine Wp.dec (fun h=>?_) fun h=> .some ?_
 .have uU:j<l.length:=by omega
  have hm:=YL uU;have ht:=YQ uU;rw[J8 j uU,X5,uS,iL,X5];generalize l[j]=x at hm ht
  cases hx:jl x with
  |none=>
   simp only[YC,if_true];refine .some ?_
   show _=pK l
   unfold pK;rw[if_neg]
   .rfl
   .rw[Zo];intro g;have:=g x hm;rw[hx]at this;cases this
  |some v=>
   simp only[Yp,X8,if_false];rw[dG (by simp;omega),X5,al (by omega)];refine .some ⟨⟨j+1,rfl,uU,?_,fun y hy=>?_⟩,by simp only;omega⟩
   .rw[ht,List.map_append];simp[hx]
   .rw[ht]at hy
    rcases List.mem_append.1 hy with hy|hy
    .exact hs y hy
    .obtain rfl:=List.mem_singleton.1 hy;rw[hx];rfl
 .have:j=l.length:=by omega
  subst this
  show _=pK l
  unfold pK;rw[YU]at hs⊢;rw[if_pos (Zo.2 hs)]
def RV(code:List Ty)(a i:Int):Prop:=∃m∈code,fX m/\a<m.2/\(m.2:Int)<=i
theorem tz(code:List Ty)(hl:code.length<=1000)(a i:Int)(t:Int->Option Bool)(ht:∀k(hk:k<code.length),t (k:Int)=some (decide (fX code[k]/\a<code[k].2/\(code[k].2:Int)<=i))):∃b:Bool,(b=true↔RV code a i)/\
 Loop (S:=Int) (X:=(Unit)⊕(aa.den×Int×Bool)) (fun qY=>(if(decide (qY<(code.length:Int)))=true then(t qY).bind fun yK=>(if yK=true then some (Yv (Yv (((0:Int),(0:Int)),(0:Int),false)))else some (YT (X6.wrap (qY+(1:Int)))))else some (Yv (YT ())))) az (0:Int)=some (if b=true then .inr Hz else .inl ()):=by
 have key:Wp (Loop (S:=Int) (X:=(Unit)⊕(aa.den×Int×Bool)) (fun qY=>(if(decide (qY<(code.length:Int)))=true then(t qY).bind fun yK=>(if yK=true then some (Yv (Yv (((0:Int),(0:Int)),(0:Int),false)))else some (YT (X6.wrap (qY+(1:Int)))))else some (Yv (YT ())))) az (0:Int)) fun x=>∃b:Bool,(b=true↔RV code a i)/\x=if b=true then .inr Hz else .inl ():=by
  refine Wp.loop (fun s:Int=>∃k:Nat,s=k/\k<=code.length/\∀j(hj:j<code.length),j<k->¬(fX code[j]/\a<code[j].2/\(code[j].2:Int)<=i)) (fun s=>(code.length-s).toNat) ⟨0,rfl,Yk _,fun j _ h=>by omega⟩ (by unfold az;omega) ?_
  rintro _ ⟨k,rfl,hk,hn⟩
  refine Wp.dec (fun h=>?_) fun h=> .some ⟨false,?_,rfl⟩
  .have cx:k<code.length:=by omega
   rw[ht k cx,X5];by_cases c:fX code[k]/\a<code[k].2/\(code[k].2:Int)<=i
   .rw[if_pos (decide_eq_true c)];exact .some ⟨true,⟨fun _=>⟨_,YL cx,c⟩,fun _=>rfl⟩,rfl⟩
   .rw[if_neg (by rw[decide_eq_true_eq];exact c),al (by omega)];refine .some ⟨⟨k+1,rfl,cx,fun j hj QE=>?_⟩,by simp only;omega⟩
    rcases YN j k with g|g
    .exact hn j hj g
    .have:j=k:=by omega
     subst this;exact c
  .constructor
   .intro e;cases e
   .rintro⟨m,hm,c⟩
    obtain⟨j,hj,rfl⟩:=List.getElem_of_mem hm;exact absurd c (hn j hj (by omega))
 obtain⟨x,e,b,hb,rfl⟩:=key;exact⟨b,hb,e⟩
theorem Mq:Hg e0:=fun t h=>by cases h
theorem CF{code:List Ty}{i:Nat}(hi:i<code.length)(hl:code.length<=1000)(hw:∀n∈code,WF aa n):M.cM az code (i:Int)=(M.gh az code (i:Int)).map M8:=by
 unfold M.cM M.gh;have hn:=hw _ (YL hi);have Mp:=ax hi;generalize code[i]=n at hn Mp;simp only[Mp,X5,dz,rD,dN,oT];by_cases hj:50<=(n.1:Int)/\(n.1:Int)<=53
 .simp only[decide_eq_true hj,if_true];rfl
 simp only[decide_eq_false hj,X8,if_false];have CZ:=lK n.1
 have e1:((if(decide (ar n.1<(1:Int)))=true then some true else some (decide ((i:Int)<ar n.1))):Option Bool)=some (decide (ar n.1<1\/(i:Int)<ar n.1)):=by
  rw[ak,eQ,Bool.decide_or]
 rw[e1,X5,X5];by_cases hc:ar n.1<1\/(i:Int)<ar n.1
 .simp only[decide_eq_true hc,if_true];rfl
 simp only[decide_eq_false hc,X8,if_false]
 obtain⟨k,hk⟩:∃k:Nat,ar n.1=k:=⟨(ar n.1).toNat,by omega⟩
 rw[hk]at hc CZ⊢
 have C0:k<=i:=by omega
 have w1:X6.wrap ((i:Int)-(k:Int))=((i-k:Nat):Int):=by rw[ag (by omega) (by omega)];omega
 rw[w1,nO (i-k) i rfl rfl (by omega) (by omega),X5,CE (by simp;omega),Fx C0 (by omega) hl]
 refine Fw M8 (fun vs JM=>?_) fun r hr=>?_
 .have Bg:vs.length<=100000:=by
   unfold pK at JM;split at JM
   .obtain rfl:=Zs (X7 JM);simp;omega
   .cases JM
  obtain⟨b,hb,j1⟩:=tz code hl ((i-k:Nat):Int) (i:Int) (fun qY=>(idx code qY).bind fun kY=>((if decide (50<=(kY.1:Int)/\(kY.1:Int)<=53)=true then(if(decide (((i-k:Nat):Int)<kY.2))=true then some (decide (kY.2<=(i:Int)))else some false)else some false):Option (Bool))) (fun q hq=>by
   rw[ax hq,X5];generalize code[q]=x;by_cases g1:50<=(x.1:Int)/\(x.1:Int)<=53
   .rw[if_pos (decide_eq_true g1)];by_cases g2:((i-k:Nat):Int)<x.2
    .rw[if_pos (decide_eq_true g2)];refine congrArg some ?_;rw[decide_eq_decide];exact⟨fun g=>⟨g1,g2,g⟩,fun g=>g.2.2⟩
    .rw[if_neg (by rw[decide_eq_true_eq];exact g2)];exact congrArg some (decide_eq_false fun g=>g2 g.2.1).symm
   .rw[if_neg (by rw[decide_eq_true_eq];exact g1)]
    exact congrArg some (decide_eq_false fun g=>g1 g.1).symm)
  obtain⟨b',lQ,j2⟩:=tz code hl ((i-k:Nat):Int) (i:Int) (fun qY=>((idx code qY).bind fun xB=>(if decide (50<=(xB.1:Int)/\(xB.1:Int)<=53)=true then(idx code qY).bind fun Ca=>(if(decide (((i-k:Nat):Int)<Ca.2))=true then(idx code qY).bind fun yL=>some (decide (yL.2<=(i:Int)))else some false)else some false):Option (Bool))) (fun q hq=>by
   simp only[ax hq,X5];generalize code[q]=x;by_cases g1:50<=(x.1:Int)/\(x.1:Int)<=53
   .rw[if_pos (decide_eq_true g1)];by_cases g2:((i-k:Nat):Int)<x.2
    .rw[if_pos (decide_eq_true g2)];refine congrArg some ?_;rw[decide_eq_decide];exact⟨fun g=>⟨g1,g2,g⟩,fun g=>g.2.2⟩
    .rw[if_neg (by rw[decide_eq_true_eq];exact g2)];exact congrArg some (decide_eq_false fun g=>g2 g.2.1).symm
   .rw[if_neg (by rw[decide_eq_true_eq];exact g1)]
    exact congrArg some (decide_eq_false fun g=>g1 g.1).symm)
  have sj:b=b':=by
   cases b with
   |true=>exact(lQ.2 (hb.1 rfl)).symm
   |false=>cases b' with
    |true=>exact hb.2 (lQ.1 rfl)
    |false=>rfl
  subst sj;refine(congrArg (fun o=>da o _) ((jk (fun _=>True) (fun s _=>?_) (fun _ _ _ _=>trivial) az 0 trivial).trans j1)).trans ?_
  .by_cases h:s<(code.length:Int)
   .rw[if_pos (decide_eq_true h),if_pos (decide_eq_true h)];exact(YD _ _ _).symm
   .rw[if_neg (by rw[decide_eq_true_eq];exact h),if_neg (by rw[decide_eq_true_eq];exact h)]
  rw[j2]
  cases b with
  |true=>rfl
  |false=>
   simp only[X8,if_false,rF]
   show((M.aZ az n vs e0).bind _)=(((M.fq az n vs e0).bind _).map M8)
   rw[<-zb pt Mq hn Bg,Mh pt hn Bg,X5,X5,CD]
   obtain⟨w,hw⟩:∃w,M.bV az (mz e0 n vs).1=some w:=by
    unfold M.bV
    repeat' split
    all_goals exact⟨_,rfl⟩
   rw[hw,X5,X5];by_cases h0:((mz e0 n vs).2:Int)=0
   .rw[if_neg (by rw[decide_eq_true h0];decide),decide_eq_true h0];rfl
   .rw[if_pos (by rw[decide_eq_false h0];decide),decide_eq_false h0];rfl
 .unfold pK at hr;split at hr
  .cases hr
  .obtain rfl:=Sum.inr.inj (X7 hr);rfl
noncomputable def mu(code:List Ty)(s1:Int)(kk:Int)(m:Ty):Option (List Ty):=
(fO code (0:Int) (X6.wrap (s1-kk))).bind fun l4=>
(eW ([]:List aa.den) l4).bind fun l5=>
(eW l5 ([m]:List aa.den)).bind fun l6=>
(fO code (X6.wrap (s1+(1:Int))) (code.length:Int)).bind fun l7=>
(eW l6 l7).bind fun l8=>
(Loop (S:=Int×List aa.den) (X:=List aa.den) (fun iO=>
(if(decide (iO.1<(iO.2.length:Int)))=true then
(((idx iO.2 iO.1).bind fun kY=>
(M.dQ az kY.1).bind fun lc=>
(if lc=true then
(idx iO.2 iO.1).bind fun uW=>
some (decide (s1<uW.2))
else
some false):Option (Bool)).bind fun CU=>
(if CU=true then
(idx iO.2 iO.1).bind fun Ca=>
(idx iO.2 iO.1).bind fun yL=>
some (aQ iO.2 iO.1 (yL.1,X6.wrap (Ca.2-kk)))
else
some iO.2):Option (List aa.den)).bind fun uD=>
some (YT (X6.wrap (iO.1+(1:Int)),uD))
else
some (Yv iO.2))) az ((0:Int),l8):Option (List aa.den))
theorem CG(code:List Ty)(s1 kk:Int)(m:Ty):M.a9 az code s1 kk m=mu code s1 kk m:=by
 unfold M.a9 mu;refine congrArg _ (funext fun l4=>?_);refine congrArg _ (funext fun l5=>?_);refine congrArg _ (funext fun l6=>?_);refine congrArg _ (funext fun l7=>?_);refine congrArg _ (funext fun l8=>?_);refine jk (fun s:Int×List Ty=>s.2.length=l8.length) ?_ ?_ az (0,l8) rfl
 .rintro⟨q,l⟩ hl
  dsimp only at hl⊢;rw[hl];by_cases h:q<(l8.length:Int)
  .simp only[decide_eq_true h,if_true]
   cases hx:idx l q with
   |none=>rfl
   |some x=>
    simp only[X5,dz,rD]
  .simp only[decide_eq_false h,X8,if_false]
 .rintro⟨q,l⟩ s' hl hb
  dsimp only at hl hb;by_cases h:q<(l.length:Int)
  .rw[if_pos (decide_eq_true h)]at hb;obtain⟨l',h1,hb⟩:=Yx.1 hb;obtain rfl:=Zs (X7 hb);obtain⟨c,_,h1⟩:=Yx.1 h1
   show l'.length=_
   cases c with
   |true=>
    rw[if_pos rfl]at h1;obtain⟨_,_,h1⟩:=Yx.1 h1;obtain⟨_,_,h1⟩:=Yx.1 h1;obtain rfl:=X7 h1;simp[aQ,hl]
   |false=>
    rw[if_neg (by decide)]at h1;obtain rfl:=X7 h1;exact hl
  .rw[if_neg (by rw[decide_eq_true_eq];exact h)]at hb;cases hb
noncomputable def rG(s4:List Ty):Option (List Ty⊕List Ty):=
da (J:=List aa.den) (R:=(List aa.den)⊕(List aa.den)) (Loop (S:=Int×List aa.den) (X:=(List aa.den)⊕((List aa.den)⊕(List aa.den))) (fun s6=>
(if(decide (s6.1<(s4.length:Int)))=true then
(M.cM az s6.2 s6.1).bind fun y7=>
(if y7.2.2=true then
(M.a9 az s6.2 s6.1 y7.2.1 y7.1).bind fun y8=>
some (Yv (Yv (YT y8)))
else
some (YT (X6.wrap (s6.1+(1:Int)),s6.2)))
else
some (Yv (YT s6.2)))) az ((0:Int),s4)) fun j5=>
some (Yv j5)
def Mr(r:List Ty×Bool):List Ty⊕List Ty:=if r.2=true then .inl r.1 else .inr r.1
def Ms(r:List Ty×Bool):(List Ty)⊕((List Ty)⊕(List Ty)):=if r.2=true then .inr (.inl r.1)else .inl r.1
noncomputable def xv(code:List Ty)(s1:Int):Option (Int⊕(List Ty×Bool)):=
(if(decide (s1<(code.length:Int)))=true then da (J:=Unit) (R:=(Int)⊕((List aa.den)×Bool)) ((M.gh az code s1).bind fun y3=>(if(!y3.2.2)=true then some (YT ())else(mu code s1 y3.2.1 y3.1).bind fun j9=>some (Yv (Yv (j9,true))))) fun j2=>some (YT (X6.wrap (s1+(1:Int))))else some (Yv (code,false)))
theorem HA(code:List Ty):M.ic az code=Loop (xv code) az 0:=by
 unfold M.ic;refine jk (fun _=>True) (fun s _=>?_) (fun _ _ _ _=>trivial) az 0 trivial;unfold xv mu;simp only[YD]
theorem HB(o:Option (List Ty×Bool)):da (J:=List Ty) (R:=List Ty⊕List Ty) (o.map Ms) (fun j5=>some (.inr j5))=o.map Mr:=by
 cases o with
 |none=>rfl
 |some x=>
  obtain⟨y,b⟩:=x
  cases b<;>rfl
theorem zj{code:List Ty}(hl:code.length<=1000)(hw:∀n∈code,WF aa n):rG code=(M.ic az code).map Mr:=by
 unfold rG;rw[HA,<-HB];refine congrArg (fun o=>da o _) ?_;refine tx (body:=xv code) (fun s=>(s,code)) Ms (fun s=>∃k:Nat,s=k/\k<=code.length) ?_ ?_ az 0 ⟨0,rfl,Yk _⟩
 .rintro _ ⟨k,rfl,hk⟩
  unfold xv;dsimp only;by_cases h:(k:Int)<(code.length:Int)
  .rw[if_pos (decide_eq_true h),if_pos (decide_eq_true h),CF (by omega) hl hw]
   cases M.gh az code (k:Int)with
   |none=>rfl
   |some r=>
    obtain⟨m,kk,b⟩:=r
    cases b with
    |false=>rfl
    |true=>
     simp only[Option.map_some,X5,M8,if_true,Yp,X8,if_false];rw[CG]
     cases mu code (k:Int) kk m<;>rfl
  .rw[if_neg (by rw[decide_eq_true_eq];exact h),if_neg (by rw[decide_eq_true_eq];exact h)];rfl
 .rintro _ s' ⟨k,rfl,hk⟩ hb
  unfold xv at hb;by_cases h:(k:Int)<(code.length:Int)
  .rw[if_pos (decide_eq_true h)]at hb;revert hb
   cases M.gh az code (k:Int)with
   |none=>intro hb;cases hb
   |some r=>
    obtain⟨m,kk,b⟩:=r
    cases b with
    |false=>
     intro hb;obtain rfl:=Zs (X7 hb);exact⟨k+1,al (by omega),by omega⟩
    |true=>
     simp only[X5,Yp,X8,if_false]
     cases mu code (k:Int) kk m with
     |none=>intro hb;cases hb
     |some y=>intro hb;cases hb
  .rw[if_neg (by rw[decide_eq_true_eq];exact h)]at hb;cases hb
theorem Fy{s:List Ty}(hs:∃F,Fits s F)(hw:∀n∈s,WF aa n)(eR:s.length<=1000):Wp (rG s) fun x=>∀y,x= .inl y->kQ s y/\y.length<s.length:=by
 have CQ:kQ s s:=⟨hs,Yd _,hw,fun _ _ _ h=>h⟩
 unfold rG;refine Wp.join (Wp.loop (fun t:Int×List Ty=>∃i:Nat,t.1=i/\i<=s.length/\t.2=s) (fun t=>(s.length-t.1).toNat) ⟨0,rfl,Yk _,rfl⟩ (by unfold az;simp only;omega) ?_)
 rintro⟨_,s⟩ ⟨i,rfl,hi,rfl⟩
 dsimp only at hi eR hs⊢
 refine Wp.dec (fun h=>?_) fun h=> .some (.some fun y e=>by cases e)
 have dA:i<s.length:=by omega
 obtain⟨r,hr,G5⟩:=Aq dA eR CQ.wf;rw[hr];simp only[X5]
 refine Wp.ite (fun h1=>?_) fun h1=> .some ?_
 .obtain⟨k,v,e1,e2,hf⟩:=G5 h1
  have J9:¬fX (jm v):=by
   obtain⟨n,vs,hn,_,_,Bg,_,uT⟩:=hf.ex;have:=(Fg (args:=vs) pt (CQ.wf n (Y8 hn)) (by have:=hf.ki;omega)).ok (by rw[uT]);rw[uT]at this;exact(lN (uP this).1).1
  rw[e1,e2]
  refine Wp.seq _ (As dA hf.ki eR CQ.wf J9) fun y hy=> .some fun z e=>?_
  obtain rfl:=Zs e;obtain⟨F,f⟩:=hs;rw[hy];refine⟨tw f dA hf CQ.wf,?_⟩;have:=rz (m:=jm v) dA hf.ki;have:=hf.k1;omega
 .rw[al (by omega)];exact⟨⟨i+1,rfl,dA,rfl⟩,by simp only;omega⟩
noncomputable def oY(s3:(List Ty)×Bool):Option (((List Ty)×Bool)⊕List Ty):=
(if s3.2=true then
(M.ic az s3.1).bind fun y4=>
some (YT (y4.1,y4.2))
else
some (Yv s3.1))
theorem zk:∀(m:Nat)(c:List Ty)(N N':Nat),(∃F,Fits c F)->(∀n∈c,WF aa n)->c.length<=1000->c.length<=m->m+1<N->m+2<N'->Loop rG N c=Loop oY N' (c,true):=by
 intro m
 induction m with
 |zero=>
  intro c N N' hf hw hl hc h1 h2;obtain⟨F,f⟩:=hf;have:=f.pos;omega
 |succ m ih=>
  intro c N N' hf hw hl hc h1 h2
  obtain⟨N,rfl⟩:∃k,N=k+1:=⟨N-1,by omega⟩
  obtain⟨N',rfl⟩:∃k,N'=k+2:=⟨N'-2,by omega⟩
  obtain⟨x,hx,AQ⟩:=Fy hf hw hl;have hb:=zj hl hw;rw[hx]at hb;obtain⟨r,hr,MG⟩:=Option.map_eq_some_iff.1 hb.symm;obtain⟨y,b⟩:=r
  have e1:oY (c,true)=some (.inl (y,b)):=by
   unfold oY;rw[if_pos rfl,hr];rfl
  unfold Loop;rw[hx,e1,<-MG]
  cases b with
  |true=>
   have FC:x= .inl y:=MG.symm;obtain⟨g1,g2⟩:=AQ y FC
   show Loop rG N y=Loop oY (N'+1) (y,true)
   exact ih y N (N'+1) g1.fits g1.wf (by omega) (by omega) (by omega) (by omega)
  |false=>
   show some y=Loop oY (N'+1) (y,false)
   unfold Loop;rfl
theorem CH{code:List Ty}(hl:code.length<=1000)(hw:∀n∈code,WF aa n):M.dW az code=M.aL az code:=by
 unfold M.dW M.aL;obtain⟨b,hb,sz⟩:=rE code;rw[kl hl,uR hl,X5,X5,rC,hb,X5,X5]
 cases b with
 |false=>simp only[YC,if_true,n5]
 |true=>
  simp only[Yp,X8,if_false,rF]
  show Loop oY az (code,true)=Loop rG az code
  exact(zk 1000 code az az (sz.1 rfl) hw hl hl (by unfold az;omega) (by unfold az;omega)).symm
theorem si{code:List Ty}(hl:code.length<=1000)(hw:∀n∈code,WF aa n):∃x y z,M.aL az code=some x/\M.bo az x=some y/\M.aJ az y=some z/\M.dL az code=some z/\M.gI az code=some z/\z.length<=1000:=by
 obtain⟨x,hx,h1⟩:=Hq hl hw
 obtain⟨xx,RW⟩:x.length<=1000/\∀n∈x,WF aa n:=by
  rcases h1 with⟨_,rfl⟩|⟨_,h,_⟩
  .exact⟨hl,hw⟩
  .exact⟨Nat.le_trans h.le hl,h.wf⟩
 obtain⟨y,hy,h2⟩:=Cz xx RW
 obtain⟨Hr,RX⟩:y.length<=1000/\∀n∈y,WF aa n:=by
  rcases h2 with⟨_,rfl⟩|⟨⟨F,f⟩,FL,h⟩
  .exact⟨xx,RW⟩
  .have:=xn f FL h;exact⟨Nat.le_trans this.le xx,this.wf⟩
 obtain⟨z,hz,h3⟩:=CA Hr RX
 have Ko:z.length<=1000:=by
  rcases h3 with⟨_,rfl⟩|⟨_,h,_⟩
  .exact Hr
  .exact Nat.le_trans h.le Hr
 refine⟨x,y,z,hx,hy,hz,?_,?_,Ko⟩
 .unfold M.dL;rw[hx,X5,hy,X5,hz];rfl
 .unfold M.gI;rw[CH hl hw,hx,X5,xr xx,hy,X5,xu Hr RX,hz];rfl
theorem lb(code:List Ty)(Xi:WF (.slice aa) code):M.eF az code=some true:=by
 unfold M.eF;by_cases h:200<(code.length:Int)
 .rw[if_pos (decide_eq_true h),Ax];rfl
 .rw[if_neg (by rw[decide_eq_true_eq];exact h)];obtain⟨x,y,z,h1,h2,h3,h4,h5,Ko⟩:=si (code:=code) (by omega) Xi.2;simp only[h1,h2,h3,h4,h5,X5,ze z Ko,Ax,if_true]
end L
end Go.Proofs.YtlfjlhcigpejdaaGreatDoor
end
