/- Joined texts: VG VH VI VJ VW VL. -/
import Derived.Test.YtfeahmiobbjklaaGreatDoorU11
import Derived.Test.YtfeahmiobbjklaaGreatDoorU10
open _root_.Bool renaming false->ah,true->af
open _root_.Option renaming some->aa,bind_some->aiA,none->ae,map_eq_some_iff->ajp
open _root_.Int renaming toNat_natCast->aiI,eq_ofNat_of_zero_le->aiL
open _root_.Go.IntKind renaming i64->aiB
open _root_.List renaming drop_eq_getElem_cons->aiN,getElem?_eq_getElem->aiE,getElem?_eq_some_iff->aiP,getElem_mem->aiF,replicate->aiG,mem_append->aiX,mem_singleton->aiZ,getElem_of_mem->aiV
open _root_.Sum renaming inr->ajy
open _root_.ByteArray renaming empty->ajO
open _root_.Option.some renaming inj->aiC
namespace Go.Proofs.YtfeahmiobbjklaaGreatDoor
open Go Go.RowKit
set_option maxRecDepth 100000
set_option linter.unusedSimpArgs false
set_option linter.unusedVariables false
set_option linter.defProp false
namespace L
def NZ{l:Lw}(fO:fI l)(hv:Valid l){k:Nat}(hk:k<l.2.2.length):∃o,M.bo aU l.2.2[k]=aa ((0:Int),o)/\pb l.2.2[k] o/\o.length=l.2.2[k].2.2.2.1.length:=by
 have tg:=fO.2.2.2.2.2 _ (aiF hk);have XE:=hv.scope k hk;obtain⟨r,er,o,h1,h2,hr⟩:=Nk _ tg
 have eU:=J5 h1 h2 λd hd hc=>XE.2.2.2.2.2.2.2 d hd ((Hm _ d d).2 hc)
 rw[aj (by omega)]at hr;subst hr;exact⟨o,er,h1,eU⟩
def D8{α:Type}{l:List α}{k i:Nat}{v:α}(hk:k<l.length):(bg l (k:Int) v)[i]? =if i=k then aa v else l[i]? :=by
 unfold bg;rw[aiI,List.getElem?_set]
 grind
def lK{α:Type}{l:List α}{i:Nat}{v:α}(h:l[i]? =aa v):idx l (i:Int)=aa v:=by
 obtain⟨h1,rfl⟩:=aiP.1 h;exact aC h1
def HK{l:Lw}(hw:WF cT l)(fO:fI l)(hv:Valid l){k:Nat}(hk:k<l.2.2.length){d:Int}(h0:0<=d)(h1:d<=109572){o:List Int}(eo:M.bo aU l.2.2[k]=aa ((0:Int),o)):Wp (M.cY aU l (k:Int) d) (Xi l.2.2[k] d o):=by
 have yk:=(fO.2.2.2.2.2 _ (aiF hk)).2.2.1;have hp:=mJ l hw fO;rw[hv.C8]at hp;have hx:=aC hk
 have hf:=λa=>Fit.of hv fO hk a d
 unfold M.cY;rw[hx,aiA];generalize l.2.2[k]=x at*;rw[lp _ _ (by omega),aiA,lp _ _ (by omega),aiA,eo,aiA]
 refine Wp.seq (λj=>∀a:Nat,a<x.2.2.2.1.length->j.1[a]? =aa (Qw x.2.2.2.2 d (a:Int))/\j.2[a]? =aa 0) ?_ λj hj=> .some ⟨rfl,rfl,λa ha=>lK (hj a ha).1,λa ha=>lK (hj a ha).2⟩
 refine Wp.count (λs=>s.1) x.2.2.2.1.length (λi s=>s.2.1.length=x.2.2.2.1.length/\s.2.2.length=x.2.2.2.1.length/\∀a:Nat,a<i->s.2.1[a]? =aa (Qw x.2.2.2.2 d (a:Int))/\s.2.2[a]? =aa 0) (by omega) rfl ⟨by simp,by simp,λa ha=>by omega⟩ λi s hi hs hJ=>?_
 obtain⟨c,Ts,Cs⟩:=s;obtain⟨j1,j2,j3⟩:=hJ;dsimp only at hs j1 j2 j3;subst hs;refine .dec (λh=>?_) (λh=> .some λa ha=>j3 a ?_)
 .have aH:i<x.2.2.2.1.length:=by dsimp only at h;omega
  refine .ba (zE hp (by omega) (by omega) hx (by omega) (by omega) h0 h1 (hf (i:Int))) (.bind (.idx i rfl (show i<Ts.length by omega) (.bind (.idx i rfl (show i<Cs.length by omega) (.some ⟨aH,aQ (by omega),by rw[b7];exact j1,by rw[b7];exact j2,λa ha=>?_⟩)))));dsimp only;rw[D8 (by omega),D8 (by omega)];by_cases e:a=i
  .subst e;rw[al rfl,al rfl];exact⟨rfl,rfl⟩
  .rw[aj e,aj e];exact j3 a (by omega)
 .dsimp only at h;omega
def zQ(fs:List Fd)(h:fs.length<=100000)(d:Int)(vs:List Vl)(T:List aT.den):Loop (S:=Int×Int×(List aB.den)×(List aT.den)×List az.den) (X:=Int×(List aB.den)×(List aT.den)×List az.den) (λs8=>
(if(decide (s8.1<(fs.length:Int)))=af then
(idx fs s8.1).bind λx9=>
(cz s8.2.2.2.2 ([x9.2]:List az.den)).bind λl10=>
some (Sum.inl (aiB.wrap (s8.1+(1:Int)),s8.2.1,s8.2.2.1,s8.2.2.2.1,l10))
else
some (ajy (s8.2.1,s8.2.2.1,s8.2.2.2.1,s8.2.2.2.2)))) aU ((0:Int),d,vs,T,([]:List az.den))=aa (d,vs,T,fs.map (·.2)):=by
 apply Wp.eq
 refine Wp.count (λs=>s.1) fs.length (λk s=>s.2=(d,vs,T,(fs.take k).map (·.2))) (by omega) rfl rfl λk s hk hs hJ=>?_
 obtain⟨c,s⟩:=s;dsimp only at hs hJ;subst hs hJ
 refine Wp.dec (λaH=>?_) λhge=>?_
 .have aH:k<fs.length:=by dsimp only at aH;omega
  dsimp only;rw[aC aH,aiA,eJ (by simp;omega),aiA];refine .some ⟨aH,cK (m:=fs.length) (by omega) aH,?_⟩
  show(d,vs,T,(fs.take k).map (·.2)++[fs[k].2])=(d,vs,T,(fs.take (k+1)).map (·.2))
  rw[List.take_add_one,aiE aH,List.map_append];rfl
 .have hge:k=fs.length:=by dsimp only at hge;omega
  subst hge;refine .some ?_;rw[List.take_length];rfl
def HL{l:Lw}(hw:WF cT l){d:Int}{vs D:List Vl}{ms:List (List Vl)}{mts:List Ty}(h:ms.length<=100):P.lv (d,(vs,(D,(ms,(mts,l.2.1))))):=by
 refine⟨h,λt ht=>?_⟩;have:=(hw.2.1.2 t ht).2.2.2.1;unfold maxLen at this;exact this
abbrev TZ:Type:=List aD.den
abbrev Rs:Type:=aI.den×List aB.den×List Int×List aD.den
def mv(f:Nat->List Vl->aI.den×List Vl×List Int):Nat->List (List Vl)->TZ->aI.den⊕TZ
 |_,[],acc=> .inr acc
 |k,vs::t,acc=>if((f k vs).1.1:Int)≠0 then .inl (f k vs).1 else mv f (k+1) t (acc++[((f k vs).2.1,(f k vs).2.2)])
def xG{f:Nat->List Vl->aI.den×List Vl×List Int}:∀{ms:List (List Vl)}{k:Nat}{acc MR:TZ},mv f k ms acc= .inr MR->MR.length=acc.length+ms.length
 |[],_,_,_,h=>by cases h;simp
 |vs::ms,k,acc,MR,h=>by
  rw[mv]at h;split at h
  .cases h
  .rw[xG h];simp;omega
noncomputable def Bu(dt:Dt)(x q:fY)(o oq:List Int)(mts:List Ty)(c:dT.den)(tbs:List aT.den):Rs:=
 match mv (λm vs=>kr (m:Int) (oK dt q oq c.1 vs ([],([],tbs)))) 0 c.2.2 []with
 | .inl e=>(e,[],[],[])
 | .inr MR=>if((kr (-1) (oK dt x o c.1 c.2.1 (MR.map (·.1),(mts,tbs)))).1.1:Int)≠0 then((kr (-1) (oK dt x o c.1 c.2.1 (MR.map (·.1),(mts,tbs)))).1,[],[],[])
   else(KD,(kr (-1) (oK dt x o c.1 c.2.1 (MR.map (·.1),(mts,tbs)))).2.1,(kr (-1) (oK dt x o c.1 c.2.1 (MR.map (·.1),(mts,tbs)))).2.2,MR)
def xH(dt:Dt)(x:fY)(o:List Int)(d:Int)(vs:List Vl)(rs:Ux)(mem:Int):(kr mem (oK dt x o d vs rs)).1=KD\/((kr mem (oK dt x o d vs rs)).1.1:Int)≠0:=by
 unfold oK
 cases h:nZ (λD a=>dt (ev (d,(vs,(D,rs)))) x.2.2.2.2 d a) o (aiG x.2.2.2.1.length P.z3) (aiG x.2.2.2.1.length 0)with
 |inl p=>exact .inl rfl
 |inr q=>exact .inr (Bt h)
def D9(l:Lw)(x:fY)(c:dT.den)(q:fY)(oq:List Int)(mts:List Ty):Prop:=
 (¬(0:Int)<=x.2.1/\mts=[]/\c.2.2=[])\/∃j,∃hj:j<l.2.2.length,(x.2.1:Int)=(j:Int)/\q=l.2.2[j]/\M.bo aU q=aa ((0:Int),oq)/\pb q oq/\oq.length=q.2.2.2.1.length/\mts=q.2.2.2.1.map (λf:Fd=>f.2)
def eqE{e:aI.den}(h:e=KD\/(e.1:Int)≠0):lA aI e KD=decide ((e.1:Int)=0):=by
 rcases h with rfl|h
 .rw[l7];rfl
 .rw[aq h]
  refine n9.2 λg=>h ?_
  rw[g]
def abT{l:Lw}(hw:WF cT l)(fO:fI l)(hv:Valid l){k:Nat}(hk:k<l.2.2.length){c:dT.den}(hC:zN l l.2.2[k] c){y:Int×Int×Int}(hy:M.b8 aU l (k:Int) c=aa y)(Xj:y.2.2=0)
 {o:List Int}(eo:M.bo aU l.2.2[k]=aa ((0:Int),o))(ho:pb l.2.2[k] o)(X8:o.length=l.2.2[k].2.2.2.1.length){q:fY}{oq:List Int}{mts:List Ty}(hA:D9 l l.2.2[k] c q oq mts):
 M.cr aU l (k:Int) c=aa (Bu n4 l.2.2[k] q o oq mts c l.2.1):=by
 have hp:=mJ l hw fO;rw[hv.C8]at hp;have tg:=fO.2.2.2.2.2 _ (aiF hk);have sT:=hw.2.2.2 _ (aiF hk);have yk:=tg.2.2.1;have h8:=hC.le;unfold M.cr;rw[hp,aiA,aj (by rw[show C8=KD from rfl,l7];decide)]
 have hj:((if(decide ((k:Int)<(0:Int)))=af then aa af else aa (decide ((l.2.2.length:Int)<=(k:Int)))):Option Bool)=aa ah:=by
  rw[aj (by rw[ax];omega),aq (by omega)]
 rw[hj,aiA,aj (by decide),hy,aiA,aj (by simpa using Xj)]
 obtain⟨f,hf⟩:∃f,f=λ(m:Nat)(vs:List Vl)=>kr (m:Int) (oK n4 q oq c.1 vs ([],([],l.2.1))):=⟨_,rfl⟩
 refine Wp.eq (.join (Wp.mono (Q:=λu=>(∃e,mv f 0 c.2.2 []= .inl e/\u=ajy (e,[],[],[]))\/∃MR,mv f 0 c.2.2 []= .inr MR/\MR.length<=100/\u=Sum.inl (c.1,c.2.1,l.2.1,MR,MR.map (λr:aD.den=>r.1),mts)) ?_ λu hu=>?_))
 .rw[aC hk,aiA]
  rcases hA with⟨g1,rfl,g3⟩|⟨j,hj,g1,rfl,g3,g4,g5,rfl⟩
  .rw[aj (by simpa using g1),aiA,aj (by decide),g3];exact .some (.inr ⟨[],rfl,by simp,rfl⟩)
  .have X9:=fO.2.2.2.2.2 _ (aiF hj);have hwq:=hw.2.2.2 _ (aiF hj);have agV:=X9.2.2.1
   have ei:idx l.2.2 l.2.2[k].2.1=aa l.2.2[j]:=by
    rw[show idx l.2.2 l.2.2[k].2.1=idx l.2.2 (j:Int)from aw _ g1,aC hj]
   have aH:(l.2.2[k].2.1:Int)<(l.2.2.length:Int):=by
    have:((j:Nat):Int)<(l.2.2.length:Int):=by omega
    exact g1▸this
   rw[al (ao (show(0:Int)<=l.2.2[k].2.1 from g1▸Int.natCast_nonneg j)),ao aH,aiA,al rfl,ei,aiA,zQ _ (by omega),aiA]
   refine .dec (λh0=>?_) λh0=>?_
   .rw[show M.cY aU l l.2.2[k].2.1 c.1=M.cY aU l (j:Int) c.1 by rw[g1]]
    refine Wp.seq _ (HK hw fO hv hj hC.date.1 hC.date.2 g3) λp hP=>?_
    refine Wp.count (λs=>s.1) c.2.2.length (λi s=>∃MR:TZ,s.2=(c.1,c.2.1,l.2.1,l.2.2[j].2.2.2.1.map (λf:Fd=>f.2),MR,MR.map (λr:aD.den=>r.1))/\MR.length=i/\mv f 0 c.2.2 []=mv f i (c.2.2.drop i) MR) (by omega) rfl ⟨[],rfl,rfl,rfl⟩ λi s hi hs hJ=>?_
    obtain⟨ii,s⟩:=s;obtain⟨MR,rfl,j2,j3⟩:=hJ;dsimp only at hs;subst hs;refine .dec (λh=>?_) (λh=> .some (.inr ⟨MR,?_,by omega,rfl⟩))
    .have aH:i<c.2.2.length:=by dsimp only at h;omega
     rw[aiN aH,mv]at j3
     have hr:=D7 (p:=p) (mem:=(i:Int)) (D0:=[]) (vs:=c.2.2[i]) (rs:=([],([],l.2.1))) hP hwq X9 (λa=>Fit.of hv fO hj a c.1) (λa ha=>(g4.mem ha).1) (by omega) λD=>HL hw (by simp)
     have hfi:f i c.2.2[i]=kr (i:Int) (oK n4 l.2.2[j] oq c.1 c.2.2[i] ([],([],l.2.1))):=by rw[hf]
     have qw:=xH n4 l.2.2[j] oq c.1 c.2.2[i] ([],([],l.2.1)) (i:Int);rw[hfi]at j3;generalize kr (i:Int) (oK n4 l.2.2[j] oq c.1 c.2.2[i] ([],([],l.2.1)))=r at hr j3 qw;refine .bind (.idx i rfl aH (.ba hr ?_));dsimp only;rw[eqE qw]
     refine .iM (λhz=> .some (.inl ⟨_,?_,rfl⟩)) λhz=> .bind (.ub (by simp;omega) (.bind (.ub (by simp;omega) (.some ⟨aH,aQ (by omega),MR++[(r.2.1,r.2.2)],by simp,by simp[j2],?_⟩))))
     .rw[j3,al hz]
     .rw[j3,aj (λg=>g hz)]
    .have:i=c.2.2.length:=by dsimp only at h;omega
     rw[j3,this,List.drop_length];rfl
   .have:c.2.2=[]:=List.length_eq_zero_iff.1 (by omega);rw[this];exact .some (.inr ⟨[],rfl,by simp,rfl⟩)
 .unfold Bu
  rcases hu with⟨e,he,rfl⟩|⟨MR,he,hl,rfl⟩
  .rw[hf]at he;rw[he];rfl
  .rw[hf]at he;rw[he]
   show Wp _ _
   dsimp only
   refine Wp.seq _ (HK hw fO hv hk hC.date.1 hC.date.2 eo) λp hP=>?_
   refine .ba (D7 (p:=p) (mem:= -1) (D0:=[]) hP sT tg (λa=>Fit.of hv fO hk a c.1) (λa ha=>(ho.mem ha).1) (by omega) λD=>HL hw (by simpa using hl)) ?_;rw[eqE (xH ..)]
   exact .iM (λhz=> .some (by rw[al hz])) λhz=> .some (by rw[aj (λg=>g hz)])
end L
namespace L
noncomputable def Kp(E:ik->Vl×Int)(rules:List fZ)(d mem a:Int):Int×aI.den:=
 match mu E rules (TN rules a d)with
 | .inr r=>((0:Int),(r.2,(mem,(a,((r.1:Nat):Int)))))
 | .inl fl=>(zD (dH rules a d) (oH (cy rules a d) (dq rules a d) fl),KD)
def N0{x:fY}{d a:Int}(sT:WF aP x)(hf:Fit x.2.2.2.2 a d){env:xE}(hd:env.1=d)(he:P.lv env)(mem:Int):M.fN aU x env mem a=aa (Kp (ev env) x.2.2.2.2 d mem a):=by
 have zq:∀r∈x.2.2.2.2,WF da r:=sT.2.2.2.2.2
 have Q7:x.2.2.2.2.length<=100000:=by have:=hf.len;omega
 have ht:=hf.t8;unfold M.fN;rw[hd,zy x a d Q7,aiA];unfold Kp;generalize x.2.2.2.2=rules at*
 have qS:(dH rules a d).length=(TN rules a d).length:=by rw[mK];simp
 have vd:(cy rules a d).length=(TN rules a d).length:=by unfold cy TN;simp
 have Uq:=xm (rules:=rules) (a:=a) (d:=d);have DA:=mK rules a d;generalize dH rules a d=I at*;generalize TN rules a d=T at*;dsimp only;rw[qS,lp _ _ (by omega),aiA];refine Wp.eq (.join (Wp.mono (Q:=λu=>match mu (ev env) rules T with| .inl fl=>u=Sum.inl fl| .inr r=>u=ajy ((0:Int),(r.2,(mem,(a,((r.1:Nat):Int)))))) ?_ λu hu=>?_))
 .refine Wp.count (λs=>s.1) T.length (λk s=>∃pre:List Bool,pre.length=k/\s.2=pre++aiG (T.length-k) ah/\mu (ev env) rules T=match mu (ev env) rules (T.drop k)with| .inl l=> .inl (pre++l)| .inr r=> .inr r) (by omega) rfl ⟨[],rfl,by simp,by rw[List.drop_zero];split<;>simp_all⟩ λk s hk hs hJ=>?_
  obtain⟨c,b⟩:=s;obtain⟨pre,j1,j2,j3⟩:=hJ;dsimp only at hs j2;subst hs j2;refine .dec (λh=>?_) (λh=> .some ?_)
  .have aH:k<T.length:=by dsimp only at h;omega
   have hb:=Uq _ (aiF aH)
   have Bx:idx I (k:Int)=aa ((T[k]:Nat):Int):=by rw[DA,aC (by simpa using aH)];simp
   have um:∀v:Bool,bg (pre++aiG (T.length-k) ah) (k:Int) v=(pre++[v])++aiG (T.length-(k+1)) ah:=λv=>by
    obtain⟨n,hn⟩:∃n,T.length-k=n+1:=⟨T.length-k-1,by omega⟩
    rw[hn,show T.length-(k+1)=n by omega];unfold bg;rw[aiI,List.set_append_right _ _ (by omega),List.replicate_succ,j1];simp
   have Ur:k<(pre++aiG (T.length-k) ah).length:=by simp;omega
   rw[aiN aH,mu,Dz hb]at j3;refine .join (.ba Bx (.ba (aC hb) ?_));refine .dec (λh0=> .bind (.idx k rfl Ur (.some (.some ⟨aH,aQ (by omega),pre++[af],by simp[j1],um _,?_⟩)))) (λh0=>?_)
   .have h0:rules[T[k]].2.2.2.2.2.1.length=0:=by omega
    rw[aj (by omega),ao h0]at j3;rw[j3]
    cases mu (ev env) rules (T.drop (k+1))<;>simp
   .have h0:rules[T[k]].2.2.2.2.2.1.length≠0:=by omega
    refine .ba (aC hb) (.ba (qY he (zq _ (aiF hb)).2.2.2.2.2.1.2) ?_)
    refine .iM (λh1=> .some ?_) λh1=> .bind (.idx k rfl Ur (.some (.some ⟨aH,aQ (by omega),pre++[_],by simp[j1],um _,?_⟩)))
    .rw[al ⟨h0,h1⟩]at j3
     show match mu (ev env) rules T with| .inl fl=>_| .inr r=>_
     rw[j3]
    .rw[aj (λg=>g.2 h1),aq h0,Bool.false_or]at j3;rw[j3]
     cases mu (ev env) rules (T.drop (k+1))with
     |inl l=>simp[xF]
     |inr r=>rfl
  .have:k=T.length:=by dsimp only at h;omega
   subst this;rw[List.drop_length,mu]at j3
   show match mu (ev env) rules T with| .inl fl=>_| .inr r=>_
   rw[j3];simp
 .cases hg:mu (ev env) rules T with
  |inr r=>
   rw[hg]at hu;subst hu;rfl
  |inl fl=>
   rw[hg]at hu;subst hu
   show Wp _ λz=>z=(zD I (oH (cy rules a d) (dq rules a d) fl),KD)
   obtain⟨e1,hr⟩:=qj (cy rules a d) (dq rules a d) fl (by omega);refine .ba e1 ?_;generalize oH (cy rules a d) (dq rules a d) fl=v at hr⊢;unfold Pl at hr
   refine .dec (λh=> .some ?_) λh=> .ba (vN (by omega) (by omega)) (.some rfl)
   unfold zD;rw[aj (by omega)]
def Rq{x:fY}{d:Int}(sT:WF aP x){q:Nat}(hf:Fit x.2.2.2.2 (q:Int) d){env:xE}(hd:env.1=d)(he:P.lv env)(mem:Int){D:List Vl}{rl:List Int}(h1:q<D.length)(h2:q<rl.length){R S J:Type}(F:aI.den->R):
 (M.fN aU x env mem (q:Int)).bind (λy9=>
(if(!decide (y9.2.1=(0:Int)))=af then
some (ajy (ajy (ajy (F y9.2))))
else
(if(decide (y9.1=(-1:Int)))=af then
some (ajy (ajy (ajy (F ((10:Int),(mem,((q:Int),(-1:Int))))))))
else
(if(decide (y9.1=(-2:Int)))=af then
some (ajy (ajy (ajy (F ((11:Int),(mem,((q:Int),(-1:Int))))))))
else
(idx x.2.2.2.2 y9.1).bind λWN=>
(M.dW aU WN.2.2.2.2.2.2.1 env).bind λQa=>
(if(!decide (Qa.2=(0:Int)))=af then
some (ajy (ajy (ajy (F (Qa.2,(mem,((q:Int),y9.1)))))))
else
(idx D (q:Int)).bind λx12=>
(idx rl (q:Int)).bind λUp=>
some (Sum.inl (bg D (q:Int) Qa.1,bg rl (q:Int) y9.1):(List Vl×List Int)⊕(S⊕(J⊕R))))))))=
 some (if(jQ (ev env) x.2.2.2.2 d (q:Int)).2.2≠0 then ajy (ajy (ajy (F ((jQ (ev env) x.2.2.2.2 d (q:Int)).2.2,(mem,((q:Int),(jQ (ev env) x.2.2.2.2 d (q:Int)).2.1))))))
  else Sum.inl (bg D (q:Int) (jQ (ev env) x.2.2.2.2 d (q:Int)).1,bg rl (q:Int) (jQ (ev env) x.2.2.2.2 d (q:Int)).2.1)):=by
 have zq:∀r∈x.2.2.2.2,WF da r:=sT.2.2.2.2.2
 have Q7:x.2.2.2.2.length<=100000:=by have:=hf.len;omega
 rw[N0 sT hf hd he,aiA]
 cases hg:mu (ev env) x.2.2.2.2 (TN x.2.2.2.2 (q:Int) d)with
 |inr r=>
  have dA:=Bq hg
  have e1:Kp (ev env) x.2.2.2.2 d mem (q:Int)=((0:Int),(r.2,(mem,((q:Int),((r.1:Nat):Int))))):=by unfold Kp;rw[hg]
  have e2:jQ (ev env) x.2.2.2.2 d (q:Int)=(P.z3,(((r.1:Nat):Int),r.2)):=by unfold jQ;rw[hg]
  rw[e1,e2];dsimp only;rw[al (by simpa using dA),al dA]
 |inl fl=>
  have hc:=uz (rules:=x.2.2.2.2) (a:=(q:Int)) (d:=d) Q7 fl
  have e1:Kp (ev env) x.2.2.2.2 d mem (q:Int)=(zD (dH x.2.2.2.2 (q:Int) d) (oH (cy x.2.2.2.2 (q:Int) d) (dq x.2.2.2.2 (q:Int) d) fl),KD):=by unfold Kp;rw[hg]
  have e2:jQ (ev env) x.2.2.2.2 d (q:Int)=pick (ev env) x.2.2.2.2 (zD (dH x.2.2.2.2 (q:Int) d) (oH (cy x.2.2.2.2 (q:Int) d) (dq x.2.2.2.2 (q:Int) d) fl)):=by unfold jQ;rw[hg]
  rw[e1,e2];generalize zD (dH x.2.2.2.2 (q:Int) d) (oH (cy x.2.2.2.2 (q:Int) d) (dq x.2.2.2.2 (q:Int) d) fl)=o at hc;clear e1 e2;generalize x.2.2.2.2=rules at*
  rcases hc with rfl|rfl|⟨i,_,hi,rfl⟩
  .rfl
  .rfl
  .dsimp only;rw[aj (by simp),aj (by rw[ax];omega),aj (by rw[ax];omega),aC hi,aiA,qY he (zq _ (aiF hi)).2.2.2.2.2.2.1.2,aiA,zP hi];by_cases h0:(ev env rules[i].2.2.2.2.2.2.1).2=0
   .have k1:¬(ev env rules[i].2.2.2.2.2.2.1).2≠0:=λg=>g h0
    rw[aj (by simpa using h0),aC h1,aiA,aC h2,aiA,aj k1,aj (λg=>g rfl)]
   .rw[al (by simpa using h0),al h0,al h0]
def N1{x:fY}{d:Int}{o:List Int}(eo:M.bo aU x=aa ((0:Int),o))(sT:WF aP x)(hs:nW x)(hf:∀a,Fit x.2.2.2.2 a d)(ho:∀a∈o,(0:Int)<=a/\a<(x.2.2.2.1.length:Int))(X8:o.length<=100000){vs:List Vl}{tbs:List aT.den}(he:∀D,P.lv (d,(vs,(D,([],([],tbs))))))(mem:Int):
 Wp (M.eH aU x mem d vs tbs (aiG x.2.2.2.1.length af)) λr=>r.1=(kr mem (oK jQ x o d vs ([],([],tbs)))).1/\r.2.2.2.2.1=aiG x.2.2.2.1.length af/\((r.1.1:Int)=0->r.2.2.2.2.2.2=(kr mem (oK jQ x o d vs ([],([],tbs)))).2.1/\r.2.2.2.2.2.1=(kr mem (oK jQ x o d vs ([],([],tbs)))).2.2):=by
 have yk:=hs.2.2.1;unfold M.eH;rw[lp _ _ (by omega),aiA,lp _ _ (by omega),aiA,eo,aiA];refine .join (Wp.count (λs=>s.1) o.length (λk s=>s.2.1.length=x.2.2.2.1.length/\s.2.2.length=x.2.2.2.1.length/\oK jQ x o d vs ([],([],tbs))=nZ (λD a=>jQ (ev (d,(vs,(D,([],([],tbs)))))) x.2.2.2.2 d a) (o.drop k) s.2.1 s.2.2) (by omega) rfl ⟨by simp,by simp,rfl⟩ λk s hk hs hJ=>?_);obtain⟨c,D,rl⟩:=s;obtain⟨j1,j2,j3⟩:=hJ;dsimp only at hs j1 j2 j3;subst hs;refine .dec (λh=>?_) (λh=> .some ?_)
 .have aH:k<o.length:=by dsimp only at h;omega
  obtain⟨a0,a1⟩:=ho _ (aiF aH);obtain⟨q,hq⟩:=aiL a0
  have Gf:q<x.2.2.2.1.length:=by omega
  have hn:idx (aiG x.2.2.2.1.length af) (q:Int)=aa af:=by
   rw[aC (by simpa using Gf)];simp
  rw[aiN aH,nZ]at j3;refine .join (.bind (.idx k rfl aH ?_));rw[hq]at j3⊢;refine .ba hn (.ite (λg=>absurd g (by decide)) λ_=> .of (Rq (d:=d) (D:=D) (rl:=rl) sT (hf _) rfl (he D) mem (by omega) (by omega) (λe=>(e,d,vs,tbs,aiG x.2.2.2.1.length af,([]:List Int),D))) ?_);by_cases h0:(jQ (ev (d,(vs,(D,([],([],tbs)))))) x.2.2.2.2 d (q:Int)).2.2=0
  .rw[aj (λg=>g h0)]at j3⊢;exact .some ⟨aH,aQ (by omega),by rw[b7];exact j1,by rw[b7];exact j2,j3⟩
  .rw[al h0]at j3⊢;rw[j3];exact⟨rfl,rfl,λg=>absurd g h0⟩
 .have:k=o.length:=by dsimp only at h;omega
  subst this;rw[List.drop_length,nZ]at j3;refine .some ?_;rw[j3];exact⟨rfl,rfl,λ_=>⟨rfl,rfl⟩⟩
def N2{x:fY}{d:Int}{o:List Int}(eo:M.bo aU x=aa ((0:Int),o))(sT:WF aP x)(hs:nW x)(hf:∀a,Fit x.2.2.2.2 a d)(ho:∀a∈o,(0:Int)<=a/\a<(x.2.2.2.1.length:Int))(X8:o.length<=100000){vs:List Vl}{ms:List (List Vl)}{mts:List Ty}{tbs:List aT.den}(he:∀D,P.lv (d,(vs,(D,(ms,(mts,tbs))))))(mem:Int):
 Wp (M.eI aU x mem d vs tbs ms mts (aiG x.2.2.2.1.length af)) λr=>r.1=(kr mem (oK jQ x o d vs (ms,(mts,tbs)))).1/\((r.1.1:Int)=0->r.2.2.2.2.2.2.2.2=(kr mem (oK jQ x o d vs (ms,(mts,tbs)))).2.1/\r.2.2.2.2.2.2.2.1=(kr mem (oK jQ x o d vs (ms,(mts,tbs)))).2.2):=by
 have yk:=hs.2.2.1;unfold M.eI;rw[lp _ _ (by omega),aiA,lp _ _ (by omega),aiA,eo,aiA];refine .join (Wp.count (λs=>s.1) o.length (λk s=>s.2.1.length=x.2.2.2.1.length/\s.2.2.length=x.2.2.2.1.length/\oK jQ x o d vs (ms,(mts,tbs))=nZ (λD a=>jQ (ev (d,(vs,(D,(ms,(mts,tbs)))))) x.2.2.2.2 d a) (o.drop k) s.2.1 s.2.2) (by omega) rfl ⟨by simp,by simp,rfl⟩ λk s hk hs hJ=>?_);obtain⟨c,D,rl⟩:=s;obtain⟨j1,j2,j3⟩:=hJ;dsimp only at hs j1 j2 j3;subst hs;refine .dec (λh=>?_) (λh=> .some ?_)
 .have aH:k<o.length:=by dsimp only at h;omega
  obtain⟨a0,a1⟩:=ho _ (aiF aH);obtain⟨q,hq⟩:=aiL a0
  have Gf:q<x.2.2.2.1.length:=by omega
  have hn:idx (aiG x.2.2.2.1.length af) (q:Int)=aa af:=by
   rw[aC (by simpa using Gf)];simp
  rw[aiN aH,nZ]at j3;refine .join (.bind (.idx k rfl aH ?_));rw[hq]at j3⊢;refine .ba hn (.ite (λg=>absurd g (by decide)) λ_=> .of (Rq (d:=d) (D:=D) (rl:=rl) sT (hf _) rfl (he D) mem (by omega) (by omega) (λe=>(e,d,vs,tbs,ms,mts,aiG x.2.2.2.1.length af,([]:List Int),D))) ?_);by_cases h0:(jQ (ev (d,(vs,(D,(ms,(mts,tbs)))))) x.2.2.2.2 d (q:Int)).2.2=0
  .rw[aj (λg=>g h0)]at j3⊢;exact .some ⟨aH,aQ (by omega),by rw[b7];exact j1,by rw[b7];exact j2,j3⟩
  .rw[al h0]at j3⊢;rw[j3];exact⟨rfl,λg=>absurd g h0⟩
 .have:k=o.length:=by dsimp only at h;omega
  subst this;rw[List.drop_length,nZ]at j3;refine .some ?_;rw[j3];exact⟨rfl,λ_=>⟨rfl,rfl⟩⟩
end L
namespace L
def Qx(n:Nat)(h:n<=100000){body:Int×List Bool->Option ((Int×List Bool)⊕List Bool)}(hb:∀(k:Nat)(l:List Bool),l.length=n->body ((k:Int),l)=if k<n then(if(k:Int)<(n:Int)then aa (Sum.inl (((k+1:Nat):Int),bg l (k:Int) af))else ae)else aa (ajy l)):Loop (S:=Int×List Bool) (X:=List Bool) body aU ((0:Int),aiG n ah)=aa (aiG n af):=by
 apply Wp.eq
 refine Wp.count (λs=>s.1) n (λk s=>s.2=aiG k af++aiG (n-k) ah) (by omega) rfl (by simp) λk s hk hs hJ=>?_
 obtain⟨c,l⟩:=s;dsimp only at hs hJ;subst hs
 have hl:l.length=n:=by rw[hJ];simp;omega
 rw[hb k l hl];by_cases h:k<n
 .rw[al h,al (by omega)];refine .some ⟨h,rfl,?_⟩;dsimp only;rw[hJ]
  obtain⟨q,hq⟩:∃q,n-k=q+1:=⟨n-k-1,by omega⟩
  rw[hq,show n-(k+1)=q by omega];unfold bg;rw[aiI,List.set_append_right _ _ (by simp),List.length_replicate,Nat.sub_self,List.replicate_succ,List.set_cons_zero,List.replicate_succ' (n:=k),List.append_assoc];rfl
 .rw[aj h]
  have:k=n:=by omega
  subst this;refine .some (show l=aiG k af from ?_);rw[hJ];simp
def xI(n:Nat)(h:n<=100000):Loop (S:=Int×List Bool) (X:=List Bool) (λs4=>
(if(decide (s4.1<((aiG n ah).length:Int)))=af then
(idx s4.2 s4.1).bind λx5=>
some (Sum.inl (aiB.wrap (s4.1+(1:Int)),bg s4.2 s4.1 af))
else
some (ajy s4.2))) aU ((0:Int),aiG n ah)=aa (aiG n af):=by
 refine Qx n h λk l hl=>?_
 dsimp only;rw[List.length_replicate];by_cases hk:k<n
 .rw[al (ao (by omega)),al hk,al (by omega),aC (by omega),aiA,cK (m:=n) (by omega) hk]
 .rw[aj (by rw[ax];omega),aj hk]
def Ea{l:Lw}(fO:fI l){k:Nat}(hk:k<l.2.2.length){x ms:fY}(hx:x=l.2.2[k])(hm:(¬(0:Int)<=x.2.1/\ms=(ajO,((0:Int),(([]:List Fd),(([]:List Fd),([]:List fZ))))))\/∃j,∃hj:j<l.2.2.length,(x.2.1:Int)=(j:Int)/\ms=l.2.2[j]):
 M.jY aU l (k:Int)=aa (x,ms,aiG x.2.2.2.1.length ah,aiG ms.2.2.2.1.length ah):=by
 have yk:=(fO.2.2.2.2.2 _ (aiF hk)).2.2.1;rw[<-hx]at yk;unfold M.jY;rw[aC hk,aiA,<-hx,lp _ _ (by omega),aiA]
 rcases hm with⟨h,rfl⟩|⟨j,hj,e,rfl⟩
 .rw[aj (by simpa using h),aiA];rfl
 .have q14:=(fO.2.2.2.2.2 _ (aiF hj)).2.2.1
  have ei:idx l.2.2 x.2.1=aa l.2.2[j]:=by
   rw[show idx l.2.2 x.2.1=idx l.2.2 (j:Int)from aw _ e,aC hj]
  rw[al (ao (show(0:Int)<=x.2.1 from e▸Int.natCast_nonneg j)),ei,aiA,lp _ _ (by omega),aiA,aiA]
def T4{l:Lw}(hw:WF cT l)(fO:fI l){k:Nat}(hk:k<l.2.2.length)(c:dT.den)(h:Valid l){y:Int×Int×Int}(hy:M.b8 aU l (k:Int) c=aa y)(Xj:y.2.2=0):M.cH aU l (k:Int) c ah 0=aa KD:=by
 unfold M.cH;rw[mJ l hw fO,aiA,aj (by simpa using(show(w4 l).1=0 from h))];rw[aj (by rw[ax];omega),aj (by rw[ax];omega),aj (by decide),aiA,aj (by decide),hy,aiA,aj (by simpa using Xj)]
def abW{l:Lw}(hw:WF cT l)(fO:fI l)(hv:Valid l){k:Nat}(hk:k<l.2.2.length){c:dT.den}(hC:zN l l.2.2[k] c){y:Int×Int×Int}(hy:M.b8 aU l (k:Int) c=aa y)(Xj:y.2.2=0)
 {o:List Int}(eo:M.bo aU l.2.2[k]=aa ((0:Int),o))(ho:pb l.2.2[k] o)(X8:o.length=l.2.2[k].2.2.2.1.length){q:fY}{oq:List Int}{mts:List Ty}(hA:D9 l l.2.2[k] c q oq mts):
 M.jn aU l (k:Int) c=aa (Bu jQ l.2.2[k] q o oq mts c l.2.1):=by
 have tg:=fO.2.2.2.2.2 _ (aiF hk);have sT:=hw.2.2.2 _ (aiF hk);have yk:=tg.2.2.1;have h8:=hC.le
 obtain⟨f,hf⟩:∃f,f=λ(m:Nat)(vs:List Vl)=>kr (m:Int) (oK jQ q oq c.1 vs ([],([],l.2.1))):=⟨_,rfl⟩
 obtain⟨ms,Pq,Ya,m14⟩:∃ms:fY,((¬(0:Int)<=l.2.2[k].2.1/\ms=(ajO,((0:Int),(([]:List Fd),(([]:List Fd),([]:List fZ))))))\/∃j,∃hj:j<l.2.2.length,(l.2.2[k].2.1:Int)=(j:Int)/\ms=l.2.2[j])/\mts=ms.2.2.2.1.map (λf:Fd=>f.2)/\ms.2.2.2.1.length<=14:=by
  rcases hA with⟨g1,rfl,_⟩|⟨j,hj,g1,_,_,_,_,rfl⟩
  .exact⟨_, .inl ⟨g1,rfl⟩,rfl,by simp⟩
  .rename_i q;exact⟨_, .inr ⟨j,hj,g1,rfl⟩,by simp_all,(fO.2.2.2.2.2 _ (aiF hj)).2.2.1⟩
 unfold M.jn;rw[T4 hw fO hk c hv hy Xj,aiA,aj (by decide),Ea fO hk rfl Pq,aiA];dsimp only;rw[xI _ (by omega),aiA,xI _ (by omega),aiA];unfold M.ko;rw[zQ _ (by omega),aiA,<-Ya]
 refine Wp.eq (.bind (.join (Wp.mono (Q:=λu=>(∃e:aI.den,∃b,mv f 0 c.2.2 []= .inl e/\u=ajy ((0:Int),([]:List aB.den),([]:List aT.den),e,l.2.2[k],ms,aiG l.2.2[k].2.2.2.1.length af,b,([]:List aB.den),([]:List Int),([]:List aD.den),([]:List (List aB.den)),([]:List az.den)))\/
  ∃MR b,mv f 0 c.2.2 []= .inr MR/\MR.length<=100/\u=Sum.inl (b,c.1,c.2.1,l.2.1,mts,MR.map (λr:aD.den=>r.1),MR)) ?_ λu hu=>?_)))
 .refine Wp.count (λs=>s.1) c.2.2.length (λi s=>∃MR:TZ,s.2=(aiG ms.2.2.2.1.length af,c.1,c.2.1,l.2.1,mts,MR.map (λr:aD.den=>r.1),MR)/\MR.length=i/\mv f 0 c.2.2 []=mv f i (c.2.2.drop i) MR) (by omega) rfl ⟨[],rfl,rfl,rfl⟩ λi s hi hs hJ=>?_
  obtain⟨ii,s⟩:=s;obtain⟨MR,rfl,j2,j3⟩:=hJ;dsimp only at hs;subst hs;refine .dec (λh=>?_) (λh=> .some (.inr ⟨MR,_,?_,by omega,rfl⟩))
  .have aH:i<c.2.2.length:=by dsimp only at h;omega
   rw[aiN aH,mv]at j3
   rcases hA with⟨_,_,g3⟩|⟨j,hj,g1,rfl,g3,g4,g5,_⟩
   .rw[g3]at aH;cases aH
   obtain rfl:ms=l.2.2[j]:=by
    rcases Pq with⟨h1,_⟩|⟨j',Oh,e',rfl⟩
    .exact absurd (show(0:Int)<=l.2.2[k].2.1 from g1▸Int.natCast_nonneg j) h1
    .obtain rfl:j'=j:=by
      have:((j':Nat):Int)=(j:Int):=e'.symm.trans g1;omega
     rfl
   have X9:=fO.2.2.2.2.2 _ (aiF hj);have hwq:=hw.2.2.2 _ (aiF hj)
   have hfi:f i c.2.2[i]=kr (i:Int) (oK jQ l.2.2[j] oq c.1 c.2.2[i] ([],([],l.2.1))):=by rw[hf]
   rw[hfi]at j3;refine .bind (.idx i rfl aH (Wp.seq _ (N1 (vs:=c.2.2[i]) (tbs:=l.2.1) g3 hwq X9 (λa=>Fit.of hv fO hj a c.1) (λa ha=>(g4.mem ha).1) (by omega) (λD=>HL hw (by simp)) (i:Int)) λr hr=>?_));obtain⟨r1,r2,r3⟩:=hr;rw[<-r1]at j3
   refine .iM (λhz=> .some (.inl ⟨_,_,?_,rfl⟩)) λhz=>?_
   .rw[j3,al hz]
   .obtain⟨r4,r5⟩:=r3 hz;rw[aj (λg=>g hz),<-r4,<-r5]at j3;refine .bind (.ub (by simp;omega) (.bind (.ub (by simp;omega) (.some ⟨aH,aQ (by omega),MR++[_],?_,by simp[j2],j3⟩))));rw[List.map_append,r2];rfl
  .have:i=c.2.2.length:=by dsimp only at h;omega
   rw[j3,this,List.drop_length];rfl
 .unfold Bu
  rcases hu with⟨e,b,he,rfl⟩|⟨MR,b,he,hl,rfl⟩
  .rw[hf]at he;rw[he];exact .some rfl
  .rw[hf]at he;rw[he]
   show Wp _ _
   dsimp only
   refine Wp.seq _ (N2 (vs:=c.2.1) (ms:=MR.map λr:aD.den=>r.1) (mts:=mts) (tbs:=l.2.1) eo sT tg (λa=>Fit.of hv fO hk a c.1) (λa ha=>(ho.mem ha).1) (by omega) (λD=>HL hw (by simpa using hl)) (-1)) λr hr=>?_
   obtain⟨r1,r2⟩:=hr;rw[<-r1]
   refine .iM (λhz=> .some (.some (by rw[al hz]))) λhz=> .some (.some ?_)
   obtain⟨r3,r4⟩:=r2 hz;rw[aj (λg=>g hz),<-r3,<-r4]
def xJ{dp dp':List Vl->Int->Vl×Int×Int}{fs:List Fd}(h:∀D a,NK D fs->dp D a=dp' D a/\((dp D a).2.2=0->∃k:Nat,a=(k:Int)/\∃f,fs[k]? =aa f/\P.jO (dp D a).1 f.2)):∀{o:List Int}{D:List Vl}{rl:List Int},NK D fs->nZ dp o D rl=nZ dp' o D rl/\∀p,nZ dp o D rl= .inl p->NK p.1 fs
 |[],D,rl,hD=>⟨rfl,λp hp=>by cases hp;exact hD⟩
 |a::o,D,rl,hD=>by
  obtain⟨h1,h2⟩:=h D a hD;rw[nZ,nZ,<-h1];by_cases h0:(dp D a).2.2=0
  .rw[aj (λg=>g h0),aj (λg=>g h0)];obtain⟨k,rfl,f,hf,ht⟩:=h2 h0;exact xJ h (hD.set hf ht)
  .rw[al h0,al h0];exact⟨rfl,λp hp=>by cases hp⟩
def zR{f f':Nat->List Vl->aI.den×List Vl×List Int}{T:List Vl->Prop}:∀{ms:List (List Vl)}{k:Nat}{acc:TZ},(∀vs∈ms,∀m,f m vs=f' m vs/\(((f m vs).1.1:Int)=0->T (f m vs).2.1))->(∀r∈acc,T r.1)->mv f k ms acc=mv f' k ms acc/\∀MR,mv f k ms acc= .inr MR->∀r∈MR,T r.1
 |[],k,acc,_,ha=>⟨rfl,λMR h=>by cases h;exact ha⟩
 |vs::ms,k,acc,h,ha=>by
  obtain⟨h1,h2⟩:=h vs (List.mem_cons_self ..) k;rw[mv,mv,<-h1];by_cases h0:((f k vs).1.1:Int)=0
  .rw[aj (λg=>g h0),aj (λg=>g h0)]
   refine zR (λv hv=>h v (List.mem_cons_of_mem _ hv)) λr hr=>?_
   rcases aiX.1 hr with hr|hr
   .exact ha r hr
   .rw[aiZ]at hr;subst hr;exact h2 h0
  .rw[al h0,al h0];exact⟨rfl,λMR hM=>by cases hM⟩
def Eb{l:Lw}(hw:WF cT l)(fO:fI l)(hv:Valid l){k:Nat}(hk:k<l.2.2.length){d:Int}{vs:List Vl}{rs:Ux}(hE:∀D,NK D l.2.2[k].2.2.2.1->Gs l l.2.2[k] d (d,(vs,(D,rs))))(o:List Int):
 oK n4 l.2.2[k] o d vs rs=oK jQ l.2.2[k] o d vs rs/\∀p,oK n4 l.2.2[k] o d vs rs= .inl p->NK p.1 l.2.2[k].2.2.2.1:=by
 have sT:=hw.2.2.2 _ (aiF hk);have XR:=(hv.scope k hk).2.2.2.2.2.2.1;have Q7:=(fO.2.2.2.2.2 _ (aiF hk)).2.2.2.1;unfold oK;refine xJ (fs:=l.2.2[k].2.2.2.1) (λD a hD=>?_) ⟨by simp,λj v f hj _=> .inr ?_⟩
 .have e:=Qs (Fit.of hv fO hk a d) (NV hw sT XR (hE D hD) a);rw[e];exact⟨rfl,Qu hw sT (by omega) XR (hE D hD) a⟩
 .rw[List.getElem?_replicate]at hj;split at hj
  .obtain rfl:=aiC hj;rfl
  .cases hj
def Qy{dt:Dt}{x:fY}{o:List Int}{d mem:Int}{vs:List Vl}{rs:Ux}{fs:List Fd}(h:∀p,oK dt x o d vs rs= .inl p->NK p.1 fs)(h0:((kr mem (oK dt x o d vs rs)).1.1:Int)=0):NK (kr mem (oK dt x o d vs rs)).2.1 fs:=by
 cases hq:oK dt x o d vs rs with
 |inl p=>exact h p hq
 |inr q=>
  rw[hq]at h0;exact absurd h0 (Bt hq)
def N3{l:Lw}(hw:WF cT l)(fO:fI l)(hv:Valid l){k:Nat}(hk:k<l.2.2.length){c:dT.den}(hC:zN l l.2.2[k] c)(o:List Int){q:fY}{oq:List Int}{mts:List Ty}(hA:D9 l l.2.2[k] c q oq mts):
 Bu n4 l.2.2[k] q o oq mts c l.2.1=Bu jQ l.2.2[k] q o oq mts c l.2.1:=by
 have h8:=hC.le
 have hM:mv (λm vs=>kr (m:Int) (oK n4 q oq c.1 vs ([],([],l.2.1)))) 0 c.2.2 []=mv (λm vs=>kr (m:Int) (oK jQ q oq c.1 vs ([],([],l.2.1)))) 0 c.2.2 []/\
  ∀MR,mv (λm vs=>kr (m:Int) (oK n4 q oq c.1 vs ([],([],l.2.1)))) 0 c.2.2 []= .inr MR->∀r∈MR,∀(i:Nat)(t:Ty),mts[i]? =aa t->∃v,r.1[i]? =aa v/\(P.jO v t\/(v.1:Int)=0):=by
  rcases hA with⟨_,_,g3⟩|⟨j,hj,g1,rfl,g3,g4,g5,rfl⟩
  .rw[g3];exact⟨rfl,λMR h r hr=>by cases h;cases hr⟩
  .refine zR (T:=λD=>∀(i:Nat)(t:Ty),(l.2.2[j].2.2.2.1.map λf:Fd=>f.2)[i]? =aa t->∃v,D[i]? =aa v/\(P.jO v t\/(v.1:Int)=0)) (λvs Sq m=>?_) λr hr=>by cases hr
   have hnq:(gp l l.2.2[j]).2.2.2.2.1=[]:=by
    obtain⟨q',zZ,e',en⟩:=Ro hv hk (show(0:Int)<=l.2.2[k].2.1 from g1▸Int.natCast_nonneg j)
    obtain rfl:q'=j:=by
     have:((q':Nat):Int)=(j:Int):=e'.symm.trans g1;omega
    exact HG λg=>by
     have:(0:Int)<=-1:=en▸g;omega
   have cL:Uw vs l.2.2[j].2.2.1:=by
    obtain⟨q',zZ,e',cL⟩:=hC.mem vs Sq
    obtain rfl:q'=j:=by
     have:((q':Nat):Int)=(j:Int):=e'.symm.trans g1;omega
    exact cL
   obtain⟨b1,b2⟩:=Eb (d:=c.1) (rs:=([],([],l.2.1))) hw fO hv hj (λD hD=>⟨rfl,cL,hD,hnq.symm,by simp,(λD h=>by cases h),rfl⟩) oq;refine⟨by rw[b1],λh0=>λi t ht=>?_⟩;have hD:=Qy b2 h0;rw[List.getElem?_map]at ht;obtain⟨f,hf,rfl⟩:=ajp.1 ht;have hl:=(aiP.1 hf).1
   have Oi:i<(kr (m:Int) (oK n4 l.2.2[j] oq c.1 vs ([],([],l.2.1)))).2.1.length:=by rw[hD.1];exact hl
   exact⟨_,aiE Oi,hD.2 i _ f (aiE Oi) hf⟩
 unfold Bu;rw[<-hM.1]
 cases hq:mv (λm vs=>kr (m:Int) (oK n4 q oq c.1 vs ([],([],l.2.1)))) 0 c.2.2 []with
 |inl e=>rfl
 |inr MR=>
  have hMR:=hM.2 MR hq
  have hlen:MR.length<=100:=by
   have:=xG hq;simp at this;omega
  have Ya:(gp l l.2.2[k]).2.2.2.2.1=mts:=by
   rcases hA with⟨g1,rfl,_⟩|⟨j,hj,g1,rfl,_,_,_,rfl⟩
   .exact HG g1
   .exact Qo hj g1
  have:=(Eb (d:=c.1) (vs:=c.2.1) (rs:=(MR.map λr:aD.den=>r.1,(mts,l.2.1))) hw fO hv hk (λD hD=>⟨rfl,hC.inp,hD,Ya.symm,by simpa using hlen,λD K7 i t ht=>by
   obtain⟨r,hr,rfl⟩:=List.mem_map.1 K7;rw[Ya]at ht
   exact hMR r hr i t ht,rfl⟩) o).1
  dsimp only;rw[this]
end L
namespace L
def zS(l:List Int)(h:l.length<=100000):M.mP aU l l=aa af:=by
 apply Wp.eq;unfold M.mP;rw[aj (by simp)]
 refine Wp.count (λs=>s) l.length (λ_ _=>True) (by omega) rfl trivial λk s hk hs _=>?_
 obtain rfl:s=_:=hs
 refine Wp.seq (λj=>j=decide (k<l.length)) ?_ λj hj=>?_
 .refine Wp.dec (λh=> .some ?_) λh=> .some ?_
  .simp
  .simp;omega
 .subst hj
  refine Wp.dec (λaH=>?_) λ_=> .some rfl
  rw[aC aH,aiA,aiA,aj (by simp)];exact .some ⟨aH,cK (m:=l.length) (by omega) aH,trivial⟩
def uW(l:List Vl)(h:l.length<=100000):M.l5 aU l l=aa af:=by
 apply Wp.eq;unfold M.l5;rw[aj (by simp)]
 refine Wp.count (λs=>s) l.length (λ_ _=>True) (by omega) rfl trivial λk s hk hs _=>?_
 obtain rfl:s=_:=hs
 refine Wp.seq (λj=>j=decide (k<l.length)) ?_ λj hj=>?_
 .refine Wp.dec (λh=> .some ?_) λh=> .some ?_
  .simp
  .simp;omega
 .subst hj
  refine Wp.dec (λaH=>?_) λ_=> .some rfl
  rw[aC aH,aiA,aiA,aj (by rw[l7];decide)];exact .some ⟨aH,cK (m:=l.length) (by omega) aH,trivial⟩
def Kq(l:List aD.den)(h:l.length<=100000)(hm:∀r∈l,r.1.length<=100000/\r.2.length<=100000):M.gT aU l l=aa af:=by
 apply Wp.eq;unfold M.gT;rw[aj (by simp)]
 refine Wp.count (λs=>s) l.length (λ_ _=>True) (by omega) rfl trivial λk s hk hs _=>?_
 obtain rfl:s=_:=hs
 refine Wp.seq (λj=>j=decide (k<l.length)) ?_ λj hj=>?_
 .refine Wp.dec (λh=> .some ?_) λh=> .some ?_
  .simp
  .simp;omega
 .subst hj
  refine Wp.dec (λaH=>?_) λ_=> .some rfl
  have:=hm _ (aiF aH)
  have e:M.iH aU l[k] l[k]=aa af:=by
   unfold M.iH;rw[uW _ this.1,aiA,al rfl,zS _ this.2];rfl
  rw[aC aH,aiA,aiA,e,aiA,aj (by simp)];exact .some ⟨aH,cK (m:=l.length) (by omega) aH,trivial⟩
def Ec{dp:List Vl->Int->Vl×Int×Int}:∀{o:List Int}{D:List Vl}{rl:List Int}{p:List Vl×List Int},nZ dp o D rl= .inl p->p.1.length=D.length/\p.2.length=rl.length
 |[],D,rl,p,h=>by cases h;exact⟨rfl,rfl⟩
 |a::o,D,rl,p,h=>by
  rw[nZ]at h;split at h
  .cases h
  .have:=Ec h;rw[b7,b7]at this;exact this
def Ed(dt:Dt)(x:fY)(o:List Int)(d:Int)(vs:List Vl)(rs:Ux)(mem:Int):(kr mem (oK dt x o d vs rs)).2.1.length<=x.2.2.2.1.length/\(kr mem (oK dt x o d vs rs)).2.2.length<=x.2.2.2.1.length:=by
 cases h:oK dt x o d vs rs with
 |inr q=>simp[kr]
 |inl p=>
  unfold oK at h;have:=Ec h;simp only[List.length_replicate]at this;simp only[kr];omega
def Bd(p:Rs):Prop:=p.2.1.length<=100000/\p.2.2.1.length<=100000/\p.2.2.2.length<=100000/\∀r∈p.2.2.2,r.1.length<=100000/\r.2.length<=100000
def xK(e:aI.den):Bd (e,([],([],[]))):=⟨by simp,by simp,by simp,λr h=>by cases h⟩
def Ee{f:Nat->List Vl->aI.den×List Vl×List Int}{T:aD.den->Prop}(hf:∀m vs,T ((f m vs).2.1,(f m vs).2.2)):∀{ms:List (List Vl)}{k:Nat}{acc MR:TZ},mv f k ms acc= .inr MR->(∀r∈acc,T r)->∀r∈MR,T r
 |[],_,_,_,h,ha=>by cases h;exact ha
 |vs::ms,k,acc,MR,h,ha=>by
  rw[mv]at h;split at h
  .cases h
  .refine Ee hf h λr hr=>?_
   rcases aiX.1 hr with hr|hr
   .exact ha r hr
   .rw[aiZ.1 hr];exact hf k vs
def Qz{dt:Dt}{x q:fY}{o oq:List Int}{mts:List Ty}{c:dT.den}{tbs:List aT.den}(hx:x.2.2.2.1.length<=14)(hq:q.2.2.2.1.length<=14)(hc:c.2.2.length<=100):Bd (Bu dt x q o oq mts c tbs):=by
 unfold Bu;split
 .exact xK _
 .rename_i MR hM;split
  .exact xK _
  .have h1:=Ed dt x o c.1 c.2.1 (MR.map (·.1),(mts,tbs)) (-1);have h2:=xG hM;simp only[List.length_nil]at h2;refine⟨by dsimp only;omega,by dsimp only;omega,by dsimp only;omega,Ee (T:=λr=>r.1.length<=100000/\r.2.length<=100000) (λm vs=>?_) hM λr hr=>by cases hr⟩;have:=Ed dt q oq c.1 vs ([],([],tbs)) (m:Int);dsimp only;omega
def N4{p:Rs}(hb:Bd p):M.nI aU (p.2.1,(p.2.2.1,p.2.2.2)) (p.2.1,(p.2.2.1,p.2.2.2))=aa af:=by
 unfold M.nI;rw[uW _ hb.1,aiA,al rfl,zS _ hb.2.1,aiA,al rfl,Kq _ hb.2.2.1 hb.2.2.2];rfl
def Bv(c:dT.den):Wp (M.k7 aU c) λr=>r=af->c.2.1.length<=14/\c.2.2.length<=10/\∀vs∈c.2.2,vs.length<=14:=by
 unfold M.k7
 refine Wp.seq (λj=>j=ah->c.2.1.length<=14/\c.2.2.length<=10) ?_ λj hj=>?_
 .refine Wp.dec (λ_=> .some λh=>by cases h) λh=> .some λg=>?_
  have g:=of_decide_eq_false g;exact⟨by omega,by omega⟩
 refine Wp.ite (λ_=> .some λh=>by cases h) λhc=>?_
 obtain⟨g1,g2⟩:=hj (by simpa using hc)
 refine Wp.count (λs=>s) c.2.2.length (λk _=>∀i(h:i<c.2.2.length),i<k->c.2.2[i].length<=14) (by omega) rfl (λi h g=>by omega) λk s hk hs hJ=>?_
 obtain rfl:s=_:=hs
 refine Wp.dec (λaH=>?_) λhge=> .some λ_=>⟨g1,g2,λvs Sq=>?_⟩
 .have aH:k<c.2.2.length:=by omega
  rw[aC aH,aiA]
  refine Wp.dec (λ_=> .some λh=>by cases h) λh=> .some ⟨aH,cK (m:=c.2.2.length) (by omega) aH,λi hi Xx=>?_⟩
  by_cases e:i<k
  .exact hJ i hi e
  .obtain rfl:i=k:=by omega
   omega
 .obtain⟨i,hi,rfl⟩:=aiV Sq;exact hJ i hi (by omega)
def N5{l:Lw}(fO:fI l)(hv:Valid l){k:Nat}(hk:k<l.2.2.length){c:dT.den}(hC:zN l l.2.2[k] c):∃q oq mts,D9 l l.2.2[k] c q oq mts/\q.2.2.2.1.length<=14:=by
 have yk:=(fO.2.2.2.2.2 _ (aiF hk)).2.2.1;by_cases h:(0:Int)<=l.2.2[k].2.1
 .obtain⟨j,hj,e,_⟩:=Ro hv hk h;obtain⟨oq,e1,e2,e3⟩:=NZ fO hv hj;exact⟨_,oq,_, .inr ⟨j,hj,e,rfl,e1,e2,e3,rfl⟩,(fO.2.2.2.2.2 _ (aiF hj)).2.2.1⟩
 .refine⟨l.2.2[k],[],[], .inl ⟨h,rfl,?_⟩,yk⟩
  rcases hc:c.2.2 with _|⟨vs,t⟩
  .rfl
  .obtain⟨q,_,e,_⟩:=hC.mem vs (by rw[hc];exact List.mem_cons_self ..);exact absurd (show(0:Int)<=l.2.2[k].2.1 from e▸Int.natCast_nonneg q) h
def N6{n:Nat}{a:Int}(h:a<0\/(n:Int)<=a):((if(decide (a<(0:Int)))=af then aa af else aa (decide ((n:Int)<=a))):Option Bool)=aa af:=by
 by_cases g:a<0
 .rw[al (ao g)]
 .rw[aj (by simpa using g),ao (h.resolve_left g)]
def N7{n k:Nat}(h:k<n):((if(decide ((k:Int)<(0:Int)))=af then aa af else aa (decide ((n:Int)<=(k:Int)))):Option Bool)=aa ah:=by
 rw[aj (by rw[ax];omega),aq (by omega)]
inductive N8(l:Lw)(a:Int)(c:dT.den):Prop
 |bad:¬Valid l->N8 l a c
 |out:Valid l->a<0\/(l.2.2.length:Int)<=a->N8 l a c
 |err (k:Nat) (y:Int×Int×Int):Valid l->k<l.2.2.length->a=(k:Int)->M.b8 aU l (k:Int) c=aa y->(y.2.2:Int)≠0->N8 l a c
 |ok (k:Nat) (hk:k<l.2.2.length) (y:Int×Int×Int) (o:List Int) (q:fY) (oq:List Int) (mts:List Ty):Valid l->a=(k:Int)->M.b8 aU l (k:Int) c=aa y->(y.2.2:Int)=0->zN l l.2.2[k] c->M.bo aU l.2.2[k]=aa ((0:Int),o)->pb l.2.2[k] o->o.length=l.2.2[k].2.2.2.1.length->D9 l l.2.2[k] c q oq mts->q.2.2.2.1.length<=14->N8 l a c
def abX(l:Lw)(fO:fI l)(a:Int)(c:dT.den)(h1:c.2.1.length<=14)(h2:c.2.2.length<=10)(h3:∀vs∈c.2.2,vs.length<=14):N8 l a c:=by
 by_cases hv:Valid l
 rotate_left
 .exact .bad hv
 by_cases ho:a<0\/(l.2.2.length:Int)<=a
 .exact .out hv ho
 obtain⟨k,rfl⟩:=aiL (show 0<=a by omega)
 have hk:k<l.2.2.length:=by omega
 obtain⟨y,hy,hyc⟩:=Qn hv.enl fO hk c h1 h2 h3;by_cases h0:(y.2.2:Int)=0
 rotate_left
 .exact .err k y hv hk rfl hy h0
 obtain⟨o,e1,e2,e3⟩:=NZ fO hv hk;obtain⟨q,oq,mts,hA,hq⟩:=N5 fO hv hk (hyc h0);exact .ok k hk y o q oq mts hv rfl hy h0 (hyc h0) e1 e2 e3 hA hq
def Xk{l:Lw}(hw:WF cT l)(fO:fI l)(a:Int)(c:dT.den)(h:¬Valid l):M.cr aU l a c=aa (((1:Int),((-1:Int),((-1:Int),(-1:Int)))),([],([],[]))):=by
 unfold M.cr;rw[mJ l hw fO,aiA,al];rw[Bool.not_eq_true',n9];intro g;exact h (by unfold Valid;rw[g])
def Xl{l:Lw}(hw:WF cT l)(fO:fI l){a:Int}(c:dT.den)(hv:Valid l)(h:a<0\/(l.2.2.length:Int)<=a):M.cr aU l a c=aa (((6:Int),((-1:Int),((-1:Int),(-1:Int)))),([],([],[]))):=by
 unfold M.cr;rw[mJ l hw fO,hv.C8,aiA,aj (by rw[show C8=KD from rfl,l7];decide),N6 h,aiA,al rfl]
def Xm{l:Lw}(hw:WF cT l)(fO:fI l)(c:dT.den)(hv:Valid l){k:Nat}(hk:k<l.2.2.length){y:Int×Int×Int}(hy:M.b8 aU l (k:Int) c=aa y)(h0:(y.2.2:Int)≠0):M.cr aU l (k:Int) c=aa ((y.2.2,(y.1,((-1:Int),(-1:Int)))),([],([],[]))):=by
 unfold M.cr;rw[mJ l hw fO,hv.C8,aiA,aj (by rw[show C8=KD from rfl,l7];decide),N7 hk,aiA,aj (by decide),hy,aiA,al (by simpa using h0)]
end L
namespace L
abbrev Xn:List aP.den:=[((⟨#[104,111,117,115,101]⟩:ByteArray),((-1:Int),(([((⟨#[97]⟩:ByteArray),((3:Int),(0:Int)))]:List bF.den),(([((⟨#[100]⟩:ByteArray),((3:Int),(0:Int)))]:List bF.den),([((⟨#[98,97,115,101]⟩:ByteArray),((0:Int),((-1:Int),((0:Int),(((0:Int),(109573:Int)),(([]:List az.den),(([((7:Int),(0:Int))]:List az.den),ajO)))))))]:List da.den)))))]
abbrev QA:Lw:=(([]:List dL.den),(([]:List aT.den),Xn))
abbrev tbT:JX:=((0:Int),(([]:List (List az.den)),(([]:List Int),([(((0:Int),(0:Int)),(0:Int))]:List aM.den))))
def N9:M.eZ aU QA=aa ((0:Int),((0:Int),((0:Int),(0:Int)))):=by kernel_rfl
def abZ:M.jk aU QA 0 0 36525=aa ((0:Int),(0:Int),([]:List (List az.den)),([]:List Int),([(((0:Int),(0:Int)),(0:Int))]:List aM.den)):=by
 have hx:idx QA.2.2 0=aa QA.2.2[0]:=rfl
 have hf:Fit QA.2.2[0].2.2.2.2 0 36525:=by
  refine⟨by decide,λr hr=>?_,?_⟩
  .grind
  .grind [TN,jN]
 have h1:=zE N9 (by decide) (by decide) hx (by decide) (by decide) (by decide) (by decide) hf;have h2:=Ng (l:=QA) (a1:=0) hx hf
 have h3:M.lH aU QA 0 0 36525=aa ((0:Int),([]:List (List az.den)),([]:List Int),([(((0:Int),(0:Int)),(0:Int))]:List aM.den)):=by kernel_rfl
 grind
def Xo:M.cY aU QA 0 36525=aa (Xn[0],[0],[tbT],[0]):=by
 unfold M.cY;refine Wp.eq (.ba (x:=Xn[0]) rfl (.ba (x:=[((0:Int),(([]:List (List az.den)),(([]:List Int),([]:List aM.den))))]) rfl (.ba (x:=[(0:Int)]) rfl (.ba (x:=((0:Int),[(0:Int)])) (by kernel_rfl) (Wp.seq (λj=>j=([tbT],[(0:Int)])) ?_ λj hj=> .some (by rw[hj]))))))
 refine Wp.count (λs=>s.1) 1 (λk s=>s.2.1.length=1/\s.2.2.length=1/\(k=1->s.2=([tbT],[(0:Int)]))) (by omega) rfl ⟨rfl,rfl,λh=>by cases h⟩ λk s hk hs hJ=>?_
 obtain⟨c,A,B⟩:=s;obtain⟨j1,j2,j3⟩:=hJ;dsimp only at hs j1 j2 j3;subst hs
 refine .dec (λh=>?_) λh=> .some (j3 ?_)
 .have h:(k:Int)<1:=h
  obtain rfl:k=0:=by omega
  obtain⟨a,rfl⟩:=List.length_eq_one_iff.1 j1;obtain⟨b,rfl⟩:=List.length_eq_one_iff.1 j2;exact .ba abZ (.ba (x:=a) rfl (.ba (x:=b) rfl (.some ⟨by omega,rfl,rfl,rfl,λ_=>rfl⟩)))
 .have h:¬(k:Int)<1:=h;omega
def runT:M.cr aU QA 0 ((36525:Int),(([((3:Int),((0:Int),(1250:Int)))]:List aB.den),([]:List (List aB.den))))=aa (((0:Int),((0:Int),((0:Int),(0:Int)))),[((3:Int),((0:Int),(1250:Int)))],[(0:Int)],[]):=by
 unfold M.cr;refine Wp.eq (.ba N9 (.ite (λh=>absurd h (by rw[l7];decide)) λ_=> .ba (x:=ah) rfl (.ite (λh=>absurd h (by decide)) λ_=> .ba (x:=((0:Int),(0:Int),(0:Int))) (by kernel_rfl) (.ite (λh=>absurd h (by decide)) λ_=> .join (.ba (x:=Xn[0]) rfl (.ba (x:=ah) rfl (.ite (λh=>absurd h (by decide)) λ_=> .some ?_)))))))
 show Wp _ _
 exact .ba Xo (.ba (x:=(((0:Int),((0:Int),((0:Int),(0:Int)))),[((3:Int),((0:Int),(1250:Int)))],[(0:Int)])) (by kernel_rfl) (.ite (λh=>absurd h (by rw[l7];decide)) λ_=> .some rfl))
def HM:M.l4 aU=aa af:=by
 unfold M.l4;exact Wp.eq (.ba (x:=((1:Int),((-1:Int),(0:Int)))) (by kernel_rfl) (.ba (x:=((0:Int),((1:Int),(8:Int)))) (by kernel_rfl) (.ba (x:=Xn) (by kernel_rfl) (.ba runT (.of (x:=af) (by kernel_rfl) rfl)))))
end L
namespace L
def QB{l:Lw}(hw:WF cT l)(fO:fI l)(a:Int)(c:dT.den)(h1:c.2.1.length<=14)(h2:c.2.2.length<=10)(h3:∀vs∈c.2.2,vs.length<=14):∃r,M.cr aU l a c=aa r/\M.jn aU l a c=aa r/\Bd r:=by
 rcases abX l fO a c h1 h2 h3 with hv|⟨hv,ho⟩|⟨k,y,hv,hk,rfl,hy,h0⟩|⟨k,hk,y,o,q,oq,mts,hv,rfl,hy,h0,hC,e1,e2,e3,hA,hq⟩
 .refine⟨_,Xk hw fO a c hv,?_,xK _⟩;unfold M.jn M.cH;rw[mJ l hw fO,aiA,al (by simpa using(show¬(w4 l).1=0 from hv)),aiA,al (by decide)]
 .refine⟨_,Xl hw fO c hv ho,?_,xK _⟩
  have hj:((if(decide (a<(0:Int)))=af then aa af else(if(decide ((l.2.2.length:Int)<=a))=af then aa af else(if ah=af then(if(decide ((0:Int)<(0:Int)))=af then aa af else(idx l.2.2 a).bind λx3=>aa (decide ((x3.2.2.2.1.length:Int)<=(0:Int))))else aa ah))):Option Bool)=aa af:=by
   by_cases g:a<0
   .rw[al (ao g)]
   .rw[aj (by simpa using g),al (ao (ho.resolve_left g))]
  unfold M.jn M.cH;rw[mJ l hw fO,aiA,aj (by simpa using(show(w4 l).1=0 from hv)),hj,aiA,al rfl,aiA,al (by decide)]
 .refine⟨_,Xm hw fO c hv hk hy h0,?_,xK _⟩;unfold M.jn M.cH;rw[mJ l hw fO,aiA,aj (by simpa using(show(w4 l).1=0 from hv)),aj (by rw[ax];omega),aj (by rw[ax];omega),aj (by decide),aiA,aj (by decide),hy,aiA,al (by simpa using h0),aiA,al (by simpa using h0)]
 .have yk:=(fO.2.2.2.2.2 _ (aiF hk)).2.2.1;refine⟨_,abT hw fO hv hk hC hy h0 e1 e2 e3 hA,?_,Qz yk hq (by omega)⟩;rw[abW hw fO hv hk hC hy h0 e1 e2 e3 hA,N3 hw fO hv hk hC o hA]
def qt(l:Lw)(scope:Int)(c:dT.den)(hw:WF cT l)(_:WF aA scope)(_:WF dT c):M.iB aU l scope c=aa af:=by
 unfold M.iB;refine Wp.eq (Wp.seq (λj=>j=ah->fI l/\c.2.1.length<=14/\c.2.2.length<=10/\∀vs∈c.2.2,vs.length<=14) (Wp.seq _ (JD l hw) λy hy=> .ite (λ_=> .some λh=>by cases h) λh=>Wp.seq _ (Bv c) λz hz=> .some λg=>⟨hy (by simpa using h),hz (by simpa using g)⟩) λj hj=> .ite (λ_=> .ba HM (.some rfl)) λh=>?_);obtain⟨fO,g1,g2,g3⟩:=hj (by simpa using h);obtain⟨r,e1,e2,hb⟩:=QB hw fO scope c g1 g2 g3;refine .ba e1 (.ba e2 (.ba (x:=af) ?_ (.some rfl)));rw[N4 hb,aiA,al rfl,al (l7 ..),HM,aiA]
end L
end Go.Proofs.YtfeahmiobbjklaaGreatDoor
