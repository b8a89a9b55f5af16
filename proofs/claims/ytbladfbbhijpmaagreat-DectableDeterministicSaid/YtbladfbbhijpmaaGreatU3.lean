/- Joined texts: Effs8 Effs9 Smap Apd Pack2 Call. -/
import Derived.Test.YtbladfbbhijpmaaGreatU2
import Derived.Maps.RangeRun
open _root_.Bool renaming false->aaM,true->aaL
open _root_.Option renaming none->aaK,isSome_iff_exists->ZC
open _root_.Array renaming toArray_toList->ZF,getElem?_eq_some_iff->Zx,toList_filter->aaw
open _root_.List renaming replicate->Zq,filter_eq_self->aav,mem_cons->Y6,mem_filter->Zt,pairwise_cons->Zu,length_append->Zf,length_cons->Ze
open _root_.Nat renaming beq->YZ,le_refl->YY,lt_of_lt_of_le->Zv,add_zero->Z1
open _root_.Option.some renaming inj->YU,injEq->Y3
open _root_.Prod.mk renaming inj->aan,injEq->ZV
open _root_.Go.Value renaming ownBlock->Zw
open _root_.Go.ChangeMaps renaming setBlock->aak
open _root_.Go.Instr renaming findAsking->aaF,findNow->ZW,lookup->aaE,mapUpdate->aab
open _root_.Go.MapKept renaming run_getObj_map->ZN,run_setObj_map->aah
open _root_.Go.Result renaming andThen->Za
open _root_.Go.Addr.mk renaming injEq->aam
open _root_.List.cons renaming injEq->Z8
open _root_.Go.Value.slice renaming injEq->aag
section
open _root_.Option renaming none->aaK
open _root_.Bool renaming true->aaL
open _root_.Int renaming toNat_natCast->Y4
open _root_.Nat renaming beq->YZ,le_refl->YY
open _root_.Option.some renaming inj->YU
open _root_.Go.Value renaming ownBlock->Zw
namespace Go.Proofs.YtbladfbbhijpmaaGreat
open Go Go.RowKit
section
variable {P:Program} {ρ:Nat->Value} {w w':World} {H H':aj} {F F':Nat->Prop} {U:Nat->Prop} {ob:Nat->Option (Nat×Th)} {n:Nat} {R:Type}
variable {op:Op} {ty:TypeId} {pos:String} {aft:Array Edge} {d:Nat}
noncomputable def mP(T:aJ P)(ob:Nat->Option (Nat×Th))(n:Nat)(t:TypeId)(D V:ag)(k:cU->Option R):Option R:=
 match find T.row t with
 |none=>aaK
 |some rt=>match V with
  | .val _ u=>match D with
    | .dlm o d0 i p off=>match ob o with
      |some (_, .deep T0 dr l h)=>bif d0.beq dr then(match dr.path p with
       |some ⟨.leaf r,q⟩=>bif YZ q.lo.off off&&YZ rt.size r.size then(match flat ob r u with
        |some y=>(idx l i).bind λx=>k {dst:= .dead,eat:=[o],make:=[(o,(n, .deep T0 dr (bz l i (q.hi.set x y)) h))]}
        |none=>aaK)else aaK
       |some ⟨.sl T' e',q⟩=>bif YZ q.lo.off off&&YZ rt.size 1 then(match u with
        | .own o1=>match ob o1 with
          |some (_,t1)=>match Nf T' e' t1 with
           |some _=>if vn h i p=aaL then(idx l i).bind λ_=>k {dst:= .dead,eat:=[o],make:=[(o,(n, .deep T0 dr l (some ⟨i,p,o1,n⟩)))]}else aaK
           |none=>aaK
          |none=>aaK
        | .nil=>if vn h i p=aaL then(idx l i).bind λx=>k {dst:= .dead,eat:=[o],make:=[(o,(n, .deep T0 dr (bz l i (q.hi.set x ([]:List e'.row.den))) aaK))]}else aaK
        |_=>aaK)else aaK
       |_=>aaK)else aaK
      |_=>aaK
    |_=>aaK
  |_=>aaK
theorem nP(T:aJ P){t:TypeId}{rt:Row}(FH:find T.row t=some rt){x y:Operand}{o s:Nat}{T0:TypeId}{dr e:DR}{i:Int}{l l':List dr.row.den}{h h':Option rz}{q:dV dr e}{g o0 qq m cap j:Nat}{u:e.low.den}{cs:List Value}{x1:dr.row.den}
 (hs:al U H F w ob n)(bR:ob o=some (s, .deep T0 dr l h))(hv:H.val o=some (.slice (some ⟨g,o0,aaK⟩) m cap))(hj:i=(j:Nat))(vo:j<l.length)(hx:ev ρ x= .pointer (some ⟨g,o0+qq*dr.low.size+q.lo.off,aaK⟩))(Yd:i=(qq:Nat))(hz:rt.size=e.low.size)
 (hr:bN F w e.low cs u)(tW:(ev ρ y).cells.toList=cs)(Qj:l'=l.set j x1)
 (rU:∀{w':World}{H1:aj},H.le H1->Step F w F w'->∀{x':dr.low.den}{S:Nat->Prop},(∀k,S k->w'.heap[k]? =w.heap[k]?)->k6 H F w dr h j x' l[j] S->∃B,(∀k,B k->S k)/\k6 H1 F w' dr h' j (q.lo.set x' u) x1 B)
 (Qk:∀{H1:aj}{w':World}{i':Nat}{x':dr.low.den}{x:dr.row.den}{S:Nat->Prop},i'≠j->k6 H1 F w' dr h i' x' x S->k6 H1 F w' dr h' i' x' x S):
 bK P U H F w ρ ob n ⟨aaK, .store t x y,ty,pos,aft,aaK⟩ {dst:= .dead,eat:=[o],make:=[(o,(n, .deep T0 dr l' h'))]}:=by
 obtain⟨ti,z0,h1,_,_,h4,_⟩:=T.row_ok _ _ FH;obtain⟨lh,Ss,dc,hlen,FT,cL⟩:=hs.low bR hv;obtain⟨v1,q8,bL⟩:=hs.obj _ _ _ bR;rw[hv]at q8;obtain rfl:=YU q8
 have Ql:j<lh.length:=by omega
 obtain rfl:qq=j:=by omega
 obtain⟨cur,hh,hle,bl,eT⟩:=dc.put rfl Ql hs.lt q.lo hr;generalize Vf:w.setRow g (cur.toList.take (o0+qq*dr.low.size+q.lo.off)++cs++cur.toList.drop (o0+qq*dr.low.size+q.lo.off+cs.length)).toArray=w' at bl eT;refine bD.unit (w':=w') (by rw[<-Vf];exact kX h1 (h4.trans (hz.trans hr.length.symm)) hx rfl tW hr.gh hh hle) ?_;have dZ:Step F w F w':=Step.ext bl hs.lt dc.no
 have hblk:∀i',i'<l.length->∀k,Ss i' k->w'.heap[k]? =w.heap[k]? :=λi' ik k hk=>bl.block k (bL.lt k (cL.part ik k hk)) (cL.out i' k ik hk)
 have hf:=hs.fresh n (YY _) (by omega)
 have eU:∀k,H.sub s k->bE H ob [o] k:=λk hk=>⟨o,by simp,s,_,_,bR,hv,hk⟩
 obtain⟨B0,Ye,_⟩:=rU (w':=w') (H1:=H) (aj.le.refl H) dZ (hblk qq vo) (FT qq Ql vo)
 have main:∀{H1:aj},H.le H1->∃B,(∀k,B k->Ss qq k)/\k6 H1 F w' dr h' qq (q.lo.set lh[qq] u) x1 B:=λDl=>rU Dl dZ (hblk qq vo) (FT qq Ql vo)
 have Ng:∃B,(∀k,B k->Ss qq k)/\∀{H1:aj},H.le H1->k6 H1 F w' dr h' qq (q.lo.set lh[qq] u) x1 B:=by
  obtain⟨B,b1,b2⟩:=main (aj.le.refl H);exact⟨B,b1,λDl=>b2.keep Dl (Step.refl F w') λ_ _=>rfl⟩
 obtain⟨B,b1,b2⟩:=Ng;have Vg:∀k,nN (ba (Value.slice (some ⟨g,o0,aaK⟩) m cap)) (λi=>if i=qq then B else Ss i) l.length k->H.sub s k:=cL.xi qq b1;refine iX.vl (t':= .deep T0 dr l' h') hs bR hv rfl (by simp) (nN (ba (Value.slice (some ⟨g,o0,aaK⟩) m cap)) (λi=>if i=qq then B else Ss i) l.length) (λk hk=>eU k (Vg k hk)) ⟨bl.os,bl.tape,bl.output,bl.size,λk hk hn=>bl.block k hk λe=>hn (eU k (cL.ba k e))⟩ ?_ trivial;have Dl:=aj.mO (H:=H) (S:=nN (ba (Value.slice (some ⟨g,o0,aaK⟩) m cap)) (λi=>if i=qq then B else Ss i) l.length) (t:= .deep T0 dr l' h') hf.2
 have ua:l'.length=l.length:=by rw[Qj];simp
 refine⟨lh.set qq (q.lo.set lh[qq] u),(λi=>if i=qq then B else Ss i),eT.2,by rw[ua];simpa using hlen,?_,?_⟩
 .intro i' a b
  have:=IH (rel:=k6 ((H.de n (nN (ba (Value.slice (some ⟨g,o0,aaK⟩) m cap)) (λi=>if i=qq then B else Ss i) l.length)).aV n (.deep T0 dr l' h')) F w' dr h') (lh:=lh) (l:=l) (Ss:=Ss) (j:=qq) (x':=q.lo.set lh[qq] u) (x:=x1) (B:=B)
   (λi2 c1 c2 cq=>Qk cq ((FT i2 c1 c2).keep Dl dZ (hblk i2 c2))) (b2 Dl) i' a (by simpa[Qj]using b)
  simpa only[Qj]using this
 .rw[ua];exact cL.less qq b1
theorem zP(T:aJ P){t:TypeId}{D V:ag}{x y:Operand}{k:cU->Option R}{q:R}(h:mP T ob n t D V k=some q)(hs:al U H F w ob n)(hx:af H F w D (ev ρ x))(hy:af H F w V (ev ρ y)):
 ∃e,k e=some q/\bK P U H F w ρ ob n ⟨aaK, .store t x y,ty,pos,aft,aaK⟩ e:=by
 unfold mP at h;split at h
 .cases h
 rename_i rt FH;split at h
 case h_2=>cases h
 rename_i agg u;split at h
 case h_2=>cases h
 rename_i o d0 i p off;split at h
 case h_2=>cases h
 rename_i s T0 dr l hh bR;obtain⟨hd,h'⟩:=ay h;clear h;obtain rfl:=DR.eq_of_beq hd;obtain⟨g,o0,qq,m,cap,e1,e2,e5⟩:=hx;obtain⟨cs,nG,tW⟩:=aw.cells hy;split at h'
 .rename_i r tV vi;obtain⟨h1,h2⟩:=ay h';obtain⟨h1,h3⟩:=bO h1;obtain rfl:=beq_true h1;split at h2
  case h_2=>cases h2
  rename_i z hz;obtain⟨a,ha,hk⟩:=bind_some h2;obtain⟨j,hj,vo,rfl⟩:=ef ha;refine⟨_,hk,nP (l':=bz l i (tV.hi.set l[j] z)) (x1:=tV.hi.set l[j] z) (u:=z) T FH hs bR e1 hj vo e5 e2 (beq_true h3) (eM hs hz nG) tW ?_ ?_ ?_⟩
  .unfold bz;rw[hj,Y4]
  .intro w' H1 hle dZ x' S hb hr;exact⟨S,λ_ h=>h,Dj tV z (hr.keep hle dZ hb)⟩
  .intro H1 w' i' x' x S _ hr;exact hr
 .rename_i T' e' tV vi;obtain⟨h1,h2⟩:=ay h';obtain⟨h1,h3⟩:=bO h1;obtain rfl:=beq_true h1;split at h2
  .rename_i o1;split at h2
   case h_2=>cases h2
   rename_i s1 t1 vp;split at h2
   case h_2=>cases h2
   rename_i y1 hD;split at h2
   case isFalse=>cases h2
   rename_i xl;obtain⟨a,ha,hk⟩:=bind_some h2;obtain⟨j,hj,vo,rfl⟩:=ef ha;obtain⟨u1,EP,lJ⟩:=hs.obj _ _ _ vp;obtain⟨v,hv,jf,rfl⟩:=nG;rw[EP]at hv;obtain rfl:=YU hv
   have Qm:bN F w .iU [u1] u1:=by
    have:=lJ.ok;rw[zO hD]at this;obtain⟨Vh,_,g1,_⟩:=rS this;obtain⟨xs,⟨_,hx⟩,_⟩:=g1
    rcases hx with⟨rfl,_⟩|⟨gg,o0,cp,cur,rfl,_⟩<;>exact⟨rfl,_,_,_,rfl⟩
   refine⟨_,hk,nP (l':=l) (x1:=l[j]) (u:=u1) (e:= .sl T' e') T FH hs bR e1 hj vo e5 e2 (beq_true h3) Qm tW ?_ ?_ ?_⟩
   .exact(List.set_getElem_self vo).symm
   .intro w' H1 hle dZ x' S hb hr;obtain⟨B,b1,b2⟩:=xk xl vi hj hr;refine⟨B,b1,λcq=>absurd hj cq,λ_=>⟨T',e',tV,vi,(b2.keep dZ λk hk=>hb k (b1 k hk)).FR tV u1,?_⟩⟩;rw[Path.vk];exact hle.val _ _ EP
   .intro H1 w' i' x' x S cq hr
    have Dm:i≠(i':Int):=λe=>cq (by omega)
    exact⟨λ_=>rV xl Dm hr,λe=>absurd e Dm⟩
  .split at h2
   case isFalse=>cases h2
   rename_i xl;obtain⟨a,ha,hk⟩:=bind_some h2;obtain⟨j,hj,vo,rfl⟩:=ef ha;have Qn:cs=_:=nG;subst Qn;refine⟨_,hk,nP (x1:=tV.hi.set l[j] ([]:List e'.row.den)) (u:=Value.slice aaK 0 0) (e:= .sl T' e') T FH hs bR e1 hj vo e5 e2 (beq_true h3) ⟨rfl,_,_,_,rfl⟩ tW ?_ ?_ ?_⟩
   .unfold bz;rw[hj,Y4]
   .intro w' H1 hle dZ x' S hb hr;obtain⟨B,b1,b2⟩:=xk xl vi hj hr;refine⟨B,b1,?_⟩;refine iV.put (e:= .sl T' e') tV (b2.keep dZ λk hk=>hb k (b1 k hk)) (A:=λ_=>False) ?_ ⟨λk=>by simp,λ_ h=>h.elim⟩;exact⟨[],λ_ _=>False,iL.nil F w' T' e'.low,rfl,λi h=>absurd h (by simp),⟨λk=>by simp[ba,Zw],λ_ _ _ h=>absurd h (by simp),λ_ _ h=>absurd h (by simp)⟩⟩
   .intro H1 w' i' x' x S cq hr
    have Dm:i≠(i':Int):=λe=>cq (by omega)
    exact rV xl Dm hr
  .cases h2
 .cases h'
end
end Go.Proofs.YtbladfbbhijpmaaGreat
namespace Go.Proofs.YtbladfbbhijpmaaGreat
open Go Go.RowKit
def pB{α:Type}(l:List α)(i:Int)(f:α->α):List α:=if 0<=i then l.modify i.toNat f else l
theorem iM{α:Type}(l:List α)(i:Int)(f:α->α):(pB l i f).length=l.length:=by unfold pB;split<;>simp
theorem vq{α:Type}{l:List α}{i:Int}{f:α->α}{j:Nat}(h:j<(pB l i f).length)(h':j<l.length):(pB l i f)[j]=if i=(j:Int)then f l[j]else l[j]:=by
 by_cases hi:0<=i
 .have e:pB l i f=l.modify i.toNat f:=by unfold pB;rw[aaP hi]
  simp only[e,List.getElem_modify]
  by_cases JZ:i=(j:Int)
  .rw[aaP JZ,aaP (by omega)]
  .rw[aaO JZ,aaO (by omega)]
 .have e:pB l i f=l:=by unfold pB;rw[aaO hi]
  simp only[e];rw[aaO (by omega)]
theorem Path.vr:{r s:Row}->(p:Path r s)->(x:r.den)->p.set x (p.get x)=x
 |_,_, .here,_=>rfl
 |_,_, .fst p,x=>by show(p.set x.1 (p.get x.1),x.2)=x;rw[Path.vr p]
 |_,_, .snd p,x=>by show(x.1,p.set x.2 (p.get x.2))=x;rw[Path.vr p]
section
variable {P:Program} {ρ:Nat->Value} {w w':World} {H H':aj} {F F':Nat->Prop} {U:Nat->Prop} {ob:Nat->Option (Nat×Th)} {n:Nat} {R:Type}
variable {op:Op} {ty:TypeId} {pos:String} {aft:Array Edge} {d:Nat}
def FU(ob:Nat->Option (Nat×Th))(n o:Nat):Option cU:=
 match ob o with
 |some (_, .deep T0 dr l (some h))=>match dr.path h.p with
  |some ⟨.sl T' e',q⟩=>match ob h.o with
   |some (_,t1)=>bif YZ h.o o then aaK else(match Nf T' e' t1 with
    |some y=>some {dst:= .dead,eat:=[o,h.o],make:=[(o,(n, .deep T0 dr (pB l h.i λx=>q.hi.set x y) aaK))]}
    |none=>aaK)
   |none=>aaK
  |_=>aaK
 |_=>aaK
theorem Dn(hs:al U H F w ob n){o:Nat}{e:cU}(h:FU ob n o=some e):jc H F w ob n e undef w:=by
 unfold FU at h;split at h
 case h_2=>cases h
 rename_i s T0 dr l hh bR;split at h
 case h_2=>cases h
 rename_i T' e' q hq;split at h
 case h_2=>cases h
 rename_i s1 t1 vp
 cases cq:YZ hh.o o with
 |true=>rw[cq]at h;cases h
 |false=>
  rw[cq,cond_false]at h
  have cq:o≠hh.o:=λe=>by rw[e]at cq;simp at cq
  split at h
  case h_2=>cases h
  rename_i y hD;obtain rfl:=YU h;have hD:=zO hD;subst hD;obtain⟨v,hv,bL⟩:=hs.obj _ _ _ bR;obtain⟨u,hu,lJ⟩:=hs.obj _ _ _ vp;obtain⟨lh,Ss,dc,hlen,rU,cL⟩:=hs.low bR hv;have hA:=rS lJ.ok;generalize TC:(λk=>fp (H.sub s1) u (Di T' e' y) k)=A at hA
  have Pm:∀k,A k->¬H.sub s k:=λk hk=>by
   rw[<-TC]at hk
   exact λh2=>hs.apart _ _ _ _ _ _ _ _ cq bR vp hv hu k h2 hk
  have hf:=hs.fresh n (YY _) (by omega)
  let Nh:Nat->Nat->Prop:=λi k=>Ss i k\/(hh.i=(i:Int)/\A k)
  have eU:∀k,H.sub s k\/A k->bE H ob [o,hh.o] k:=by
   rintro k (hk|hk)
   .exact⟨o,by simp,s,_,v,bR,hv,hk⟩
   .rw[<-TC]at hk;exact⟨hh.o,by simp,s1,_,u,vp,hu,hk⟩
  have hS:∀k,nN (ba v) Nh l.length k->H.sub s k\/A k:=by
   rintro k (hk|⟨i,hi,hk|hk⟩)
   .exact .inl (cL.ba k hk)
   .exact .inl (cL.part hi k hk)
   .exact .inr hk.2
  refine iX.vl (t':= .deep T0 dr (pB l hh.i λx=>q.hi.set x y) aaK) hs bR hv rfl (by simp) (nN (ba v) Nh l.length) (λk hk=>eU k (hS k hk)) ⟨rfl,⟨rfl,YY _⟩,rfl,YY _,λ_ _ _=>rfl⟩ ?_ trivial;have ua:(pB l hh.i λx=>q.hi.set x y).length=l.length:=iM ..;refine⟨lh,Nh,dc.2,by rw[ua];exact hlen,λi a b=>?_,?_⟩
  .have b':i<l.length:=by omega
   rw[vq b b'];have hr:=rU i a b'
   by_cases hi:hh.i=(i:Int)
   .rw[aaP hi];obtain⟨Vc,Vd,Ve,k1,k2,k3⟩:=hr.2 hi;rw[hq]at k1;cases k1;rw[hu]at k3;have k3:=YU k3;have:gI F w dr (q.lo.set lh[i] u) (q.hi.set l[i] y) (Nh i):=k2.put q hA ⟨λk=>⟨λhk=>hk.elim .inr λhk=> .inl hk.2,λhk=>hk.elim (λhk=> .inr ⟨hi,hk⟩) .inl⟩,λk hk h2=>Pm k hk (cL.part b' k h2)⟩;rw[k3,Path.vr]at this;exact this
   .rw[aaO hi];have Qo:=hr.1 hi
    have:Nh i=Ss i:=by
     funext k;exact propext ⟨λhk=>hk.elim id λhk=>absurd hk.1 hi, .inl⟩
    rw[this];exact Qo
  .rw[ua];refine⟨λk=>Iff.rfl,λi j k h1 h2 JZ h3 h4=>?_,λi k h1 h3 h4=>?_⟩
   .rcases h3 with h3|h3<;>rcases h4 with h4|h4
    .exact cL.two i j k h1 h2 JZ h3 h4
    .exact Pm k h4.2 (cL.part h1 k h3)
    .exact Pm k h3.2 (cL.part h2 k h4)
    .have:=h3.1;have:=h4.1;omega
   .rcases h3 with h3|h3
    .exact cL.out i k h1 h3 h4
    .exact Pm k h3.2 (cL.ba k h4)
end
end Go.Proofs.YtbladfbbhijpmaaGreat
end
namespace Go.Proofs.YtbladfbbhijpmaaGreat
open Go Go.RowKit
set_option maxRecDepth 100000
set_option linter.unusedSimpArgs false
set_option linter.unusedVariables false
set_option linter.defProp false
section
theorem DR.dw:(d:DR)->d.low.dw=d.row.dw
 | .leaf _=>rfl
 | .sl _ _=>rfl
 | .pair a b=>by show a.low.dw++b.low.dw=a.row.dw++b.row.dw;rw[a.dw,b.dw]
theorem TI.low{P:Program}{e:TypeId}{d:DR}(h:TI P e d.row):TI P e d.low:=by
 obtain⟨ti,z,h1,h2,h3,h4,h5⟩:=h;exact⟨ti,z,h1,h2,by rw[d.dw];exact h3,by rw[d.size];exact h4,h5⟩
def zQ:List Nat->Bool
 |[]=>aaL
 |o::l=> !l.any (YZ o)&&zQ l
theorem ub:{l:List Nat}->zQ l=aaL->l.Nodup
 |[],_=>List.nodup_nil
 |o::l,h=>by
  obtain⟨h1,h2⟩:=bO h;refine List.nodup_cons.2 ⟨λhm=>?_,ub h2⟩;rw[any_beq.2 hm]at h1;cases h1
def DR.Vi:DR->DR->DR
 | .leaf a, .leaf b=> .leaf (.pair a b)
 |a,b=> .pair a b
def KQ(ob:Nat->Option (Nat×Th)):Row->Tree->DR
 | .slice e, .own o=>match ob o with
   |some (_, .own T r _)=> .sl T (.leaf r)
   |some (_, .deep T d _ aaK)=> .sl T d
   |_=> .leaf (.slice e)
 | .pair a b,t=>match t.split with
   |some (x,y)=>DR.Vi (KQ ob a x) (KQ ob b y)
   |none=> .leaf (.pair a b)
 |r,_=> .leaf r
def zR(ob:Nat->Option (Nat×Th)):(d:DR)->Tree->Option (d.row.den×List Nat)
 | .leaf r,t=>match flat ob r t with
   |some x=>some (x,[])
   |none=>aaK
 | .sl T e, .own o=>match ob o with
   |some (_,t1)=>match Nf T e t1 with
    |some y=>some (y,[o])
    |none=>aaK
   |none=>aaK
 | .sl _ _, .nil=>some ([],[])
 | .sl _ _,_=>aaK
 | .pair a b,t=>match t.split with
   |some (x,y)=>match zR ob a x with
    |some (u,os)=>match zR ob b y with
     |some (v,Dq)=>some ((u,v),os++Dq)
     |none=>aaK
    |none=>aaK
   |none=>aaK
def BE(ob:Nat->Option (Nat×Th))(d:DR):List ag->Option (List d.row.den×List Nat)
 |[]=>some ([],[])
 | .val _ u::l=>match zR ob d u with
   |some (x,os)=>match BE ob d l with
    |some (xs,Dq)=>some (x::xs,os++Dq)
    |none=>aaK
   |none=>aaK
 |_::_=>aaK
section
variable {P:Program} {ρ:Nat->Value} {w w':World} {H H':aj} {F F':Nat->Prop} {U:Nat->Prop} {ob:Nat->Option (Nat×Th)} {n:Nat} {R:Type}
variable {op:Op} {ty:TypeId} {pos:String} {aft:Array Edge} {d:Nat}
theorem ql(hs:al U H F w ob n){os Dq:List Nat}(hd:∀o,o∈os->o∉Dq):∀k,bE H ob os k->¬bE H ob Dq k:=by
 rintro k ⟨o,ho,s,t,v,h1,h2,h3⟩ ⟨o',ij,s',t',v',g1,g2,g3⟩
 exact hs.apart o o' s s' t t' v v' (λe=>hd o ho (e▸ij)) h1 g1 h2 g2 k h3 g3
theorem mQ{os Dq:List Nat}(h:∀o,o∈os->o∈Dq):∀k,bE H ob os k->bE H ob Dq k:=λ_ ⟨o,ho,rest⟩=>⟨o,h o ho,rest⟩
theorem vu(hs:al U H F w ob n):{d:DR}->{t:Tree}->{x:d.row.den}->{os:List Nat}->{cs:List Value}->zR ob d t=some (x,os)->Holds H F w t cs->os.Nodup->∃x' S,bN F w d.low cs x'/\gI F w d x' x S/\∀k,S k->bE H ob os k
 | .leaf r,t,x,os,cs,h,hh,zS=>by
   unfold zR at h
   split at h<;>cases h
   rename_i hf;exact⟨x,λ_=>False,eM hs hf hh,⟨rfl,λ_ h=>h⟩,λ_ h=>h.elim⟩
 | .sl T e, .own o,x,os,cs,h,hh,zS=>by
   unfold zR at h;split at h
   case h_2=>cases h
   rename_i s1 t1 ho
   split at h<;>cases h
   rename_i hD;obtain⟨v,hv,_,rfl⟩:=hh;obtain⟨v',cV,bL⟩:=hs.obj _ _ _ ho;rw[hv]at cV;obtain rfl:=YU cV;have hD:=zO hD;subst hD;have hb:=rS bL.ok;refine⟨v,_,?_,hb,λk hk=>⟨o,by simp,s1,_,v,ho,hv,hk⟩⟩;obtain⟨Vh,_,⟨xs,⟨_,hx⟩,_⟩,_⟩:=hb
   rcases hx with⟨rfl,_⟩|⟨gg,o0,cp,cur,rfl,_⟩<;>exact⟨rfl,_,_,_,rfl⟩
 | .sl T e, .nil,x,os,cs,h,hh,_=>by
   cases h;have Pn:cs=_:=hh;subst Pn;exact⟨.slice aaK 0 0,λ_=>False,⟨rfl,_,_,_,rfl⟩,⟨[],λ_ _=>False,iL.nil F w T e.low,rfl,λi h=>absurd h (by simp),⟨λk=>by simp[ba,Zw],λ_ _ _ h=>absurd h (by simp),λ_ _ h=>absurd h (by simp)⟩⟩,λ_ h=>h.elim⟩
 | .pair a b,t,x,os,cs,h,hh,hn=>by
   unfold zR at h;split at h
   case h_2=>cases h
   rename_i t1 t2 ta;split at h
   case h_2=>cases h
   rename_i u Vj h1;split at h
   case h_2=>cases h
   rename_i v Vk h2;cases h;obtain⟨c1,c2,rfl,g1,g2,_⟩:=hh.split ta;obtain⟨n1,n2,n3⟩:=List.nodup_append.1 hn;obtain⟨x1,S1,r1,e1,s1⟩:=vu hs h1 g1 n1;obtain⟨x2,S2,r2,e2,s2⟩:=vu hs h2 g2 n2;refine⟨(x1,x2),λk=>S1 k\/S2 k,⟨c1,c2,rfl,r1,r2⟩,⟨S1,S2,e1,e2,λ_=>Iff.rfl,λk hk jd=>ql hs (λo ho ij=>n3 o ho o ij rfl) k (s1 k hk) (s2 k jd)⟩,λk hk=>hk.elim (λhk=>mQ (λo ho=>by simp[ho]) k (s1 k hk)) λhk=>mQ (λo ho=>by simp[ho]) k (s2 k hk)⟩
 | .sl _ _, .leaf _ _,_,_,_,h,_,_=>by cases h
 | .sl _ _, .pair _ _,_,_,_,h,_,_=>by cases h
 | .sl _ _, .view ..,_,_,_,h,_,_=>by cases h
theorem xm(hs:al U H F w ob n){d:DR}:{ds:List ag}->{l:List d.row.den}->{os:List Nat}->{vs:List Value}->BE ob d ds=some (l,os)->dK H F w ds vs->os.Nodup->
 ∃(lh:List d.low.den)(Ss:Nat->Nat->Prop),ry F w d.low vs lh/\lh.length=l.length/\(∀i(h1:i<lh.length)(h2:i<l.length),gI F w d lh[i] l[i] (Ss i))/\(∀i k,i<l.length->Ss i k->bE H ob os k)/\∀i j k,i<l.length->j<l.length->i≠j->Ss i k->¬Ss j k
 |[],l,os,vs,h,hd,_=>by
  cases h;rw[show vs=[]from hd];exact⟨[],λ_ _=>False, .nil,rfl,λi h=>absurd h (by simp),λ_ _ h=>absurd h (by simp),λ_ _ _ h=>absurd h (by simp)⟩
 | .val _ u::ds,l,os,vs,h,hd,hn=>by
   obtain⟨v,us,rfl,h1,h2⟩:=hd;unfold BE at h;split at h
   case h_2=>cases h
   rename_i x Vj hf;split at h
   case h_2=>cases h
   rename_i xs Vk hg;cases h;obtain⟨cs,nG,tW⟩:=aw.cells h1;obtain⟨n1,n2,n3⟩:=List.nodup_append.1 hn;obtain⟨x',S,r1,e1,s1⟩:=vu hs hf nG n1;obtain⟨lh,Ss,k1,k2,k3,k4,k5⟩:=xm hs hg h2 n2
   have ap:∀i k,i<xs.length->S k->¬Ss i k:=λi k hi hk jd=>ql hs (λo ho ij=>n3 o ho o ij rfl) k (s1 k hk) (k4 i k hi jd)
   refine⟨x'::lh,λi=>match i with|0=>S|i+1=>Ss i, .cons tW r1 k1,by simp[k2],λi a b=>?_,λi k hi hk=>?_,λi j k hi hj cq hk jd=>?_⟩
   .cases i with
    |zero=>exact e1
    |succ i=>exact k3 i (by simpa using a) (by simpa using b)
   .cases i with
    |zero=>exact mQ (λo ho=>by simp[ho]) k (s1 k hk)
    |succ i=>exact mQ (λo ho=>by simp[ho]) k (k4 i k (by simpa using hi) hk)
   .cases i with
    |zero=>
     cases j with
     |zero=>exact cq rfl
     |succ j=>exact ap j k (by simpa using hj) hk jd
    |succ i=>
     cases j with
     |zero=>exact ap i k (by simpa using hi) jd hk
     |succ j=>exact k5 i j k (by simpa using hi) (by simpa using hj) (λe=>cq (by rw[e])) hk jd
 | .dead::_,_,_,_,h,_,_=>by cases h
 | .undef::_,_,_,_,h,_,_=>by cases h
 | .ptr .. ::_,_,_,_,h,_,_=>by cases h
 | .at .. ::_,_,_,_,h,_,_=>by cases h
 | .elem .. ::_,_,_,_,h,_,_=>by cases h
 | .tup _::_,_,_,_,h,_,_=>by cases h
 | .dlm .. ::_,_,_,_,h,_,_=>by cases h
 | .fn .. ::_,_,_,_,h,_,_=>by cases h
 | .ifc .. ::_,_,_,_,h,_,_=>by cases h
theorem iX.IJ(hs:al U H F w ob n){eat:List Nat}{t:Th}{v0:Value}{S:Nat->Prop}(hb:t.base=t)(h1:v0.oneCell'=aaL){D:ag}{v:Value}
 (bl:Ext (bE H ob eat) w w')(jL:fg (((H.de n S).aV n t).bS n v0) F w' S v0 t)(FG:∀k,fp S v0 t k->¬F k/\k<w'.heap.size/\(w.heap.size<=k\/bE H ob eat k))
 (hd:af (((H.de n S).aV n t).bS n v0) F w' D v):jc H F w ob n {dst:=D,eat:=eat,make:=[(n,(n,t))]} v w':=by
 have hf:=hs.fresh n (YY _) (by omega)
 have eH:(((H.de n S).aV n t).bS n v0).sub n=S:=by simp[aj.bS,aj.aV,aj.de]
 refine⟨((H.de n S).aV n t).bS n v0,F,⟨(aj.mO hf.2).trans (aj.mI (by simp[aj.aV,aj.de,hf.1])),bl,λ_ h=>h,λ_ h=> .inl h,λb hb=>Zv (hs.lt b hb) bl.size⟩,λm hm=>?_,hd,⟨λo' s' q hq=>?_,λo1 o2 s1 s2 q1 q2 u1 u2 cq h1 h2=>?_⟩,λo' h=>?_⟩
 .simp[aj.aV,aj.bS,aj.de,show m≠n from by omega]
 .obtain⟨rfl,e⟩:=bB hq;obtain⟨rfl,rfl⟩:=aan e;exact⟨v0,by simp[aj.bS],h1,by simp[aj.aV,aj.bS,hb],by rw[eH];exact jL,by rw[eH];exact FG⟩
 .exact absurd ((bB h1).1.trans (bB h2).1.symm) cq
 .right
  obtain⟨y,hy⟩:=ZC.1 h;rw[(bB hy).1];exact YY _
def vv(ob:Nat->Option (Nat×Th))(r:Row):List ag->DR
 | .val _ u::_=>KQ ob r u
 |_=> .leaf r
def lT(e:TypeId)(dr:DR)(ob:Nat->Option (Nat×Th))(n:Nat)(ds:List ag)(k:cU->Option R):Option R:=
 match BE ob dr ds with
 |some (l,os)=>bif zQ os then k {dst:= .val aaM (.own n),eat:=os,make:=[(n,(n,Di e dr l))]}else aaK
 |none=>aaK
def mR(T:aJ P)(rd:Operand->Option ag)(ob:Nat->Option (Nat×Th))(n:Nat)(t:TypeId)(m:Nat)(parts:Array (Nat×Operand))(k:cU->Option R):Option R:=
 match find T.und t with
 |some (.slice e)=>match find T.row e with
  |some r=>bif Bv 0 parts.toList&&YZ m parts.toList.length&&Nat.ble (m*r.size) 16777216 then
    (match oC rd (parts.toList.map (·.2))with
    |some ds=>bif (vv ob r ds).row.beq r then lT e (vv ob r ds) ob n ds k else aaK
    |none=>aaK)else aaK
  |none=>aaK
 |_=>aaK
theorem zT(T:aJ P){rd:Operand->Option ag}(dD:∀x d,rd x=some d->af H F w d (ev ρ x)){t:TypeId}{m:Nat}{parts:Array (Nat×Operand)}{k:cU->Option R}{q:R}(h:mR T rd ob n t m parts k=some q)(hs:al U H F w ob n):
 ∃e,k e=some q/\bK P U H F w ρ ob n ⟨some d, .buildSlice t m parts,ty,pos,aft,aaK⟩ e:=by
 unfold mR at h;split at h
 case h_2=>cases h
 rename_i e hu;split at h
 case h_2=>cases h
 rename_i r hr;obtain⟨c0,h8⟩:=ay h;clear h;obtain⟨c1,c3⟩:=bO c0;obtain⟨h1,c2⟩:=bO c1;have h2:=beq_true c2
 have h3:m*r.size<=16777216:=by simpa using c3
 clear c0 c1 c2 c3;split at h8
 case h_2=>cases h8
 rename_i ds q9;obtain⟨Ni,h⟩:=ay h8;clear h8;have iU:=Row.eq_of_beq Ni;clear Ni
 obtain⟨dr,Mv⟩:∃dr,dr=vv ob r ds:=⟨_,rfl⟩
 rw[<-Mv]at h iU;clear Mv;subst iU;unfold lT at h;split at h
 case h_2=>cases h
 rename_i l os hl;obtain⟨hn,hk⟩:=ay h;clear h;obtain⟨lh,Ss,k1,k2,k3,k4,k5⟩:=xm hs hl (kD dD q9) (ub hn)
 have hp:parts=(((parts.toList.map (·.2)).zipIdx).map λp=>(p.2,p.1)).toArray:=by
  rw[<-rK h1,ZF]
 have hm:m=(parts.toList.map (·.2)).length:=by simpa using h2
 obtain⟨v,w',bn,bl,dc,rH⟩:=rJ (d:=d) (ty:=ty) (pos:=pos) (aft:=aft) (T.und_ok _ _ hu) (TI.low (T.row_ok _ _ hr)) hp (by rw[<-hm,DR.size];exact h3) k1 hs;rw[<-hm]at bn;refine⟨_,hk,bD.val bn ?_⟩
 have ai:∀i k,i<l.length->Ss i k->k<w.heap.size:=λi k hi hk=>hs.rA k (k4 i k hi hk)
 have dZ:Step F w F w':=λb hb=>⟨hb,(bl λ_=>False).block b (hs.lt b hb) λh=>h⟩
 have cL:kw Ss l.length (ba v) (nN (ba v) Ss l.length):=⟨λ_=>Iff.rfl,k5,λi k hi hk hm=>by have:=ai i k hi hk;have:=rH k hm;omega⟩
 have qI:gI F w' (.sl e dr) v l (nN (ba v) Ss l.length):=⟨lh,Ss,dc.2,k2,λi a b=>(k3 i a b).keep dZ λk hk=>(bl λ_=>False).block k (ai i k b hk) λh=>h,cL⟩
 have FG:∀k,nN (ba v) Ss l.length k->¬F k/\k<w'.heap.size/\(w.heap.size<=k\/bE H ob os k):=by
  rintro k (hk|⟨i,hi,hk⟩)
  .exact⟨dc.1 k hk,dc.lt k hk, .inl (rH k hk)⟩
  .have:=k4 i k hi hk;exact⟨hs.dx k this,Zv (hs.rA k this) (bl λ_=>False).size, .inr this⟩
 refine iX.IJ (S:=nN (ba v) Ss l.length) (v0:=v) hs (rR ..) (mJ dc) (bl _) (py qI).1 (λk hk=>FG k ((py (H:=H) qI).2.1 k hk)) (jT (by simp[aj.bS]) (mJ dc))
def vw(T:aJ P)(n:Nat)(t:TypeId)(same:Bool)(a b:Int)(k:cU->Option R):Option R:=
 match find T.und t with
 |some (.slice e)=>match find T.row e with
  |some (.slice r)=>match find T.und e with
   |some (.slice e')=>(bif same then tO a ([]:List r.den)else Ph a b ([]:List r.den)).bind λl=>k {dst:= .val aaM (.own n),make:=[(n,(n, .deep e (.sl e' (.leaf r)) l aaK))]}
   |_=>aaK
  |_=>rI T n t same a b k
 |_=>aaK
theorem uc{e e' t:TypeId}{r:Row}{a b:Int}(ht:P.underlying t=some (.slice e))(tT:TI P e (.slice r))(hs:al U H F w ob n){ka kb:IntKind}{x y:Operand}(hx:ev ρ x= .int ka a)(hy:ev ρ y= .int kb b)(h0:0<=a)(h1:a<=b)(h2:b<=4294967296):
 bK P U H F w ρ ob n ⟨some d, .makeSlice t x y,ty,pos,aft,aaK⟩ {dst:= .val aaM (.own n),make:=[(n,(n, .deep e (.sl e' (.leaf r)) (Zq a.toNat ([]:List r.den)) aaK))]}:=by
 obtain⟨v,w',bn,bl,dc,rH⟩:=tX (d:=d) (ty:=ty) (pos:=pos) (aft:=aft) (r:= .iU) ht (TI.low (d:= .sl e' (.leaf r)) tT) hs hx hy h0 h1 h2
 have qI:gI F w' (.sl e (.sl e' (.leaf r))) v (Zq a.toNat ([]:List r.den)) (ba v):=by
  refine⟨Zq a.toNat (Value.slice aaK 0 0),λ_ _=>False,dc.2,by simp,λi h1 h2=>?_,⟨λk=>by simp,λ_ _ _ _ _ _ h=>h.elim,λ_ _ _ h=>h.elim⟩⟩;simp only[List.getElem_replicate];exact⟨[],λ_ _=>False,iL.nil F w' e' r,rfl,λi h=>absurd h (by simp),⟨λk=>by simp[ba,Zw],λ_ _ _ h=>absurd h (by simp),λ_ _ h=>absurd h (by simp)⟩⟩
 refine bD.val bn (iX.IJ (S:=ba v) (v0:=v) (eat:=[]) (t:=Di e (.sl e' (.leaf r)) (Zq a.toNat ([]:List r.den))) hs (rR ..) (mJ dc) (bl _) (py qI).1 (λk hk=>?_) (jT (by simp[aj.bS]) (mJ dc)));have hk:=(py (H:=H) qI).2.1 k hk;exact⟨dc.1 k hk,dc.lt k hk, .inl (rH k hk)⟩
theorem Dr(T:aJ P){t:TypeId}{a b:Int}{ka kb:IntKind}{x y:Operand}{k:cU->Option R}{q:R}(h:vw T n t (lS x y) a b k=some q)(hs:al U H F w ob n)(hx:ev ρ x= .int ka a)(hy:ev ρ y= .int kb b):
 ∃e,k e=some q/\bK P U H F w ρ ob n ⟨some d, .makeSlice t x y,ty,pos,aft,aaK⟩ e:=by
 unfold vw at h;split at h
 case h_2=>cases h
 rename_i e hu;split at h
 case h_2=>exact wZ T h hs hx hy
 rename_i r hr;split at h
 case h_2=>cases h
 rename_i e' BD;obtain⟨l,hl,hk⟩:=bind_some h;have tT:=T.row_ok _ _ hr;have ht:=T.und_ok _ _ hu
 cases qk:lS x y with
 |true=>
  rw[qk,cond_true]at hl;unfold tO at hl;split at hl
  case isFalse=>cases hl
  rename_i hc;obtain rfl:=YU hl;obtain rfl:=tY qk hx hy;exact⟨_,hk,uc ht tT hs hx hy hc.1 (Int.le_refl _) hc.2⟩
 |false=>
  rw[qk,cond_false]at hl;unfold Ph at hl;split at hl
  case isFalse=>cases hl
  rename_i hc;obtain rfl:=YU hl;exact⟨_,hk,uc ht tT hs hx hy hc.1 hc.2.1 hc.2.2⟩
def rW(deep:Bool)(T:aJ P)(n:Nat)(t:TypeId)(same:Bool)(a b:Int)(k:cU->Option R):Option R:=
 match deep with
 |true=>vw T n t same a b k
 |false=>rI T n t same a b k
theorem Ds(deep:Bool)(T:aJ P){t:TypeId}{a b:Int}{ka kb:IntKind}{x y:Operand}{k:cU->Option R}{q:R}(h:rW deep T n t (lS x y) a b k=some q)(hs:al U H F w ob n)(hx:ev ρ x= .int ka a)(hy:ev ρ y= .int kb b):
 ∃e,k e=some q/\bK P U H F w ρ ob n ⟨some d, .makeSlice t x y,ty,pos,aft,aaK⟩ e:=by
 cases deep with
 |true=>exact Dr T h hs hx hy
 |false=>exact wZ T h hs hx hy
def lU(T:aJ P)(ob:Nat->Option (Nat×Th))(n:Nat)(t:TypeId)(D:ag)(k:cU->Option R):Option R:=
 match D with
 | .dlm .. =>nO T ob n t D k
 |_=>tU T ob t D k
theorem Dt(T:aJ P){t:TypeId}{D:ag}{x:Operand}{k:cU->Option R}{q:R}(h:lU T ob n t D k=some q)(hs:al U H F w ob n)(hx:af H F w D (ev ρ x)):
 ∃e,k e=some q/\bK P U H F w ρ ob n ⟨some d, .load t x,ty,pos,aft,aaK⟩ e:=by
 unfold lU at h;split at h
 .exact Dk T h hs hx
 .exact FF T h hs hx
noncomputable def mS(T:aJ P)(ob:Nat->Option (Nat×Th))(n:Nat)(t:TypeId)(D V:ag)(k:cU->Option R):Option R:=
 match D with
 | .dlm .. =>mP T ob n t D V k
 |_=>pk T ob n t D V k
theorem zU(T:aJ P){t:TypeId}{D V:ag}{x y:Operand}{k:cU->Option R}{q:R}(h:mS T ob n t D V k=some q)(hs:al U H F w ob n)(hx:af H F w D (ev ρ x))(hy:af H F w V (ev ρ y)):
 ∃e,k e=some q/\bK P U H F w ρ ob n ⟨aaK, .store t x y,ty,pos,aft,aaK⟩ e:=by
 unfold mS at h;split at h
 .exact zP T h hs hx hy
 .exact C6 T h hs hx hy
def rf(deep:Bool)(T:aJ P)(rd:Operand->Option ag)(ob:Nat->Option (Nat×Th))(n:Nat)(t:TypeId)(m:Nat)(parts:Array (Nat×Operand))(k:cU->Option R):Option R:=
 match deep with
 |true=>mR T rd ob n t m parts k
 |false=>gA T rd ob n t m parts k
theorem zV(deep:Bool)(T:aJ P){rd:Operand->Option ag}(dD:∀x d,rd x=some d->af H F w d (ev ρ x)){t:TypeId}{m:Nat}{parts:Array (Nat×Operand)}{k:cU->Option R}{q:R}(h:rf deep T rd ob n t m parts k=some q)(hs:al U H F w ob n):
 ∃e,k e=some q/\bK P U H F w ρ ob n ⟨some d, .buildSlice t m parts,ty,pos,aft,aaK⟩ e:=by
 cases deep with
 |true=>exact zT T dD h hs
 |false=>exact rL T dD h hs
end
end
section
open Go Go.RowKit Go.MapKept
def FV:(K:Row)->K.den->K.den->Bool
 | .int _,a,b=>decide ((a:Int)<b)
 | .pair (.int _) (.int _),a,b=>decide ((a.1:Int)<b.1\/((a.1:Int)=b.1/\(a.2:Int)<b.2))
 |_,_,_=>aaM
def xn{α:Type}(K:Row):List (K.den×α)->K.den->α->List (K.den×α)
 |[],k,v=>[(k,v)]
 |p::l,k,v=>if FV K k p.1=aaL then(k,v)::p::l else p::xn K l k v
noncomputable def nk{α:Type}(K:Row)(l:List (K.den×α))(k:K.den)(v:α):List (K.den×α):=xn K (l.filter λp=> !bV K p.1 k) k v
theorem mT{α:Type}{K:Row}(k:K.den)(v:α):(l:List (K.den×α))->(xn K l k v).Perm ((k,v)::l)
 |[]=> .refl _
 |p::l=>by
  unfold xn;split
  .exact .refl _
  .exact((mT k v l).cons p).trans (.swap ..)
theorem kH{K:Row}{a b:K.den}(h:bV K a b=aaL):a=b:=by
 unfold bV at h;split at h
 .exact aaQ h
 .exact aaQ h
 .exact aaQ h
 .exact Prod.ext (aaQ h).1 (aaQ h).2
 .cases h
theorem nQ{K:Row}{a b:K.den}(h:bV K a b=aaM):bV K b a=aaM:=by
 cases hc:bV K b a with
 |false=>rfl
 |true=>
  obtain rfl:=kH hc;rw[hc]at h;cases h
def vx{α:Type}(K:Row)(l:List (K.den×α)):Prop:=l.Pairwise λp q=>bV K p.1 q.1=aaM
theorem vx.perm{α:Type}{K:Row}{l l':List (K.den×α)}(h:l'.Perm l)(hd:vx K l):vx K l':=(h.pairwise_iff λ{a b}=>nQ).2 hd
theorem zW{α:Type}{K:Row}{x:K.den}{l l':List (K.den×α)}(h:l'.Perm l):vx K l'->bk K l' x=bk K l x:=by
 induction h with
 |nil=>intro _;rfl
 |cons p _ ih=>
  intro hd;unfold bk;rw[ih (Zu.1 hd).2]
 |swap p q l=>
  intro hd;have JX:=(Zu.1 hd).1 p (by simp)
  show(if bV K q.1 x=aaL then some q.2 else if bV K p.1 x=aaL then some p.2 else bk K l x)=if bV K p.1 x=aaL then some p.2 else if bV K q.1 x=aaL then some q.2 else bk K l x
  by_cases h1:bV K q.1 x=aaL
  .by_cases h2:bV K p.1 x=aaL
   .have e1:=kH h1;have e2:=kH h2;rw[e1,e2]at JX;rw[e1,JX]at h1;cases h1
   .rw[aaP h1,aaO h2,aaP h1]
  .rw[aaO h1];by_cases h2:bV K p.1 x=aaL
   .rw[aaP h2,aaP h2]
   .rw[aaO h2,aaO h2,aaO h1]
 |trans h1 h2 ih1 ih2=>intro hd;exact(ih1 hd).trans (ih2 (hd.perm h1.symm))
section
variable {P:Program} {ρ:Nat->Value} {w w':World} {H H':aj} {F F':Nat->Prop} {U:Nat->Prop} {ob:Nat->Option (Nat×Th)} {n:Nat} {R:Type}
variable {op:Op} {ty:TypeId} {pos:String} {aft:Array Edge} {d:Nat}
theorem oG{K:Row}{agg:Bool}{V:Row}:{es:List MapEntry}->{l:List (K.den×V.den)}->ec H F w K agg V es l->∀q∈l,∃e∈es,gH K q.1=some e.key/\aw H F w agg (.leaf V q.2) e.val
 |[],l,h=>by obtain rfl:l=[]:=h;exact λq hq=>by cases hq
 |e::es,_,h=>by
  obtain⟨k,x,l',rfl,h1,h2,h3⟩:=h;intro q hq
  rcases Y6.1 hq with rfl|hq
  .exact⟨e,by simp,h1,h2⟩
  .obtain⟨e',he',g⟩:=oG h3 q hq;exact⟨e',by simp[he'],g⟩
theorem kI{K:Row}{agg:Bool}{V:Row}:{es:List MapEntry}->{l:List (K.den×V.den)}->ec H F w K agg V es l->∀e∈es,∃q∈l,gH K q.1=some e.key/\aw H F w agg (.leaf V q.2) e.val
 |[],_,_=>λe he=>by cases he
 |e::es,_,h=>by
  obtain⟨k,x,l',rfl,h1,h2,h3⟩:=h;intro e' he
  rcases Y6.1 he with rfl|he
  .exact⟨(k,x),by simp,h1,h2⟩
  .obtain⟨q,hq,g⟩:=kI h3 e' he;exact⟨q,by simp[hq],g⟩
theorem mU{K:Row}{agg:Bool}{V:Row}:{es:List MapEntry}->{l:List (K.den×V.den)}->ec H F w K agg V es l->(es.map (·.key)).Nodup->vx K l
 |[],l,h,_=>by obtain rfl:l=[]:=h;exact .nil
 |e::es,_,h,hn=>by
  obtain⟨k,x,l',rfl,h1,h2,h3⟩:=h;obtain⟨n1,n2⟩:=List.nodup_cons.1 hn;refine Zu.2 ⟨λq hq=>?_,mU h3 n2⟩;obtain⟨e',he',g,_⟩:=oG h3 q hq
  cases hc:bV K k q.1 with
  |false=>rfl
  |true=>
   have:=(fE h1 g).1 hc;exact absurd (List.mem_map.2 ⟨e',he',this.symm⟩) n1
theorem ud{K:Row}{agg:Bool}{V:Row}{e:MapEntry}:{es:List MapEntry}->{l:List (K.den×V.den)}->ec H F w K agg V es l->(es.map (·.born)).Nodup->e∈es->
 ∃p l2,gH K p.1=some e.key/\aw H F w agg (.leaf V p.2) e.val/\ec H F w K agg V (es.filter λx=> !(x.born==e.born)) l2/\l.Perm (p::l2)
 |[],_,_,_,he=>by cases he
 |e'::es,_,h,hn,he=>by
  obtain⟨k,x,l',rfl,h1,h2,h3⟩:=h;obtain⟨n1,n2⟩:=List.nodup_cons.1 hn;by_cases hb:e'.born=e.born
  .have cq:e∉es:=λh=>n1 (List.mem_map.2 ⟨e,h,hb.symm⟩)
   obtain rfl:e=e':=(Y6.1 he).resolve_right cq;rw[List.filter_cons_of_neg (by simp)]
   have dy:es.filter (λx=> !(x.born==e.born))=es:=aav.2 λy hy=>by
    have:y.born≠e.born:=λg=>n1 (List.mem_map.2 ⟨y,hy,g⟩)
    simpa using this
   rw[dy];exact⟨(k,x),l',h1,h2,h3, .refl _⟩
  .have he':e∈es:=(Y6.1 he).resolve_left λg=>hb (by rw[g])
   obtain⟨p,l2,g1,g2,g3,g4⟩:=ud h3 n2 he';rw[List.filter_cons_of_pos (by simpa using hb)];exact⟨p,(k,x)::l2,g1,g2,⟨k,x,l2,rfl,h1,h2,g3⟩,(g4.cons _).trans (.swap ..)⟩
def Qp(P:Program)(t:TypeId):Prop:=∀(em:Bool)(a b:Value)(w:World),(Instr.checkKey em 10000 t (.agg #[a,b])).run P w= .ok () w
def Du(T:aJ P)(kt:TypeId):Row->Bool
 | .pair (.int j) (.int k)=>match find T.eqs kt with
   |some r=>r.beq (.pair (.int j) (.int k))&&T.kys.any (YZ kt)
   |none=>aaM
 |_=>aaM
structure KR(P:Program)(kt:TypeId)(K:Row):Prop where
 ue:∀em x v(w:World),gH K x=some v->(Instr.checkKey em 10000 kt v).run P w= .ok () w
 find:∀x v(w:World)(es:List MapEntry),gH K x=some v->(∀e∈es,∃k,gH K k=some e.key)->
  ((Instr.findKey kt v es).run P w= .ok aaK w/\∀e∈es,e.key≠v)\/∃j e,(Instr.findKey kt v es).run P w= .ok (some (j,e.val)) w/\es[j]? =some e/\e.key=v
 stays:∀x v(w:World),gH K x=some v->(Instr.keyThatStays v v).run P w= .ok v w
 O7:∀(F:Nat->Prop)(w:World)cs x,bN F w K cs x->gH K x=some (.agg cs.toArray)
theorem BF(T:aJ P){kt:TypeId}{K:Row}(h:Du T kt K=aaL):KR P kt K:=by
 unfold Du at h;split at h
 case h_2=>cases h
 rename_i j k;split at h
 case h_2=>cases h
 rename_i r he;obtain⟨h1,h2⟩:=bO h;obtain rfl:=Row.eq_of_beq h1;obtain⟨KK,dd,hE,hd,_,hD⟩:=T.eqs_ok _ _ he;have Vl:Qp P kt:=T.kys_ok _ (any_beq.1 h2)
 have O7:∀(F:Nat->Prop)(w:World)cs(x:Int×Int),bN F w (.pair (.int j) (.int k)) cs x->cs=[.int j x.1, .int k x.2]:=by
  rintro F w cs x ⟨c1,c2,rfl,g1,g2⟩
  rw[show c1=_ from g1,show c2=_ from g2];rfl
 have mk:∀(x:Int×Int)(w:World),bN (λ_=>True) w (.pair (.int j) (.int k)) [.int j x.1, .int k x.2] x:=λx w=>⟨[_],[_],rfl,rfl,rfl⟩
 cases hu:P.underlying kt with
 |none=>rw[hu]at hD;cases hD
 |some D=>
  have hA:gr D=aaL:=by rw[hu]at hD;exact hD
  have qj:∀(x y:Int×Int)(w:World),(Op.equal kt (.agg #[.int j x.1, .int k x.2]) (.agg #[.int j y.1, .int k y.2])).run P w= .ok (decide (x=y)) w:=λx y w=>by
   have:=hE dd w w (λ_=>True) _ _ x y (.agg #[.int j x.1, .int k x.2]) (.agg #[.int j y.1, .int k y.2]) ⟨D,hu,by rw[aaP hA]⟩ ⟨D,hu,by rw[aaP hA]⟩ (mk x w) (mk y w);rw[hd]at this;unfold Op.equal;rw[show Op.maxDepth=10000 from rfl,this]
  have Nj:∀(x:Int×Int)(e:MapEntry)(es:List MapEntry)i,ZW D (.agg #[.int j x.1, .int k x.2]) (e::es) i=aaK:=λx e es i=>by
   unfold ZW Instr.sameNow
   cases D<;>first|rfl|cases hA
  have ask:∀(x:Int×Int)(w:World)(es:List MapEntry)(i:Nat),(∀e∈es,∃y:Int×Int,e.key= .agg #[.int j y.1, .int k y.2])->
   ((aaF kt (.agg #[.int j x.1, .int k x.2]) es i).run P w= .ok aaK w/\∀e∈es,e.key≠ .agg #[.int j x.1, .int k x.2])\/∃q e,(aaF kt (.agg #[.int j x.1, .int k x.2]) es i).run P w= .ok (some (i+q,e.val)) w/\es[q]? =some e/\e.key= .agg #[.int j x.1, .int k x.2]:=by
   intro x w es
   induction es with
   |nil=>intro i _;exact .inl ⟨rfl,λe he=>by cases he⟩
   |cons e es ih=>
    intro i Mw;obtain⟨y,hy⟩:=Mw e (by simp);by_cases nI:x=y
    .subst nI;refine .inr ⟨0,e,?_,rfl,hy⟩;unfold aaF;rw[hy];simp[qj,Za]
    .rcases ih (i+1) (λe' he'=>Mw e' (by simp[he']))with⟨g1,g2⟩|⟨q,e',g1,g2,g3⟩
     .refine .inl ⟨?_,λe' he'=>?_⟩
      .unfold aaF;rw[hy];simp[qj,nI,g1,Za]
      .rcases Y6.1 he' with rfl|he'
       .rw[hy];intro g;simp at g;exact nI (Prod.ext g.1.symm g.2.symm)
       .exact g2 e' he'
     .refine .inr ⟨q+1,e',?_,by simpa using g2,g3⟩;unfold aaF;rw[hy];simp[qj,nI,g1,Za,Nat.add_assoc,Nat.add_comm 1]
  refine⟨λem x v w hv=>?_,λx v w es hv Mw=>?_,λx v w hv=>?_,λF w cs x hr=>?_⟩
  .obtain rfl:=YU hv;exact Vl em _ _ w
  .obtain rfl:=YU hv
   have Qq:∀e∈es,∃y:Int×Int,e.key= .agg #[.int j y.1, .int k y.2]:=λe he=>by
    obtain⟨y,hy⟩:=Mw e he;exact⟨y,(YU hy).symm⟩
   unfold Instr.findKey
   cases es with
   |nil=>exact .inl ⟨by simp[run_underlying hu,ZW,Za],λe he=>by cases he⟩
   |cons e es=>
    rcases ask x w (e::es) 0 Qq with⟨g1,g2⟩|⟨q,e',g1,g2,g3⟩
    .exact .inl ⟨by simp[run_underlying hu,Nj,g1,Za],g2⟩
    .exact .inr ⟨q,e',by simp[run_underlying hu,Nj,g1,Za],g2,g3⟩
  .obtain rfl:=YU hv;unfold Instr.keyThatStays;simp[Instr.sameBits]
  .rw[O7 F w cs x hr];rfl
structure TD where
 o:Nat
 s:Nat
 T:TypeId
 K:Row
 agg:Bool
 V:Row
 l:List (K.den×V.den)
 it:Option (Nat×List (K.den×V.den)×Option (K.den×V.den))
def rX(ob:Nat->Option (Nat×Th)):ag->Option TD
 | .val aaM (.own o)=>match ob o with
   |some (s, .smap T K agg V l it)=>some ⟨o,s,T,K,agg,V,l,it⟩
   |_=>aaK
 |_=>aaK
theorem pC(hs:al U H F w ob n){D:ag}{m:TD}{v:Value}(h:rX ob D=some m)(hd:af H F w D v):ob m.o=some (m.s, .smap m.T m.K m.agg m.V m.l m.it)/\H.val m.o=some v/\fg H F w (H.sub m.s) v (.smap m.T m.K m.agg m.V m.l m.it):=by
 unfold rX at h;split at h
 .rename_i o;split at h
  .rename_i s T K agg V l it bR;obtain rfl:=YU h;obtain⟨cs,⟨u,hu,_,e⟩,_,h3⟩:=hd;rw[h3 rfl]at e
   obtain rfl:v=u:=by simpa using e
   obtain⟨v',cV,bL⟩:=hs.obj _ _ _ bR;rw[hu]at cV;obtain rfl:=YU cV;exact⟨bR,hu,bL.ok⟩
  .cases h
 .cases h
noncomputable def vy(ob:Nat->Option (Nat×Th))(K:Row):ag->Option K.den
 | .val aaL t=>flat ob K t
 |_=>aaK
theorem uf(hs:al U H F w ob n){kt:TypeId}{K:Row}{D:ag}{x:K.den}{v:Value}(hK:KR P kt K)(h:vy ob K D=some x)(hd:af H F w D v):gH K x=some v:=by
 unfold vy at h;split at h
 .obtain⟨cs,h1,h2,_⟩:=hd;rw[h2];exact hK.O7 F w cs x (eM hs h h1)
 .cases h
def jm(_:Bool)(T:aJ P)(n:Nat)(t:TypeId)(k:cU->Option R):Option R:=
 match find T.und t with
 |some (.map kt vt)=>match find T.row kt with
  |some K=>bif Du T kt K then(match find T.row vt with
   |some V=>match find T.und vt with
    |some kk=>k {dst:= .val aaM (.own n),make:=[(n,(n, .smap t K (gJ kk) V [] aaK))]}
    |none=>aaK
   |none=>aaK)else kF T n t k
  |none=>aaK
 |_=>aaK
theorem vz(b:Bool)(T:aJ P){t:TypeId}{k:cU->Option R}{q:R}(h:jm b T n t k=some q)(hs:al U H F w ob n):
 ∃e,k e=some q/\bK P U H F w ρ ob n ⟨some d, .makeMap t aaK,ty,pos,aft,aaK⟩ e:=by
 unfold jm at h;split at h
 case h_2=>cases h
 split at h
 case h_2=>cases h
 rename_i K _
 cases hc:Du T _ K with
 |false=>rw[hc,cond_false]at h;exact xe T h hs
 |true=>
  rw[hc,cond_true]at h;split at h
  case h_2=>cases h
  rename_i V _;split at h
  case h_2=>cases h
  rename_i kk _
  have bn:(execOp (ev ρ) ⟨some d, .makeMap t aaK,ty,pos,aft,aaK⟩).run P w= .ok (.value (.map (some w.heap.size))) (w.alloc (.map #[] 0)):=by
   simp[execOp,Instr.makeMap,Za]
  refine⟨_,h,bD.val bn ?_⟩
  have hv:(((H.de n (is w.heap.size)).aV n (.smap t K (gJ kk) V [] aaK)).bS n (.map (some w.heap.size))).val n=some (.map (some w.heap.size)):=by simp[aj.bS]
  refine iX.IJ (v0:= .map (some w.heap.size)) (S:=is w.heap.size) hs rfl rfl (kC _) ⟨_, #[],0,[],rfl,rfl,(heap_alloc w _).1,stamped_empty 0,rfl, .refl _,trivial⟩ (λk hk=>?_) (jT hv rfl);have hk:k=w.heap.size:=hk;subst hk;exact⟨λe=>by have:=hs.lt _ e;omega,by simp, .inl (YY _)⟩
theorem oH{KN kt et:TypeId}{K:Row}{b clock:Nat}{es:Array MapEntry}{x:K.den}{key val:Value}(hm:P.underlying KN=some (.map kt et))(hK:KR P kt K)(hx:gH K x=some key)(hb:w.heap[b]? =some (.map es clock))(Mw:∀e∈es.toList,∃k,gH K k=some e.key):
 ((aab KN (.map (some b)) key val).run P w= .ok () {w with heap:=w.heap.setIfInBounds b (.map (es.push {key,val,born:=clock}) (clock+1))}/\∀e∈es.toList,e.key≠key)\/
 ∃j e,es.toList[j]? =some e/\e.key=key/\(aab KN (.map (some b)) key val).run P w= .ok () {w with heap:=w.heap.setIfInBounds b (.map (es.modify j λe=>{e with key,val}) clock)}:=by
 rcases hK.find x key w es.toList hx Mw with⟨h1,h2⟩|⟨j,e,h1,h2,h3⟩
 .exact .inl ⟨by simp[aab,run_underlying hm,ZN hb,hK.ue _ _ _ _ hx,h1,aah _ hb,Za],h2⟩
 .refine .inr ⟨j,e,h2,h3,?_⟩
  have hj:es[j]? =some e:=by simpa using h2
  simp[aab,run_underlying hm,ZN hb,hK.ue _ _ _ _ hx,h1,hj,h3,hK.stays _ _ _ hx,aah _ hb,Za]
theorem ug{K:Row}{agg:Bool}{V:Row}{e:MapEntry}{x:K.den}{y:V.den}(hk:gH K x=some e.key)(hv:aw H F w agg (.leaf V y) e.val):{es:List MapEntry}->{l:List (K.den×V.den)}->ec H F w K agg V es l->ec H F w K agg V (es++[e]) (l++[(x,y)])
 |[],l,h=>by obtain rfl:l=[]:=h;exact⟨x,y,[],rfl,hk,hv,rfl⟩
 |e'::es,_,h=>by
  obtain⟨k,z,l',rfl,h1,h2,h3⟩:=h;exact⟨k,z,_,rfl,h1,h2,ug hk hv h3⟩
theorem qm{K:Row}{agg:Bool}{V:Row}{x:K.den}{y:V.den}{key:Value}{f:MapEntry->MapEntry}(hx:gH K x=some key)(hf:∀e:MapEntry,(f e).key=key)(hv:∀e,aw H F w agg (.leaf V y) (f e).val):{es:List MapEntry}->{l:List (K.den×V.den)}->{j:Nat}->{e:MapEntry}->
 ec H F w K agg V es l->vx K l->es[j]? =some e->e.key=key->∃l2,ec H F w K agg V (es.modify j f) l2/\l2.Perm ((x,y)::l.filter λp=> !bV K p.1 x)
 |[],_,_,_,_,_,hj,_=>by simp at hj
 |e'::es,_,0,e,h,hd,hj,KS=>by
  obtain⟨k,z,l',rfl,h1,h2,h3⟩:=h;obtain⟨d1,d2⟩:=Zu.1 hd
  obtain rfl:e'=e:=by simpa using hj
  have Po:bV K k x=aaL:=(fE h1 hx).2 KS;obtain rfl:=kH Po;refine⟨(k,y)::l',⟨k,y,l',rfl,by rw[hf];exact hx,hv _,h3⟩,?_⟩
  have e:((k,z)::l').filter (λq=> !bV K q.1 k)=l':=by
   rw[List.filter_cons_of_neg (by simp[Po])]
   exact aav.2 λq qi=>by rw[nQ (d1 q qi)];rfl
  rw[e]
 |e'::es,_,j+1,e,h,hd,hj,KS=>by
  obtain⟨k,z,l',rfl,h1,h2,h3⟩:=h;obtain⟨d1,d2⟩:=Zu.1 hd
  have Ie:es[j]? =some e:=by simpa using hj
  obtain⟨l2,g1,g2⟩:=qm hx hf hv h3 d2 Ie KS;obtain⟨q,hq,KT,_⟩:=kI h3 e (List.mem_of_getElem? Ie);have Vm:bV K q.1 x=aaL:=(fE KT hx).2 KS;obtain rfl:=kH Vm;have cq:bV K k q.1=aaM:=d1 q hq;refine⟨(k,z)::l2,⟨k,z,l2,rfl,h1,h2,g1⟩,?_⟩;rw[List.filter_cons_of_pos (by rw[cq];rfl)];exact(g2.cons _).trans (.swap ..)
noncomputable def gB(T:aJ P)(ob:Nat->Option (Nat×Th))(n:Nat)(t:TypeId)(M X Y:ag)(k:cU->Option R):Option R:=
 match rX ob M with
 |some m=>match find T.und t with
  |some (.map kt _)=>bif Du T kt m.K then(match vy ob m.K X with
   |some x=>match Y with
    | .val dh tr=>bif (bif m.agg then dh else !dh)then(match flat ob m.V tr with
      |some y=>k {dst:= .dead,eat:=[m.o],make:=[(m.o,(n, .smap m.T m.K m.agg m.V (nk m.K m.l x y) aaK))]}
      |none=>aaK)else aaK
    |_=>aaK
   |none=>aaK)else aaK
  |_=>aaK
 |none=>iq T ob n t M X Y k
theorem rY(T:aJ P){t:TypeId}{M X Y:ag}{m x y:Operand}{k:cU->Option R}{q:R}(h:gB T ob n t M X Y k=some q)(hs:al U H F w ob n)(hm:af H F w M (ev ρ m))(hx:af H F w X (ev ρ x))(hy:af H F w Y (ev ρ y)):
 ∃e,k e=some q/\bK P U H F w ρ ob n ⟨aaK, .mapUpdate t m x y,ty,pos,aft,aaK⟩ e:=by
 unfold gB at h;split at h
 case h_2=>exact td T h hs hm hx hy
 rename_i r oD;obtain⟨bR,hv,jL⟩:=pC hs oD hm;obtain⟨o,s,T0,K,agg,V,l,it⟩:=r;dsimp only at h bR hv jL;split at h
 case h_2=>cases h
 rename_i kt vt hu;obtain⟨hc,h'⟩:=ay h;clear h;split at h'
 case h_2=>cases h'
 rename_i a ha;split at h'
 case h_2=>cases h'
 rename_i dh tr;obtain⟨nM,h⟩:=ay h';clear h'
 have nM:agg=dh:=by cases agg<;>cases dh<;>simp_all
 subst nM;split at h
 case h_2=>cases h
 rename_i z hz;refine⟨_,h,?_⟩;have hK:=BF T hc;have kG:=uf hs hK ha hx
 have k9:aw H F w agg (.leaf V z) (ev ρ y):=by
  obtain⟨cs,h1,h2⟩:=hy;exact⟨cs,eM hs hz h1,h2⟩
 obtain⟨b,es,clock,l',jK,KU,hh,dZ,px,Db,_⟩:=jL;have uh:=mU px dZ.2.2
 have eU:bE H ob [o] b:=⟨o,by simp,s,_,_,bR,hv,KU⟩
 have hf:=hs.fresh n (YY _) (by omega)
 have fin:∀o',(aab t (.map (some b)) (ev ρ x) (ev ρ y)).run P w= .ok () {w with heap:=w.heap.setIfInBounds b o'}->
  (∀(H':aj)(w':World),H.le H'->Step F w F w'->∃iK ki l2,o'= .map iK ki/\Stamped iK ki/\ec H' F w' K agg V iK.toList l2/\l2.Perm (nk K l a z))->
  bK P U H F w ρ ob n ⟨aaK, .mapUpdate t m x y,ty,pos,aft,aaK⟩ {dst:= .dead,eat:=[o],make:=[(o,(n, .smap T0 K agg V (nk K l a z) aaK))]}:=by
  intro o' bn FP;refine bD.unit (w':={w with heap:=w.heap.setIfInBounds b o'}) ?_ ?_
  .simp[execOp,jK,bn,Za]
  .have ir:∀k,k≠b->(w.heap.setIfInBounds b o')[k]? =w.heap[k]? :=(heap_set hh).2
   have cQ:Step F w F {w with heap:=w.heap.setIfInBounds b o'}:=λc hc=>⟨hc,ir c λe=>by subst e;exact hs.dx _ eU hc⟩
   obtain⟨iK,ki,l2,rfl,g1,g2,g3⟩:=FP ((H.de n (is b)).aV n (.smap T0 K agg V (nk K l a z) aaK)) _ (aj.mO hf.2) cQ;refine iX.vl (t':= .smap T0 K agg V (nk K l a z) aaK) hs bR hv rfl (by simp) (is b) (λk hk=>?_) ⟨rfl,⟨rfl,YY _⟩,rfl,by simp,λk hk hn=>ir k λe=>hn (by subst e;exact eU)⟩ ⟨b,iK,ki,l2,jK,rfl,(heap_set hh).1,g1,g2,g3,trivial⟩ trivial;have hk:k=b:=hk;subst hk;exact eU
 have w7:(l'.filter λp=> !bV K p.1 a).Perm (l.filter λp=> !bV K p.1 a):=Db.filter _;have nK:((a,z)::l'.filter λp=> !bV K p.1 a).Perm (nk K l a z):=(w7.cons _).trans (mT a z _).symm
 rcases oH (val:=ev ρ y) (T.und_ok _ _ hu) hK kG hh (λe he=>by obtain⟨q,_,g,_⟩:=kI px e he;exact⟨_,g⟩)with⟨bn,zc⟩|⟨j,e,hj,KS,bn⟩
 .refine fin _ bn λH' w' hH cQ=>⟨_,_,l'++[(a,z)],rfl,stamped_push dZ zc,?_,?_⟩
  .rw[Array.toList_push];exact ug kG (k9.keep hH cQ) (px.keep hH cQ)
  .have e:l'.filter (λp=> !bV K p.1 a)=l':=aav.2 λq hq=>by
    obtain⟨e,he,KT,_⟩:=oG px q hq
    cases hc:bV K q.1 a with
    |false=>rfl
    |true=>exact absurd ((fE KT kG).1 hc) (zc e he)
   rw[e]at nK;exact(List.perm_append_comm (l₁:=l') (l₂:=[(a,z)])).trans nK
 .refine fin _ bn λH' w' hH cQ=>?_
  obtain⟨l2,g1,g2⟩:=qm (f:=λe=>{e with key:=ev ρ x,val:=ev ρ y}) kG (λ_=>rfl) (λ_=>k9.keep hH cQ) (px.keep hH cQ) uh hj KS;refine⟨_,_,l2,rfl,stamped_modify dZ _ _ (λ_ _=>rfl) (λe' _ he'=>?_),by rw[Array.toList_modify];exact g1,g2.trans nK⟩
  have Ie:es[j]? =some e:=by simpa using hj
  rw[Ie]at he';cases he';exact KS.symm
theorem BG{K:Row}{α:Type}{x:K.den}:{l:List (K.den×α)}->vx K l->∀q∈l,bV K q.1 x=aaL->bk K l x=some q.2
 |p::l,hd,q,hq,hx=>by
  obtain⟨d1,d2⟩:=Zu.1 hd;unfold bk
  rcases Y6.1 hq with rfl|hq
  .rw[aaP hx]
  .have:¬bV K p.1 x=aaL:=λg=>by
    have:=kH hx;rw[<-this,d1 q hq]at g;cases g
   rw[aaO this];exact BG d2 q hq hx
theorem xo{K:Row}{α:Type}{x:K.den}:{l:List (K.den×α)}->(∀q∈l,bV K q.1 x=aaM)->bk K l x=aaK
 |[],_=>rfl
 |p::l,h=>by
  unfold bk;rw[aaO (by rw[h p (by simp)];simp)]
  exact xo λq hq=>h q (by simp[hq])
noncomputable def kJ(T:aJ P)(ob:Nat->Option (Nat×Th))(_n:Nat)(t:TypeId)(ok:Bool)(M X:ag)(k:cU->Option R):Option R:=
 match rX ob M with
 |some m=>match find T.und t with
  |some (.map kt vt)=>match find T.zer vt with
   |some (dh,V')=>bif Du T kt m.K&&(bif m.agg then dh else !dh)&&V'.beq m.V&&(m.agg||YZ m.V.size 1)then(match vy ob m.K X with
    |some x=>bif ok then k {dst:= .tup [(m.agg, .leaf m.V ((bk m.K m.l x).getD m.V.zero)),(aaM, .leaf .bool (bk m.K m.l x).isSome)]}
     else k {dst:= .val m.agg (.leaf m.V ((bk m.K m.l x).getD m.V.zero))}
    |none=>aaK)else aaK
   |none=>aaK
  |_=>aaK
 |none=>mM T ob t ok M X k
theorem xp(T:aJ P){t:TypeId}{ok:Bool}{M X:ag}{m x:Operand}{k:cU->Option R}{q:R}(h:kJ T ob n t ok M X k=some q)(hs:al U H F w ob n)(hm:af H F w M (ev ρ m))(hx:af H F w X (ev ρ x)):
 ∃e,k e=some q/\bK P U H F w ρ ob n ⟨some d, .lookup t m x ok,ty,pos,aft,aaK⟩ e:=by
 unfold kJ at h;split at h
 case h_2=>exact zM T h hs hm hx
 rename_i r oD;obtain⟨bR,hv,jL⟩:=pC hs oD hm;obtain⟨o,s,T0,K,agg,V,l,it⟩:=r;dsimp only at h bR hv jL;split at h
 case h_2=>cases h
 rename_i kt vt hu;split at h
 case h_2=>cases h
 rename_i dh V' hz;obtain⟨hc,h'⟩:=ay h;clear h;obtain⟨hc,JY⟩:=bO hc;obtain⟨hc,IG⟩:=bO hc;obtain⟨sZ,wP⟩:=bO hc
 have nM:agg=dh:=by cases agg<;>cases dh<;>simp_all
 subst nM;obtain rfl:=Row.eq_of_beq IG;split at h'
 case h_2=>cases h'
 rename_i a ha;have hK:=BF T sZ;have kG:=uf hs hK ha hx;obtain⟨b,es,clock,l',jK,KU,hh,dZ,px,Db,_⟩:=jL;have uh:=mU px dZ.2.2;have KV:bk K l a=bk K l' a:=(zW Db uh).symm
 have iA:agg=aaM->V'.size=1:=λe=>by subst e;exact beq_true (by simpa using JY)
 obtain⟨z,ze,zd⟩:=xg (w:=w) (H:=H) (F:=F) (T.zer_ok _ _ _ hz) iA;have BD:=T.und_ok _ _ hu
 have main:∃v,(aaE t (ev ρ m) (ev ρ x) ok).run P w= .ok (if ok then .tuple #[v, .bool (bk K l a).isSome]else v) w/\aw H F w agg (.leaf V' ((bk K l a).getD V'.zero)) v:=by
  rw[KV]
  rcases hK.find a _ w es.toList kG (λe he=>by obtain⟨q,_,g,_⟩:=kI px e he;exact⟨_,g⟩)with⟨h1,h2⟩|⟨j,e,h1,h2,h3⟩
  .have hn:bk K l' a=aaK:=xo λq hq=>by
    obtain⟨e,he,KT,_⟩:=oG px q hq
    cases hc:bV K q.1 a with
    |false=>rfl
    |true=>exact absurd ((fE KT kG).1 hc) (h2 e he)
   refine⟨z,?_,by rw[hn];exact zd⟩;rw[jK,hn];simp[aaE,run_underlying BD,ZN hh,hK.ue _ _ _ _ kG,h1,ze,Za]
  .obtain⟨q,hq,KT,Vn⟩:=kI px e (List.mem_of_getElem? h2);have hl:=BG uh q hq ((fE KT kG).2 h3);refine⟨e.val,?_,by rw[hl];exact Vn⟩;rw[jK,hl];simp[aaE,run_underlying BD,ZN hh,hK.ue _ _ _ _ kG,h1,Za]
 obtain⟨v,bn,jL⟩:=main
 cases ok with
 |true=>
  refine⟨_,h',bj hs (v:= .tuple #[v, .bool (bk K l a).isSome]) (by simp[execOp,bn,Za]) ⟨[v, .bool (bk K l a).isSome],rfl,_,_,rfl,jL,_,_,rfl,aw.dR ..,rfl⟩⟩
 |false=>exact⟨_,h',bj hs (v:=v) (by simp[execOp,bn,Za]) jL⟩
def pD(T:aJ P)(ob:Nat->Option (Nat×Th))(n:Nat)(t:TypeId)(M:ag)(k:cU->Option R):Option R:=
 match rX ob M with
 |some m=>match find T.und t with
  |some (.map _ _)=>k {dst:= .ptr (n+1) [] 0,eat:=[m.o],make:=[(m.o,(n, .smap m.T m.K m.agg m.V m.l (some (n+1,m.l,aaK))))]}
  |_=>aaK
 |none=>aaK
theorem zX(es:Array MapEntry):leftOf es #[]=es:=by
 unfold leftOf
 exact Array.filter_eq_self.2 λe _=>by simp
theorem Dv(T:aJ P){t:TypeId}{M:ag}{m:Operand}{k:cU->Option R}{q:R}(h:pD T ob n t M k=some q)(hs:al U H F w ob n)(hm:af H F w M (ev ρ m)):
 ∃e,k e=some q/\bK P U H F w ρ ob n ⟨some d, .range t m,ty,pos,aft,aaK⟩ e:=by
 unfold pD at h;split at h
 case h_2=>cases h
 rename_i r oD;obtain⟨bR,hv,jL⟩:=pC hs oD hm;obtain⟨o,s,T0,K,agg,V,l,it⟩:=r;dsimp only at h bR hv jL;split at h
 case h_2=>cases h
 rename_i kt vt hu;obtain⟨b,es,clock,l',jK,KU,hh,dZ,px,Db,_⟩:=jL;have Nk:b<w.heap.size:=(Zx.1 hh).1
 have eU:bE H ob [o] b:=⟨o,by simp,s,_,_,bR,hv,KU⟩
 obtain⟨v1,q8,bL⟩:=hs.obj _ _ _ bR;rw[hv]at q8;obtain rfl:=YU q8
 have bn:(execOp (ev ρ) ⟨some d, .range t m,ty,pos,aft,aaK⟩).run P w= .ok (.value (.pointer (some ⟨w.heap.size,0,aaK⟩))) (w.alloc (.mapIter (some b) clock #[] clock)):=by
  simp[execOp,jK,run_range_map w t kt vt b es clock (T.und_ok _ _ hu) hh,Za]
 refine⟨_,h,bD.val bn ?_⟩;have hf:=hs.fresh n (YY _) (by omega);have Qr:=hs.fresh (n+1) (by omega) (by omega)
 let S':Nat->Prop:=λk=>k=b\/k=w.heap.size
 let t':Th:= .smap T0 K agg V l (some (n+1,l,aaK))
 let H1:aj:=((H.de n S').aV n t').bS (n+1) (.pointer (some ⟨w.heap.size,0,aaK⟩))
 have hle:H.le H1:=(aj.mO hf.2).trans (aj.mI (by simpa[aj.aV,aj.de]using Qr.1))
 have TE:H1.val (n+1)=some (.pointer (some ⟨w.heap.size,0,aaK⟩)):=by simp[H1,aj.bS]
 have eH:H1.sub n=S':=by simp[H1,aj.bS,aj.aV,aj.de]
 have Qs:H1.con n=some t':=by simp[H1,aj.bS,aj.aV,aj.de]
 have cQ:Step F w F (w.alloc (.mapIter (some b) clock #[] clock)):=λc hc=>⟨hc,by rw[heap_alloc_old _ _ (hs.lt c hc)]⟩
 refine⟨H1,F,⟨hle,kC _,λ_ h=>h,λ_ h=> .inl h,λc hc=>by have:=hs.lt c hc;simp;omega⟩,λm hm=>?_,⟨_,TE,rfl⟩,⟨λo' s' q hq=>?_,λo1 o2 s1 s2 q1 q2 u1 u2 cq h1 h2=>?_⟩,λo' h=>?_⟩
 .have a1:m≠n:=by omega
  have a2:m≠n+1:=by omega
  simp[H1,aj.bS,aj.aV,aj.de,a1,a2]
 .obtain⟨rfl,e⟩:=bB hq;obtain⟨rfl,rfl⟩:=aan e;refine⟨_,hle.val _ _ hv,bL.one,Qs,?_,λk hk=>?_⟩
  .rw[eH];refine⟨b,es,clock,l',jK, .inl rfl,by rw[heap_alloc_old _ _ Nk];exact hh,dZ,px.keep hle cQ,Db,w.heap.size,clock, #[],clock, .inr rfl,λe=>by omega,TE,heap_alloc_new w _,dZ.1,YY _,YY _,⟨l',?_,Db⟩,λp hp=>by cases hp⟩;rw[zX];exact px.keep hle cQ
  .rw[eH]at hk;have hk:k=b\/k=w.heap.size:=hk
   rcases hk with rfl|rfl
   .exact⟨hs.dx _ eU,by simp;omega, .inr eU⟩
   .exact⟨λe=>by have:=hs.lt _ e;omega,by simp, .inl (YY _)⟩
 .exact absurd ((bB h1).1.trans (bB h2).1.symm) cq
 .left
  obtain⟨y,hy⟩:=ZC.1 h;rw[(bB hy).1];simp
open Classical in
noncomputable def IK{α β:Type}(p:α->Prop)(k:α->Option β):Option β:=if h:∃r,(∃x,p x)/\∀x,p x->k x=some r then some h.choose else aaK
theorem FW{α β:Type}{p:α->Prop}{k:α->Option β}{q:β}(h:IK p k=some q):∀x,p x->k x=some q:=by
 unfold IK at h;split at h
 .rename_i hd;obtain rfl:=YU h;exact hd.choose_spec.2
 .cases h
theorem KW{α β:Type}{p:α->Prop}{k:α->Option β}{q:β}(h0:∃x,p x)(h:∀x,p x->k x=some q):IK p k=some q:=by
 have hd:∃r,(∃x,p x)/\∀x,p x->k x=some r:=⟨q,h0,h⟩
 unfold IK;rw[dif_pos hd];obtain⟨x,hx⟩:=h0;have:=hd.choose_spec.2 x hx;rw[h x hx]at this;rw[YU this]
def vA(nn:Nat):List (Nat×(Nat×Th))->Option Nat
 |[]=>aaK
 |(o,(_, .smap _ _ _ _ _ (some (n',_,_))))::l=>bif YZ n' nn then some o else vA nn l
 |_::l=>vA nn l
def BH:Row->Bool
 | .pair (.int _) (.int _)=>aaL
 |_=>aaM
noncomputable def jw{α:Type}(K:Row)(l:List (K.den×α))(k:K.den):List (K.den×α):=l.filter λq=> !bV K q.1 k
noncomputable def FX(objs:List (Nat×(Nat×Th)))(n:Nat)(X:ag)(k:cU->Option R):Option R:=
 match X with
 | .ptr nn [] 0=>match vA nn objs with
   |some o=>match find objs o with
    |some (_, .smap T K agg V l (some (n',left,_)))=>bif YZ n' nn&&BH K then
      (if left.isEmpty=aaL then k {dst:= .tup [(aaM, .leaf .bool aaM)]}
      else IK (λp=>p∈left) λp=>k {dst:= .tup [(aaM, .leaf .bool aaL),(aaL, .leaf K p.1),(agg, .leaf V p.2)],eat:=[o],make:=[(o,(n, .smap T K agg V l (some (nn,jw K left p.1,some p))))]})else aaK
    |_=>aaK
   |none=>aaK
 |_=>aaK
theorem xq{K:Row}{x:K.den}{v:Value}(hK:BH K=aaL)(h:gH K x=some v):aw H F w aaL (.leaf K x) v:=by
 unfold BH at hK;split at hK
 .obtain rfl:=YU h;exact⟨[_,_],⟨[_],[_],rfl,rfl,rfl⟩,rfl,λe=>by cases e⟩
 .cases hK
theorem xr(es:Array MapEntry)(seen:Array Nat)(b:Nat):(leftOf es (seen.push b)).toList=(leftOf es seen).toList.filter λx=> !(x.born==b):=by
 unfold leftOf;rw[aaw,aaw,List.filter_filter]
 congr 1
 funext x;rw[Array.contains_push]
 cases seen.contains x.born<;>cases x.born==b<;>simp_all
theorem FY{objs:List (Nat×(Nat×Th))}{X:ag}{x:Operand}{k:cU->Option R}{q:R}(h:FX objs n X k=some q)(hs:al U H F w (find objs) n)(hx:af H F w X (ev ρ x)):
 ∃e,k e=some q/\bK P U H F w ρ (find objs) n ⟨some d, .next x aaM,ty,pos,aft,aaK⟩ e:=by
 unfold FX at h;split at h
 case h_2=>cases h
 rename_i nn;split at h
 case h_2=>cases h
 rename_i o _;split at h
 case h_2=>cases h
 rename_i s T K agg V l n' left cur bR;obtain⟨hc,h'⟩:=ay h;clear h;obtain⟨sZ,hK⟩:=bO hc;obtain rfl:=beq_true sZ;obtain⟨v,hv,bL⟩:=hs.obj _ _ _ bR;obtain⟨b,es,clock,l',jK,KU,hh,dZ,px,Db,r,since,seen,last,Nl,Qt,Pp,hr,hold,fc,TF,⟨l2,Pq,Ic⟩,_⟩:=bL.ok;obtain⟨b0,tM,zb⟩:=hx;rw[Pp]at tM;cases tM;have Qf:r<w.heap.size:=(Zx.1 hr).1
 rcases run_next_at (P:=P) w ty r b since last seen es clock hr hh hold fc with⟨h0,bn⟩|⟨e,he,w1,Ps,bn⟩
 .have hle:l2=[]:=by
   have:(leftOf es seen).toList=[]:=by rw[Array.toList_eq_nil_iff];exact Array.eq_empty_of_size_eq_zero h0
   rw[this]at Pq;exact Pq
  subst hle;obtain rfl:left=[]:=Ic.nil_eq.symm;rw[aaP (show([]:List (K.den×V.den)).isEmpty=aaL from rfl)]at h';exact⟨_,h',bj hs (v:= .tuple #[.bool aaM]) (by simp[execOp,zb,bn,Za]) ⟨[.bool aaM],rfl,_,_,rfl,aw.dR ..,rfl⟩⟩
 .have Nn:((leftOf es seen).toList.map (·.born)).Nodup:=by
   unfold leftOf;rw[aaw];exact(dZ.2.1.sublist ((List.filter_sublist).map _))
  have No:((leftOf es seen).toList.map (·.key)).Nodup:=by
   unfold leftOf;rw[aaw];exact(dZ.2.2.sublist ((List.filter_sublist).map _))
  obtain⟨p,l3,g1,g2,g3,g4⟩:=ud Pq Nn he;have lK:p∈left:=Ic.mem_iff.1 (g4.mem_iff.2 (by simp))
  have cq:¬left.isEmpty=aaL:=by
   cases left with
   |nil=>cases lK
   |cons _ _=>simp
  rw[aaO cq]at h';refine⟨_,FW h' p lK,?_⟩
  have Qu:e∈es.toList:=by
   have:e∈(leftOf es seen).toList:=he;unfold leftOf at this;rw[aaw]at this;exact(Zt.1 this).1
  have IL:w1.heap=w.heap:=by rcases Ps with rfl|rfl<;>rfl
  have ir:∀k,k≠r->(aak w1 r (.mapIter (some b) since (seen.push e.born) clock)).heap[k]? =w.heap[k]? :=λk hk=>by
   rw[<-IL];exact(heap_set (w:=w1) (by rw[IL];exact hr)).2 k hk
  have Np:(aak w1 r (.mapIter (some b) since (seen.push e.born) clock)).heap[r]? =some (.mapIter (some b) since (seen.push e.born) clock):=(heap_set (w:=w1) (by rw[IL];exact hr)).1
  have eU:∀k,H.sub s k->bE H (find objs) [o] k:=λk hk=>⟨o,by simp,s,_,_,bR,hv,hk⟩
  have hf:=hs.fresh n (YY _) (by omega)
  let t':Th:= .smap T K agg V l (some (n',jw K left p.1,some p))
  let S':Nat->Prop:=λk=>k=b\/k=r
  have hle:H.le ((H.de n S').aV n t'):=aj.mO hf.2
  have cQ:Step F w F (aak w1 r (.mapIter (some b) since (seen.push e.born) clock)):=λc hc=>⟨hc,ir c λg=>by subst g;exact hs.dx _ (eU _ Nl) hc⟩
  refine bD.val (v:= .tuple #[.bool aaL,e.key,e.val]) (w':=aak w1 r (.mapIter (some b) since (seen.push e.born) clock)) (by simp[execOp,zb,bn,Za]) ?_
  have bl:Ext (bE H (find objs) [o]) w (aak w1 r (.mapIter (some b) since (seen.push e.born) clock)):=by
   rcases Ps with rfl|rfl
   .exact⟨rfl,⟨rfl,YY _⟩,rfl,by simp[aak],λk hk hn=>ir k λg=>hn (by subst g;exact eU _ Nl)⟩
   .exact⟨rfl,⟨rfl,Nat.le_succ _⟩,rfl,by simp[aak,IL],λk hk hn=>ir k λg=>hn (by subst g;exact eU _ Nl)⟩
  have uh:vx K left:=(mU Pq No).perm Ic.symm;refine iX.vl (t':=t') hs bR hv rfl (by simp) S' (λk hk=>?_) bl ?_ ?_
  .have hk:k=b\/k=r:=hk
   rcases hk with rfl|rfl
   .exact eU _ KU
   .exact eU _ Nl
  .refine⟨b,es,clock,l',jK, .inl rfl,(ir b Qt.symm).trans hh,dZ,px.keep hle cQ,Db,r,since,seen.push e.born,clock, .inr rfl,Qt,hle.val _ _ Pp,Np,hold,TF,TF,⟨l3,?_,?_⟩,λp' zg=>?_⟩
   .rw[xr];exact g3.keep hle cQ
   .have w7:left.Perm (p::l3):=Ic.symm.trans g4;have Vo:vx K (p::l3):=uh.perm w7.symm;refine List.Perm.trans ?_ (w7.filter _).symm
    rw[List.filter_cons_of_neg (by
     have:bV K p.1 p.1=aaL:=(fE g1 g1).2 rfl
     simp[this])]
    rw[aav.2 λq hq=>by rw[nQ ((Zu.1 Vo).1 q hq)];rfl]
   .obtain rfl:=YU zg;exact⟨rfl,e,Qu,⟨seen,rfl⟩,g1,g2.keep hle cQ⟩
  .exact⟨[.bool aaL,e.key,e.val],rfl,_,_,rfl,aw.dR ..,_,_,rfl,xq hK g1,_,_,rfl,g2.keep hle cQ,rfl⟩
def zY(objs:List (Nat×(Nat×Th)))(X:ag):Option ag:=
 match X with
 | .ptr nn [] 0=>match vA nn objs with
   |some o=>match find objs o with
    |some (_, .smap _ K agg V _ (some (n',_,some p)))=>bif YZ n' nn&&BH K then some (.tup [(aaL, .leaf K p.1),(agg, .leaf V p.2)])else aaK
    |_=>aaK
   |none=>aaK
 |_=>aaK
theorem Dw{objs:List (Nat×(Nat×Th))}{X D:ag}{x:Operand}(h:zY objs X=some D)(hs:al U H F w (find objs) n)(hx:af H F w X (ev ρ x)):
 bK P U H F w ρ (find objs) n ⟨some d, .entry x,ty,pos,aft,aaK⟩ {dst:=D}:=by
 unfold zY at h;split at h
 case h_2=>cases h
 rename_i nn;split at h
 case h_2=>cases h
 rename_i o _;split at h
 case h_2=>cases h
 rename_i s T K agg V l n' left p bR;obtain⟨hc,h'⟩:=ay h;obtain⟨sZ,hK⟩:=bO hc;obtain rfl:=beq_true sZ;obtain rfl:=YU h';obtain⟨v,hv,bL⟩:=hs.obj _ _ _ bR;obtain⟨b,es,clock,l',jK,KU,hh,dZ,px,Db,r,since,seen,last,Nl,Qt,Pp,hr,hold,fc,_,_,Qv⟩:=bL.ok;obtain⟨rfl,e,he,⟨s0,rfl⟩,g1,g2⟩:=Qv p rfl;obtain⟨b0,tM,zb⟩:=hx;rw[Pp]at tM;cases tM;have bn:=run_entry_at (P:=P) w r b since s0 es last e hr hh he dZ.2.1;exact bj hs (v:= .tuple #[e.key,e.val]) (by simp[execOp,zb,bn,Za]) ⟨[e.key,e.val],rfl,_,_,rfl,xq hK g1,_,_,rfl,g2,rfl⟩
end
end
section
open Go Go.RowKit Go.MapKept
section
variable {P:Program} {ρ:Nat->Value} {w w':World} {H H':aj} {F F':Nat->Prop} {U:Nat->Prop} {ob:Nat->Option (Nat×Th)} {n:Nat} {R:Type}
variable {op:Op} {ty:TypeId} {pos:String} {aft:Array Edge} {d:Nat}
noncomputable def J0(ob:Nat->Option (Nat×Th))(n o:Nat):Option cU:=FU ob n o
theorem zZ(hs:al U H F w ob n){o:Nat}{e:cU}(h:J0 ob n o=some e):jc H F w ob n e undef w:=Dn hs h
theorem DR.pE:(d:DR)->d.low.dw=d.row.dw
 | .leaf _=>rfl
 | .sl _ _=>rfl
 | .pair a b=>by show a.low.dw++b.low.dw=a.row.dw++b.row.dw;rw[a.pE,b.pE]
theorem FZ{α β:Type}{l m out:List α}{lx ly:List β}(h:b7 l m=some out)(h1:lx.length=l.length)(h2:ly.length=m.length):b7 lx ly=some (lx++ly)/\out=l++m:=by
 unfold b7 at h⊢;split at h
 case isFalse=>cases h
 rename_i hle;exact⟨by rw[aaP (by omega)],(YU h).symm⟩
theorem qn(T:aJ P){t e:TypeId}{r:Row}(hu:find T.und t=some (.slice e))(hr:find T.row e=some r){dr:DR}(iU:dr.row=r){x y:Operand}{l m out:List dr.row.den}{Sx:Nat->Prop}{eat:List Nat}{o2 s2:Nat}
 (hs:al U H F w ob n)(hx:CX F w e dr.low (λ_=>gI F w dr) (ev ρ x) l Sx)(Qw:∀k,Sx k->¬F k)(TG:∀k,Sx k->bE H ob eat k)(vd:∀k,Sx k->k<w.heap.size)
 (qO:ob o2=some (s2, .deep e dr m aaK))(jK:H.val o2=some (ev ρ y))(Vp:o2∈eat)(IM:∀k,Sx k->¬H.sub s2 k)(ha:b7 l m=some out):
 bK P U H F w ρ ob n ⟨some d, .call {callee:= .builtin .append,args:= #[x,y],argTypes:= #[t,t]},ty,pos,aft,aaK⟩ {dst:= .val aaM (.own n),eat:=eat,make:=[(n,(n, .deep e dr out aaK))]}:=by
 obtain⟨lx,Pu,FL,MQ,Vq,zh⟩:=hx;obtain⟨ly,Sy,Vr,Pe,Vs,KX⟩:=hs.low qO jK;obtain⟨v2,CR,IN⟩:=hs.obj _ _ _ qO;rw[jK]at CR;obtain rfl:=YU CR;obtain⟨Pv,rfl⟩:=FZ ha MQ Pe;obtain⟨ti,z,h1,h2,h3,h4,h5⟩:=T.row_ok _ _ hr;have ht:=T.und_ok _ _ hu;subst iU;obtain⟨v',w',bn,bl,eT,hm⟩:=rv ty ht h1 h2 (h3.trans dr.pE.symm) (h4.trans dr.size.symm) h5 (base:=0) (l:=lx) ⟨λk hk=>Qw k (zh.ba k hk),FL⟩ Vr.reads Pv hs.lt (Nat.zero_le _)
 have dZ:Step F w F w':=Step.ext bl hs.lt λk hk=>Qw k (zh.ba k hk)
 have Nq:∀k,H.sub s2 k->bE H ob eat k:=λk hk=>⟨o2,Vp,s2,_,_,qO,jK,hk⟩
 have Nr:∀i,i<l.length->∀k,Pu i k->w'.heap[k]? =w.heap[k]? :=λi hi k hk=>bl.block k (vd k (zh.part hi k hk)) (zh.out i k hi hk)
 have Ns:∀i,i<m.length->∀k,Sy i k->w'.heap[k]? =w.heap[k]? :=λi hi k hk=>bl.block k (IN.lt k (KX.part hi k hk)) λF5=>IM k (zh.ba k F5) (KX.part hi k hk)
 have hlen:(l++m).length=l.length+m.length:=Zf
 have Nt:∀k,ba v' k->(Sx k/\ba (ev ρ x) k)\/k=w.heap.size:=by
  intro k hk
  rcases hm with g|g
  .rw[g]at hk;exact .inl ⟨zh.ba k hk,hk⟩
  .rw[g]at hk;exact .inr hk.symm
 let SS:Nat->Nat->Prop:=λi=>if i<l.length then Pu i else Sy (i-l.length)
 have Mx:∀i k,i<l.length->SS i k->Pu i k:=λi k hi hk=>by simpa only[SS,aaP hi]using hk
 have My:∀i k,¬i<l.length->SS i k->Sy (i-l.length) k:=λi k hi hk=>by simpa only[SS,aaO hi]using hk
 have TH:∀i k,i<(l++m).length->SS i k->Sx k\/H.sub s2 k:=by
  intro i k hi hk;by_cases ai:i<l.length
  .exact .inl (zh.part ai k (Mx i k ai hk))
  .exact .inr (KX.part (by omega) k (My i k ai hk))
 have jf:v'.oneCell'=aaL:=iL.one (T:=e) (r:=dr.low) eT.2;refine bD.val (v:=v') (w':=w') (by simp[execOp,resolve,invoke,builtin,bn]) (iX.IJ (t:= .deep e dr (l++m) aaK) (S:=nN (ba v') SS (l++m).length) hs rfl jf ⟨bl.os,bl.tape,bl.output,bl.size,λk hk hn=>bl.block k hk λMR=>hn (TG k (zh.ba k MR))⟩ ?_ (λk hk=>?_) (jT (o:=n) (v:=v') (by simp[aj.bS]) jf))
 .refine⟨lx++ly,SS,eT.2,by simp[MQ,Pe],λi a b=>?_,⟨λk=>Iff.rfl,λi j k hi hj cq hk jd=>?_,λi k hi hk MR=>?_⟩⟩
  .show gI F w' dr (lx++ly)[i] (l++m)[i] (SS i)
   by_cases ai:i<l.length
   .have e1:(lx++ly)[i]=lx[i]'(by omega):=List.getElem_append_left (by omega);have e2:(l++m)[i]=l[i]:=List.getElem_append_left ai
    have e3:SS i=Pu i:=by simp only[SS,aaP ai]
    rw[e1,e2,e3];exact gI.keep dZ (Vq i (by omega) ai) (Nr i ai)
   .have e1:(lx++ly)[i]=ly[i-l.length]'(by simp at a;omega):=by rw[List.getElem_append_right (by omega)];simp only[MQ]
    have e2:(l++m)[i]=m[i-l.length]'(by omega):=List.getElem_append_right (by omega)
    have e3:SS i=Sy (i-l.length):=by simp only[SS,aaO ai]
    rw[e1,e2,e3];exact gI.keep dZ (Vs (i-l.length) _ (by omega)) (Ns _ (by omega))
  .by_cases h1:i<l.length<;>by_cases h2:j<l.length
   .exact zh.two i j k h1 h2 cq (Mx i k h1 hk) (Mx j k h2 jd)
   .exact IM k (zh.part h1 k (Mx i k h1 hk)) (KX.part (by omega) k (My j k h2 jd))
   .exact IM k (zh.part h2 k (Mx j k h2 jd)) (KX.part (by omega) k (My i k h1 hk))
   .exact KX.two (i-l.length) (j-l.length) k (by omega) (by omega) (by omega) (My i k h1 hk) (My j k h2 jd)
  .rcases Nt k MR with⟨g1,g2⟩|g
   .by_cases h1:i<l.length
    .exact zh.out i k h1 (Mx i k h1 hk) g2
    .exact IM k g1 (KX.part (by omega) k (My i k h1 hk))
   .rcases TH i k hi hk with h1|h1
    .have:=vd k h1;omega
    .have:=IN.lt k h1;omega
 .have hk:nN (ba v') SS (l++m).length k:=hk
  have fin:Sx k\/H.sub s2 k->¬F k/\k<w'.heap.size/\(w.heap.size<=k\/bE H ob eat k):=by
   rintro(h1|h1)
   .exact⟨Qw k h1,Zv (vd k h1) bl.size, .inr (TG k h1)⟩
   .exact⟨IN.no k h1,Zv (IN.lt k h1) bl.size, .inr (Nq k h1)⟩
  rcases hk with hk|⟨i,hi,hk⟩
  .rcases Nt k hk with⟨g,_⟩|g
   .exact fin (.inl g)
   .exact⟨λe=>by have:=hs.lt k e;omega,eT.lt k hk, .inl (by omega)⟩
  .exact fin (TH i k hi hk)
def oI(T:aJ P)(ob:Nat->Option (Nat×Th))(n:Nat)(t:TypeId)(X Y:ag)(k:cU->Option R):Option R:=
 match find T.und t with
 |some (.slice e)=>match find T.row e with
  |some r=>match Y with
   | .val aaM (.own o2)=>match ob o2 with
     |some (_, .deep T2 d2 m aaK)=>bif YZ T2 e&&d2.row.beq r then(match X with
      | .val aaM .nil=>(b7 ([]:List d2.row.den) m).bind λl=>k {dst:= .val aaM (.own n),eat:=[o2],make:=[(n,(n, .deep e d2 l aaK))]}
      | .val aaM (.own o1)=>match ob o1 with
        |some (_, .deep T1 d1 l0 aaK)=>bif YZ o1 o2 then aaK else bif YZ T1 e then(if h:d1.beq d2=aaL then(b7 (DR.eq_of_beq h▸l0) m).bind λl=>k {dst:= .val aaM (.own n),eat:=[o1,o2],make:=[(n,(n, .deep e d2 l aaK))]}else aaK)else aaK
        |_=>aaK
      |_=>aaK)else aaK
     |_=>aaK
   |_=>aaK
  |none=>aaK
 |_=>aaK
theorem xu(T:aJ P){t:TypeId}{X Y:ag}{x y:Operand}{k:cU->Option R}{q:R}(h:oI T ob n t X Y k=some q)(hs:al U H F w ob n)(hx:af H F w X (ev ρ x))(hy:af H F w Y (ev ρ y)):
 ∃e,k e=some q/\bK P U H F w ρ ob n ⟨some d, .call {callee:= .builtin .append,args:= #[x,y],argTypes:= #[t,t]},ty,pos,aft,aaK⟩ e:=by
 unfold oI at h;split at h
 case h_2=>cases h
 rename_i e hu;split at h
 case h_2=>cases h
 rename_i r hr;split at h
 case h_2=>cases h
 rename_i o2;split at h
 case h_2=>cases h
 rename_i s2 T2 d2 m qO;obtain⟨hc,h'⟩:=ay h;clear h;obtain⟨sZ,wP⟩:=bO hc;obtain rfl:=beq_true sZ;have iU:=Row.eq_of_beq wP;obtain⟨cs,⟨u,Iz,_,e2⟩,_,h3⟩:=hy;rw[h3 rfl]at e2
 obtain rfl:ev ρ y=u:=by simpa using e2
 split at h'
 .obtain⟨l,hl,hk⟩:=bind_some h';refine⟨_,hk,qn (Sx:=λ_=>False) T hu hr iU hs ?_ (λ_ h=>h.elim) (λ_ h=>h.elim) (λ_ h=>h.elim) qO Iz (by simp) (λ_ h=>h.elim) hl⟩;obtain⟨cs,h1,_,h4⟩:=hx;rw[h4 rfl]at h1;have rC:[ev ρ x]=[Value.slice aaK 0 0]:=h1;rw[show ev ρ x= .slice aaK 0 0 by simpa using rC];exact⟨[],λ_ _=>False,iL.nil F w T2 d2.low,rfl,λi h=>absurd h (by simp),⟨λk=>by simp[ba,Zw],λ_ _ _ h=>absurd h (by simp),λ_ _ h=>absurd h (by simp)⟩⟩
 .rename_i o1;split at h'
  case h_2=>cases h'
  rename_i s1 T1 d1 l0 vp
  cases cq:YZ o1 o2 with
  |true=>rw[cq]at h';cases h'
  |false=>
   rw[cq,cond_false]at h'
   have cq:o1≠o2:=λe=>by rw[e]at cq;simp at cq
   obtain⟨hT,h⟩:=ay h';clear h';obtain rfl:=beq_true hT;split at h
   case isFalse=>cases h
   rename_i hb;obtain rfl:=DR.eq_of_beq hb;obtain⟨l,hl,hk⟩:=bind_some h;obtain⟨cs,⟨v,q8,_,e1⟩,_,h4⟩:=hx;rw[h4 rfl]at e1
   obtain rfl:ev ρ x=v:=by simpa using e1
   obtain⟨v',cV,lJ⟩:=hs.obj _ _ _ vp;rw[q8]at cV;obtain rfl:=YU cV;exact⟨_,hk,qn (Sx:=H.sub s1) T hu hr iU hs lJ.ok lJ.no (λk hk=>⟨o1,by simp,s1,_,_,vp,q8,hk⟩) lJ.lt qO Iz (by simp) (λk hk=>hs.apart _ _ _ _ _ _ _ _ cq vp qO q8 Iz k hk) hl⟩
 .cases h'
def F6(ob:Nat->Option (Nat×Th)):ag->Bool
 | .val aaM (.own o)=>match ob o with
   |some (_, .deep ..)=>aaL
   |_=>aaM
 |_=>aaM
def kK(T:aJ P)(ob:Nat->Option (Nat×Th))(n:Nat)(t:TypeId)(X Y:ag)(k:cU->Option R):Option R:=
 bif F6 ob Y then oI T ob n t X Y k else mK T ob n t X Y k
theorem xv(T:aJ P){t:TypeId}{X Y:ag}{x y:Operand}{k:cU->Option R}{q:R}(h:kK T ob n t X Y k=some q)(hs:al U H F w ob n)(hx:af H F w X (ev ρ x))(hy:af H F w Y (ev ρ y)):
 ∃e,k e=some q/\bK P U H F w ρ ob n ⟨some d, .call {callee:= .builtin .append,args:= #[x,y],argTypes:= #[t,t]},ty,pos,aft,aaK⟩ e:=by
 unfold kK at h
 cases hb:F6 ob Y with
 |true=>rw[hb,cond_true]at h;exact xu T h hs hx hy
 |false=>rw[hb,cond_false]at h;exact zH T h hs hx hy
end
end
end Go.Proofs.YtbladfbbhijpmaaGreat
section
open _root_.Bool renaming false->aaM,true->aaL
open _root_.Option renaming none->aaK,none_or->Z4
open _root_.List renaming append_assoc->Zp,length_cons->Ze,mem_cons_of_mem->Zm,mem_cons_self->Zz
open _root_.Nat renaming beq->YZ,blt->ZK,eq_of_beq_eq_true->ZM,le_refl->YY
open _root_.Option.some renaming inj->YU,injEq->Y3
open _root_.Prod.mk renaming injEq->ZV
open _root_.Go.Value renaming ownBlock->Zw
namespace Go.Proofs.YtbladfbbhijpmaaGreat
open Go Go.RowKit
def dS(objs:List (Nat×(Nat×Th))):List Nat->Option (List (Nat×(Nat×Th)))
 |[]=>some objs
 |o::os=>match find objs o with
  |some (s, .own T r l)=>dS ((o,(s, .pf T r l))::del [o] objs) os
  |some (s, .map T K agg V l)=>dS ((o,(s, .fmap T K agg V l))::del [o] objs) os
  |some (s, .deep T d l aaK)=>dS ((o,(s, .fdeep T d l))::del [o] objs) os
  |some (_, .pf ..)=>dS objs os
  |some (_, .fmap ..)=>dS objs os
  |some (_, .fdeep ..)=>dS objs os
  |_=>aaK
def c7:Th->Bool
 | .pf .. =>aaL
 | .fmap .. =>aaL
 | .fdeep .. =>aaL
 |_=>aaM
structure Nu(t t':Th):Prop where
 froz:c7 t'=aaL
 base:t'.base=t.base
 fp:∀S v k,¬fp S v t' k
 ok:∀{H:aj}{F:Nat->Prop}{w:World}{S:Nat->Prop}{v:Value},(∀k,Go.Proofs.YtbladfbbhijpmaaGreat.fp S v t k->¬F k)->fg H F w S v t->fg H (λb=>F b\/Go.Proofs.YtbladfbbhijpmaaGreat.fp S v t b) w S v t'
structure bM(H:aj)(F:Nat->Prop)(w:World)(H':aj)(F':Nat->Prop)(w':World):Prop where
 eL:H.le H'
 step:Step F w F' w'
theorem bM.refl(H:aj)(F:Nat->Prop)(w:World):bM H F w H F w:=⟨aj.le.refl H,Step.refl F w⟩
theorem bM.trans{H H' qL:aj}{F F' z6:Nat->Prop}{w w' q6:World}(h:bM H F w H' F' w')(k:bM H' F' w' qL z6 q6):bM H F w qL z6 q6:=⟨h.eL.trans k.eL,h.step.trans k.step⟩
structure F7(G:Nat->Prop)(w0:World)(F0:Nat->Prop)(w:World)(F:Nat->Prop):Prop where
 ext:Ext G w0 w
 le:∀b,F0 b->F b
 new:∀b,F b->F0 b\/w0.heap.size<=b\/G b
section
variable {U:Nat->Prop} {H:aj} {F:Nat->Prop} {w:World} {n:Nat}
theorem IP(T:TypeId)(r:Row)(l:List r.den):Nu (.own T r l) (.pf T r l) where
 froz:=rfl
 base:=rfl
 fp _ _ _ h:=h
 ok hn h:=fN.freeze (base:=0) (T:=T) (l:=l) ⟨hn,h⟩
theorem IQ(T:TypeId)(K:Row)(agg:Bool)(V:Row)(l:List (K.den×V.den)):Nu (.map T K agg V l) (.fmap T K agg V l) where
 froz:=rfl
 base:=rfl
 fp _ _ _ h:=h
 ok {H F w S v} _ h:=by
  obtain⟨b,es,clock,h1,h2,h3,h4⟩:=h;obtain⟨g1,g2⟩:=BA h4;refine⟨v,rfl, .inr ⟨b,es,clock,h1, .inr h1,h2,h3,by simpa using g1,λi hi=>?_⟩⟩;obtain⟨e,cs,q1,q2,q3,q4,q5⟩:=g2 i hi;exact⟨e,cs,by simpa using q1,q2,q3.step (Step.freeze F w _),q4,q5⟩
theorem iL.iU{F:Nat->Prop}{w:World}{T:TypeId}{r:Row}{v:Value}{l:List r.den}(h:iL F w T r v l):bN F w .iU [v] v:=by
 obtain⟨xs,⟨_,h⟩,_⟩:=h
 rcases h with⟨rfl,_⟩|⟨gg,o0,cap,cur,rfl,_⟩<;>exact⟨rfl,_,_,_,rfl⟩
theorem F8(T:TypeId)(d:DR)(l:List d.row.den):Nu (.deep T d l aaK) (.fdeep T d l) where
 froz:=rfl
 base:=rfl
 fp _ _ _ h:=h
 ok {H F w S v} hn h:=by
  have h':gI F w (.sl T d) v l S:=h;obtain⟨lh,Ss,h1,_⟩:=h;exact gI.freeze h' hn h1.iU
theorem IR{objs:List (Nat×(Nat×Th))}{o s:Nat}{t0 t1:Th}(hf:Nu t0 t1)(hs:al U H F w (find objs) n)(ho:find objs o=some (s,t0)):
 ∃F',al U H F' w (find ((o,(s,t1))::del [o] objs)) n/\(∀b,F b->F' b)/\(∀b,F' b->F b\/∃v,H.val o=some v/\fp (H.sub s) v t0 b):=by
 obtain⟨v,hv,bL⟩:=hs.obj _ _ _ ho;refine⟨λb=>F b\/fp (H.sub s) v t0 b,?_,λ_ h=> .inl h,λb hb=>hb.imp id λhm=>⟨v,hv,hm⟩⟩
 have part:∀o' s' t',find ((o,(s,t1))::del [o] objs) o'=some (s',t')->(o'=o/\s'=s/\t'=t1)\/(o'≠o/\find objs o'=some (s',t')):=by
  intro o' s' t' h;rw[ax]at h;split at h
  .rename_i e;simp only[Y3,ZV]at h;exact .inl ⟨e.symm,h.1.symm,h.2.symm⟩
  .rename_i e;exact .inr ⟨λe'=>e e'.symm,(fi.1 h).2⟩
 have fz:Step F w (λb=>F b\/fp (H.sub s) v t0 b) w:=Step.freeze F w _;refine⟨λo' s' t' h=>?_,λo1 o2 s1 s2 Vt t2 v1 v2 cq h1 h2 e1 e2 k hk jd=>?_,hs.fresh,λb hb=>hb.elim (hs.lt b) (bL.lt b),hs.new,hs.gl.step fz⟩
 .rcases part o' s' t' h with⟨rfl,rfl,rfl⟩|⟨cq,h'⟩
  .exact⟨v,hv,bL.one,by rw[hf.base];exact bL.con,hf.ok bL.no bL.ok,λk hk=>(hf.fp _ _ _ hk).elim,λk hk=>(hf.fp _ _ _ hk).elim,λk hk=>(hf.fp _ _ _ hk).elim⟩
  .obtain⟨v',cV,xw⟩:=hs.obj _ _ _ h';refine⟨v',cV,xw.one,xw.con,xw.ok.heap (aj.le.refl H) fz λ_ _=>rfl,λk hk hF=>?_,xw.lt,xw.use⟩
   rcases hF with hF|hF
   .exact xw.no k hk hF
   .exact hs.apart _ _ _ _ _ _ _ _ cq h' ho cV hv k hk hF
 .rcases part o1 s1 Vt h1 with⟨rfl,rfl,rfl⟩|⟨Vu,rC⟩
  .exact hf.fp _ _ _ hk
  .rcases part o2 s2 t2 h2 with⟨rfl,rfl,rfl⟩|⟨Vv,sX⟩
   .exact hf.fp _ _ _ jd
   .exact hs.apart _ _ _ _ _ _ _ _ cq rC sX e1 e2 k hk jd
theorem kL:{os:List Nat}->{F:Nat->Prop}->{objs jV:List (Nat×(Nat×Th))}->dS objs os=some jV->al U H F w (find objs) n->
 ∃F',al U H F' w (find jV) n/\(∀b,F b->F' b)/\(∀b,F' b->F b\/bE H (find objs) os b)
 |[],F,objs,jV,h,hs=>by obtain rfl:=YU h;exact⟨F,hs,λ_ h=>h,λ_ h=> .inl h⟩
 |o::os,F,objs,jV,h,hs=>by
  have main:∀s t t',Nu t t'->find objs o=some (s,t)->dS ((o,(s,t'))::del [o] objs) os=some jV->
   ∃F',al U H F' w (find jV) n/\(∀b,F b->F' b)/\(∀b,F' b->F b\/bE H (find objs) (o::os) b):=by
   intro s t t' hf ho h;obtain⟨F1,a1,a2,a3⟩:=IR hf hs ho;obtain⟨F2,b1,b2,b3⟩:=kL h a1;refine⟨F2,b1,λb hb=>b2 b (a2 b hb),λb hb=>?_⟩
   rcases b3 b hb with h1|⟨o',ij,s',t',v,h1,h2,h3⟩
   .rcases a3 b h1 with h2|⟨v,hv,hm⟩
    .exact .inl h2
    .exact .inr ⟨o,by simp,s,_,v,ho,hv,hm⟩
   .rw[ax]at h1;split at h1
    .simp only[Y3,ZV]at h1;rw[<-h1.2]at h3;exact(hf.fp _ _ _ h3).elim
    .exact .inr ⟨o',by simp[ij],s',t',v,(fi.1 h1).2,h2,h3⟩
  have same:dS objs os=some jV->∃F',al U H F' w (find jV) n/\(∀b,F b->F' b)/\(∀b,F' b->F b\/bE H (find objs) (o::os) b):=by
   intro h;obtain⟨F2,b1,b2,b3⟩:=kL h hs;exact⟨F2,b1,b2,λb hb=>(b3 b hb).imp id λ⟨o',ij,rest⟩=>⟨o',by simp[ij],rest⟩⟩
  unfold dS at h;split at h
  .rename_i ho;exact main _ _ _ (IP ..) ho h
  .rename_i ho;exact main _ _ _ (IQ ..) ho h
  .rename_i ho;exact main _ _ _ (F8 ..) ho h
  .exact same h
  .exact same h
  .exact same h
  .cases h
end
theorem eZ{S:Nat->Prop}{v:Value}{t:Th}{k:Nat}(h:c7 t=aaL)(hk:fp S v t k):False:=by
 cases t<;>first|(exact hk)|(cases h)
theorem gC:{os:List Nat}->{objs jV:List (Nat×(Nat×Th))}->dS objs os=some jV->∀o s t,find jV o=some (s,t)->
 find objs o=some (s,t)\/c7 t=aaL
 |[],objs,jV,h,o,s,t,ho=>by obtain rfl:=YU h;exact .inl ho
 |o0::os,objs,jV,h,o,s,t,ho=>by
  have main:∀s0 t1,c7 t1=aaL->dS ((o0,(s0,t1))::del [o0] objs) os=some jV->find objs o=some (s,t)\/c7 t=aaL:=by
   intro s0 t1 hf h
   rcases gC h o s t ho with h1|g
   .rw[ax]at h1;split at h1
    .simp only[Y3,ZV]at h1;obtain⟨rfl,rfl⟩:=h1;exact .inr hf
    .exact .inl (fi.1 h1).2
   .exact .inr g
  unfold dS at h;split at h
  .exact main _ _ rfl h
  .exact main _ _ rfl h
  .exact main _ _ rfl h
  .exact gC h o s t ho
  .exact gC h o s t ho
  .exact gC h o s t ho
  .cases h
inductive Sh where
 |leaf (r:Row)
 |own (j:Nat)
 |nil
 |pair (a b:Sh)
 |junk (n:Nat)
inductive SS where
 |val (agg:Bool) (t:Sh)
 |ptr (j:Nat) (p:List Bool) (off:Nat)
 |at (r:Row)
 |undef
 |fn (f:FuncId) (js:List (Nat×List Bool×Nat))
 |ifc (T:TypeId) (s:SS)
inductive OS where
 |box (T:TypeId) (t:Sh)
 |own (T:TypeId) (r:Row)
 |map (T:TypeId) (K:Row) (agg:Bool) (V:Row)
 |deep (T:TypeId) (d:DR)
 |smap (T:TypeId) (K:Row) (agg:Bool) (V:Row) (it:Option Nat)
structure JS where
 ah:List (Nat×SS)
 objs:List (Nat×OS):=[]
 drop:List Nat:=[]
 nxt:Nat
def Sh.rows:Sh->List Row
 | .leaf r=>[r]
 | .own _=>[]
 | .nil=>[]
 | .pair a b=>a.rows++b.rows
 | .junk _=>[]
def SS.rows:SS->List Row
 | .val _ t=>t.rows
 | .ptr .. =>[]
 | .at r=>[r]
 | .undef=>[]
 | .fn .. =>[]
 | .ifc _ s=>s.rows
def OS.rows:OS->List Row
 | .box _ t=>t.rows
 | .own _ r=>[.slice r]
 | .map _ K _ V=>[.slice (.pair K V)]
 | .deep _ d=>[.slice d.row]
 | .smap _ K _ V aaK=>[.slice (.pair K V)]
 | .smap _ K _ V (some _)=>[.slice (.pair K V), .slice (.pair K V)]
def xx:List (Nat×SS)->List Row
 |[]=>[]
 |p::l=>p.2.rows++xx l
def BI:List (Nat×OS)->List Row
 |[]=>[]
 |p::l=>p.2.rows++BI l
def JS.rows(J:JS):List Row:=xx J.ah++BI J.objs
abbrev gL:=(r:Row)×r.den
@[reducible] def ct:List Row->Type
  |[]=>Unit
  |[r]=>r.den
  |r::s::rs=>r.den×ct (s::rs)
def cA:(rs:List Row)->ct rs->List gL
 |[],_=>[]
 |[r],x=>[⟨r,x⟩]
 |r::s::rs,x=>⟨r,x.1⟩::cA (s::rs) x.2
def xy:(rs:List Row)->List gL->Option (ct rs)
 |[],[]=>some ()
 |[r],[⟨s,x⟩]=>if h:s.beq r=aaL then some (fU (Row.eq_of_beq h) x)else aaK
 |r::r'::rs,⟨s,x⟩::vs=>if h:s.beq r=aaL then(match xy (r'::rs) vs with
  |some y=>some (fU (Row.eq_of_beq h) x,y)
  |none=>aaK)else aaK
 |_,_=>aaK
theorem ui{r s:Row}(h:s=r)(x:s.den):(⟨r,fU h x⟩:gL)=⟨s,x⟩:=by subst h;rfl
theorem qp:{rs:List Row}->{vs:List gL}->{x:ct rs}->xy rs vs=some x->cA rs x=vs
 |[],[],x,_=>rfl
 |[],_::_,_,h=>by cases h
 |[r],[],_,h=>by cases h
 |[r],[⟨s,x⟩],y,h=>by
  unfold xy at h;split at h
  .rename_i hb;obtain rfl:=YU h
   show[(⟨r,_⟩:gL)]=_
   rw[ui]
  .cases h
 |[r],_::_::_,_,h=>by cases h
 |r::r'::rs,[],_,h=>by cases h
 |r::r'::rs,⟨s,x⟩::vs,y,h=>by
  unfold xy at h;split at h
  .rename_i hb;split at h
   .rename_i z hz;obtain rfl:=YU h;have:=qp hz
    show(⟨r,_⟩:gL)::cA (r'::rs) z=_
    rw[ui,this]
   .cases h
  .cases h
def lL:Sh->List gL->Tree×List gL
 | .leaf r,⟨s,x⟩::vs=>(bif s.beq r then .leaf s x else .nil,vs)
 | .leaf _,[]=>(.nil,[])
 | .own j,vs=>(.own j,vs)
 | .nil,vs=>(.nil,vs)
 | .pair a b,vs=>(.pair (lL a vs).1 (lL b (lL a vs).2).1,(lL b (lL a vs).2).2)
 | .junk n,vs=>(.junk n,vs)
def di:SS->List gL->ag×List gL
 | .val agg t,vs=>(.val agg (lL t vs).1,(lL t vs).2)
 | .ptr j p off,vs=>(.ptr j p off,vs)
 | .at r,⟨s,x⟩::vs=>(bif s.beq r then .at s x else .dead,vs)
 | .at _,[]=>(.dead,[])
 | .undef,vs=>(.undef,vs)
 | .fn f js,vs=>(.fn f js,vs)
 | .ifc T s,vs=>(.ifc T (di s vs).1,(di s vs).2)
def cn:List (Nat×SS)->List gL->List (Nat×ag)×List gL
 |[],vs=>([],vs)
 |(t,s)::l,vs=>((t,(di s vs).1)::(cn l (di s vs).2).1,(cn l (di s vs).2).2)
def lV(K V:Row)(d:gL):Option (List (K.den×V.den)):=if h:d.1.beq (.slice (.pair K V))=aaL then some (fU (s:= .slice (.pair K V)) (Row.eq_of_beq h) d.2)else aaK
def KY(T:TypeId)(K:Row)(agg:Bool)(V:Row):Option Nat->List gL->Th×List gL
 |none,d::vs=>(.smap T K agg V ((lV K V d).getD []) aaK,vs)
 |some n,d::d'::vs=>(.smap T K agg V ((lV K V d).getD []) (some (n,(lV K V d').getD [],aaK)),vs)
 |_,vs=>(.smap T K agg V [] aaK,vs)
theorem pF{K V:Row}(l:List (K.den×V.den)):lV K V ⟨.slice (.pair K V),l⟩=some l:=by
 unfold lV;rw[dif_pos (Row.beq_refl _)];rfl
def b9:OS->List gL->Th×List gL
 | .box T t,vs=>(.box T (lL t vs).1,(lL t vs).2)
 | .own T r,⟨.slice s,l⟩::vs=>(bif s.beq r then .own T s l else .own T r [],vs)
 | .own T r,vs=>(.own T r [],vs)
 | .map T K agg V,⟨.slice (.pair K' V'),l⟩::vs=>(if h:K'.beq K=aaL/\V'.beq V=aaL then .map T K agg V (fU (r:= .slice (.pair K' V')) (s:= .slice (.pair K V)) (by rw[Row.eq_of_beq h.1,Row.eq_of_beq h.2]) l)else .map T K agg V [],vs)
 | .map T K agg V,vs=>(.map T K agg V [],vs)
 | .deep T d,⟨.slice s,l⟩::vs=>(if h:s.beq d.row=aaL then .deep T d (fU (r:= .slice s) (s:= .slice d.row) (aaV Row.slice (Row.eq_of_beq h)) l) aaK else .deep T d [] aaK,vs)
 | .deep T d,vs=>(.deep T d [] aaK,vs)
 | .smap T K agg V it,vs=>KY T K agg V it vs
def eV(m:Nat):List (Nat×OS)->List gL->List (Nat×(Nat×Th))
 |[],_=>[]
 |(j,s)::l,vs=>(j,(m,(b9 s vs).1))::eV (m+1) l (b9 s vs).2
abbrev Bs:=List (Nat×Option Nat)
def z7:Option Nat->Option Nat->Bool
 |some a,some b=>YZ a b
 |none,aaK=>aaL
 |_,_=>aaM
theorem uj{a b:Option Nat}(h:z7 a b=aaL):a=b:=by
 cases a<;>cases b<;>first|rfl|cases h|(rw[beq_true h])
def rZ(bs:Bs)(j:Nat)(v:Option Nat):Option Bs:=
 match find bs j with
 |none=>some ((j,v)::bs)
 |some u=>bif z7 u v then some bs else aaK
def zi(ob:Nat->Option (Nat×Th)):Sh->Tree->Bs->Option (List gL×Bs)
 | .leaf r,t,bs=>match flat ob r t with
   |some x=>some ([⟨r,x⟩],bs)
   |none=>aaK
 | .own j, .own o,bs=>match rZ bs j (some o)with
   |some eo=>some ([],eo)
   |none=>aaK
 | .own j, .nil,bs=>match rZ bs j aaK with
   |some eo=>some ([],eo)
   |none=>aaK
 | .nil, .nil,bs=>some ([],bs)
 | .junk n,t,bs=>bif YZ t.size n then some ([],bs)else aaK
 | .pair a b,t,bs=>match t.split with
   |some (x,y)=>match zi ob a x bs with
    |some (vs,z8)=>match zi ob b y z8 with
     |some (us,BJ)=>some (vs++us,BJ)
     |none=>aaK
    |none=>aaK
   |none=>aaK
 |_,_,_=>aaK
def pG:List (Nat×List Bool×Nat)->List (Nat×List Bool×Nat)->Bs->Option Bs
 |[],[],bs=>some bs
 |(j,_,off)::js,(o,_,cN)::cs,bs=>bif YZ off cN then(match rZ bs j (some o)with
  |some eo=>pG js cs eo
  |none=>aaK)else aaK
 |_,_,_=>aaK
def F9(ob:Nat->Option (Nat×Th))(s:SS)(d:ag)(bs:Bs):Option (List gL×Bs):=
 match s,d with
 | .val agg sh, .val dh t=>bif (bif agg then dh else !dh)then zi ob sh t bs else aaK
 | .ptr j _ off, .ptr o _ cN=>bif YZ off cN then(match rZ bs j (some o)with
   |some eo=>some ([],eo)
   |none=>aaK)else aaK
 | .at r, .at s x=>if h:s.beq r=aaL then some ([⟨r,fU (Row.eq_of_beq h) x⟩],bs)else aaK
 | .undef, .undef=>some ([],bs)
 | .fn f js, .fn f' cs=>bif YZ f f' then(match pG js cs bs with
   |some eo=>some ([],eo)
   |none=>aaK)else aaK
 |_,_=>aaK
def Dx(ob:Nat->Option (Nat×Th)):SS->ag->Bs->Option (List gL×Bs)
 | .ifc T s,d,bs=>match d with
   | .ifc T' d'=>bif YZ T T' then Dx ob s d' bs else aaK
   |_=>aaK
 |s,d,bs=>F9 ob s d bs
def Mz(ob:Nat->Option (Nat×Th))(ah:List (Nat×ag)):List (Nat×SS)->Bs->Option (List gL×Bs)
 |[],bs=>some ([],bs)
 |(t,s)::l,bs=>match find ah t with
  |some d=>match Dx ob s d bs with
   |some (vs,z8)=>match Mz ob ah l z8 with
    |some (us,BJ)=>some (vs++us,BJ)
    |none=>aaK
   |none=>aaK
  |none=>aaK
def Ga(ob:Nat->Option (Nat×Th))(j:Nat)(s:OS)(bs:Bs):Option (List gL×Bs):=
 match find bs j with
 |some (some o)=>match ob o with
  |some (_,t)=>match s,t with
   | .own T r, .own T' r' l=>bif YZ T T' then(if h:r'.beq r=aaL then some ([⟨.slice r,fU (r:= .slice r') (s:= .slice r) (aaV Row.slice (Row.eq_of_beq h)) l⟩],bs)else aaK)else aaK
   | .box T sh, .box T' t=>bif YZ T T' then zi ob sh t bs else aaK
   | .map T K agg V, .map T' K' dh V' l=>bif YZ T T'&&(bif agg then dh else !dh)then(if h:K'.beq K=aaL/\V'.beq V=aaL then some ([⟨.slice (.pair K V),fU (r:= .slice (.pair K' V')) (s:= .slice (.pair K V)) (by rw[Row.eq_of_beq h.1,Row.eq_of_beq h.2]) l⟩],bs)else aaK)else aaK
   | .deep T d, .deep T' d' l aaK=>bif YZ T T'&&d'.beq d then some ([⟨.slice d'.row,l⟩],bs)else aaK
   | .smap T K agg V aaK, .smap T' K' dh V' l _=>bif YZ T T'&&(bif agg then dh else !dh)&&K'.beq K&&V'.beq V then some ([⟨.slice (.pair K' V'),l⟩],bs)else aaK
   | .smap T K agg V (some n), .smap T' K' dh V' l (some (n',left,_))=>bif YZ T T'&&(bif agg then dh else !dh)&&K'.beq K&&V'.beq V then(match rZ bs n (some n')with
     |some eo=>some ([⟨.slice (.pair K' V'),l⟩,⟨.slice (.pair K' V'),left⟩],eo)
     |none=>aaK)else aaK
   |_,_=>aaK
  |none=>aaK
 |some aaK=>match s with
  | .own _ r=>some ([⟨.slice r,([]:List r.den)⟩],bs)
  | .deep _ d=>some ([⟨.slice d.row,([]:List d.row.den)⟩],bs)
  |_=>aaK
 |none=>aaK
def MA(ob:Nat->Option (Nat×Th)):List (Nat×OS)->Bs->Option (List gL×Bs)
 |[],bs=>some ([],bs)
 |(j,s)::l,bs=>match Ga ob j s bs with
  |some (vs,z8)=>match MA ob l z8 with
   |some (us,BJ)=>some (vs++us,BJ)
   |none=>aaK
  |none=>aaK
section
variable {U:Nat->Prop} {H H':aj} {F:Nat->Prop} {w:World} {n:Nat} {ob:Nat->Option (Nat×Th)}
def xz(bs eo:Bs):Prop:=∀j v,find bs j=some v->find eo j=some v
theorem fV{bs eo:Bs}{j:Nat}{v:Option Nat}(h:rZ bs j v=some eo):xz bs eo/\find eo j=some v:=by
 unfold rZ at h;split at h
 .rename_i hn;obtain rfl:=YU h;refine⟨λi u hu=>?_,by rw[ax,aaP rfl]⟩;rw[ax];by_cases e:j=i
  .subst e;rw[hn]at hu;cases hu
  .rw[aaO e];exact hu
 .rename_i u hu;obtain⟨h1,rfl⟩:=oA h;obtain rfl:=uj h1;exact⟨λ_ _ h=>h,hu⟩
def valOf(H:aj):Option Nat->Option Value
 |some o=>H.val o
 |none=>some (.slice aaK 0 0)
def kM(H H':aj)(bs:Bs):Prop:=∀j v,find bs j=some v->∀u,valOf H v=some u->H'.val j=some u
theorem r3:{sh:Sh}->{t:Tree}->{bs eo:Bs}->{vs:List gL}->zi ob sh t bs=some (vs,eo)->xz bs eo
 | .leaf r,t,bs,eo,vs,h=>by
   unfold zi at h
   split at h<;>cases h
   exact λ_ _ h=>h
 | .own j, .own o,bs,eo,vs,h=>by
   unfold zi at h
   split at h<;>cases h
   rename_i hb;exact(fV hb).1
 | .own j, .nil,bs,eo,vs,h=>by
   unfold zi at h
   split at h<;>cases h
   rename_i hb;exact(fV hb).1
 | .nil, .nil,bs,eo,vs,h=>by cases h;exact λ_ _ h=>h
 | .pair a b,t,bs,eo,vs,h=>by
   unfold zi at h;split at h
   case h_2=>cases h
   split at h
   case h_2=>cases h
   rename_i h1;split at h
   case h_2=>cases h
   rename_i h2;cases h
   exact λj v hj=>r3 h2 j v (r3 h1 j v hj)
 | .own _, .leaf _ _,_,_,_,h=>by cases h
 | .own _, .pair _ _,_,_,_,h=>by cases h
 | .nil, .leaf _ _,_,_,_,h=>by cases h
 | .nil, .own _,_,_,_,h=>by cases h
 | .nil, .pair _ _,_,_,_,h=>by cases h
 | .own _, .view ..,_,_,_,h=>by cases h
 | .nil, .view ..,_,_,_,h=>by cases h
 | .own _, .junk _,_,_,_,h=>by cases h
 | .nil, .junk _,_,_,_,h=>by cases h
 | .junk n,t,bs,eo,vs,h=>by
   unfold zi at h;obtain⟨_,h⟩:=ay h;cases h
   exact λ_ _ h=>h
theorem vB(hs:al U H F w ob n):{sh:Sh}->{t:Tree}->{bs eo:Bs}->{vs:List gL}->{cs:List Value}->zi ob sh t bs=some (vs,eo)->Holds H F w t cs->kM H H' eo->∀rest,
 Holds H' F w (lL sh (vs++rest)).1 cs/\(lL sh (vs++rest)).2=rest
 | .leaf r,t,bs,eo,vs,cs,h,hh,hb,rest=>by
   unfold zi at h
   split at h<;>cases h
   rename_i x hf;refine⟨?_,rfl⟩
   show Holds H' F w (bif r.beq r then Tree.leaf r x else .nil) cs
   rw[Row.beq_refl,cond_true];exact eM hs hf hh
 | .own j, .own o,bs,eo,vs,cs,h,hh,hb,rest=>by
   unfold zi at h
   split at h<;>cases h
   rename_i u0;obtain⟨v,hv,h1,rfl⟩:=hh;exact⟨⟨v,hb _ _ (fV u0).2 v hv,h1,rfl⟩,rfl⟩
 | .own j, .nil,bs,eo,vs,cs,h,hh,hb,rest=>by
   unfold zi at h
   split at h<;>cases h
   rename_i u0;rw[show cs=_ from hh];exact⟨⟨_,hb _ _ (fV u0).2 _ rfl,rfl,rfl⟩,rfl⟩
 | .nil, .nil,bs,eo,vs,cs,h,hh,hb,rest=>by cases h;exact⟨hh,rfl⟩
 | .pair a b,t,bs,eo,vs,cs,h,hh,hb,rest=>by
   unfold zi at h;split at h
   case h_2=>cases h
   rename_i x y ta;split at h
   case h_2=>cases h
   rename_i Qx z8 h1;split at h
   case h_2=>cases h
   rename_i us BJ h2;cases h;obtain⟨c1,c2,rfl,g1,g2,_⟩:=hh.split ta
   have EQ:kM H H' z8:=λj v hj=>hb j v (r3 h2 j v hj)
   obtain⟨k1,k2⟩:=vB hs h1 g1 EQ (us++rest);obtain⟨m1,m2⟩:=vB hs h2 g2 hb rest;rw[Zp];unfold lL;rw[k2];exact⟨⟨c1,c2,rfl,k1,m1⟩,m2⟩
 | .own _, .leaf _ _,_,_,_,_,h,_,_,_=>by cases h
 | .own _, .pair _ _,_,_,_,_,h,_,_,_=>by cases h
 | .nil, .leaf _ _,_,_,_,_,h,_,_,_=>by cases h
 | .nil, .own _,_,_,_,_,h,_,_,_=>by cases h
 | .nil, .pair _ _,_,_,_,_,h,_,_,_=>by cases h
 | .own _, .view ..,_,_,_,_,h,_,_,_=>by cases h
 | .nil, .view ..,_,_,_,_,h,_,_,_=>by cases h
 | .own _, .junk _,_,_,_,_,h,_,_,_=>by cases h
 | .nil, .junk _,_,_,_,_,h,_,_,_=>by cases h
 | .junk n,t,bs,eo,vs,cs,h,hh,hb,rest=>by
   unfold zi at h;obtain⟨hn,h⟩:=ay h;cases h;exact⟨⟨hh.length.trans (ZM hn),hh.gh⟩,rfl⟩
theorem pH:{js cs:List (Nat×List Bool×Nat)}->{bs eo:Bs}->pG js cs bs=some eo->xz bs eo
 |[],[],bs,eo,h=>by obtain rfl:=YU h;exact λ_ _ h=>h
 |(j,p,off)::js,(o,p',cN)::cs,bs,eo,h=>by
  unfold pG at h;obtain⟨_,h⟩:=ay h;split at h
  case h_2=>cases h
  rename_i hb
  exact λi v hi=>pH h i v ((fV hb).1 i v hi)
 |[],_::_,_,_,h=>by cases h
 |_::_,[],_,_,h=>by cases h
theorem uk:{js cs:List (Nat×List Bool×Nat)}->{bs eo:Bs}->{vs:List Value}->pG js cs bs=some eo->il H cs vs->kM H H' eo->il H' js vs
 |[],[],bs,eo,vs,h,hc,hb=>hc
 |(j,p,off)::js,(o,p',cN)::cs,bs,eo,vs,h,hc,hb=>by
  unfold pG at h;obtain⟨ho,h'⟩:=ay h;clear h;split at h'
  case h_2=>cases h'
  rename_i b1 u0;obtain⟨v,us,rfl,⟨b,h1,rfl⟩,h2⟩:=hc;have ho:=beq_true ho;subst ho;exact⟨_,us,rfl,⟨b,hb _ _ (pH h' _ _ (fV u0).2) _ h1,rfl⟩,uk h' h2 hb⟩
 |[],_::_,_,_,_,h,_,_=>by cases h
 |_::_,[],_,_,_,h,_,_=>by cases h
theorem IS{s:SS}{d:ag}{bs eo:Bs}{vs:List gL}(h:F9 ob s d bs=some (vs,eo)):xz bs eo:=by
 unfold F9 at h;split at h
 .obtain⟨_,h⟩:=ay h;exact r3 h
 .obtain⟨_,h⟩:=ay h
  split at h<;>cases h
  rename_i hb;exact(fV hb).1
 .split at h<;>cases h
  exact λ_ _ h=>h
 .cases h
  exact λ_ _ h=>h
 .obtain⟨_,h'⟩:=ay h
  split at h'<;>cases h'
  rename_i hb;exact pH hb
 .cases h
theorem IT{s:SS}{d:ag}{bs eo:Bs}{vs:List gL}(h:Dx ob s d bs=some (vs,eo)):xz bs eo:=by
 induction s generalizing d with
 |ifc T s ih=>
  cases d with
  |ifc T' d'=>
   obtain⟨_,h'⟩:=ay (show(bif YZ T T' then Dx ob s d' bs else aaK)=some (vs,eo)from h);exact ih h'
  |_=>cases h
 |_=>exact IS h
theorem IU(hs:al U H F w ob n){s:SS}{d:ag}{bs eo:Bs}{vs:List gL}{v:Value}(h:F9 ob s d bs=some (vs,eo))(hd:af H F w d v)(hb:kM H H' eo)(rest:List gL):
 af H' F w (di s (vs++rest)).1 v/\(di s (vs++rest)).2=rest:=by
 unfold F9 at h;split at h
 .rename_i agg sh dh t;obtain⟨ha,h'⟩:=ay h;clear h
  have:agg=dh:=by cases agg<;>cases dh<;>simp_all
  subst this;obtain⟨cs,h1,h2⟩:=hd;obtain⟨k1,k2⟩:=vB hs h' h1 hb rest;exact⟨⟨cs,k1,h2⟩,k2⟩
 .rename_i j p off o p' cN;obtain⟨ho,h'⟩:=ay h;clear h
  split at h'<;>cases h'
  rename_i u0;obtain⟨b,h1,h2⟩:=hd;refine⟨⟨b,hb _ _ (fV u0).2 _ h1,?_⟩,rfl⟩;rw[beq_true ho];exact h2
 .rename_i r s x
  split at h<;>cases h
  rename_i wX;obtain rfl:=Row.eq_of_beq wX;refine⟨?_,rfl⟩
  show af H' F w (bif s.beq s then ag.at s x else .dead) v
  rw[Row.beq_refl,cond_true];exact hd
 .cases h;exact⟨hd,rfl⟩
 .rename_i f js f' cs;obtain⟨hf,h'⟩:=ay h
  split at h'<;>cases h'
  rename_i u0;obtain⟨us,h1,h2⟩:=hd;refine⟨⟨us,?_,uk u0 h2 hb⟩,rfl⟩;rw[beq_true hf];exact h1
 .cases h
theorem IV(hs:al U H F w ob n){s:SS}{d:ag}{bs eo:Bs}{vs:List gL}{v:Value}(h:Dx ob s d bs=some (vs,eo))(hd:af H F w d v)(hb:kM H H' eo)(rest:List gL):
 af H' F w (di s (vs++rest)).1 v/\(di s (vs++rest)).2=rest:=by
 induction s generalizing d v with
 |ifc T s ih=>
  cases d with
  |ifc T' d'=>
   obtain⟨hT,h'⟩:=ay (show(bif YZ T T' then Dx ob s d' bs else aaK)=some (vs,eo)from h);obtain⟨u,e,h2⟩:=hd;obtain⟨k1,k2⟩:=ih h' h2;exact⟨⟨u,by rw[beq_true hT];exact e,k1⟩,k2⟩
  |_=>cases h
 |_=>exact IU hs h hd hb rest
theorem Gb:{l:List (Nat×SS)}->{ah:List (Nat×ag)}->{bs eo:Bs}->{vs:List gL}->Mz ob ah l bs=some (vs,eo)->xz bs eo
 |[],_,_,_,_,h=>by cases h;exact λ_ _ h=>h
 |(t,s)::l,ah,bs,eo,vs,h=>by
  unfold Mz at h;split at h
  case h_2=>cases h
  split at h
  case h_2=>cases h
  rename_i h1;split at h
  case h_2=>cases h
  rename_i h2;cases h
  exact λj v hj=>Gb h2 j v (IT h1 j v hj)
theorem Gc(hs:al U H F w ob n){ah:List (Nat×ag)}{ρ:Nat->Value}(fc:∀t d,find ah t=some d->af H F w d (ρ t)):{l:List (Nat×SS)}->{bs eo:Bs}->{vs:List gL}->Mz ob ah l bs=some (vs,eo)->kM H H' eo->∀rest,
 (∀t d,find (cn l (vs++rest)).1 t=some d->af H' F w d (ρ t))/\(cn l (vs++rest)).2=rest
 |[],bs,eo,vs,h,_,rest=>by cases h;exact⟨λ_ _ h=>(by cases h),rfl⟩
 |(t,s)::l,bs,eo,vs,h,hb,rest=>by
  unfold Mz at h;split at h
  case h_2=>cases h
  rename_i d hd;split at h
  case h_2=>cases h
  rename_i Qx z8 h1;split at h
  case h_2=>cases h
  rename_i us BJ h2;cases h
  have EQ:kM H H' z8:=λj v hj=>hb j v (Gb h2 j v hj)
  obtain⟨k1,k2⟩:=IV hs h1 (fc t d hd) EQ (us++rest);obtain⟨m1,m2⟩:=Gc hs fc h2 hb rest;rw[Zp];unfold cn;rw[k2];refine⟨λt' d' h'=>?_,m2⟩;rw[ax]at h';split at h'
  .rename_i e;subst e;obtain rfl:=YU h';exact k1
  .exact m1 t' d' h'
end
end Go.Proofs.YtbladfbbhijpmaaGreat
namespace Go.Proofs.YtbladfbbhijpmaaGreat
open Go Go.RowKit
def Tree.owns:Tree->List Nat
 | .own o=>[o]
 | .pair a b=>a.owns++b.owns
 | .view o _ _ _=>[o]
 |_=>[]
def xA:Sh->Tree->List Nat
 | .leaf _,t=>t.owns
 | .pair a b,t=>match t.split with
   |some (x,y)=>xA a x++xA b y
   |none=>[]
 |_,_=>[]
def BK(ah:List (Nat×ag)):List (Nat×SS)->List Nat
 |[]=>[]
 |(t, .val _ sh)::l=>(match find ah t with
  |some (.val _ tr)=>xA sh tr
  |_=>[])++BK ah l
 |(t, .ifc _ (.val _ sh))::l=>(match find ah t with
  |some (.ifc _ (.val _ tr))=>xA sh tr
  |_=>[])++BK ah l
 |_::l=>BK ah l
def J1(j:Nat):List (Nat×List Bool×Nat)->List (Nat×List Bool×Nat)->Option Nat
 |(j',_)::js,(o,_)::cs=>bif YZ j' j then some o else J1 j js cs
 |_,_=>aaK
def xB(ah:List (Nat×ag))(j:Nat):List (Nat×SS)->Option Nat
 |[]=>aaK
 |(t, .ptr j' _ _)::l=>bif YZ j' j then(match find ah t with
  |some (.ptr o _ _)=>some o
  |_=>aaK)else xB ah j l
 |(t, .ifc _ (.ptr j' _ _))::l=>bif YZ j' j then(match find ah t with
  |some (.ifc _ (.ptr o _ _))=>some o
  |_=>aaK)else xB ah j l
 |(t, .fn _ js)::l=>match(match find ah t with
    |some (.fn _ cs)=>J1 j js cs
    |_=>aaK)with
  |some o=>some o
  |none=>xB ah j l
 |_::l=>xB ah j l
def Gd(nb:Nat)(ah:List (Nat×ag))(ss:List (Nat×SS))(objs:List (Nat×(Nat×Th))):List (Nat×OS)->List Nat
 |[]=>[]
 |(j, .box _ sh)::l=>(match(bif ZK j nb then some j else xB ah j ss)with
  |some o=>(match find objs o with
   |some (_, .box _ tr)=>xA sh tr
   |_=>[])
  |none=>[])++Gd nb ah ss objs l
 |_::l=>Gd nb ah ss objs l
def Qy(nb:Nat):List (Nat×OS)->Bs
 |[]=>[]
 |(j,_)::l=>bif ZK j nb then(j,some j)::Qy nb l else Qy nb l
def e8:Bs->List Nat
 |[]=>[]
 |(_,some o)::l=>o::e8 l
 |(_,aaK)::l=>e8 l
def jx(o:Nat)(l:List Nat):Bool:=l.any (YZ o)
def Aa:List Nat->Bool
 |[]=>aaL
 |o::l=> !jx o l&&Aa l
def Ge(nb nxt:Nat):Bs->Bool
 |[]=>aaL
 |(j,u)::l=>(bif ZK j nb then z7 u (some j)else ZK j nxt)&&Ge nb nxt l
def Ab(objs:List (Nat×(Nat×Th)))(xC:List Nat):List (Nat×(Nat×Th))->Bool
 |[]=>aaL
 |(o,(s,t))::l=>(match find objs o with
  |some (s',t')=>YZ s s'&&(bif c7 t then c7 t' else !c7 t')
  |none=>aaM)&& !jx o xC&&Ab objs xC l
def ul(nb:Nat)(J:JS)(ah:List (Nat×ag))(objs:List (Nat×(Nat×Th))):List Nat:=BK ah J.ah++Gd nb ah J.ah objs J.objs
def um(nb:Nat)(frame:List (Nat×(Nat×Th)))(J:JS)(ah:List (Nat×ag))(objs:List (Nat×(Nat×Th))):Option (ct J.rows×Bs×List (Nat×(Nat×Th))):=
 match dS objs (ul nb J ah objs)with
 |none=>aaK
 |some aD=>match Mz (find aD) ah J.ah (Qy nb J.objs)with
  |none=>aaK
  |some (vs,z8)=>match MA (find aD) J.objs z8 with
   |none=>aaK
   |some (us,BJ)=>bif Aa (e8 BJ)&&Ge nb J.nxt BJ&&Nat.ble (nb+J.objs.length) J.nxt&&Ab aD (e8 BJ) frame then
     (match xy J.rows (vs++us)with
     |some x=>some (x,BJ,aD)
     |none=>aaK)else aaK
def oJ:List (Nat×(Nat×Th))->Nat->Option Th
 |[],_=>aaK
 |(_,(s,t))::l,m=>bif YZ s m then some t else oJ l m
def KZ:List (Nat×(Nat×Th))->Nat->Option Nat
 |[],_=>aaK
 |(j,(s,_))::l,m=>bif YZ s m then some j else KZ l m
def r4(H:aj)(ob:Nat->Option (Nat×Th)):Option (Option Nat)->Nat->Prop
 |some (some o)=>match ob o with
  |some (s,_)=>H.sub s
  |none=>λ_=>False
 |_=>λ_=>False
def df(H:aj)(nb:Nat)(bs:Bs)(cons:List (Nat×(Nat×Th)))(ob:Nat->Option (Nat×Th)):aj where
 val m:=if m<nb then H.val m else match find bs m with
  |some u=>valOf H u
  |none=>aaK
 con m:=if m<nb then H.con m else oJ cons m
 sub m:=if m<nb then H.sub m else match KZ cons m with
  |some j=>r4 H ob (find bs j)
  |none=>λ_=>False
section
variable {U:Nat->Prop} {H H':aj} {F:Nat->Prop} {w:World} {n:Nat} {ob:Nat->Option (Nat×Th)}
theorem BL{j:Nat}{s:OS}{bs eo:Bs}{vs:List gL}(h:Ga ob j s bs=some (vs,eo)):xz bs eo:=by
 unfold Ga at h;split at h
 .split at h
  case h_2=>cases h
  split at h
  .obtain⟨_,h'⟩:=ay h
   split at h'<;>cases h'
   exact λ_ _ h=>h
  .obtain⟨_,h'⟩:=ay h;exact r3 h'
  .obtain⟨_,h'⟩:=ay h
   split at h'<;>cases h'
   exact λ_ _ h=>h
  .obtain⟨_,h'⟩:=ay h;cases h'
   exact λ_ _ h=>h
  .obtain⟨_,h'⟩:=ay h;cases h'
   exact λ_ _ h=>h
  .obtain⟨_,h'⟩:=ay h
   split at h'<;>cases h'
   rename_i u0;exact(fV u0).1
  .cases h
 .split at h<;>cases h
  .exact λ_ _ h=>h
  .exact λ_ _ h=>h
 .cases h
theorem vC:{l:List (Nat×OS)}->{bs eo:Bs}->{vs:List gL}->MA ob l bs=some (vs,eo)->xz bs eo
 |[],_,_,_,h=>by cases h;exact λ_ _ h=>h
 |(j,s)::l,bs,eo,vs,h=>by
  unfold MA at h;split at h
  case h_2=>cases h
  rename_i h1;split at h
  case h_2=>cases h
  rename_i h2;cases h
  exact λj v hj=>vC h2 j v (BL h1 j v hj)
def iC(H H':aj)(F:Nat->Prop)(w:World)(ob:Nat->Option (Nat×Th))(bs:Bs)(j:Nat)(t:Th):Prop:=
 ∃u v,find bs j=some u/\valOf H u=some v/\v.oneCell'=aaL/\t.base=t/\fg H' F w (r4 H ob (find bs j)) v t/\∀k,fp (r4 H ob (find bs j)) v t k->∃o s0 t0,u=some o/\ob o=some (s0,t0)/\H.val o=some v/\fp (H.sub s0) v t0 k
theorem IW(hs:al U H F w ob n){j:Nat}{s:OS}{bs eo:Bs}{vs:List gL}(h:Ga ob j s bs=some (vs,eo))(hb:kM H H' eo)(rest:List gL):
 iC H H' F w ob bs j (b9 s (vs++rest)).1/\(b9 s (vs++rest)).2=rest:=by
 unfold Ga at h;split at h
 .rename_i o MB;split at h
  case h_2=>cases h
  rename_i s0 t0 bR;obtain⟨v,hv,bL⟩:=hs.obj _ _ _ bR
  have eH:r4 H ob (find bs j)=H.sub s0:=by rw[MB];simp[r4,bR]
  have mk:∀t,t.base=t->fg H' F w (H.sub s0) v t->(∀k,fp (H.sub s0) v t k->fp (H.sub s0) v t0 k)->iC H H' F w ob bs j t:=by
   intro t hb jL hf;refine⟨some o,v,MB,hv,bL.one,hb,by rw[eH];exact jL,λk hk=>?_⟩;rw[eH]at hk;exact⟨o,_,_,rfl,bR,hv,hf k hk⟩
  split at h
  .rename_i T r T' r' l;obtain⟨hT,h'⟩:=ay h;clear h
   split at h'<;>cases h'
   rename_i wX;obtain rfl:=Row.eq_of_beq wX;obtain rfl:=beq_true hT;refine⟨?_,rfl⟩
   show iC H H' F w ob bs j (bif r'.beq r' then Th.own T r' l else .own T r' [])
   rw[Row.beq_refl,cond_true]
   exact mk _ rfl bL.ok λk hk=>hk
  .rename_i T sh T' t;obtain⟨hT,h'⟩:=ay h;clear h;obtain rfl:=beq_true hT;obtain⟨b,es,e,h1,h2⟩:=bL.ok;obtain⟨k1,k2⟩:=vB hs h' h2 hb rest;exact⟨mk _ rfl ⟨b,es,e,h1,k1⟩ λk hk=>hk,k2⟩
  .rename_i T K agg V T' K' dh V' l;obtain⟨hT,h'⟩:=ay h;clear h
   split at h'<;>cases h'
   rename_i wX;obtain⟨K0,ha⟩:=bO hT;clear hT
   have ha:agg=dh:=by cases agg<;>cases dh<;>simp_all
   subst ha;obtain⟨hK,hV⟩:=wX;obtain rfl:=Row.eq_of_beq hK;obtain rfl:=Row.eq_of_beq hV;obtain rfl:=beq_true K0;refine⟨?_,rfl⟩
   show iC H H' F w ob bs j (if h:K'.beq K'=aaL/\V'.beq V'=aaL then Th.map T K' agg V' l else .map T K' agg V' [])
   rw[dif_pos ⟨Row.beq_refl _,Row.beq_refl _⟩];obtain⟨b,es,clock,e,h1,h2,h3⟩:=bL.ok
   exact mk _ rfl ⟨b,es,clock,e,h1,h2,h3.eL⟩ λk hk=>hk
  .rename_i T d T' d' l;obtain⟨hT,h'⟩:=ay h;clear h;obtain⟨K0,hd⟩:=bO hT;obtain rfl:=DR.eq_of_beq hd;obtain rfl:=beq_true K0;cases h';refine⟨?_,rfl⟩
   show iC H H' F w ob bs j (if h:d'.row.beq d'.row=aaL then Th.deep T d' l aaK else .deep T d' [] aaK)
   rw[dif_pos (Row.beq_refl _)]
   exact mk _ rfl bL.ok λk hk=>hk
  .rename_i T K agg V T' K' dh V' l it;obtain⟨hT,h'⟩:=ay h;clear h;obtain⟨hT,hd⟩:=bO hT;obtain⟨hT,sW⟩:=bO hT;obtain⟨K0,ha⟩:=bO hT
   have ha:agg=dh:=by cases agg<;>cases dh<;>simp_all
   subst ha;obtain rfl:=Row.eq_of_beq hd;obtain rfl:=Row.eq_of_beq sW;obtain rfl:=beq_true K0;cases h';refine⟨?_,rfl⟩
   show iC H H' F w ob bs j (Th.smap T K' agg V' ((lV K' V' ⟨.slice (.pair K' V'),l⟩).getD []) aaK)
   rw[pF];obtain⟨b,es,clock,l',e,h0,h1,h2,h3,h4,_⟩:=bL.ok
   exact mk _ rfl ⟨b,es,clock,l',e,h0,h1,h2,h3.eL,h4,trivial⟩ λk hk=>hk
  .rename_i T K agg V nj T' K' dh V' l n' left cur;obtain⟨hT,h'⟩:=ay h;clear h;obtain⟨hT,hd⟩:=bO hT;obtain⟨hT,sW⟩:=bO hT;obtain⟨K0,ha⟩:=bO hT
   have ha:agg=dh:=by cases agg<;>cases dh<;>simp_all
   subst ha;obtain rfl:=Row.eq_of_beq hd;obtain rfl:=Row.eq_of_beq sW;obtain rfl:=beq_true K0
   split at h'<;>cases h'
   rename_i u0;refine⟨?_,rfl⟩
   show iC H H' F w ob bs j (Th.smap T K' agg V' ((lV K' V' ⟨.slice (.pair K' V'),l⟩).getD []) (some (nj,(lV K' V' ⟨.slice (.pair K' V'),left⟩).getD [],aaK)))
   rw[pF,pF];obtain⟨b,es,clock,l',e,h0,h1,h2,h3,h4,r,since,seen,last,i1,i2,i3,i4,i5,i6,i7,⟨l2,i8,i9⟩,_⟩:=bL.ok
   exact mk _ rfl ⟨b,es,clock,l',e,h0,h1,h2,h3.eL,h4,r,since,seen,last,i1,i2,hb _ _ (fV u0).2 _ i3,i4,i5,i6,i7,⟨l2,i8.eL,i9⟩,λp hp=>by cases hp⟩ λk hk=>hk
  .cases h
 .rename_i MB
  split at h<;>cases h
  .rename_i T r;refine⟨?_,rfl⟩
   show iC H H' F w ob bs j (bif r.beq r then Th.own T r []else .own T r [])
   rw[Row.beq_refl,cond_true];refine⟨aaK,_,MB,rfl,rfl,rfl,(fN.nil 0 F w T r).2,λk hk=>?_⟩;have jd:ba (.slice aaK 0 0) k:=hk;simp[ba,Zw]at jd
  .rename_i T d;refine⟨?_,rfl⟩
   show iC H H' F w ob bs j (if h:d.row.beq d.row=aaL then Th.deep T d [] aaK else .deep T d [] aaK)
   rw[dif_pos (Row.beq_refl _)]
   have eH:r4 H ob (find bs j)=λ_=>False:=by rw[MB];rfl
   refine⟨aaK,_,MB,rfl,rfl,rfl,?_,λk hk=>?_⟩
   .rw[eH];exact⟨[],λ_ _=>False,iL.nil F w T d.low,rfl,λi h=>absurd h (by simp),⟨λk=>by simp[ba,Zw],λ_ _ _ h=>absurd h (by simp),λ_ _ h=>absurd h (by simp)⟩⟩
   .rw[eH]at hk;exact hk.elim
 .cases h
theorem xD:{l:List (Nat×OS)}->{m k:Nat}->{vs:List gL}->m+l.length<=k->oJ (eV m l vs) k=aaK
 |[],_,_,_,_=>rfl
 |(j,s)::l,m,k,vs,h=>by
  show(bif YZ m k then _ else oJ (eV (m+1) l _) k)=aaK
  rw[Ze]at h
  have:YZ m k=aaM:=by
   cases hb:YZ m k with
   |false=>rfl
   |true=>have:=beq_true hb;omega
  rw[this,cond_false];exact xD (by omega)
theorem Gf(hs:al U H F w ob n):{l:List (Nat×OS)}->{bs eo:Bs}->{vs:List gL}->MA ob l bs=some (vs,eo)->kM H H' eo->∀m,
 ∀j s t,find (eV m l vs) j=some (s,t)->m<=s/\s<m+l.length/\oJ (eV m l vs) s=some t/\KZ (eV m l vs) s=some j/\iC H H' F w ob eo j t
 |[],_,_,_,h,_,m=>by cases h;intro j s t h;cases h
 |(j0,s0)::l,bs,eo,vs,h,hb,m=>by
  unfold MA at h;split at h
  case h_2=>cases h
  rename_i Qx z8 h1;split at h
  case h_2=>cases h
  rename_i us BJ h2;cases h
  have EQ:kM H H' z8:=λj v hj=>hb j v (vC h2 j v hj)
  obtain⟨⟨u,v,g1,g2⟩,k2⟩:=IW hs h1 EQ us;intro j s t hf;unfold eV at hf⊢;rw[ax]at hf;rw[k2]at hf⊢;split at hf
  .rename_i e;subst e;simp only[Y3,ZV]at hf;obtain⟨rfl,rfl⟩:=hf;have e1:=vC h2 _ _ (BL h1 _ _ g1);rw[g1]at g2;refine⟨YY _,by simp,?_,?_,u,v,e1,?_⟩
   .show(bif YZ m m then _ else _)=_
    simp
   .show(bif YZ m m then _ else _)=_
    simp
   .rw[e1];exact g2
  .obtain⟨a1,a2,a3,a4,a5⟩:=Gf hs h2 hb (m+1) j s t hf
   have:YZ m s=aaM:=by
    cases hb:YZ m s with
    |false=>rfl
    |true=>have:=beq_true hb;omega
   refine⟨by omega,by rw[Ze];omega,?_,?_,a5⟩
   .show(bif YZ m s then _ else _)=_
    rw[this,cond_false];exact a3
   .show(bif YZ m s then _ else _)=_
    rw[this,cond_false];exact a4
theorem cW{o:Nat}{l:List Nat}:jx o l=aaL↔o∈l:=any_beq
theorem gu:{bs:Bs}->{j o:Nat}->find bs j=some (some o)->o∈e8 bs
 |[],_,_,h=>by cases h
 |(i,u)::bs,j,o,h=>by
  rw[ax]at h;split at h
  .obtain rfl:=YU h;exact Zz
  .have:=gu h
   cases u with
   |none=>exact this
   |some q=>exact Zm _ this
theorem pJ:{bs:Bs}->Aa (e8 bs)=aaL->{j j' o:Nat}->find bs j=some (some o)->find bs j'=some (some o)->j=j'
 |[],_,_,_,_,h,_=>by cases h
 |(i,u)::bs,hn,j,j',o,h,h'=>by
  rw[ax]at h h'
  cases u with
  |none=>
   split at h
   .cases h
   .split at h'
    .cases h'
    .exact pJ (bs:=bs) hn h h'
  |some q=>
   obtain⟨hq,Ft⟩:=bO hn
   have hq:q∉e8 bs:=λe=>by rw[cW.2 e]at hq;cases hq
   split at h
   .rename_i e1;obtain rfl:q=o:=YU (YU h);split at h'
    .rename_i e2;exact e1.symm.trans e2
    .exact absurd (gu h') hq
   .split at h'
    .obtain rfl:q=o:=YU (YU h');exact absurd (gu h) hq
    .exact pJ Ft h h'
theorem r6{nb nxt:Nat}:{bs:Bs}->Ge nb nxt bs=aaL->{j:Nat}->{u:Option Nat}->find bs j=some u->(j<nb->u=some j)/\(nb<=j->j<nxt)
 |[],_,_,_,h=>by cases h
 |(i,v)::bs,hk,j,u,h=>by
  obtain⟨h1,h2⟩:=bO hk;rw[ax]at h;split at h
  .rename_i e;subst e;obtain rfl:=YU h
   cases hb:ZK i nb with
   |true=>
    rw[hb,cond_true]at h1
    have:i<nb:=by simpa using hb
    exact⟨λ_=>uj h1,λ_=>by omega⟩
   |false=>
    rw[hb,cond_false]at h1
    have hge:¬i<nb:=λe=>by have:ZK i nb=aaL:=by simpa using e
                           rw[hb]at this;cases this
    exact⟨λe=>absurd e hge,λ_=>by simpa using h1⟩
  .exact r6 h2 h
theorem uo{objs:List (Nat×(Nat×Th))}{xC:List Nat}:{fr:List (Nat×(Nat×Th))}->Ab objs xC fr=aaL->{o s:Nat}->{t:Th}->find fr o=some (s,t)->
 o∉xC/\∃t',find objs o=some (s,t')/\c7 t'=c7 t
 |[],_,_,_,_,h=>by cases h
 |(i,(s0,t0))::fr,hf,o,s,t,h=>by
  obtain⟨h1,h2⟩:=bO hf;obtain⟨h1,h3⟩:=bO h1;rw[ax]at h;split at h
  .rename_i e;subst e;simp only[Y3,ZV]at h;obtain⟨rfl,rfl⟩:=h;split at h1
   .rename_i s' t' ho;obtain⟨h4,h5⟩:=bO h1;obtain rfl:=beq_true h4;refine⟨λe=>(by rw[cW.2 e]at h3;cases h3),t',ho,?_⟩
    cases ha:c7 t0<;>cases hb:c7 t'<;>simp_all
   .cases h1
  .exact uo h2 h
theorem Gg{t t':Th}(h:t.base=t'.base)(hf:c7 t=c7 t'):t=t':=by
 cases t<;>cases t'<;>simp_all[Th.base,c7]
theorem r7{U':Nat->Prop}{H0:aj}{F0:Nat->Prop}{w0:World}{objs0:List (Nat×(Nat×Th))}{nb:Nat}{ns:List Nat}{J:JS}{ah:List (Nat×ag)}{objs aD:List (Nat×(Nat×Th))}{x:ct J.rows}{bs:Bs}{ρ:Nat->Value}
 (h:um nb (del ns objs0) J ah objs=some (x,bs,aD))(IX:al U H0 F0 w0 (find objs0) nb)(J2:fj H0 nb)(hk:bM H0 F0 w0 H F w)(hs:al U H F w (find objs) n)(fc:∀t d,find ah t=some d->af H F w d (ρ t)):
 ∃F1 H1,al U H F1 w (find aD) n/\(∀b,F b->F1 b)/\(∀b,F1 b->F b\/bE H (find objs) (ul nb J ah objs) b)/\dS objs (ul nb J ah objs)=some aD/\H0.le H1/\kM H H1 bs/\fj H1 J.nxt/\
  (∀t d,find (cn J.ah (cA J.rows x)).1 t=some d->af H1 F1 w d (ρ t))/\
  ((∀b,w.heap.size<=b->U' b)->(∀o s t v k,o∈e8 bs->find aD o=some (s,t)->H.val o=some v->fp (H.sub s) v t k->U' k)->(∀o s t v k,find (del ns objs0) o=some (s,t)->H.val o=some v->fp (H.sub s) v t k->U' k)->
    al U' H1 F1 w (find (eV nb J.objs (cn J.ah (cA J.rows x)).2++del ns objs0)) J.nxt):=by
 unfold um at h;split at h
 case h_1=>cases h
 rename_i Qz tf;split at h
 case h_1=>cases h
 rename_i vs z8 hS;split at h
 case h_1=>cases h
 rename_i us BJ hO;obtain⟨hc,h'⟩:=ay h;clear h;split at h'
 case h_2=>cases h'
 rename_i x' hx;cases h';obtain⟨hc,JY⟩:=bO hc;obtain⟨hc,IG⟩:=bO hc;obtain⟨sZ,wP⟩:=bO hc
 have IG:nb+J.objs.length<=J.nxt:=by simpa using IG
 obtain⟨F1,pA,zw,If⟩:=kL tf hs
 have dZ:Step F w F1 w:=λb hb=>⟨zw b hb,rfl⟩
 have QA:∀t d,find ah t=some d->af H F1 w d (ρ t):=λt d hd=>(fc t d hd).keep (aj.le.refl H) dZ
 rw[qp hx]
 have Gh:∃cons,cons=eV nb J.objs us:=⟨_,rfl⟩
 obtain⟨cons,xE⟩:=Gh
 have xF:H0.le (df H nb bs cons (find aD)):=by
  have ai:∀s t,H0.con s=some t->s<nb:=λs t dZ=>by
   rcases Nat.lt_or_ge s nb with h|h
   .exact h
   .rw[(J2 s h).2]at dZ;cases dZ
  refine⟨λo v ho=>?_,λs t dZ=>?_,λs t dZ=>?_⟩
  .have:o<nb:=by
    rcases Nat.lt_or_ge o nb with h|h
    .exact h
    .rw[(J2 o h).1]at ho;cases ho
   simp[df,this,hk.eL.val _ _ ho]
  .simp[df,ai s t dZ,hk.eL.con _ _ dZ]
  .simp[df,ai s t dZ,hk.eL.sub _ _ dZ]
 have pK:kM H (df H nb bs cons (find aD)) bs:=by
  intro j u hj v hv;obtain⟨a1,a2⟩:=r6 wP hj;by_cases ai:j<nb
  .obtain rfl:=a1 ai;simpa[df,ai,valOf]using hv
  .simpa[df,ai,hj]using hv
 have IY:kM H (df H nb bs cons (find aD)) z8:=λj v hj=>pK j v (vC hO j v hj)
 obtain⟨p1,p2⟩:=Gc pA QA hS IY us
 have BM:fj (df H nb bs cons (find aD)) J.nxt:=λm hm=>by
  have JW:¬m<nb:=by omega
  refine⟨?_,?_⟩
  .simp only[df,aaO JW];split
   .rename_i u hu;have:=(r6 wP hu).2 (by omega);omega
   .rfl
  .simp only[df,aaO JW,xE];exact xD (by omega)
 refine⟨F1,df H nb bs cons (find aD),pA,zw,If,tf,xF,pK,BM,p1,λVw Vx Vy=>?_⟩;rw[p2,<-xE];have Nv:=Gf (H':=df H nb bs cons (find aD)) pA hO pK nb;rw[<-xE]at Nv
 have part:∀o s t,find (cons++del ns objs0) o=some (s,t)->find cons o=some (s,t)\/find (del ns objs0) o=some (s,t):=by
  intro o s t ho;rw[fh]at ho
  cases hm:find cons o with
  |some y=>rw[hm]at ho;exact .inl ho
  |none=>rw[hm,Z4]at ho;exact .inr ho
 have vf:∀o s t,find (del ns objs0) o=some (s,t)->o∉e8 bs/\find aD o=some (s,t)/\∃v,H.val o=some v/\(df H nb bs cons (find aD)).val o=some v/\v.oneCell'=aaL/\(df H nb bs cons (find aD)).con s=some t.base/\(df H nb bs cons (find aD)).sub s=H.sub s/\fg (df H nb bs cons (find aD)) F1 w (H.sub s) v t:=by
  intro o s t ho;obtain⟨q1,t',q2,q3⟩:=uo JY ho;have Vz:=(fi.1 ho).2;obtain⟨v0,M8,Ac⟩:=IX.obj _ _ _ Vz;obtain⟨v1,q8,lJ⟩:=pA.obj _ _ _ q2;have e1:=hk.eL.val _ _ M8;rw[q8]at e1;obtain rfl:=YU e1;have e2:=hk.eL.con _ _ Ac.con;rw[lJ.con]at e2;have ht:=Gg (YU e2) q3;subst ht;refine⟨q1,q2,v1,q8,xF.val _ _ M8,lJ.one,xF.con _ _ Ac.con,(xF.sub _ _ Ac.con).trans (hk.eL.sub _ _ Ac.con).symm,?_⟩
  cases t' with
  |fdeep T d l=>exact lJ.ok
  |deep T d l hh=>
   obtain⟨Yf,_,_,e0,r0,_⟩:=Ac.ok
   refine CX.mono (show CX F1 w T d.low _ v1 l (H.sub s)from lJ.ok) (Step.refl F1 w) (λ_ _=>rfl) λi x' hi A hA hr=>?_
   cases hh with
   |none=>exact hr
   |some h=>
    refine⟨hr.1,λhh=>?_⟩;obtain⟨T',e,q,g1,g2,g3⟩:=hr.2 hh;obtain⟨_,_,q0,_,_,k3⟩:=(r0 i (by omega) hi).2 hh;have e3:=hk.eL.val _ _ k3;rw[g3]at e3;exact⟨T',e,q,g1,g2,by rw[YU e3];exact xF.val _ _ k3⟩
  |box T tr=>
   obtain⟨b,es,e,g1,g2⟩:=lJ.ok;obtain⟨b',iK,e',M0,VA⟩:=Ac.ok;exact⟨b,es,e,g1,Holds.back hk.eL xF VA g2⟩
  |own T r l=>exact lJ.ok
  |pf T r l=>exact lJ.ok
  |fmap T K agg V l=>exact lJ.ok
  |smap T K agg V l it=>
   obtain⟨b,es,clock,l',e,g0,g1,g2,g3,g4,g5⟩:=lJ.ok;obtain⟨_,_,_,_,_,_,_,_,_,_,r5⟩:=Ac.ok;refine⟨b,es,clock,l',e,g0,g1,g2,g3.eL,g4,g5.eL λn' x u e hu=>?_⟩;subst e;obtain⟨_,_,_,_,_,_,Pa,_⟩:=r5;have e3:=hk.eL.val _ _ Pa;rw[hu]at e3;rw[YU e3];exact xF.val _ _ Pa
  |map T K agg V l=>
   obtain⟨b,es,clock,e,g1,g2,g3⟩:=lJ.ok;exact⟨b,es,clock,e,g1,g2,g3.eL⟩
 have Nw:∀o s t,find cons o=some (s,t)->∃v,(df H nb bs cons (find aD)).val o=some v/\v.oneCell'=aaL/\(df H nb bs cons (find aD)).con s=some t.base/\fg (df H nb bs cons (find aD)) F1 w ((df H nb bs cons (find aD)).sub s) v t/\
  ∀k,fp ((df H nb bs cons (find aD)).sub s) v t k->∃o' s0 t0,find bs o=some (some o')/\find aD o'=some (s0,t0)/\H.val o'=some v/\fp (H.sub s0) v t0 k:=by
  intro o s t ho;obtain⟨a1,a2,a3,a4,u,v,b1,b2,b3,b4,b5,b6⟩:=Nv o s t ho
  have eH:(df H nb bs cons (find aD)).sub s=r4 H (find aD) (find bs o):=by
   simp only[df];rw[aaO (by omega),a4]
  rw[eH];refine⟨v,pK o u b1 v b2,b3,?_,b5,λk hk=>?_⟩
  .rw[b4];simp only[df];rw[aaO (by omega)];exact a3
  .obtain⟨o',s0,t0,c1,c2,c3,c4⟩:=b6 k hk;exact⟨o',s0,t0,by rw[b1,c1],c2,c3,c4⟩
 refine⟨λo s t ho=>?_,λo o' s s' t t' v v' cq ho ij hv cV k hk jd=>?_,λm hm _=>BM m hm,pA.lt,Vw,pA.gl⟩
 .rcases part o s t ho with h1|h1
  .obtain⟨v,a1,a2,a3,a4,a5⟩:=Nw o s t h1
   refine⟨v,a1,a2,a3,a4,λk hk hF=>?_,λk hk=>?_,λk hk=>?_⟩<;>obtain⟨o',s0,t0,b1,b2,b3,b4⟩:=a5 k hk<;>obtain⟨v',cV,bL⟩:=pA.obj _ _ _ b2
   all_goals
    rw[b3]at cV;obtain rfl:=YU cV
   .exact bL.no k b4 hF
   .exact bL.lt k b4
   .exact Vx _ _ _ _ _ (gu b1) b2 b3 b4
  .obtain⟨q1,q2,v,a1,a2,a3,a4,a6,a5⟩:=vf o s t h1;obtain⟨v',cV,bL⟩:=pA.obj _ _ _ q2;rw[a1]at cV;obtain rfl:=YU cV;exact⟨v,a2,a3,a4,by rw[a6];exact a5,by rw[a6];exact bL.no,by rw[a6];exact bL.lt,λk hk=>Vy _ _ _ _ _ h1 a1 (by rwa [a6]at hk)⟩
 .rcases part o s t ho with h1|h1<;>rcases part o' s' t' ij with h2|h2
  .obtain⟨u,a1,_,_,_,a5⟩:=Nw o s t h1;obtain⟨u',c1,_,_,_,c5⟩:=Nw o' s' t' h2;rw[hv]at a1;rw[cV]at c1;obtain rfl:=YU a1;obtain rfl:=YU c1;obtain⟨p,s0,t0,d1,d2,d3,d4⟩:=a5 k hk;obtain⟨p',Yg,Yh,e1,e2,e3,e4⟩:=c5 k jd;refine pA.apart p p' _ _ _ _ _ _ (λe=>cq ?_) d2 e2 d3 e3 k d4 e4;subst e;exact pJ sZ d1 e1
  .obtain⟨u,a1,_,_,_,a5⟩:=Nw o s t h1;obtain⟨q1,q2,u',c1,c2,_,_,c6,_⟩:=vf o' s' t' h2;rw[c6]at jd;rw[hv]at a1;rw[cV]at c2;obtain rfl:=YU a1;obtain rfl:=YU c2;obtain⟨p,s0,t0,d1,d2,d3,d4⟩:=a5 k hk;exact pA.apart p o' _ _ _ _ _ _ (λe=>q1 (e▸gu d1)) d2 q2 d3 c1 k d4 jd
  .obtain⟨u,a1,_,_,_,a5⟩:=Nw o' s' t' h2;obtain⟨q1,q2,u',c1,c2,_,_,c6,_⟩:=vf o s t h1;rw[c6]at hk;rw[cV]at a1;rw[hv]at c2;obtain rfl:=YU a1;obtain rfl:=YU c2;obtain⟨p,s0,t0,d1,d2,d3,d4⟩:=a5 k jd;exact pA.apart o p _ _ _ _ _ _ (λe=>q1 (e▸gu d1)) q2 d2 c1 d3 k hk d4
  .obtain⟨q1,q2,u,c1,c2,_,_,c6,_⟩:=vf o s t h1;obtain⟨Yi,VB,u',Pw,Nx,_,_,VC,_⟩:=vf o' s' t' h2;rw[c6]at hk;rw[VC]at jd;rw[hv]at c2;rw[cV]at Nx;obtain rfl:=YU c2;obtain rfl:=YU Nx;exact pA.apart o o' _ _ _ _ _ _ cq q2 VB c1 Pw k hk jd
end
end Go.Proofs.YtbladfbbhijpmaaGreat
end
namespace Go.Proofs.YtbladfbbhijpmaaGreat
open Go Go.RowKit
set_option maxRecDepth 100000
set_option linter.unusedSimpArgs false
set_option linter.unusedVariables false
set_option linter.defProp false
section
structure oq where
 inn:JS
 out:JS
 fn:ct inn.rows->Option (ct out.rows)
def tg:List Value->Value
 |[v]=>v
 |vs=> .tuple vs.toArray
structure gK(P:Program)(f:FuncId)(sg:oq):Prop where
 fn:∃fn,P.funcs[f]? =some fn/\(fn.name== "runtime.NumGoroutine")=aaM/\fn.body.isNone=aaM
 ok:∀x y,sg.fn x=some y->∀(args:List Value)(w:World)(H:aj)(F G:Nat->Prop),args.length=sg.inn.ah.length->
  (∀t d,find (cn sg.inn.ah (cA _ x)).1 t=some d->af H F w d (args.getD t undef))->
  al (λk=>w.heap.size<=k\/G k) H F w (find (eV 0 sg.inn.objs (cn sg.inn.ah (cA _ x)).2)) sg.inn.nxt->fj H sg.inn.nxt->(∀k,G k->¬F k)->
  Calls P f args.toArray w λe w'=>∃vs,e= .returned (tg vs)/\vs.length=sg.out.ah.length/\∃H' F',Ext G w w'/\H.le H'/\(∀b,F b->F' b)/\(∀b,F' b->F b\/w.heap.size<=b\/G b)/\
   (∀t d,find (cn sg.out.ah (cA _ y)).1 t=some d->af H' F' w' d (vs.getD t undef))/\
   al (λk=>w.heap.size<=k\/G k) H' F' w' (find (eV sg.inn.nxt sg.out.objs (cn sg.out.ah (cA _ y)).2)) sg.out.nxt/\fj H' sg.out.nxt
def Sh.nv(φ:Nat->Nat):Sh->Sh
 | .leaf r=> .leaf r
 | .own j=> .own (φ j)
 | .nil=> .nil
 | .pair a b=> .pair (a.nv φ) (b.nv φ)
 | .junk n=> .junk n
def SS.nv(φ:Nat->Nat):SS->SS
 | .val agg t=> .val agg (t.nv φ)
 | .ptr j p off=> .ptr (φ j) p off
 | .at r=> .at r
 | .undef=> .undef
 | .fn f js=> .fn f (js.map λc=>(φ c.1,c.2))
 | .ifc T s=> .ifc T (s.nv φ)
def OS.nv(φ:Nat->Nat):OS->OS
 | .box T t=> .box T (t.nv φ)
 | .own T r=> .own T r
 | .map T K agg V=> .map T K agg V
 | .deep T d=> .deep T d
 | .smap T K agg V it=> .smap T K agg V (it.map φ)
def oK(φ:Nat->Nat):List (Nat×SS)->List (Nat×SS)
 |[]=>[]
 |(t,s)::l=>(t,s.nv φ)::oK φ l
def xG(φ:Nat->Nat):List (Nat×OS)->List (Nat×OS)
 |[]=>[]
 |(j,s)::l=>(φ j,s.nv φ)::xG φ l
def Row.xH:Row->Bool
 | .slice _=>aaM
 | .map .. =>aaM
 | .pair a b=>a.xH&&b.xH
 |_=>aaL
def DR.fP(p:Row->Bool):DR->Bool
 | .leaf r=>p r
 | .sl _ d=>d.fP p
 | .pair a b=>a.fP p&&b.fP p
def Sh.fP(p:Row->Bool):Sh->Bool
 | .leaf r=>p r
 | .pair a b=>a.fP p&&b.fP p
 |_=>aaL
def SS.fP(p:Row->Bool):SS->Bool
 | .val _ t=>t.fP p
 | .at r=>p (.slice r)
 | .ifc _ s=>s.fP p
 |_=>aaL
def OS.fP(p:Row->Bool):OS->Bool
 | .box _ t=>t.fP p
 | .own _ r=>p r
 | .map _ _ _ V=>p V
 | .deep _ d=>d.fP p
 | .smap _ _ _ V _=>p V
def nR(p:Row->Bool):List (Nat×SS)->Bool
 |[]=>aaL
 |(_,s)::l=>s.fP p&&nR p l
def uq(p:Row->Bool):List (Nat×OS)->Bool
 |[]=>aaL
 |(_,s)::l=>s.fP p&&uq p l
section
variable {H H':aj} {F F':Nat->Prop} {w w':World} {φ:Nat->Nat} {p:Row->Bool}
theorem bN.Ad:{r:Row}->{cs:List Value}->{x:r.den}->r.xH=aaL->bN F w r cs x->bN F' w' r cs x
 | .int _,_,_,_,h=>h
 | .bool,_,_,_,h=>h
 | .str,_,_,_,h=>h
 | .iU,_,_,_,h=>h
 | .nul _,_,_,_,h=>h
 | .map ..,_,_,hf,_=>by cases hf
 | .slice _,_,_,hf,_=>by cases hf
 | .pair a b,_,_,hf,h=>by
   obtain⟨c1,c2,e,h1,h2⟩:=h;obtain⟨f1,f2⟩:=bO hf;exact⟨c1,c2,e,bN.Ad f1 h1,bN.Ad f2 h2⟩
def Ren(H H':aj)(φ:Nat->Nat):Prop:=∀j v,H.val j=some v->H'.val (φ j)=some v
def qs(p:Row->Bool)(F F':Nat->Prop)(w:World):Prop:=∀r,p r=aaL->∀cs x,bN F w r cs x->bN F' w r cs x
theorem lW:(sh:Sh)->(vs:List gL)->(lL (sh.nv φ) vs).2=(lL sh vs).2
 | .leaf r,[]=>rfl
 | .leaf r,_::_=>rfl
 | .own j,vs=>rfl
 | .nil,vs=>rfl
 | .pair a b,vs=>by
   show(lL (b.nv φ) (lL (a.nv φ) vs).2).2=_
   rw[lW a,lW b];rfl
 | .junk _,_=>rfl
theorem ur(s:SS)(vs:List gL):(di (s.nv φ) vs).2=(di s vs).2:=by
 induction s with
 |ifc T s ih=>exact ih
 |val agg t=>exact lW t vs
 |ptr j p off=>rfl
 |«at» r=>cases vs<;>rfl
 |undef=>rfl
 |fn f js=>rfl
theorem uu(s:OS)(vs:List gL):(b9 (s.nv φ) vs).2=(b9 s vs).2:=by
 cases s with
 |box T t=>exact lW t vs
 |own T r=>rfl
 |map T K agg V=>rfl
 |deep T d=>rfl
 |smap T K agg V it=>
  cases it with
  |none=>cases vs<;>rfl
  |some n=>match vs with
   |[]=>rfl
   |[_]=>rfl
   |_::_::_=>rfl
theorem xI:(l:List (Nat×SS))->(vs:List gL)->(cn (oK φ l) vs).2=(cn l vs).2
 |[],_=>rfl
 |(t,s)::l,vs=>by
  show(cn (oK φ l) (di (s.nv φ) vs).2).2=(cn l (di s vs).2).2
  rw[ur,xI l]
theorem oL(hr:Ren H H' φ)(hm:qs p F F' w):{sh:Sh}->{vs:List gL}->{cs:List Value}->sh.fP p=aaL->Holds H F w (lL sh vs).1 cs->Holds H' F' w (lL (sh.nv φ) vs).1 cs
 | .leaf r,[],cs,_,h=>h
 | .leaf r,⟨s,x⟩::vs,cs,hp,h=>by
   have h':Holds H F w (bif s.beq r then Tree.leaf s x else .nil) cs:=h
   show Holds H' F' w (bif s.beq r then Tree.leaf s x else .nil) cs
   cases hb:s.beq r with
   |true=>
    rw[hb,cond_true]at h';obtain rfl:=Row.eq_of_beq hb;exact hm _ hp _ _ h'
   |false=>rw[hb]at h';exact h'
 | .own j,vs,cs,_,h=>by obtain⟨v,h1,h2⟩:=h;exact⟨v,hr j v h1,h2⟩
 | .nil,vs,cs,_,h=>h
 | .pair a b,vs,cs,hp,h=>by
   obtain⟨c1,c2,e,h1,h2⟩:=h;obtain⟨p1,p2⟩:=bO hp;refine⟨c1,c2,e,oL hr hm p1 h1,?_⟩;rw[lW a];exact oL hr hm p2 h2
 | .junk _,vs,cs,_,h=>h
theorem il.nv(hr:Ren H H' φ):{cs:List (Nat×List Bool×Nat)}->{vs:List Value}->il H cs vs->il H' (cs.map λc=>(φ c.1,c.2)) vs
 |[],_,h=>h
 |_::_,_,h=>by obtain⟨v,us,e,⟨b,h1,h2⟩,h3⟩:=h;exact⟨v,us,e,⟨b,hr _ _ h1,h2⟩,il.nv hr h3⟩
theorem Dy(hr:Ren H H' φ)(hm:qs p F F' w){s:SS}{vs:List gL}{v:Value}(hp:s.fP p=aaL)(h:af H F w (di s vs).1 v):af H' F' w (di (s.nv φ) vs).1 v:=by
 induction s generalizing v with
 |ifc T s ih=>
  obtain⟨u,e,h2⟩:=h;exact⟨u,e,ih hp h2⟩
 |val agg t=>
  obtain⟨cs,h1,h2⟩:=h;exact⟨cs,oL hr hm hp h1,h2⟩
 |ptr j p off=>
  obtain⟨b,h1,h2⟩:=h;exact⟨b,hr _ _ h1,h2⟩
 |«at» r=>
  match vs,h with
  |[],h=>exact h
  |⟨s,x⟩::vs,h=>
   have h':af H F w (bif s.beq r then ag.at s x else .dead) v:=h
   show af H' F' w (bif s.beq r then ag.at s x else .dead) v
   cases hb:s.beq r with
   |false=>trivial
   |true=>
    rw[hb,cond_true]at h';obtain rfl:=Row.eq_of_beq hb;obtain⟨b,off,rfl,hF,es,h1,h2,h3⟩:=h'
    have fc:bN F w (.slice s) [.slice (some ⟨b,off,aaK⟩) 1 1] [x]:=⟨some ⟨b,off,aaK⟩,1,rfl,YY _,by unfold maxLen;omega,λi hi=>by
     have e:i=0:=by simp at hi;omega
     subst e
     exact⟨b,off,es,rfl,hF,h1,λj u hu=>by rw[Nat.zero_mul,Z1];exact h2 j u hu,h3⟩⟩
    obtain⟨A,cap,e1,_,_,qI⟩:=hm (.slice s) hp _ _ fc;obtain⟨b',cN,iK,hA,g1,g2,g3,g4⟩:=qI 0 (by simp);simp only[Z8,aag,and_true]at e1;obtain⟨e1,_,_⟩:=e1;rw[<-e1]at hA;simp only[Y3,aam,and_true]at hA;obtain⟨rfl,rfl⟩:=hA;exact⟨b,off,rfl,g1,iK,g2,λj u hu=>by have:=g3 j u hu;rwa [Nat.zero_mul,Z1]at this,g4⟩
 |undef=>exact h
 |fn f js=>
  obtain⟨us,h1,h2⟩:=h;exact⟨us,h1,h2.nv hr⟩
theorem ec.lF{K:Row}{agg:Bool}{V:Row}(hm:∀cs x,bN F w V cs x->bN F' w' V cs x):{es:List MapEntry}->{l:List (K.den×V.den)}->ec H F w K agg V es l->ec H' F' w' K agg V es l
 |[],_,h=>h
 |_::_,_,h=>by
  obtain⟨k,x,l',e,h1,⟨cs,h2,sX⟩,h3⟩:=h;exact⟨k,x,l',e,h1,⟨cs,hm _ _ h2,sX⟩,ec.lF hm h3⟩
theorem bN.r8(hm:qs p F F' w):{d:DR}->{cs:List Value}->{x:d.low.den}->d.fP p=aaL->bN F w d.low cs x->bN F' w d.low cs x
 | .leaf r,_,_,hp,h=>hm r hp _ _ h
 | .sl _ _,_,_,_,h=>h
 | .pair a b,_,_,hp,h=>by
   obtain⟨p1,p2⟩:=bO hp;obtain⟨c1,c2,e,h1,h2⟩:=h;exact⟨c1,c2,e,bN.r8 hm p1 h1,bN.r8 hm p2 h2⟩
theorem iL.lF(hm:qs p F F' w){d:DR}(hp:d.fP p=aaL){T:TypeId}{v:Value}{l:List d.low.den}(h:iL F w T d.low v l):iL F' w T d.low v l:=by
 obtain⟨xs,h1,h2⟩:=h;exact⟨xs,h1,λi hi=>bN.r8 hm hp (h2 i hi)⟩
theorem gI.lF(hm:qs p F F' w):{d:DR}->{x':d.low.den}->{x:d.row.den}->{S:Nat->Prop}->d.fP p=aaL->gI F w d x' x S->gI F' w d x' x S
 | .leaf _,_,_,_,_,h=>h
 | .sl _ d,_,_,_,hp,h=>by
   obtain⟨lh,Ss,h1,h2,h3,h4⟩:=h;exact⟨lh,Ss,h1.lF hm (show d.fP p=aaL from hp),h2,λi a b=>gI.lF hm (show d.fP p=aaL from hp) (h3 i a b),h4⟩
 | .pair a b,_,_,_,hp,h=>by
   obtain⟨p1,p2⟩:=bO hp;obtain⟨A,B,h1,h2,h3⟩:=h;exact⟨A,B,gI.lF hm p1 h1,gI.lF hm p2 h2,h3⟩
theorem Ae(T:TypeId)(d:DR):(vs:List gL)->∃l,(b9 (.deep T d) vs).1= .deep T d l aaK
 |[]=>⟨[],rfl⟩
 |⟨.slice s,l⟩::vs=>by
  unfold b9;simp only
  split<;>exact⟨_,rfl⟩
 |⟨.int _,_⟩::_|⟨.bool,_⟩::_|⟨.str,_⟩::_|⟨.iU,_⟩::_|⟨.nul _,_⟩::_|⟨.pair _ _,_⟩::_|⟨.map ..,_⟩::_=>⟨[],rfl⟩
theorem Dz(T:TypeId)(K:Row)(agg:Bool)(V:Row):(vs:List gL)->∃l,(b9 (.map T K agg V) vs).1= .map T K agg V l
 |[]=>⟨[],rfl⟩
 |⟨.slice (.pair K' V'),l⟩::vs=>by
  unfold b9;simp only
  split<;>exact⟨_,rfl⟩
 |⟨.slice (.int _),_⟩::_|⟨.slice .bool,_⟩::_|⟨.slice .str,_⟩::_|⟨.slice (.slice _),_⟩::_|⟨.slice .iU,_⟩::_|⟨.slice (.nul _),_⟩::_|⟨.slice (.map ..),_⟩::_=>⟨[],rfl⟩
 |⟨.int _,_⟩::_|⟨.bool,_⟩::_|⟨.str,_⟩::_|⟨.iU,_⟩::_|⟨.nul _,_⟩::_|⟨.pair _ _,_⟩::_|⟨.map ..,_⟩::_=>⟨[],rfl⟩
theorem pL(hr:Ren H H' φ)(hm:qs p F F' w){s:OS}{vs:List gL}{S:Nat->Prop}{v:Value}(hp:s.fP p=aaL)(h:fg H F w S v (b9 s vs).1):
 fg H' F' w S v (b9 (s.nv φ) vs).1/\(b9 (s.nv φ) vs).1.base=(b9 (s.nv φ) vs).1/\(∀k,fp S v (b9 (s.nv φ) vs).1 k->fp S v (b9 s vs).1 k):=by
 have own:∀(T:TypeId)(q:Row)(l:List q.den),p q=aaL->fg H F w S v (.own T q l)->fg H' F' w S v (.own T q l):=λT q l hq ⟨xs,hx,h3⟩=>⟨xs,hx,λi hi=>hm q hq _ _ (h3 i hi)⟩
 cases s with
 |box T t=>
  obtain⟨b,es,e,h1,h2⟩:=h;exact⟨⟨b,es,e,h1,oL hr hm hp h2⟩,rfl,λk hk=>hk⟩
 |own T r=>
  match vs,h with
  |[],h=>exact⟨own T r [] hp h,rfl,λ_ h=>h⟩
  |⟨.slice s,l⟩::vs,h=>
   have h':fg H F w S v (bif s.beq r then Th.own T s l else .own T r []):=h
   show fg H' F' w S v (bif s.beq r then Th.own T s l else .own T r [])/\Th.base (bif s.beq r then Th.own T s l else .own T r [])=(bif s.beq r then Th.own T s l else .own T r [])/\∀k,fp S v (bif s.beq r then Th.own T s l else .own T r []) k->fp S v (bif s.beq r then Th.own T s l else .own T r []) k
   cases hb:s.beq r with
   |true=>
    rw[hb,cond_true]at h';obtain rfl:=Row.eq_of_beq hb;exact⟨own T s l hp h',rfl,λ_ h=>h⟩
   |false=>
    rw[hb,cond_false]at h';exact⟨own T r [] hp h',rfl,λ_ h=>h⟩
  |⟨.int _,_⟩::vs,h=>exact⟨own T r [] hp h,rfl,λ_ h=>h⟩
  |⟨.bool,_⟩::vs,h=>exact⟨own T r [] hp h,rfl,λ_ h=>h⟩
  |⟨.str,_⟩::vs,h=>exact⟨own T r [] hp h,rfl,λ_ h=>h⟩
  |⟨.iU,_⟩::vs,h=>exact⟨own T r [] hp h,rfl,λ_ h=>h⟩
  |⟨.nul _,_⟩::vs,h=>exact⟨own T r [] hp h,rfl,λ_ h=>h⟩
  |⟨.map ..,_⟩::vs,h=>exact⟨own T r [] hp h,rfl,λ_ h=>h⟩
  |⟨.pair _ _,_⟩::vs,h=>exact⟨own T r [] hp h,rfl,λ_ h=>h⟩
 |map T K agg V=>
  have gen:∀l:List (K.den×V.den),fg H F w S v (.map T K agg V l)->fg H' F' w S v (.map T K agg V l):=by
   rintro l ⟨b,es,clock,e,h1,h2,h3⟩
   exact⟨b,es,clock,e,h1,h2,ec.lF (λcs x hr=>hm V hp cs x hr) h3⟩
  obtain⟨l,hl⟩:=Dz T K agg V vs
  show fg H' F' w S v (b9 (OS.map T K agg V) vs).1/\(b9 (OS.map T K agg V) vs).1.base=(b9 (OS.map T K agg V) vs).1/\∀k,fp S v (b9 (OS.map T K agg V) vs).1 k->fp S v (b9 (OS.map T K agg V) vs).1 k
  rw[hl]at h⊢;exact⟨gen l h,rfl,λ_ h=>h⟩
 |deep T d=>
  obtain⟨l,hl⟩:=Ae T d vs
  show fg H' F' w S v (b9 (OS.deep T d) vs).1/\(b9 (OS.deep T d) vs).1.base=(b9 (OS.deep T d) vs).1/\∀k,fp S v (b9 (OS.deep T d) vs).1 k->fp S v (b9 (OS.deep T d) vs).1 k
  rw[hl]at h⊢;refine⟨?_,rfl,λ_ h=>h⟩;have h':gI F w (.sl T d) v l S:=h;exact(gI.lF (d:= .sl T d) hm hp h':gI F' w (.sl T d) v l S)
 |smap T K agg V it=>
  have gen:∀(l:List (K.den×V.den)),fg H F w S v (.smap T K agg V l aaK)->fg H' F' w S v (.smap T K agg V l aaK):=by
   rintro l ⟨b,es,clock,l',e,h0,h1,h2,h3,h4,_⟩
   exact⟨b,es,clock,l',e,h0,h1,h2,ec.lF (λcs x hr=>hm V hp cs x hr) h3,h4,trivial⟩
  have QB:∀(n:Nat)(l left:List (K.den×V.den)),fg H F w S v (.smap T K agg V l (some (n,left,aaK)))->fg H' F' w S v (.smap T K agg V l (some (φ n,left,aaK))):=by
   rintro n l left ⟨b,es,clock,l',e,h0,h1,h2,h3,h4,r,since,seen,last,i1,i2,i3,i4,i5,i6,i7,⟨l2,i8,i9⟩,_⟩
   exact⟨b,es,clock,l',e,h0,h1,h2,ec.lF (λcs x hr=>hm V hp cs x hr) h3,h4,r,since,seen,last,i1,i2,hr _ _ i3,i4,i5,i6,i7,⟨l2,ec.lF (λcs x hr=>hm V hp cs x hr) i8,i9⟩,λp hp=>by cases hp⟩
  cases it with
  |none=>
   match vs,h with
   |[],h=>exact⟨gen _ h,rfl,λ_ h=>h⟩
   |_::_,h=>exact⟨gen _ h,rfl,λ_ h=>h⟩
  |some n=>
   match vs,h with
   |[],h=>exact⟨gen _ h,rfl,λ_ h=>h⟩
   |[_],h=>exact⟨gen _ h,rfl,λ_ h=>h⟩
   |_::_::_,h=>exact⟨QB _ _ _ h,rfl,λ_ h=>h⟩
theorem uv:{l:List (Nat×SS)}->{vs:List gL}->{t:Nat}->{d:ag}->nR p l=aaL->find (cn (oK φ l) vs).1 t=some d->∃s us,d=(di (s.nv φ) us).1/\find (cn l vs).1 t=some (di s us).1/\s.fP p=aaL
 |[],_,_,_,_,h=>by cases h
 |(t0,s)::l,vs,t,d,hp,h=>by
  obtain⟨p1,p2⟩:=bO hp;have h':find ((t0,(di (s.nv φ) vs).1)::(cn (oK φ l) (di (s.nv φ) vs).2).1) t=some d:=h
  show∃s' us,d=_/\find ((t0,(di s vs).1)::(cn l (di s vs).2).1) t=_/\_
  rw[ax]at h';by_cases e:t0=t
  .rw[aaP e]at h';exact⟨s,vs,(YU h').symm,by rw[ax,aaP e],p1⟩
  .rw[aaO e]at h';rw[ur]at h';obtain⟨s',us,a1,a2,a3⟩:=uv p2 h';exact⟨s',us,a1,by rw[ax,aaO e];exact a2,a3⟩
theorem Gi(hr:Ren H H' φ)(hm:qs p F F' w){ρ:Nat->Value}{l:List (Nat×SS)}{vs:List gL}(hp:nR p l=aaL)(h:∀t d,find (cn l vs).1 t=some d->af H F w d (ρ t)):∀t d,find (cn (oK φ l) vs).1 t=some d->af H' F' w d (ρ t):=by
 intro t d hf;obtain⟨s,us,rfl,h2,h3⟩:=uv hp hf;exact Dy hr hm h3 (h t _ h2)
theorem xJ{m m':Nat}:{l:List (Nat×OS)}->{vs:List gL}->{o s:Nat}->{t:Th}->find (eV m (xG φ l) vs) o=some (s,t)->∃j s' us sh,φ j=o/\t=(b9 (sh.nv φ) us).1/\find (eV m' l vs) j=some (s',(b9 sh us).1)/\(uq p l=aaL->sh.fP p=aaL)/\oJ (eV m (xG φ l) vs) s=some t/\m<=s/\s<m+l.length/\s'=s-m+m'
 |[],_,_,_,_,h=>by cases h
 |(j,sh)::l,vs,o,s,t,h=>by
  have h':find ((φ j,(m,(b9 (sh.nv φ) vs).1))::eV (m+1) (xG φ l) (b9 (sh.nv φ) vs).2) o=some (s,t):=h;rw[ax]at h';split at h'
  .rename_i e;simp only[Y3,ZV]at h';obtain⟨rfl,rfl⟩:=h';refine⟨j,m',vs,sh,e,rfl,?_,λhp=>(bO hp).1,?_,YY _,by simp,by omega⟩
   .show find ((j,(m',(b9 sh vs).1))::_) j=_
    rw[ax,aaP rfl]
   .show(bif YZ m m then _ else _)=_
    simp
  .rename_i e;rw[uu]at h';obtain⟨j',s',us,TJ,a1,a2,a3,a4,a5,a6,a7,a8⟩:=xJ (m':=m'+1) h';refine⟨j',s',us,TJ,a1,a2,?_,λhp=>a4 (bO hp).2,?_,by omega,by rw[Ze];omega,by omega⟩
   .show find ((j,(m',(b9 sh vs).1))::eV (m'+1) l (b9 sh vs).2) j'=_
    rw[ax,aaO (λe'=>e (by rw[e',a1]))];exact a3
   .show(bif YZ m s then _ else oJ (eV (m+1) (xG φ l) (b9 (sh.nv φ) vs).2) s)=_
    have:YZ m s=aaM:=by
     cases hb:YZ m s with
     |false=>rfl
     |true=>have:=beq_true hb;omega
    rw[this,cond_false,uu];exact a5
def Af:List (Nat×ag)->Option (List (Bool×Tree))
 |[]=>some []
 |(_, .val a t)::l=>match Af l with
  |some ds=>some ((a,t)::ds)
  |none=>aaK
 |_::_=>aaK
def Gj:List (Nat×ag)->Option ag
 |[]=>some .dead
 |[(_,d)]=>some d
 |l=>match Af l with
  |some ds=>some (.tup ds)
  |none=>aaK
def pM:Nat->List (Nat×SS)->Bool
 |_,[]=>aaL
 |k,(t,_)::l=>YZ t k&&pM (k+1) l
theorem BN:{l:List (Nat×SS)}->{vs:List gL}->{k t:Nat}->{d:ag}->pM k l=aaL->find (cn l vs).1 t=some d->k<=t
 |[],_,_,_,_,_,h=>by cases h
 |(t0,s)::l,vs,k,t,d,hi,h=>by
  obtain⟨h1,h2⟩:=bO hi;have h':find ((t0,(di s vs).1)::(cn l (di s vs).2).1) t=some d:=h;rw[ax]at h';have:=beq_true h1;split at h'
  .omega
  .have:=BN h2 h';omega
theorem Gk{f:Nat->Value}:{l:List (Nat×SS)}->{vs:List gL}->{k:Nat}->{ds:List (Bool×Tree)}->pM k l=aaL->(∀t d,find (cn l vs).1 t=some d->af H F w d (f t))->Af (cn l vs).1=some ds->oy H F w ds ((List.range' k l.length).map f)
 |[],_,_,_,_,_,h=>by cases h;rfl
 |(t0,s)::l,vs,k,ds,hi,jL,h=>by
  obtain⟨h1,h2⟩:=bO hi;obtain rfl:=beq_true h1;have h':Af ((t0,(di s vs).1)::(cn l (di s vs).2).1)=some ds:=h;have Ny:∀t d,find ((t0,(di s vs).1)::(cn l (di s vs).2).1) t=some d->af H F w d (f t):=jL;have h0:=Ny t0 _ (by rw[ax,aaP rfl]);generalize(di s vs).1=d0 at*
  cases d0<;>unfold Af at h'<;>try cases h'
  rename_i a t
  split at h'<;>cases h'
  rename_i Pj q9;refine⟨f t0,(List.range' (t0+1) l.length).map f,by simp[List.range'_succ],h0,Gk h2 (λt d hf=>Ny t d ?_) q9⟩;have:=BN h2 hf;rw[ax,aaO (by omega)];exact hf
theorem xK:{l:List (Nat×SS)}->{k:Nat}->pM k (oK φ l)=pM k l
 |[],_=>rfl
 |(t,s)::l,k=>by
  show(YZ t k&&pM (k+1) (oK φ l))=_
  rw[xK];rfl
theorem qt:{l:List (Nat×SS)}->(oK φ l).length=l.length
 |[]=>rfl
 |(t,s)::l=>by
  show(oK φ l).length+1=l.length+1
  rw[qt]
theorem Ag(us:List Value):(List.range' 0 us.length).map (λt=>us.getD t undef)=us:=by
 apply List.ext_getElem (by simp);intro i h1 h2;simp[List.getD,h2]
theorem K2{l:List (Nat×SS)}{vs:List gL}{us:List Value}{D:ag}(hi:pM 0 l=aaL)(hl:us.length=l.length)(jL:∀t d,find (cn l vs).1 t=some d->af H F w d (us.getD t undef))(h:Gj (cn l vs).1=some D):af H F w D (tg us):=by
 have tup:∀ds,Af (cn l vs).1=some ds->us.length≠1->af H F w (.tup ds) (tg us):=by
  intro ds q9 cq;have:=Gk hi jL q9;rw[<-hl,Ag]at this;refine⟨us,?_,this⟩
  match us,cq with
  |[],_=>rfl
  |[_],h=>exact absurd rfl h
  |_::_::_,_=>rfl
 match l,hl,h with
 |[],_,h=>obtain rfl:=YU h;trivial
 |[(t,s)],hl,h=>
  have h':Gj [(t,(di s vs).1)]=some D:=h;obtain rfl:=YU h';have ht:=beq_true (bO hi).1
  match us,hl with
  |[u],_=>
   have:=jL t (di s vs).1 (by
    show find [(t,(di s vs).1)] t=_
    rw[ax,aaP rfl])
   rw[ht]at this;exact this
 |(t,s)::(t',s')::l,hl,h=>
  have h':(match Af (cn ((t,s)::(t',s')::l) vs).1 with|some ds=>some (ag.tup ds)|none=>aaK)=some D:=h;split at h'
  .rename_i ds q9;obtain rfl:=YU h';exact tup ds q9 (by simp at hl;omega)
  .cases h'
end
end
end Go.Proofs.YtbladfbbhijpmaaGreat
