/- Joined texts: Effs8 Effs9 Smap Apd Pack2 Call. -/
import Derived.Test.YtbladfbbhijpmaaGreatU2
import Derived.Maps.RangeRun
open _root_.Bool renaming false->acR,true->acQ
open _root_.Option renaming none->acP,isSome_iff_exists->abB
open _root_.Array renaming toArray_toList->abE,getElem?_eq_some_iff->abx,toList_filter->acz
open _root_.List renaming replicate->abn,filter_eq_self->acy,mem_cons->aa7,mem_filter->abw,pairwise_cons->abr,length_append->aba,length_cons->aa6
open _root_.Nat renaming beq->aaY,le_refl->aaX,lt_of_lt_of_le->abt,add_zero->ab3
open _root_.Option.some renaming inj->aaT,injEq->aa1
open _root_.Prod.mk renaming inj->acq,injEq->abU
open _root_.Go.Value renaming ownBlock->abu
open _root_.Go.ChangeMaps renaming setBlock->acn
open _root_.Go.Instr renaming findAsking->acK,findNow->abV,lookup->acJ,mapUpdate->acd
open _root_.Go.MapKept renaming run_getObj_map->abL,run_setObj_map->acj
open _root_.Go.Result renaming andThen->abc
open _root_.Go.Addr.mk renaming injEq->acp
open _root_.List.cons renaming injEq->ab9
open _root_.Go.Value.slice renaming injEq->aci
section
open _root_.Option renaming none->acP
open _root_.Bool renaming true->acQ
open _root_.Int renaming toNat_natCast->aa3
open _root_.Nat renaming beq->aaY,le_refl->aaX
open _root_.Option.some renaming inj->aaT
open _root_.Go.Value renaming ownBlock->abu
namespace Go.Proofs.YtbladfbbhijpmaaGreat
open Go Go.RowKit
section
variable {P:Program} {ρ:Nat->Value} {w w':World} {H H':an} {F F':Nat->Prop} {U:Nat->Prop} {ob:Nat->Option (Nat×Th)} {n:Nat} {R:Type}
variable {op:Op} {ty:TypeId} {pos:String} {aft:Array Edge} {d:Nat}
noncomputable def nX(T:aM P)(ob:Nat->Option (Nat×Th))(n:Nat)(t:TypeId)(D V:aj)(k:c9->Option R):Option R:=
 match find T.row t with
 |none=>acP
 |some rt=>match V with
  | .val _ u=>match D with
    | .dlm o d0 i p off=>match ob o with
      |some (_, .deep T0 dr l h)=>bif d0.beq dr then(match dr.path p with
       |some ⟨.leaf r,q⟩=>bif aaY q.lo.off off&&aaY rt.size r.size then(match flat ob r u with
        |some y=>(idx l i).bind λx=>k {dst:= .dead,eat:=[o],make:=[(o,(n, .deep T0 dr (bF l i (q.hi.set x y)) h))]}
        |none=>acP)else acP
       |some ⟨.sl T' e',q⟩=>bif aaY q.lo.off off&&aaY rt.size 1 then(match u with
        | .own o1=>match ob o1 with
          |some (_,t1)=>match N4 T' e' t1 with
           |some _=>if wy h i p=acQ then(idx l i).bind λ_=>k {dst:= .dead,eat:=[o],make:=[(o,(n, .deep T0 dr l (some ⟨i,p,o1,n⟩)))]}else acP
           |none=>acP
          |none=>acP
        | .nil=>if wy h i p=acQ then(idx l i).bind λx=>k {dst:= .dead,eat:=[o],make:=[(o,(n, .deep T0 dr (bF l i (q.hi.set x ([]:List e'.row.den))) acP))]}else acP
        |_=>acP)else acP
       |_=>acP)else acP
      |_=>acP
    |_=>acP
  |_=>acP
theorem oW(T:aM P){t:TypeId}{rt:Row}(Gz:find T.row t=some rt){x y:Operand}{o s:Nat}{T0:TypeId}{dr e:DR}{i:Int}{l l':List dr.row.den}{h h':Option sF}{q:ee dr e}{g o0 qq m cap j:Nat}{u:e.low.den}{cs:List Value}{x1:dr.row.den}
 (hs:aq U H F w ob n)(bW:ob o=some (s, .deep T0 dr l h))(hv:H.val o=some (.slice (some ⟨g,o0,acP⟩) m cap))(hj:i=(j:Nat))(qD:j<l.length)(hx:ev ρ x= .pointer (some ⟨g,o0+qq*dr.low.size+q.lo.off,acP⟩))(hqq:i=(qq:Nat))(hz:rt.size=e.low.size)
 (hr:bT F w e.low cs u)(u7:(ev ρ y).cells.toList=cs)(Rg:l'=l.set j x1)
 (ta:∀{w':World}{H1:an},H.le H1->Step F w F w'->∀{x':dr.low.den}{S:Nat->Prop},(∀k,S k->w'.heap[k]? =w.heap[k]?)->mg H F w dr h j x' l[j] S->∃B,(∀k,B k->S k)/\mg H1 F w' dr h' j (q.lo.set x' u) x1 B)
 (Rh:∀{H1:an}{w':World}{i':Nat}{x':dr.low.den}{x:dr.row.den}{S:Nat->Prop},i'≠j->mg H1 F w' dr h i' x' x S->mg H1 F w' dr h' i' x' x S):
 bO P U H F w ρ ob n ⟨acP, .store t x y,ty,pos,aft,acP⟩ {dst:= .dead,eat:=[o],make:=[(o,(n, .deep T0 dr l' h'))]}:=by
 obtain⟨ti,z0,h1,_,_,h4,_⟩:=T.row_ok _ _ Gz;obtain⟨lh,Ss,dm,hlen,GL,cS⟩:=hs.low bW hv;obtain⟨v1,sa,bP⟩:=hs.obj _ _ _ bW;rw[hv]at sa;obtain rfl:=aaT sa
 have Ri:j<lh.length:=by omega
 obtain rfl:qq=j:=by omega
 obtain⟨cur,hh,hle,bo,eZ⟩:=dm.put rfl Ri hs.lt q.lo hr;generalize WO:w.setRow g (cur.toList.take (o0+qq*dr.low.size+q.lo.off)++cs++cur.toList.drop (o0+qq*dr.low.size+q.lo.off+cs.length)).toArray=w' at bo eZ;refine bH.unit (w':=w') (by rw[<-WO];exact mc h1 (h4.trans (hz.trans hr.length.symm)) hx rfl u7 hr.gO hh hle) ?_;have dW:Step F w F w':=Step.ext bo hs.lt dm.no
 have hblk:∀i',i'<l.length->∀k,Ss i' k->w'.heap[k]? =w.heap[k]? :=λi' jF k hk=>bo.block k (bP.lt k (cS.part jF k hk)) (cS.out i' k jF hk)
 have hf:=hs.fresh n (aaX _) (by omega)
 have e7:∀k,H.sub s k->bJ H ob [o] k:=λk hk=>⟨o,by simp,s,_,_,bW,hv,hk⟩
 obtain⟨B0,hB0,_⟩:=ta (w':=w') (H1:=H) (an.le.refl H) dW (hblk qq qD) (GL qq Ri qD)
 have main:∀{H1:an},H.le H1->∃B,(∀k,B k->Ss qq k)/\mg H1 F w' dr h' qq (q.lo.set lh[qq] u) x1 B:=λEc=>ta Ec dW (hblk qq qD) (GL qq Ri qD)
 have N5:∃B,(∀k,B k->Ss qq k)/\∀{H1:an},H.le H1->mg H1 F w' dr h' qq (q.lo.set lh[qq] u) x1 B:=by
  obtain⟨B,b1,b2⟩:=main (an.le.refl H);exact⟨B,b1,λEc=>b2.keep Ec (Step.refl F w') λ_ _=>rfl⟩
 obtain⟨B,b1,b2⟩:=N5;have WQ:∀k,oU (bh (Value.slice (some ⟨g,o0,acP⟩) m cap)) (λi=>if i=qq then B else Ss i) l.length k->H.sub s k:=cS.yl qq b1;refine jV.wv (t':= .deep T0 dr l' h') hs bW hv rfl (by simp) (oU (bh (Value.slice (some ⟨g,o0,acP⟩) m cap)) (λi=>if i=qq then B else Ss i) l.length) (λk hk=>e7 k (WQ k hk)) ⟨bo.os,bo.tape,bo.output,bo.size,λk hk hn=>bo.block k hk λe=>hn (e7 k (cS.bh k e))⟩ ?_ trivial;have Ec:=an.nW (H:=H) (S:=oU (bh (Value.slice (some ⟨g,o0,acP⟩) m cap)) (λi=>if i=qq then B else Ss i) l.length) (t:= .deep T0 dr l' h') hf.2
 have vc:l'.length=l.length:=by rw[Rg];simp
 refine⟨lh.set qq (q.lo.set lh[qq] u),(λi=>if i=qq then B else Ss i),eZ.2,by rw[vc];simpa using hlen,?_,?_⟩
 .intro i' a b
  have:=Jw (rel:=mg ((H.dn n (oU (bh (Value.slice (some ⟨g,o0,acP⟩) m cap)) (λi=>if i=qq then B else Ss i) l.length)).ba n (.deep T0 dr l' h')) F w' dr h') (lh:=lh) (l:=l) (Ss:=Ss) (j:=qq) (x':=q.lo.set lh[qq] u) (x:=x1) (B:=B)
   (λi2 c1 c2 cA=>Rh cA ((GL i2 c1 c2).keep Ec dW (hblk i2 c2))) (b2 Ec) i' a (by simpa[Rg]using b)
  simpa only[Rg]using this
 .rw[vc];exact cS.less qq b1
theorem AM(T:aM P){t:TypeId}{D V:aj}{x y:Operand}{k:c9->Option R}{q:R}(h:nX T ob n t D V k=some q)(hs:aq U H F w ob n)(hx:ah H F w D (ev ρ x))(hy:ah H F w V (ev ρ y)):
 ∃e,k e=some q/\bO P U H F w ρ ob n ⟨acP, .store t x y,ty,pos,aft,acP⟩ e:=by
 unfold nX at h;split at h
 .cases h
 rename_i rt Gz;split at h
 case h_2=>cases h
 rename_i agg u;split at h
 case h_2=>cases h
 rename_i o d0 i p off;split at h
 case h_2=>cases h
 rename_i s T0 dr l hh bW;obtain⟨hd,h'⟩:=aB h;clear h;obtain rfl:=DR.eq_of_beq hd;obtain⟨g,o0,qq,m,cap,e1,e2,e5⟩:=hx;obtain⟨cs,oN,u7⟩:=az.cells hy;split at h'
 .rename_i r u0 wo;obtain⟨h1,h2⟩:=aB h';obtain⟨h1,h3⟩:=bU h1;obtain rfl:=beq_true h1;split at h2
  case h_2=>cases h2
  rename_i z hz;obtain⟨a,ha,hk⟩:=bind_some h2;obtain⟨j,hj,qD,rfl⟩:=ei ha;refine⟨_,hk,oW (l':=bF l i (u0.hi.set l[j] z)) (x1:=u0.hi.set l[j] z) (u:=z) T Gz hs bW e1 hj qD e5 e2 (beq_true h3) (eT hs hz oN) u7 ?_ ?_ ?_⟩
  .unfold bF;rw[hj,aa3]
  .intro w' H1 hle dW x' S hb hr;exact⟨S,λ_ h=>h,Ea u0 z (hr.keep hle dW hb)⟩
  .intro H1 w' i' x' x S _ hr;exact hr
 .rename_i T' e' u0 wo;obtain⟨h1,h2⟩:=aB h';obtain⟨h1,h3⟩:=bU h1;obtain rfl:=beq_true h1;split at h2
  .rename_i o1;split at h2
   case h_2=>cases h2
   rename_i s1 t1 wz;split at h2
   case h_2=>cases h2
   rename_i y1 hD;split at h2
   case isFalse=>cases h2
   rename_i yo;obtain⟨a,ha,hk⟩:=bind_some h2;obtain⟨j,hj,qD,rfl⟩:=ei ha;obtain⟨u1,FE,mO⟩:=hs.obj _ _ _ wz;obtain⟨v,hv,kj,rfl⟩:=oN;rw[FE]at hv;obtain rfl:=aaT hv
   have Rj:bT F w .jS [u1] u1:=by
    have:=mO.ok;rw[AL hD]at this;obtain⟨WR,_,g1,_⟩:=sY this;obtain⟨xs,⟨_,hx⟩,_⟩:=g1
    rcases hx with⟨rfl,_⟩|⟨gg,o0,cp,cur,rfl,_⟩<;>exact⟨rfl,_,_,_,rfl⟩
   refine⟨_,hk,oW (l':=l) (x1:=l[j]) (u:=u1) (e:= .sl T' e') T Gz hs bW e1 hj qD e5 e2 (beq_true h3) Rj u7 ?_ ?_ ?_⟩
   .exact(List.set_getElem_self qD).symm
   .intro w' H1 hle dW x' S hb hr;obtain⟨B,b1,b2⟩:=yn yo wo hj hr;refine⟨B,b1,λcA=>absurd hj cA,λ_=>⟨T',e',u0,wo,(b2.keep dW λk hk=>hb k (b1 k hk)).GK u0 u1,?_⟩⟩;rw[Path.wu];exact hle.val _ _ FE
   .intro H1 w' i' x' x S cA hr
    have Ed:i≠(i':Int):=λe=>cA (by omega)
    exact⟨λ_=>tc yo Ed hr,λe=>absurd e Ed⟩
  .split at h2
   case isFalse=>cases h2
   rename_i yo;obtain⟨a,ha,hk⟩:=bind_some h2;obtain⟨j,hj,qD,rfl⟩:=ei ha;have Rk:cs=_:=oN;subst Rk;refine⟨_,hk,oW (x1:=u0.hi.set l[j] ([]:List e'.row.den)) (u:=Value.slice acP 0 0) (e:= .sl T' e') T Gz hs bW e1 hj qD e5 e2 (beq_true h3) ⟨rfl,_,_,_,rfl⟩ u7 ?_ ?_ ?_⟩
   .unfold bF;rw[hj,aa3]
   .intro w' H1 hle dW x' S hb hr;obtain⟨B,b1,b2⟩:=yn yo wo hj hr;refine⟨B,b1,?_⟩;refine jT.put (e:= .sl T' e') u0 (b2.keep dW λk hk=>hb k (b1 k hk)) (A:=λ_=>False) ?_ ⟨λk=>by simp,λ_ h=>h.elim⟩;exact⟨[],λ_ _=>False,jG.nil F w' T' e'.low,rfl,λi h=>absurd h (by simp),⟨λk=>by simp[bh,abu],λ_ _ _ h=>absurd h (by simp),λ_ _ h=>absurd h (by simp)⟩⟩
   .intro H1 w' i' x' x S cA hr
    have Ed:i≠(i':Int):=λe=>cA (by omega)
    exact tc yo Ed hr
  .cases h2
 .cases h'
end
end Go.Proofs.YtbladfbbhijpmaaGreat
namespace Go.Proofs.YtbladfbbhijpmaaGreat
open Go Go.RowKit
def qE{α:Type}(l:List α)(i:Int)(f:α->α):List α:=if 0<=i then l.modify i.toNat f else l
theorem jH{α:Type}(l:List α)(i:Int)(f:α->α):(qE l i f).length=l.length:=by unfold qE;split<;>simp
theorem wA{α:Type}{l:List α}{i:Int}{f:α->α}{j:Nat}(h:j<(qE l i f).length)(h':j<l.length):(qE l i f)[j]=if i=(j:Int)then f l[j]else l[j]:=by
 by_cases hi:0<=i
 .have e:qE l i f=l.modify i.toNat f:=by unfold qE;rw[acU hi]
  simp only[e,List.getElem_modify]
  by_cases K2:i=(j:Int)
  .rw[acU K2,acU (by omega)]
  .rw[acT K2,acT (by omega)]
 .have e:qE l i f=l:=by unfold qE;rw[acT hi]
  simp only[e];rw[acT (by omega)]
theorem Path.wB:{r s:Row}->(p:Path r s)->(x:r.den)->p.set x (p.get x)=x
 |_,_, .here,_=>rfl
 |_,_, .fst p,x=>by show(p.set x.1 (p.get x.1),x.2)=x;rw[Path.wB p]
 |_,_, .snd p,x=>by show(x.1,p.set x.2 (p.get x.2))=x;rw[Path.wB p]
section
variable {P:Program} {ρ:Nat->Value} {w w':World} {H H':an} {F F':Nat->Prop} {U:Nat->Prop} {ob:Nat->Option (Nat×Th)} {n:Nat} {R:Type}
variable {op:Op} {ty:TypeId} {pos:String} {aft:Array Edge} {d:Nat}
def GM(ob:Nat->Option (Nat×Th))(n o:Nat):Option c9:=
 match ob o with
 |some (_, .deep T0 dr l (some h))=>match dr.path h.p with
  |some ⟨.sl T' e',q⟩=>match ob h.o with
   |some (_,t1)=>bif aaY h.o o then acP else(match N4 T' e' t1 with
    |some y=>some {dst:= .dead,eat:=[o,h.o],make:=[(o,(n, .deep T0 dr (qE l h.i λx=>q.hi.set x y) acP))]}
    |none=>acP)
   |none=>acP
  |_=>acP
 |_=>acP
theorem Ee(hs:aq U H F w ob n){o:Nat}{e:c9}(h:GM ob n o=some e):kg H F w ob n e undef w:=by
 unfold GM at h;split at h
 case h_2=>cases h
 rename_i s T0 dr l hh bW;split at h
 case h_2=>cases h
 rename_i T' e' q hq;split at h
 case h_2=>cases h
 rename_i s1 t1 wz
 cases cA:aaY hh.o o with
 |true=>rw[cA]at h;cases h
 |false=>
  rw[cA,cond_false]at h
  have cA:o≠hh.o:=λe=>by rw[e]at cA;simp at cA
  split at h
  case h_2=>cases h
  rename_i y hD;obtain rfl:=aaT h;have hD:=AL hD;subst hD;obtain⟨v,hv,bP⟩:=hs.obj _ _ _ bW;obtain⟨u,hu,mO⟩:=hs.obj _ _ _ wz;obtain⟨lh,Ss,dm,hlen,ta,cS⟩:=hs.low bW hv;have hA:=sY mO.ok;generalize Vj:(λk=>fp (H.sub s1) u (D9 T' e' y) k)=A at hA
  have Ql:∀k,A k->¬H.sub s k:=λk hk=>by
   rw[<-Vj]at hk
   exact λh2=>hs.apart _ _ _ _ _ _ _ _ cA bW wz hv hu k h2 hk
  have hf:=hs.fresh n (aaX _) (by omega)
  let N6:Nat->Nat->Prop:=λi k=>Ss i k\/(hh.i=(i:Int)/\A k)
  have e7:∀k,H.sub s k\/A k->bJ H ob [o,hh.o] k:=by
   rintro k (hk|hk)
   .exact⟨o,by simp,s,_,v,bW,hv,hk⟩
   .rw[<-Vj]at hk;exact⟨hh.o,by simp,s1,_,u,wz,hu,hk⟩
  have hS:∀k,oU (bh v) N6 l.length k->H.sub s k\/A k:=by
   rintro k (hk|⟨i,hi,hk|hk⟩)
   .exact .inl (cS.bh k hk)
   .exact .inl (cS.part hi k hk)
   .exact .inr hk.2
  refine jV.wv (t':= .deep T0 dr (qE l hh.i λx=>q.hi.set x y) acP) hs bW hv rfl (by simp) (oU (bh v) N6 l.length) (λk hk=>e7 k (hS k hk)) ⟨rfl,⟨rfl,aaX _⟩,rfl,aaX _,λ_ _ _=>rfl⟩ ?_ trivial;have vc:(qE l hh.i λx=>q.hi.set x y).length=l.length:=jH ..;refine⟨lh,N6,dm.2,by rw[vc];exact hlen,λi a b=>?_,?_⟩
  .have b':i<l.length:=by omega
   rw[wA b b'];have hr:=ta i a b'
   by_cases hi:hh.i=(i:Int)
   .rw[acU hi];obtain⟨WL,WM,WN,k1,k2,k3⟩:=hr.2 hi;rw[hq]at k1;cases k1;rw[hu]at k3;have k3:=aaT k3;have:iq F w dr (q.lo.set lh[i] u) (q.hi.set l[i] y) (N6 i):=k2.put q hA ⟨λk=>⟨λhk=>hk.elim .inr λhk=> .inl hk.2,λhk=>hk.elim (λhk=> .inr ⟨hi,hk⟩) .inl⟩,λk hk h2=>Ql k hk (cS.part b' k h2)⟩;rw[k3,Path.wB]at this;exact this
   .rw[acT hi];have Rl:=hr.1 hi
    have:N6 i=Ss i:=by
     funext k;exact propext ⟨λhk=>hk.elim id λhk=>absurd hk.1 hi, .inl⟩
    rw[this];exact Rl
  .rw[vc];refine⟨λk=>Iff.rfl,λi j k h1 h2 K2 h3 h4=>?_,λi k h1 h3 h4=>?_⟩
   .rcases h3 with h3|h3<;>rcases h4 with h4|h4
    .exact cS.two i j k h1 h2 K2 h3 h4
    .exact Ql k h4.2 (cS.part h1 k h3)
    .exact Ql k h3.2 (cS.part h2 k h4)
    .have:=h3.1;have:=h4.1;omega
   .rcases h3 with h3|h3
    .exact cS.out i k h1 h3 h4
    .exact Ql k h3.2 (cS.bh k h4)
end
end Go.Proofs.YtbladfbbhijpmaaGreat
end
namespace Go.Proofs.YtbladfbbhijpmaaGreat
open Go Go.RowKit
set_option maxRecDepth 100000
set_option linter.unusedSimpArgs false
set_option linter.unusedVariables false
set_option linter.defProp false
section
theorem DR.dB:(d:DR)->d.low.dB=d.row.dB
 | .leaf _=>rfl
 | .sl _ _=>rfl
 | .pair a b=>by show a.low.dB++b.low.dB=a.row.dB++b.row.dB;rw[a.dB,b.dB]
theorem TI.low{P:Program}{e:TypeId}{d:DR}(h:TI P e d.row):TI P e d.low:=by
 obtain⟨ti,z,h1,h2,h3,h4,h5⟩:=h;exact⟨ti,z,h1,h2,by rw[d.dB];exact h3,by rw[d.size];exact h4,h5⟩
def AN:List Nat->Bool
 |[]=>acQ
 |o::l=> !l.any (aaY o)&&AN l
theorem vd:{l:List Nat}->AN l=acQ->l.Nodup
 |[],_=>List.nodup_nil
 |o::l,h=>by
  obtain⟨h1,h2⟩:=bU h;refine List.nodup_cons.2 ⟨λhm=>?_,vd h2⟩;rw[any_beq.2 hm]at h1;cases h1
def DR.WS:DR->DR->DR
 | .leaf a, .leaf b=> .leaf (.pair a b)
 |a,b=> .pair a b
def LN(ob:Nat->Option (Nat×Th)):Row->Tree->DR
 | .slice e, .own o=>match ob o with
   |some (_, .own T r _)=> .sl T (.leaf r)
   |some (_, .deep T d _ acP)=> .sl T d
   |_=> .leaf (.slice e)
 | .pair a b,t=>match t.split with
   |some (x,y)=>DR.WS (LN ob a x) (LN ob b y)
   |none=> .leaf (.pair a b)
 |r,_=> .leaf r
def AO(ob:Nat->Option (Nat×Th)):(d:DR)->Tree->Option (d.row.den×List Nat)
 | .leaf r,t=>match flat ob r t with
   |some x=>some (x,[])
   |none=>acP
 | .sl T e, .own o=>match ob o with
   |some (_,t1)=>match N4 T e t1 with
    |some y=>some (y,[o])
    |none=>acP
   |none=>acP
 | .sl _ _, .nil=>some ([],[])
 | .sl _ _,_=>acP
 | .pair a b,t=>match t.split with
   |some (x,y)=>match AO ob a x with
    |some (u,os)=>match AO ob b y with
     |some (v,Ef)=>some ((u,v),os++Ef)
     |none=>acP
    |none=>acP
   |none=>acP
def Ct(ob:Nat->Option (Nat×Th))(d:DR):List aj->Option (List d.row.den×List Nat)
 |[]=>some ([],[])
 | .val _ u::l=>match AO ob d u with
   |some (x,os)=>match Ct ob d l with
    |some (xs,Ef)=>some (x::xs,os++Ef)
    |none=>acP
   |none=>acP
 |_::_=>acP
section
variable {P:Program} {ρ:Nat->Value} {w w':World} {H H':an} {F F':Nat->Prop} {U:Nat->Prop} {ob:Nat->Option (Nat×Th)} {n:Nat} {R:Type}
variable {op:Op} {ty:TypeId} {pos:String} {aft:Array Edge} {d:Nat}
theorem rm(hs:aq U H F w ob n){os Ef:List Nat}(hd:∀o,o∈os->o∉Ef):∀k,bJ H ob os k->¬bJ H ob Ef k:=by
 rintro k ⟨o,ho,s,t,v,h1,h2,h3⟩ ⟨o',iY,s',t',v',g1,g2,g3⟩
 exact hs.apart o o' s s' t t' v v' (λe=>hd o ho (e▸iY)) h1 g1 h2 g2 k h3 g3
theorem nY{os Ef:List Nat}(h:∀o,o∈os->o∈Ef):∀k,bJ H ob os k->bJ H ob Ef k:=λ_ ⟨o,ho,rest⟩=>⟨o,h o ho,rest⟩
theorem wC(hs:aq U H F w ob n):{d:DR}->{t:Tree}->{x:d.row.den}->{os:List Nat}->{cs:List Value}->AO ob d t=some (x,os)->Holds H F w t cs->os.Nodup->∃x' S,bT F w d.low cs x'/\iq F w d x' x S/\∀k,S k->bJ H ob os k
 | .leaf r,t,x,os,cs,h,hh,AP=>by
   unfold AO at h
   split at h<;>cases h
   rename_i hf;exact⟨x,λ_=>False,eT hs hf hh,⟨rfl,λ_ h=>h⟩,λ_ h=>h.elim⟩
 | .sl T e, .own o,x,os,cs,h,hh,AP=>by
   unfold AO at h;split at h
   case h_2=>cases h
   rename_i s1 t1 ho
   split at h<;>cases h
   rename_i hD;obtain⟨v,hv,_,rfl⟩:=hh;obtain⟨v',da,bP⟩:=hs.obj _ _ _ ho;rw[hv]at da;obtain rfl:=aaT da;have hD:=AL hD;subst hD;have hb:=sY bP.ok;refine⟨v,_,?_,hb,λk hk=>⟨o,by simp,s1,_,v,ho,hv,hk⟩⟩;obtain⟨WR,_,⟨xs,⟨_,hx⟩,_⟩,_⟩:=hb
   rcases hx with⟨rfl,_⟩|⟨gg,o0,cp,cur,rfl,_⟩<;>exact⟨rfl,_,_,_,rfl⟩
 | .sl T e, .nil,x,os,cs,h,hh,_=>by
   cases h;have Qm:cs=_:=hh;subst Qm;exact⟨.slice acP 0 0,λ_=>False,⟨rfl,_,_,_,rfl⟩,⟨[],λ_ _=>False,jG.nil F w T e.low,rfl,λi h=>absurd h (by simp),⟨λk=>by simp[bh,abu],λ_ _ _ h=>absurd h (by simp),λ_ _ h=>absurd h (by simp)⟩⟩,λ_ h=>h.elim⟩
 | .pair a b,t,x,os,cs,h,hh,hn=>by
   unfold AO at h;split at h
   case h_2=>cases h
   rename_i t1 t2 uu;split at h
   case h_2=>cases h
   rename_i u WT h1;split at h
   case h_2=>cases h
   rename_i v WU h2;cases h;obtain⟨c1,c2,rfl,g1,g2,_⟩:=hh.split uu;obtain⟨n1,n2,n3⟩:=List.nodup_append.1 hn;obtain⟨x1,S1,r1,e1,s1⟩:=wC hs h1 g1 n1;obtain⟨x2,S2,r2,e2,s2⟩:=wC hs h2 g2 n2;refine⟨(x1,x2),λk=>S1 k\/S2 k,⟨c1,c2,rfl,r1,r2⟩,⟨S1,S2,e1,e2,λ_=>Iff.rfl,λk hk kh=>rm hs (λo ho iY=>n3 o ho o iY rfl) k (s1 k hk) (s2 k kh)⟩,λk hk=>hk.elim (λhk=>nY (λo ho=>by simp[ho]) k (s1 k hk)) λhk=>nY (λo ho=>by simp[ho]) k (s2 k hk)⟩
 | .sl _ _, .leaf _ _,_,_,_,h,_,_=>by cases h
 | .sl _ _, .pair _ _,_,_,_,h,_,_=>by cases h
 | .sl _ _, .view ..,_,_,_,h,_,_=>by cases h
theorem yp(hs:aq U H F w ob n){d:DR}:{ds:List aj}->{l:List d.row.den}->{os:List Nat}->{vs:List Value}->Ct ob d ds=some (l,os)->dP H F w ds vs->os.Nodup->
 ∃(lh:List d.low.den)(Ss:Nat->Nat->Prop),sE F w d.low vs lh/\lh.length=l.length/\(∀i(h1:i<lh.length)(h2:i<l.length),iq F w d lh[i] l[i] (Ss i))/\(∀i k,i<l.length->Ss i k->bJ H ob os k)/\∀i j k,i<l.length->j<l.length->i≠j->Ss i k->¬Ss j k
 |[],l,os,vs,h,hd,_=>by
  cases h;rw[show vs=[]from hd];exact⟨[],λ_ _=>False, .nil,rfl,λi h=>absurd h (by simp),λ_ _ h=>absurd h (by simp),λ_ _ _ h=>absurd h (by simp)⟩
 | .val _ u::ds,l,os,vs,h,hd,hn=>by
   obtain⟨v,us,rfl,h1,h2⟩:=hd;unfold Ct at h;split at h
   case h_2=>cases h
   rename_i x WT hf;split at h
   case h_2=>cases h
   rename_i xs WU hg;cases h;obtain⟨cs,oN,u7⟩:=az.cells h1;obtain⟨n1,n2,n3⟩:=List.nodup_append.1 hn;obtain⟨x',S,r1,e1,s1⟩:=wC hs hf oN n1;obtain⟨lh,Ss,k1,k2,k3,k4,k5⟩:=yp hs hg h2 n2
   have ap:∀i k,i<xs.length->S k->¬Ss i k:=λi k hi hk kh=>rm hs (λo ho iY=>n3 o ho o iY rfl) k (s1 k hk) (k4 i k hi kh)
   refine⟨x'::lh,λi=>match i with|0=>S|i+1=>Ss i, .cons u7 r1 k1,by simp[k2],λi a b=>?_,λi k hi hk=>?_,λi j k hi hj cA hk kh=>?_⟩
   .cases i with
    |zero=>exact e1
    |succ i=>exact k3 i (by simpa using a) (by simpa using b)
   .cases i with
    |zero=>exact nY (λo ho=>by simp[ho]) k (s1 k hk)
    |succ i=>exact nY (λo ho=>by simp[ho]) k (k4 i k (by simpa using hi) hk)
   .cases i with
    |zero=>
     cases j with
     |zero=>exact cA rfl
     |succ j=>exact ap j k (by simpa using hj) hk kh
    |succ i=>
     cases j with
     |zero=>exact ap i k (by simpa using hi) kh hk
     |succ j=>exact k5 i j k (by simpa using hi) (by simpa using hj) (λe=>cA (by rw[e])) hk kh
 | .dead::_,_,_,_,h,_,_=>by cases h
 | .undef::_,_,_,_,h,_,_=>by cases h
 | .ptr .. ::_,_,_,_,h,_,_=>by cases h
 | .at .. ::_,_,_,_,h,_,_=>by cases h
 | .elem .. ::_,_,_,_,h,_,_=>by cases h
 | .tup _::_,_,_,_,h,_,_=>by cases h
 | .dlm .. ::_,_,_,_,h,_,_=>by cases h
 | .fn .. ::_,_,_,_,h,_,_=>by cases h
 | .ifc .. ::_,_,_,_,h,_,_=>by cases h
theorem jV.Jy(hs:aq U H F w ob n){eat:List Nat}{t:Th}{v0:Value}{S:Nat->Prop}(hb:t.base=t)(h1:v0.oneCell'=acQ){D:aj}{v:Value}
 (bo:Ext (bJ H ob eat) w w')(kz:fB (((H.dn n S).ba n t).bX n v0) F w' S v0 t)(Gy:∀k,fp S v0 t k->¬F k/\k<w'.heap.size/\(w.heap.size<=k\/bJ H ob eat k))
 (hd:ah (((H.dn n S).ba n t).bX n v0) F w' D v):kg H F w ob n {dst:=D,eat:=eat,make:=[(n,(n,t))]} v w':=by
 have hf:=hs.fresh n (aaX _) (by omega)
 have eL:(((H.dn n S).ba n t).bX n v0).sub n=S:=by simp[an.bX,an.ba,an.dn]
 refine⟨((H.dn n S).ba n t).bX n v0,F,⟨(an.nW hf.2).trans (an.nQ (by simp[an.ba,an.dn,hf.1])),bo,λ_ h=>h,λ_ h=> .inl h,λb hb=>abt (hs.lt b hb) bo.size⟩,λm hm=>?_,hd,⟨λo' s' q hq=>?_,λo1 o2 s1 s2 q1 q2 u1 u2 cA h1 h2=>?_⟩,λo' h=>?_⟩
 .simp[an.ba,an.bX,an.dn,show m≠n from by omega]
 .obtain⟨rfl,e⟩:=bG hq;obtain⟨rfl,rfl⟩:=acq e;exact⟨v0,by simp[an.bX],h1,by simp[an.ba,an.bX,hb],by rw[eL];exact kz,by rw[eL];exact Gy⟩
 .exact absurd ((bG h1).1.trans (bG h2).1.symm) cA
 .right
  obtain⟨y,hy⟩:=abB.1 h;rw[(bG hy).1];exact aaX _
def wD(ob:Nat->Option (Nat×Th))(r:Row):List aj->DR
 | .val _ u::_=>LN ob r u
 |_=> .leaf r
def na(e:TypeId)(dr:DR)(ob:Nat->Option (Nat×Th))(n:Nat)(ds:List aj)(k:c9->Option R):Option R:=
 match Ct ob dr ds with
 |some (l,os)=>bif AN os then k {dst:= .val acR (.own n),eat:=os,make:=[(n,(n,D9 e dr l))]}else acP
 |none=>acP
def nZ(T:aM P)(rd:Operand->Option aj)(ob:Nat->Option (Nat×Th))(n:Nat)(t:TypeId)(m:Nat)(parts:Array (Nat×Operand))(k:c9->Option R):Option R:=
 match find T.und t with
 |some (.slice e)=>match find T.row e with
  |some r=>bif Ck 0 parts.toList&&aaY m parts.toList.length&&Nat.ble (m*r.size) 16777216 then
    (match pE rd (parts.toList.map (·.2))with
    |some ds=>bif (wD ob r ds).row.beq r then na e (wD ob r ds) ob n ds k else acP
    |none=>acP)else acP
  |none=>acP
 |_=>acP
theorem AQ(T:aM P){rd:Operand->Option aj}(dG:∀x d,rd x=some d->ah H F w d (ev ρ x)){t:TypeId}{m:Nat}{parts:Array (Nat×Operand)}{k:c9->Option R}{q:R}(h:nZ T rd ob n t m parts k=some q)(hs:aq U H F w ob n):
 ∃e,k e=some q/\bO P U H F w ρ ob n ⟨some d, .buildSlice t m parts,ty,pos,aft,acP⟩ e:=by
 unfold nZ at h;split at h
 case h_2=>cases h
 rename_i e hu;split at h
 case h_2=>cases h
 rename_i r hr;obtain⟨c0,h8⟩:=aB h;clear h;obtain⟨c1,c3⟩:=bU c0;obtain⟨h1,c2⟩:=bU c1;have h2:=beq_true c2
 have h3:m*r.size<=16777216:=by simpa using c3
 clear c0 c1 c2 c3;split at h8
 case h_2=>cases h8
 rename_i ds sd;obtain⟨N7,h⟩:=aB h8;clear h8;have jS:=Row.eq_of_beq N7;clear N7
 obtain⟨dr,Ni⟩:∃dr,dr=wD ob r ds:=⟨_,rfl⟩
 rw[<-Ni]at h jS;clear Ni;subst jS;unfold na at h;split at h
 case h_2=>cases h
 rename_i l os hl;obtain⟨hn,hk⟩:=aB h;clear h;obtain⟨lh,Ss,k1,k2,k3,k4,k5⟩:=yp hs hl (lG dG sd) (vd hn)
 have hp:parts=(((parts.toList.map (·.2)).zipIdx).map λp=>(p.2,p.1)).toArray:=by
  rw[<-sQ h1,abE]
 have hm:m=(parts.toList.map (·.2)).length:=by simpa using h2
 obtain⟨v,w',bq,bo,dm,sN⟩:=sP (d:=d) (ty:=ty) (pos:=pos) (aft:=aft) (T.und_ok _ _ hu) (TI.low (T.row_ok _ _ hr)) hp (by rw[<-hm,DR.size];exact h3) k1 hs;rw[<-hm]at bq;refine⟨_,hk,bH.val bq ?_⟩
 have ag:∀i k,i<l.length->Ss i k->k<w.heap.size:=λi k hi hk=>hs.sG k (k4 i k hi hk)
 have dW:Step F w F w':=λb hb=>⟨hb,(bo λ_=>False).block b (hs.lt b hb) λh=>h⟩
 have cS:lB Ss l.length (bh v) (oU (bh v) Ss l.length):=⟨λ_=>Iff.rfl,k5,λi k hi hk hm=>by have:=ag i k hi hk;have:=sN k hm;omega⟩
 have rK:iq F w' (.sl e dr) v l (oU (bh v) Ss l.length):=⟨lh,Ss,dm.2,k2,λi a b=>(k3 i a b).keep dW λk hk=>(bo λ_=>False).block k (ag i k b hk) λh=>h,cS⟩
 have Gy:∀k,oU (bh v) Ss l.length k->¬F k/\k<w'.heap.size/\(w.heap.size<=k\/bJ H ob os k):=by
  rintro k (hk|⟨i,hi,hk⟩)
  .exact⟨dm.1 k hk,dm.lt k hk, .inl (sN k hk)⟩
  .have:=k4 i k hi hk;exact⟨hs.dC k this,abt (hs.sG k this) (bo λ_=>False).size, .inr this⟩
 refine jV.Jy (S:=oU (bh v) Ss l.length) (v0:=v) hs (sX ..) (nR dm) (bo _) (qA rK).1 (λk hk=>Gy k ((qA (H:=H) rK).2.1 k hk)) (k0 (by simp[an.bX]) (nR dm))
def wE(T:aM P)(n:Nat)(t:TypeId)(same:Bool)(a b:Int)(k:c9->Option R):Option R:=
 match find T.und t with
 |some (.slice e)=>match find T.row e with
  |some (.slice r)=>match find T.und e with
   |some (.slice e')=>(bif same then uU a ([]:List r.den)else Qh a b ([]:List r.den)).bind λl=>k {dst:= .val acR (.own n),make:=[(n,(n, .deep e (.sl e' (.leaf r)) l acP))]}
   |_=>acP
  |_=>sO T n t same a b k
 |_=>acP
theorem ve{e e' t:TypeId}{r:Row}{a b:Int}(ht:P.underlying t=some (.slice e))(uY:TI P e (.slice r))(hs:aq U H F w ob n){ka kb:IntKind}{x y:Operand}(hx:ev ρ x= .int ka a)(hy:ev ρ y= .int kb b)(h0:0<=a)(h1:a<=b)(h2:b<=4294967296):
 bO P U H F w ρ ob n ⟨some d, .makeSlice t x y,ty,pos,aft,acP⟩ {dst:= .val acR (.own n),make:=[(n,(n, .deep e (.sl e' (.leaf r)) (abn a.toNat ([]:List r.den)) acP))]}:=by
 obtain⟨v,w',bq,bo,dm,sN⟩:=u9 (d:=d) (ty:=ty) (pos:=pos) (aft:=aft) (r:= .jS) ht (TI.low (d:= .sl e' (.leaf r)) uY) hs hx hy h0 h1 h2
 have rK:iq F w' (.sl e (.sl e' (.leaf r))) v (abn a.toNat ([]:List r.den)) (bh v):=by
  refine⟨abn a.toNat (Value.slice acP 0 0),λ_ _=>False,dm.2,by simp,λi h1 h2=>?_,⟨λk=>by simp,λ_ _ _ _ _ _ h=>h.elim,λ_ _ _ h=>h.elim⟩⟩;simp only[List.getElem_replicate];exact⟨[],λ_ _=>False,jG.nil F w' e' r,rfl,λi h=>absurd h (by simp),⟨λk=>by simp[bh,abu],λ_ _ _ h=>absurd h (by simp),λ_ _ h=>absurd h (by simp)⟩⟩
 refine bH.val bq (jV.Jy (S:=bh v) (v0:=v) (eat:=[]) (t:=D9 e (.sl e' (.leaf r)) (abn a.toNat ([]:List r.den))) hs (sX ..) (nR dm) (bo _) (qA rK).1 (λk hk=>?_) (k0 (by simp[an.bX]) (nR dm)));have hk:=(qA (H:=H) rK).2.1 k hk;exact⟨dm.1 k hk,dm.lt k hk, .inl (sN k hk)⟩
theorem Eg(T:aM P){t:TypeId}{a b:Int}{ka kb:IntKind}{x y:Operand}{k:c9->Option R}{q:R}(h:wE T n t (mY x y) a b k=some q)(hs:aq U H F w ob n)(hx:ev ρ x= .int ka a)(hy:ev ρ y= .int kb b):
 ∃e,k e=some q/\bO P U H F w ρ ob n ⟨some d, .makeSlice t x y,ty,pos,aft,acP⟩ e:=by
 unfold wE at h;split at h
 case h_2=>cases h
 rename_i e hu;split at h
 case h_2=>exact xZ T h hs hx hy
 rename_i r hr;split at h
 case h_2=>cases h
 rename_i e' Cs;obtain⟨l,hl,hk⟩:=bind_some h;have uY:=T.row_ok _ _ hr;have ht:=T.und_ok _ _ hu
 cases mS:mY x y with
 |true=>
  rw[mS,cond_true]at hl;unfold uU at hl;split at hl
  case isFalse=>cases hl
  rename_i hc;obtain rfl:=aaT hl;obtain rfl:=va mS hx hy;exact⟨_,hk,ve ht uY hs hx hy hc.1 (Int.le_refl _) hc.2⟩
 |false=>
  rw[mS,cond_false]at hl;unfold Qh at hl;split at hl
  case isFalse=>cases hl
  rename_i hc;obtain rfl:=aaT hl;exact⟨_,hk,ve ht uY hs hx hy hc.1 hc.2.1 hc.2.2⟩
def td(deep:Bool)(T:aM P)(n:Nat)(t:TypeId)(same:Bool)(a b:Int)(k:c9->Option R):Option R:=
 match deep with
 |true=>wE T n t same a b k
 |false=>sO T n t same a b k
theorem Eh(deep:Bool)(T:aM P){t:TypeId}{a b:Int}{ka kb:IntKind}{x y:Operand}{k:c9->Option R}{q:R}(h:td deep T n t (mY x y) a b k=some q)(hs:aq U H F w ob n)(hx:ev ρ x= .int ka a)(hy:ev ρ y= .int kb b):
 ∃e,k e=some q/\bO P U H F w ρ ob n ⟨some d, .makeSlice t x y,ty,pos,aft,acP⟩ e:=by
 cases deep with
 |true=>exact Eg T h hs hx hy
 |false=>exact xZ T h hs hx hy
def nc(T:aM P)(ob:Nat->Option (Nat×Th))(n:Nat)(t:TypeId)(D:aj)(k:c9->Option R):Option R:=
 match D with
 | .dlm .. =>oV T ob n t D k
 |_=>uZ T ob t D k
theorem Ei(T:aM P){t:TypeId}{D:aj}{x:Operand}{k:c9->Option R}{q:R}(h:nc T ob n t D k=some q)(hs:aq U H F w ob n)(hx:ah H F w D (ev ρ x)):
 ∃e,k e=some q/\bO P U H F w ρ ob n ⟨some d, .load t x,ty,pos,aft,acP⟩ e:=by
 unfold nc at h;split at h
 .exact Eb T h hs hx
 .exact Gx T h hs hx
noncomputable def n4(T:aM P)(ob:Nat->Option (Nat×Th))(n:Nat)(t:TypeId)(D V:aj)(k:c9->Option R):Option R:=
 match D with
 | .dlm .. =>nX T ob n t D V k
 |_=>qp T ob n t D V k
theorem AR(T:aM P){t:TypeId}{D V:aj}{x y:Operand}{k:c9->Option R}{q:R}(h:n4 T ob n t D V k=some q)(hs:aq U H F w ob n)(hx:ah H F w D (ev ρ x))(hy:ah H F w V (ev ρ y)):
 ∃e,k e=some q/\bO P U H F w ρ ob n ⟨acP, .store t x y,ty,pos,aft,acP⟩ e:=by
 unfold n4 at h;split at h
 .exact AM T h hs hx hy
 .exact DW T h hs hx hy
def sj(deep:Bool)(T:aM P)(rd:Operand->Option aj)(ob:Nat->Option (Nat×Th))(n:Nat)(t:TypeId)(m:Nat)(parts:Array (Nat×Operand))(k:c9->Option R):Option R:=
 match deep with
 |true=>nZ T rd ob n t m parts k
 |false=>ic T rd ob n t m parts k
theorem AS(deep:Bool)(T:aM P){rd:Operand->Option aj}(dG:∀x d,rd x=some d->ah H F w d (ev ρ x)){t:TypeId}{m:Nat}{parts:Array (Nat×Operand)}{k:c9->Option R}{q:R}(h:sj deep T rd ob n t m parts k=some q)(hs:aq U H F w ob n):
 ∃e,k e=some q/\bO P U H F w ρ ob n ⟨some d, .buildSlice t m parts,ty,pos,aft,acP⟩ e:=by
 cases deep with
 |true=>exact AQ T dG h hs
 |false=>exact sR T dG h hs
end
end
section
open Go Go.RowKit Go.MapKept
def GN:(K:Row)->K.den->K.den->Bool
 | .int _,a,b=>decide ((a:Int)<b)
 | .pair (.int _) (.int _),a,b=>decide ((a.1:Int)<b.1\/((a.1:Int)=b.1/\(a.2:Int)<b.2))
 |_,_,_=>acR
def yq{α:Type}(K:Row):List (K.den×α)->K.den->α->List (K.den×α)
 |[],k,v=>[(k,v)]
 |p::l,k,v=>if GN K k p.1=acQ then(k,v)::p::l else p::yq K l k v
noncomputable def ow{α:Type}(K:Row)(l:List (K.den×α))(k:K.den)(v:α):List (K.den×α):=yq K (l.filter λp=> !b9 K p.1 k) k v
theorem n5{α:Type}{K:Row}(k:K.den)(v:α):(l:List (K.den×α))->(yq K l k v).Perm ((k,v)::l)
 |[]=> .refl _
 |p::l=>by
  unfold yq;split
  .exact .refl _
  .exact((n5 k v l).cons p).trans (.swap ..)
theorem lK{K:Row}{a b:K.den}(h:b9 K a b=acQ):a=b:=by
 unfold b9 at h;split at h
 .exact acV h
 .exact acV h
 .exact acV h
 .exact Prod.ext (acV h).1 (acV h).2
 .cases h
theorem oX{K:Row}{a b:K.den}(h:b9 K a b=acR):b9 K b a=acR:=by
 cases hc:b9 K b a with
 |false=>rfl
 |true=>
  obtain rfl:=lK hc;rw[hc]at h;cases h
def wF{α:Type}(K:Row)(l:List (K.den×α)):Prop:=l.Pairwise λp q=>b9 K p.1 q.1=acR
theorem wF.perm{α:Type}{K:Row}{l l':List (K.den×α)}(h:l'.Perm l)(hd:wF K l):wF K l':=(h.pairwise_iff λ{a b}=>oX).2 hd
theorem AT{α:Type}{K:Row}{x:K.den}{l l':List (K.den×α)}(h:l'.Perm l):wF K l'->bn K l' x=bn K l x:=by
 induction h with
 |nil=>intro _;rfl
 |cons p _ ih=>
  intro hd;unfold bn;rw[ih (abr.1 hd).2]
 |swap p q l=>
  intro hd;have KZ:=(abr.1 hd).1 p (by simp)
  show(if b9 K q.1 x=acQ then some q.2 else if b9 K p.1 x=acQ then some p.2 else bn K l x)=if b9 K p.1 x=acQ then some p.2 else if b9 K q.1 x=acQ then some q.2 else bn K l x
  by_cases h1:b9 K q.1 x=acQ
  .by_cases h2:b9 K p.1 x=acQ
   .have e1:=lK h1;have e2:=lK h2;rw[e1,e2]at KZ;rw[e1,KZ]at h1;cases h1
   .rw[acU h1,acT h2,acU h1]
  .rw[acT h1];by_cases h2:b9 K p.1 x=acQ
   .rw[acU h2,acU h2]
   .rw[acT h2,acT h2,acT h1]
 |trans h1 h2 ih1 ih2=>intro hd;exact(ih1 hd).trans (ih2 (hd.perm h1.symm))
section
variable {P:Program} {ρ:Nat->Value} {w w':World} {H H':an} {F F':Nat->Prop} {U:Nat->Prop} {ob:Nat->Option (Nat×Th)} {n:Nat} {R:Type}
variable {op:Op} {ty:TypeId} {pos:String} {aft:Array Edge} {d:Nat}
theorem pJ{K:Row}{agg:Bool}{V:Row}:{es:List MapEntry}->{l:List (K.den×V.den)}->eh H F w K agg V es l->∀q∈l,∃e∈es,il K q.1=some e.key/\az H F w agg (.leaf V q.2) e.val
 |[],l,h=>by obtain rfl:l=[]:=h;exact λq hq=>by cases hq
 |e::es,_,h=>by
  obtain⟨k,x,l',rfl,h1,h2,h3⟩:=h;intro q hq
  rcases aa7.1 hq with rfl|hq
  .exact⟨e,by simp,h1,h2⟩
  .obtain⟨e',he',g⟩:=pJ h3 q hq;exact⟨e',by simp[he'],g⟩
theorem lL{K:Row}{agg:Bool}{V:Row}:{es:List MapEntry}->{l:List (K.den×V.den)}->eh H F w K agg V es l->∀e∈es,∃q∈l,il K q.1=some e.key/\az H F w agg (.leaf V q.2) e.val
 |[],_,_=>λe he=>by cases he
 |e::es,_,h=>by
  obtain⟨k,x,l',rfl,h1,h2,h3⟩:=h;intro e' he
  rcases aa7.1 he with rfl|he
  .exact⟨(k,x),by simp,h1,h2⟩
  .obtain⟨q,hq,g⟩:=lL h3 e' he;exact⟨q,by simp[hq],g⟩
theorem n9{K:Row}{agg:Bool}{V:Row}:{es:List MapEntry}->{l:List (K.den×V.den)}->eh H F w K agg V es l->(es.map (·.key)).Nodup->wF K l
 |[],l,h,_=>by obtain rfl:l=[]:=h;exact .nil
 |e::es,_,h,hn=>by
  obtain⟨k,x,l',rfl,h1,h2,h3⟩:=h;obtain⟨n1,n2⟩:=List.nodup_cons.1 hn;refine abr.2 ⟨λq hq=>?_,n9 h3 n2⟩;obtain⟨e',he',g,_⟩:=pJ h3 q hq
  cases hc:b9 K k q.1 with
  |false=>rfl
  |true=>
   have:=(fV h1 g).1 hc;exact absurd (List.mem_map.2 ⟨e',he',this.symm⟩) n1
theorem vf{K:Row}{agg:Bool}{V:Row}{e:MapEntry}:{es:List MapEntry}->{l:List (K.den×V.den)}->eh H F w K agg V es l->(es.map (·.born)).Nodup->e∈es->
 ∃p l2,il K p.1=some e.key/\az H F w agg (.leaf V p.2) e.val/\eh H F w K agg V (es.filter λx=> !(x.born==e.born)) l2/\l.Perm (p::l2)
 |[],_,_,_,he=>by cases he
 |e'::es,_,h,hn,he=>by
  obtain⟨k,x,l',rfl,h1,h2,h3⟩:=h;obtain⟨n1,n2⟩:=List.nodup_cons.1 hn;by_cases hb:e'.born=e.born
  .have cA:e∉es:=λh=>n1 (List.mem_map.2 ⟨e,h,hb.symm⟩)
   obtain rfl:e=e':=(aa7.1 he).resolve_right cA;rw[List.filter_cons_of_neg (by simp)]
   have dF:es.filter (λx=> !(x.born==e.born))=es:=acy.2 λy hy=>by
    have:y.born≠e.born:=λg=>n1 (List.mem_map.2 ⟨y,hy,g⟩)
    simpa using this
   rw[dF];exact⟨(k,x),l',h1,h2,h3, .refl _⟩
  .have he':e∈es:=(aa7.1 he).resolve_left λg=>hb (by rw[g])
   obtain⟨p,l2,g1,g2,g3,g4⟩:=vf h3 n2 he';rw[List.filter_cons_of_pos (by simpa using hb)];exact⟨p,(k,x)::l2,g1,g2,⟨k,x,l2,rfl,h1,h2,g3⟩,(g4.cons _).trans (.swap ..)⟩
def Rm(P:Program)(t:TypeId):Prop:=∀(em:Bool)(a b:Value)(w:World),(Instr.checkKey em 10000 t (.agg #[a,b])).run P w= .ok () w
def Ej(T:aM P)(kt:TypeId):Row->Bool
 | .pair (.int j) (.int k)=>match find T.eqs kt with
   |some r=>r.beq (.pair (.int j) (.int k))&&T.kys.any (aaY kt)
   |none=>acR
 |_=>acR
structure LO(P:Program)(kt:TypeId)(K:Row):Prop where
 N8:∀em x v(w:World),il K x=some v->(Instr.checkKey em 10000 kt v).run P w= .ok () w
 find:∀x v(w:World)(es:List MapEntry),il K x=some v->(∀e∈es,∃k,il K k=some e.key)->
  ((Instr.findKey kt v es).run P w= .ok acP w/\∀e∈es,e.key≠v)\/∃j e,(Instr.findKey kt v es).run P w= .ok (some (j,e.val)) w/\es[j]? =some e/\e.key=v
 stays:∀x v(w:World),il K x=some v->(Instr.keyThatStays v v).run P w= .ok v w
 P9:∀(F:Nat->Prop)(w:World)cs x,bT F w K cs x->il K x=some (.agg cs.toArray)
theorem Cu(T:aM P){kt:TypeId}{K:Row}(h:Ej T kt K=acQ):LO P kt K:=by
 unfold Ej at h;split at h
 case h_2=>cases h
 rename_i j k;split at h
 case h_2=>cases h
 rename_i r he;obtain⟨h1,h2⟩:=bU h;obtain rfl:=Row.eq_of_beq h1;obtain⟨KK,dd,hE,hd,_,hD⟩:=T.eqs_ok _ _ he;have WV:Rm P kt:=T.kys_ok _ (any_beq.1 h2)
 have P9:∀(F:Nat->Prop)(w:World)cs(x:Int×Int),bT F w (.pair (.int j) (.int k)) cs x->cs=[.int j x.1, .int k x.2]:=by
  rintro F w cs x ⟨c1,c2,rfl,g1,g2⟩
  rw[show c1=_ from g1,show c2=_ from g2];rfl
 have mk:∀(x:Int×Int)(w:World),bT (λ_=>True) w (.pair (.int j) (.int k)) [.int j x.1, .int k x.2] x:=λx w=>⟨[_],[_],rfl,rfl,rfl⟩
 cases hu:P.underlying kt with
 |none=>rw[hu]at hD;cases hD
 |some D=>
  have hA:gW D=acQ:=by rw[hu]at hD;exact hD
  have rl:∀(x y:Int×Int)(w:World),(Op.equal kt (.agg #[.int j x.1, .int k x.2]) (.agg #[.int j y.1, .int k y.2])).run P w= .ok (decide (x=y)) w:=λx y w=>by
   have:=hE dd w w (λ_=>True) _ _ x y (.agg #[.int j x.1, .int k x.2]) (.agg #[.int j y.1, .int k y.2]) ⟨D,hu,by rw[acU hA]⟩ ⟨D,hu,by rw[acU hA]⟩ (mk x w) (mk y w);rw[hd]at this;unfold Op.equal;rw[show Op.maxDepth=10000 from rfl,this]
  have N9:∀(x:Int×Int)(e:MapEntry)(es:List MapEntry)i,abV D (.agg #[.int j x.1, .int k x.2]) (e::es) i=acP:=λx e es i=>by
   unfold abV Instr.sameNow
   cases D<;>first|rfl|cases hA
  have ask:∀(x:Int×Int)(w:World)(es:List MapEntry)(i:Nat),(∀e∈es,∃y:Int×Int,e.key= .agg #[.int j y.1, .int k y.2])->
   ((acK kt (.agg #[.int j x.1, .int k x.2]) es i).run P w= .ok acP w/\∀e∈es,e.key≠ .agg #[.int j x.1, .int k x.2])\/∃q e,(acK kt (.agg #[.int j x.1, .int k x.2]) es i).run P w= .ok (some (i+q,e.val)) w/\es[q]? =some e/\e.key= .agg #[.int j x.1, .int k x.2]:=by
   intro x w es
   induction es with
   |nil=>intro i _;exact .inl ⟨rfl,λe he=>by cases he⟩
   |cons e es ih=>
    intro i Nj;obtain⟨y,hy⟩:=Nj e (by simp);by_cases oP:x=y
    .subst oP;refine .inr ⟨0,e,?_,rfl,hy⟩;unfold acK;rw[hy];simp[rl,abc]
    .rcases ih (i+1) (λe' he'=>Nj e' (by simp[he']))with⟨g1,g2⟩|⟨q,e',g1,g2,g3⟩
     .refine .inl ⟨?_,λe' he'=>?_⟩
      .unfold acK;rw[hy];simp[rl,oP,g1,abc]
      .rcases aa7.1 he' with rfl|he'
       .rw[hy];intro g;simp at g;exact oP (Prod.ext g.1.symm g.2.symm)
       .exact g2 e' he'
     .refine .inr ⟨q+1,e',?_,by simpa using g2,g3⟩;unfold acK;rw[hy];simp[rl,oP,g1,abc,Nat.add_assoc,Nat.add_comm 1]
  refine⟨λem x v w hv=>?_,λx v w es hv Nj=>?_,λx v w hv=>?_,λF w cs x hr=>?_⟩
  .obtain rfl:=aaT hv;exact WV em _ _ w
  .obtain rfl:=aaT hv
   have Rn:∀e∈es,∃y:Int×Int,e.key= .agg #[.int j y.1, .int k y.2]:=λe he=>by
    obtain⟨y,hy⟩:=Nj e he;exact⟨y,(aaT hy).symm⟩
   unfold Instr.findKey
   cases es with
   |nil=>exact .inl ⟨by simp[run_underlying hu,abV,abc],λe he=>by cases he⟩
   |cons e es=>
    rcases ask x w (e::es) 0 Rn with⟨g1,g2⟩|⟨q,e',g1,g2,g3⟩
    .exact .inl ⟨by simp[run_underlying hu,N9,g1,abc],g2⟩
    .exact .inr ⟨q,e',by simp[run_underlying hu,N9,g1,abc],g2,g3⟩
  .obtain rfl:=aaT hv;unfold Instr.keyThatStays;simp[Instr.sameBits]
  .rw[P9 F w cs x hr];rfl
structure Vk where
 o:Nat
 s:Nat
 T:TypeId
 K:Row
 agg:Bool
 V:Row
 l:List (K.den×V.den)
 it:Option (Nat×List (K.den×V.den)×Option (K.den×V.den))
def tf(ob:Nat->Option (Nat×Th)):aj->Option Vk
 | .val acR (.own o)=>match ob o with
   |some (s, .smap T K agg V l it)=>some ⟨o,s,T,K,agg,V,l,it⟩
   |_=>acP
 |_=>acP
theorem qF(hs:aq U H F w ob n){D:aj}{m:Vk}{v:Value}(h:tf ob D=some m)(hd:ah H F w D v):ob m.o=some (m.s, .smap m.T m.K m.agg m.V m.l m.it)/\H.val m.o=some v/\fB H F w (H.sub m.s) v (.smap m.T m.K m.agg m.V m.l m.it):=by
 unfold tf at h;split at h
 .rename_i o;split at h
  .rename_i s T K agg V l it bW;obtain rfl:=aaT h;obtain⟨cs,⟨u,hu,_,e⟩,_,h3⟩:=hd;rw[h3 rfl]at e
   obtain rfl:v=u:=by simpa using e
   obtain⟨v',da,bP⟩:=hs.obj _ _ _ bW;rw[hu]at da;obtain rfl:=aaT da;exact⟨bW,hu,bP.ok⟩
  .cases h
 .cases h
noncomputable def wG(ob:Nat->Option (Nat×Th))(K:Row):aj->Option K.den
 | .val acQ t=>flat ob K t
 |_=>acP
theorem vg(hs:aq U H F w ob n){kt:TypeId}{K:Row}{D:aj}{x:K.den}{v:Value}(hK:LO P kt K)(h:wG ob K D=some x)(hd:ah H F w D v):il K x=some v:=by
 unfold wG at h;split at h
 .obtain⟨cs,h1,h2,_⟩:=hd;rw[h2];exact hK.P9 F w cs x (eT hs h h1)
 .cases h
def kA(_:Bool)(T:aM P)(n:Nat)(t:TypeId)(k:c9->Option R):Option R:=
 match find T.und t with
 |some (.map kt vt)=>match find T.row kt with
  |some K=>bif Ej T kt K then(match find T.row vt with
   |some V=>match find T.und vt with
    |some kk=>k {dst:= .val acR (.own n),make:=[(n,(n, .smap t K (ir kk) V [] acP))]}
    |none=>acP
   |none=>acP)else lI T n t k
  |none=>acP
 |_=>acP
theorem wH(b:Bool)(T:aM P){t:TypeId}{k:c9->Option R}{q:R}(h:kA b T n t k=some q)(hs:aq U H F w ob n):
 ∃e,k e=some q/\bO P U H F w ρ ob n ⟨some d, .makeMap t acP,ty,pos,aft,acP⟩ e:=by
 unfold kA at h;split at h
 case h_2=>cases h
 split at h
 case h_2=>cases h
 rename_i K _
 cases hc:Ej T _ K with
 |false=>rw[hc,cond_false]at h;exact yh T h hs
 |true=>
  rw[hc,cond_true]at h;split at h
  case h_2=>cases h
  rename_i V _;split at h
  case h_2=>cases h
  rename_i kk _
  have bq:(execOp (ev ρ) ⟨some d, .makeMap t acP,ty,pos,aft,acP⟩).run P w= .ok (.value (.map (some w.heap.size))) (w.alloc (.map #[] 0)):=by
   simp[execOp,Instr.makeMap,abc]
  refine⟨_,h,bH.val bq ?_⟩
  have hv:(((H.dn n (is w.heap.size)).ba n (.smap t K (ir kk) V [] acP)).bX n (.map (some w.heap.size))).val n=some (.map (some w.heap.size)):=by simp[an.bX]
  refine jV.Jy (v0:= .map (some w.heap.size)) (S:=is w.heap.size) hs rfl rfl (lF _) ⟨_, #[],0,[],rfl,rfl,(heap_alloc w _).1,stamped_empty 0,rfl, .refl _,trivial⟩ (λk hk=>?_) (k0 hv rfl);have hk:k=w.heap.size:=hk;subst hk;exact⟨λe=>by have:=hs.lt _ e;omega,by simp, .inl (aaX _)⟩
theorem pK{LK kt et:TypeId}{K:Row}{b clock:Nat}{es:Array MapEntry}{x:K.den}{key val:Value}(hm:P.underlying LK=some (.map kt et))(hK:LO P kt K)(hx:il K x=some key)(hb:w.heap[b]? =some (.map es clock))(Nj:∀e∈es.toList,∃k,il K k=some e.key):
 ((acd LK (.map (some b)) key val).run P w= .ok () {w with heap:=w.heap.setIfInBounds b (.map (es.push {key,val,born:=clock}) (clock+1))}/\∀e∈es.toList,e.key≠key)\/
 ∃j e,es.toList[j]? =some e/\e.key=key/\(acd LK (.map (some b)) key val).run P w= .ok () {w with heap:=w.heap.setIfInBounds b (.map (es.modify j λe=>{e with key,val}) clock)}:=by
 rcases hK.find x key w es.toList hx Nj with⟨h1,h2⟩|⟨j,e,h1,h2,h3⟩
 .exact .inl ⟨by simp[acd,run_underlying hm,abL hb,hK.N8 _ _ _ _ hx,h1,acj _ hb,abc],h2⟩
 .refine .inr ⟨j,e,h2,h3,?_⟩
  have hj:es[j]? =some e:=by simpa using h2
  simp[acd,run_underlying hm,abL hb,hK.N8 _ _ _ _ hx,h1,hj,h3,hK.stays _ _ _ hx,acj _ hb,abc]
theorem vh{K:Row}{agg:Bool}{V:Row}{e:MapEntry}{x:K.den}{y:V.den}(hk:il K x=some e.key)(hv:az H F w agg (.leaf V y) e.val):{es:List MapEntry}->{l:List (K.den×V.den)}->eh H F w K agg V es l->eh H F w K agg V (es++[e]) (l++[(x,y)])
 |[],l,h=>by obtain rfl:l=[]:=h;exact⟨x,y,[],rfl,hk,hv,rfl⟩
 |e'::es,_,h=>by
  obtain⟨k,z,l',rfl,h1,h2,h3⟩:=h;exact⟨k,z,_,rfl,h1,h2,vh hk hv h3⟩
theorem rn{K:Row}{agg:Bool}{V:Row}{x:K.den}{y:V.den}{key:Value}{f:MapEntry->MapEntry}(hx:il K x=some key)(hf:∀e:MapEntry,(f e).key=key)(hv:∀e,az H F w agg (.leaf V y) (f e).val):{es:List MapEntry}->{l:List (K.den×V.den)}->{j:Nat}->{e:MapEntry}->
 eh H F w K agg V es l->wF K l->es[j]? =some e->e.key=key->∃l2,eh H F w K agg V (es.modify j f) l2/\l2.Perm ((x,y)::l.filter λp=> !b9 K p.1 x)
 |[],_,_,_,_,_,hj,_=>by simp at hj
 |e'::es,_,0,e,h,hd,hj,LP=>by
  obtain⟨k,z,l',rfl,h1,h2,h3⟩:=h;obtain⟨d1,d2⟩:=abr.1 hd
  obtain rfl:e'=e:=by simpa using hj
  have Qn:b9 K k x=acQ:=(fV h1 hx).2 LP;obtain rfl:=lK Qn;refine⟨(k,y)::l',⟨k,y,l',rfl,by rw[hf];exact hx,hv _,h3⟩,?_⟩
  have e:((k,z)::l').filter (λq=> !b9 K q.1 k)=l':=by
   rw[List.filter_cons_of_neg (by simp[Qn])]
   exact acy.2 λq rk=>by rw[oX (d1 q rk)];rfl
  rw[e]
 |e'::es,_,j+1,e,h,hd,hj,LP=>by
  obtain⟨k,z,l',rfl,h1,h2,h3⟩:=h;obtain⟨d1,d2⟩:=abr.1 hd
  have I7:es[j]? =some e:=by simpa using hj
  obtain⟨l2,g1,g2⟩:=rn hx hf hv h3 d2 I7 LP;obtain⟨q,hq,Jz,_⟩:=lL h3 e (List.mem_of_getElem? I7);have WW:b9 K q.1 x=acQ:=(fV Jz hx).2 LP;obtain rfl:=lK WW;have cA:b9 K k q.1=acR:=d1 q hq;refine⟨(k,z)::l2,⟨k,z,l2,rfl,h1,h2,g1⟩,?_⟩;rw[List.filter_cons_of_pos (by rw[cA];rfl)];exact(g2.cons _).trans (.swap ..)
noncomputable def ie(T:aM P)(ob:Nat->Option (Nat×Th))(n:Nat)(t:TypeId)(M X Y:aj)(k:c9->Option R):Option R:=
 match tf ob M with
 |some m=>match find T.und t with
  |some (.map kt _)=>bif Ej T kt m.K then(match wG ob m.K X with
   |some x=>match Y with
    | .val dq tr=>bif (bif m.agg then dq else !dq)then(match flat ob m.V tr with
      |some y=>k {dst:= .dead,eat:=[m.o],make:=[(m.o,(n, .smap m.T m.K m.agg m.V (ow m.K m.l x y) acP))]}
      |none=>acP)else acP
    |_=>acP
   |none=>acP)else acP
  |_=>acP
 |none=>je T ob n t M X Y k
theorem tg(T:aM P){t:TypeId}{M X Y:aj}{m x y:Operand}{k:c9->Option R}{q:R}(h:ie T ob n t M X Y k=some q)(hs:aq U H F w ob n)(hm:ah H F w M (ev ρ m))(hx:ah H F w X (ev ρ x))(hy:ah H F w Y (ev ρ y)):
 ∃e,k e=some q/\bO P U H F w ρ ob n ⟨acP, .mapUpdate t m x y,ty,pos,aft,acP⟩ e:=by
 unfold ie at h;split at h
 case h_2=>exact uw T h hs hm hx hy
 rename_i r pF;obtain⟨bW,hv,kz⟩:=qF hs pF hm;obtain⟨o,s,T0,K,agg,V,l,it⟩:=r;dsimp only at h bW hv kz;split at h
 case h_2=>cases h
 rename_i kt vt hu;obtain⟨hc,h'⟩:=aB h;clear h;split at h'
 case h_2=>cases h'
 rename_i a ha;split at h'
 case h_2=>cases h'
 rename_i dq tr;obtain⟨oT,h⟩:=aB h';clear h'
 have oT:agg=dq:=by cases agg<;>cases dq<;>simp_all
 subst oT;split at h
 case h_2=>cases h
 rename_i z hz;refine⟨_,h,?_⟩;have hK:=Cu T hc;have lJ:=vg hs hK ha hx
 have mZ:az H F w agg (.leaf V z) (ev ρ y):=by
  obtain⟨cs,h1,h2⟩:=hy;exact⟨cs,eT hs hz h1,h2⟩
 obtain⟨b,es,clock,l',lu,LQ,hh,dW,qz,D2,_⟩:=kz;have vi:=n9 qz dW.2.2
 have e7:bJ H ob [o] b:=⟨o,by simp,s,_,_,bW,hv,LQ⟩
 have hf:=hs.fresh n (aaX _) (by omega)
 have fin:∀o',(acd t (.map (some b)) (ev ρ x) (ev ρ y)).run P w= .ok () {w with heap:=w.heap.setIfInBounds b o'}->
  (∀(H':an)(w':World),H.le H'->Step F w F w'->∃jE lv l2,o'= .map jE lv/\Stamped jE lv/\eh H' F w' K agg V jE.toList l2/\l2.Perm (ow K l a z))->
  bO P U H F w ρ ob n ⟨acP, .mapUpdate t m x y,ty,pos,aft,acP⟩ {dst:= .dead,eat:=[o],make:=[(o,(n, .smap T0 K agg V (ow K l a z) acP))]}:=by
  intro o' bq GI;refine bH.unit (w':={w with heap:=w.heap.setIfInBounds b o'}) ?_ ?_
  .simp[execOp,lu,bq,abc]
  .have jf:∀k,k≠b->(w.heap.setIfInBounds b o')[k]? =w.heap[k]? :=(heap_set hh).2
   have cY:Step F w F {w with heap:=w.heap.setIfInBounds b o'}:=λc hc=>⟨hc,jf c λe=>by subst e;exact hs.dC _ e7 hc⟩
   obtain⟨jE,lv,l2,rfl,g1,g2,g3⟩:=GI ((H.dn n (is b)).ba n (.smap T0 K agg V (ow K l a z) acP)) _ (an.nW hf.2) cY;refine jV.wv (t':= .smap T0 K agg V (ow K l a z) acP) hs bW hv rfl (by simp) (is b) (λk hk=>?_) ⟨rfl,⟨rfl,aaX _⟩,rfl,by simp,λk hk hn=>jf k λe=>hn (by subst e;exact e7)⟩ ⟨b,jE,lv,l2,lu,rfl,(heap_set hh).1,g1,g2,g3,trivial⟩ trivial;have hk:k=b:=hk;subst hk;exact e7
 have I6:(l'.filter λp=> !b9 K p.1 a).Perm (l.filter λp=> !b9 K p.1 a):=D2.filter _;have oR:((a,z)::l'.filter λp=> !b9 K p.1 a).Perm (ow K l a z):=(I6.cons _).trans (n5 a z _).symm
 rcases pK (val:=ev ρ y) (T.und_ok _ _ hu) hK lJ hh (λe he=>by obtain⟨q,_,g,_⟩:=lL qz e he;exact⟨_,g⟩)with⟨bq,wg⟩|⟨j,e,hj,LP,bq⟩
 .refine fin _ bq λH' w' hH cY=>⟨_,_,l'++[(a,z)],rfl,stamped_push dW wg,?_,?_⟩
  .rw[Array.toList_push];exact vh lJ (mZ.keep hH cY) (qz.keep hH cY)
  .have e:l'.filter (λp=> !b9 K p.1 a)=l':=acy.2 λq hq=>by
    obtain⟨e,he,Jz,_⟩:=pJ qz q hq
    cases hc:b9 K q.1 a with
    |false=>rfl
    |true=>exact absurd ((fV Jz lJ).1 hc) (wg e he)
   rw[e]at oR;exact(List.perm_append_comm (l₁:=l') (l₂:=[(a,z)])).trans oR
 .refine fin _ bq λH' w' hH cY=>?_
  obtain⟨l2,g1,g2⟩:=rn (f:=λe=>{e with key:=ev ρ x,val:=ev ρ y}) lJ (λ_=>rfl) (λ_=>mZ.keep hH cY) (qz.keep hH cY) vi hj LP;refine⟨_,_,l2,rfl,stamped_modify dW _ _ (λ_ _=>rfl) (λe' _ he'=>?_),by rw[Array.toList_modify];exact g1,g2.trans oR⟩
  have I7:es[j]? =some e:=by simpa using hj
  rw[I7]at he';cases he';exact LP.symm
theorem Cv{K:Row}{α:Type}{x:K.den}:{l:List (K.den×α)}->wF K l->∀q∈l,b9 K q.1 x=acQ->bn K l x=some q.2
 |p::l,hd,q,hq,hx=>by
  obtain⟨d1,d2⟩:=abr.1 hd;unfold bn
  rcases aa7.1 hq with rfl|hq
  .rw[acU hx]
  .have:¬b9 K p.1 x=acQ:=λg=>by
    have:=lK hx;rw[<-this,d1 q hq]at g;cases g
   rw[acT this];exact Cv d2 q hq hx
theorem yr{K:Row}{α:Type}{x:K.den}:{l:List (K.den×α)}->(∀q∈l,b9 K q.1 x=acR)->bn K l x=acP
 |[],_=>rfl
 |p::l,h=>by
  unfold bn;rw[acT (by rw[h p (by simp)];simp)]
  exact yr λq hq=>h q (by simp[hq])
noncomputable def lM(T:aM P)(ob:Nat->Option (Nat×Th))(_n:Nat)(t:TypeId)(ok:Bool)(M X:aj)(k:c9->Option R):Option R:=
 match tf ob M with
 |some m=>match find T.und t with
  |some (.map kt vt)=>match find T.zer vt with
   |some (dq,V')=>bif Ej T kt m.K&&(bif m.agg then dq else !dq)&&V'.beq m.V&&(m.agg||aaY m.V.size 1)then(match wG ob m.K X with
    |some x=>bif ok then k {dst:= .tup [(m.agg, .leaf m.V ((bn m.K m.l x).getD m.V.zero)),(acR, .leaf .bool (bn m.K m.l x).isSome)]}
     else k {dst:= .val m.agg (.leaf m.V ((bn m.K m.l x).getD m.V.zero))}
    |none=>acP)else acP
   |none=>acP
  |_=>acP
 |none=>nU T ob t ok M X k
theorem yt(T:aM P){t:TypeId}{ok:Bool}{M X:aj}{m x:Operand}{k:c9->Option R}{q:R}(h:lM T ob n t ok M X k=some q)(hs:aq U H F w ob n)(hm:ah H F w M (ev ρ m))(hx:ah H F w X (ev ρ x)):
 ∃e,k e=some q/\bO P U H F w ρ ob n ⟨some d, .lookup t m x ok,ty,pos,aft,acP⟩ e:=by
 unfold lM at h;split at h
 case h_2=>exact AJ T h hs hm hx
 rename_i r pF;obtain⟨bW,hv,kz⟩:=qF hs pF hm;obtain⟨o,s,T0,K,agg,V,l,it⟩:=r;dsimp only at h bW hv kz;split at h
 case h_2=>cases h
 rename_i kt vt hu;split at h
 case h_2=>cases h
 rename_i dq V' hz;obtain⟨hc,h'⟩:=aB h;clear h;obtain⟨hc,K0⟩:=bU hc;obtain⟨hc,Jv⟩:=bU hc;obtain⟨uq,xP⟩:=bU hc
 have oT:agg=dq:=by cases agg<;>cases dq<;>simp_all
 subst oT;obtain rfl:=Row.eq_of_beq Jv;split at h'
 case h_2=>cases h'
 rename_i a ha;have hK:=Cu T uq;have lJ:=vg hs hK ha hx;obtain⟨b,es,clock,l',lu,LQ,hh,dW,qz,D2,_⟩:=kz;have vi:=n9 qz dW.2.2;have JA:bn K l a=bn K l' a:=(AT D2 vi).symm
 have jc:agg=acR->V'.size=1:=λe=>by subst e;exact beq_true (by simpa using K0)
 obtain⟨z,Ah,Ag⟩:=yj (w:=w) (H:=H) (F:=F) (T.zer_ok _ _ _ hz) jc;have Cs:=T.und_ok _ _ hu
 have main:∃v,(acJ t (ev ρ m) (ev ρ x) ok).run P w= .ok (if ok then .tuple #[v, .bool (bn K l a).isSome]else v) w/\az H F w agg (.leaf V' ((bn K l a).getD V'.zero)) v:=by
  rw[JA]
  rcases hK.find a _ w es.toList lJ (λe he=>by obtain⟨q,_,g,_⟩:=lL qz e he;exact⟨_,g⟩)with⟨h1,h2⟩|⟨j,e,h1,h2,h3⟩
  .have hn:bn K l' a=acP:=yr λq hq=>by
    obtain⟨e,he,Jz,_⟩:=pJ qz q hq
    cases hc:b9 K q.1 a with
    |false=>rfl
    |true=>exact absurd ((fV Jz lJ).1 hc) (h2 e he)
   refine⟨z,?_,by rw[hn];exact Ag⟩;rw[lu,hn];simp[acJ,run_underlying Cs,abL hh,hK.N8 _ _ _ _ lJ,h1,Ah,abc]
  .obtain⟨q,hq,Jz,WX⟩:=lL qz e (List.mem_of_getElem? h2);have hl:=Cv vi q hq ((fV Jz lJ).2 h3);refine⟨e.val,?_,by rw[hl];exact WX⟩;rw[lu,hl];simp[acJ,run_underlying Cs,abL hh,hK.N8 _ _ _ _ lJ,h1,abc]
 obtain⟨v,bq,kz⟩:=main
 cases ok with
 |true=>
  refine⟨_,h',bm hs (v:= .tuple #[v, .bool (bn K l a).isSome]) (by simp[execOp,bq,abc]) ⟨[v, .bool (bn K l a).isSome],rfl,_,_,rfl,kz,_,_,rfl,az.dY ..,rfl⟩⟩
 |false=>exact⟨_,h',bm hs (v:=v) (by simp[execOp,bq,abc]) kz⟩
def qG(T:aM P)(ob:Nat->Option (Nat×Th))(n:Nat)(t:TypeId)(M:aj)(k:c9->Option R):Option R:=
 match tf ob M with
 |some m=>match find T.und t with
  |some (.map _ _)=>k {dst:= .ptr (n+1) [] 0,eat:=[m.o],make:=[(m.o,(n, .smap m.T m.K m.agg m.V m.l (some (n+1,m.l,acP))))]}
  |_=>acP
 |none=>acP
theorem AU(es:Array MapEntry):leftOf es #[]=es:=by
 unfold leftOf
 exact Array.filter_eq_self.2 λe _=>by simp
theorem Ek(T:aM P){t:TypeId}{M:aj}{m:Operand}{k:c9->Option R}{q:R}(h:qG T ob n t M k=some q)(hs:aq U H F w ob n)(hm:ah H F w M (ev ρ m)):
 ∃e,k e=some q/\bO P U H F w ρ ob n ⟨some d, .range t m,ty,pos,aft,acP⟩ e:=by
 unfold qG at h;split at h
 case h_2=>cases h
 rename_i r pF;obtain⟨bW,hv,kz⟩:=qF hs pF hm;obtain⟨o,s,T0,K,agg,V,l,it⟩:=r;dsimp only at h bW hv kz;split at h
 case h_2=>cases h
 rename_i kt vt hu;obtain⟨b,es,clock,l',lu,LQ,hh,dW,qz,D2,_⟩:=kz;have Oa:b<w.heap.size:=(abx.1 hh).1
 have e7:bJ H ob [o] b:=⟨o,by simp,s,_,_,bW,hv,LQ⟩
 obtain⟨v1,sa,bP⟩:=hs.obj _ _ _ bW;rw[hv]at sa;obtain rfl:=aaT sa
 have bq:(execOp (ev ρ) ⟨some d, .range t m,ty,pos,aft,acP⟩).run P w= .ok (.value (.pointer (some ⟨w.heap.size,0,acP⟩))) (w.alloc (.mapIter (some b) clock #[] clock)):=by
  simp[execOp,lu,run_range_map w t kt vt b es clock (T.und_ok _ _ hu) hh,abc]
 refine⟨_,h,bH.val bq ?_⟩;have hf:=hs.fresh n (aaX _) (by omega);have Ro:=hs.fresh (n+1) (by omega) (by omega)
 let S':Nat->Prop:=λk=>k=b\/k=w.heap.size
 let t':Th:= .smap T0 K agg V l (some (n+1,l,acP))
 let H1:an:=((H.dn n S').ba n t').bX (n+1) (.pointer (some ⟨w.heap.size,0,acP⟩))
 have hle:H.le H1:=(an.nW hf.2).trans (an.nQ (by simpa[an.ba,an.dn]using Ro.1))
 have Vl:H1.val (n+1)=some (.pointer (some ⟨w.heap.size,0,acP⟩)):=by simp[H1,an.bX]
 have eL:H1.sub n=S':=by simp[H1,an.bX,an.ba,an.dn]
 have Rp:H1.con n=some t':=by simp[H1,an.bX,an.ba,an.dn]
 have cY:Step F w F (w.alloc (.mapIter (some b) clock #[] clock)):=λc hc=>⟨hc,by rw[heap_alloc_old _ _ (hs.lt c hc)]⟩
 refine⟨H1,F,⟨hle,lF _,λ_ h=>h,λ_ h=> .inl h,λc hc=>by have:=hs.lt c hc;simp;omega⟩,λm hm=>?_,⟨_,Vl,rfl⟩,⟨λo' s' q hq=>?_,λo1 o2 s1 s2 q1 q2 u1 u2 cA h1 h2=>?_⟩,λo' h=>?_⟩
 .have a1:m≠n:=by omega
  have a2:m≠n+1:=by omega
  simp[H1,an.bX,an.ba,an.dn,a1,a2]
 .obtain⟨rfl,e⟩:=bG hq;obtain⟨rfl,rfl⟩:=acq e;refine⟨_,hle.val _ _ hv,bP.one,Rp,?_,λk hk=>?_⟩
  .rw[eL];refine⟨b,es,clock,l',lu, .inl rfl,by rw[heap_alloc_old _ _ Oa];exact hh,dW,qz.keep hle cY,D2,w.heap.size,clock, #[],clock, .inr rfl,λe=>by omega,Vl,heap_alloc_new w _,dW.1,aaX _,aaX _,⟨l',?_,D2⟩,λp hp=>by cases hp⟩;rw[AU];exact qz.keep hle cY
  .rw[eL]at hk;have hk:k=b\/k=w.heap.size:=hk
   rcases hk with rfl|rfl
   .exact⟨hs.dC _ e7,by simp;omega, .inr e7⟩
   .exact⟨λe=>by have:=hs.lt _ e;omega,by simp, .inl (aaX _)⟩
 .exact absurd ((bG h1).1.trans (bG h2).1.symm) cA
 .left
  obtain⟨y,hy⟩:=abB.1 h;rw[(bG hy).1];simp
open Classical in
noncomputable def JB{α β:Type}(p:α->Prop)(k:α->Option β):Option β:=if h:∃r,(∃x,p x)/\∀x,p x->k x=some r then some h.choose else acP
theorem GO{α β:Type}{p:α->Prop}{k:α->Option β}{q:β}(h:JB p k=some q):∀x,p x->k x=some q:=by
 unfold JB at h;split at h
 .rename_i hd;obtain rfl:=aaT h;exact hd.choose_spec.2
 .cases h
theorem LR{α β:Type}{p:α->Prop}{k:α->Option β}{q:β}(h0:∃x,p x)(h:∀x,p x->k x=some q):JB p k=some q:=by
 have hd:∃r,(∃x,p x)/\∀x,p x->k x=some r:=⟨q,h0,h⟩
 unfold JB;rw[dif_pos hd];obtain⟨x,hx⟩:=h0;have:=hd.choose_spec.2 x hx;rw[h x hx]at this;rw[aaT this]
def wI(nn:Nat):List (Nat×(Nat×Th))->Option Nat
 |[]=>acP
 |(o,(_, .smap _ _ _ _ _ (some (n',_,_))))::l=>bif aaY n' nn then some o else wI nn l
 |_::l=>wI nn l
def Cw:Row->Bool
 | .pair (.int _) (.int _)=>acQ
 |_=>acR
noncomputable def kI{α:Type}(K:Row)(l:List (K.den×α))(k:K.den):List (K.den×α):=l.filter λq=> !b9 K q.1 k
noncomputable def GP(objs:List (Nat×(Nat×Th)))(n:Nat)(X:aj)(k:c9->Option R):Option R:=
 match X with
 | .ptr nn [] 0=>match wI nn objs with
   |some o=>match find objs o with
    |some (_, .smap T K agg V l (some (n',left,_)))=>bif aaY n' nn&&Cw K then
      (if left.isEmpty=acQ then k {dst:= .tup [(acR, .leaf .bool acR)]}
      else JB (λp=>p∈left) λp=>k {dst:= .tup [(acR, .leaf .bool acQ),(acQ, .leaf K p.1),(agg, .leaf V p.2)],eat:=[o],make:=[(o,(n, .smap T K agg V l (some (nn,kI K left p.1,some p))))]})else acP
    |_=>acP
   |none=>acP
 |_=>acP
theorem yu{K:Row}{x:K.den}{v:Value}(hK:Cw K=acQ)(h:il K x=some v):az H F w acQ (.leaf K x) v:=by
 unfold Cw at hK;split at hK
 .obtain rfl:=aaT h;exact⟨[_,_],⟨[_],[_],rfl,rfl,rfl⟩,rfl,λe=>by cases e⟩
 .cases hK
theorem yv(es:Array MapEntry)(seen:Array Nat)(b:Nat):(leftOf es (seen.push b)).toList=(leftOf es seen).toList.filter λx=> !(x.born==b):=by
 unfold leftOf;rw[acz,acz,List.filter_filter]
 congr 1
 funext x;rw[Array.contains_push]
 cases seen.contains x.born<;>cases x.born==b<;>simp_all
theorem GQ{objs:List (Nat×(Nat×Th))}{X:aj}{x:Operand}{k:c9->Option R}{q:R}(h:GP objs n X k=some q)(hs:aq U H F w (find objs) n)(hx:ah H F w X (ev ρ x)):
 ∃e,k e=some q/\bO P U H F w ρ (find objs) n ⟨some d, .next x acR,ty,pos,aft,acP⟩ e:=by
 unfold GP at h;split at h
 case h_2=>cases h
 rename_i nn;split at h
 case h_2=>cases h
 rename_i o _;split at h
 case h_2=>cases h
 rename_i s T K agg V l n' left cur bW;obtain⟨hc,h'⟩:=aB h;clear h;obtain⟨uq,hK⟩:=bU hc;obtain rfl:=beq_true uq;obtain⟨v,hv,bP⟩:=hs.obj _ _ _ bW;obtain⟨b,es,clock,l',lu,LQ,hh,dW,qz,D2,r,since,seen,last,Ob,Rq,Qo,hr,hold,fq,Vm,⟨l2,Qp,I5⟩,_⟩:=bP.ok;obtain⟨b0,xK,Af⟩:=hx;rw[Qo]at xK;cases xK;have Rb:r<w.heap.size:=(abx.1 hr).1
 rcases run_next_at (P:=P) w ty r b since last seen es clock hr hh hold fq with⟨h0,bq⟩|⟨e,he,w1,Qq,bq⟩
 .have hle:l2=[]:=by
   have:(leftOf es seen).toList=[]:=by rw[Array.toList_eq_nil_iff];exact Array.eq_empty_of_size_eq_zero h0
   rw[this]at Qp;exact Qp
  subst hle;obtain rfl:left=[]:=I5.nil_eq.symm;rw[acU (show([]:List (K.den×V.den)).isEmpty=acQ from rfl)]at h';exact⟨_,h',bm hs (v:= .tuple #[.bool acR]) (by simp[execOp,Af,bq,abc]) ⟨[.bool acR],rfl,_,_,rfl,az.dY ..,rfl⟩⟩
 .have Oc:((leftOf es seen).toList.map (·.born)).Nodup:=by
   unfold leftOf;rw[acz];exact(dW.2.1.sublist ((List.filter_sublist).map _))
  have Od:((leftOf es seen).toList.map (·.key)).Nodup:=by
   unfold leftOf;rw[acz];exact(dW.2.2.sublist ((List.filter_sublist).map _))
  obtain⟨p,l3,g1,g2,g3,g4⟩:=vf Qp Oc he;have qH:p∈left:=I5.mem_iff.1 (g4.mem_iff.2 (by simp))
  have cA:¬left.isEmpty=acQ:=by
   cases left with
   |nil=>cases qH
   |cons _ _=>simp
  rw[acT cA]at h';refine⟨_,GO h' p qH,?_⟩
  have Rr:e∈es.toList:=by
   have:e∈(leftOf es seen).toList:=he;unfold leftOf at this;rw[acz]at this;exact(abw.1 this).1
  have JC:w1.heap=w.heap:=by rcases Qq with rfl|rfl<;>rfl
  have jf:∀k,k≠r->(acn w1 r (.mapIter (some b) since (seen.push e.born) clock)).heap[k]? =w.heap[k]? :=λk hk=>by
   rw[<-JC];exact(heap_set (w:=w1) (by rw[JC];exact hr)).2 k hk
  have Oe:(acn w1 r (.mapIter (some b) since (seen.push e.born) clock)).heap[r]? =some (.mapIter (some b) since (seen.push e.born) clock):=(heap_set (w:=w1) (by rw[JC];exact hr)).1
  have e7:∀k,H.sub s k->bJ H (find objs) [o] k:=λk hk=>⟨o,by simp,s,_,_,bW,hv,hk⟩
  have hf:=hs.fresh n (aaX _) (by omega)
  let t':Th:= .smap T K agg V l (some (n',kI K left p.1,some p))
  let S':Nat->Prop:=λk=>k=b\/k=r
  have hle:H.le ((H.dn n S').ba n t'):=an.nW hf.2
  have cY:Step F w F (acn w1 r (.mapIter (some b) since (seen.push e.born) clock)):=λc hc=>⟨hc,jf c λg=>by subst g;exact hs.dC _ (e7 _ Ob) hc⟩
  refine bH.val (v:= .tuple #[.bool acQ,e.key,e.val]) (w':=acn w1 r (.mapIter (some b) since (seen.push e.born) clock)) (by simp[execOp,Af,bq,abc]) ?_
  have bo:Ext (bJ H (find objs) [o]) w (acn w1 r (.mapIter (some b) since (seen.push e.born) clock)):=by
   rcases Qq with rfl|rfl
   .exact⟨rfl,⟨rfl,aaX _⟩,rfl,by simp[acn],λk hk hn=>jf k λg=>hn (by subst g;exact e7 _ Ob)⟩
   .exact⟨rfl,⟨rfl,Nat.le_succ _⟩,rfl,by simp[acn,JC],λk hk hn=>jf k λg=>hn (by subst g;exact e7 _ Ob)⟩
  have vi:wF K left:=(n9 Qp Od).perm I5.symm;refine jV.wv (t':=t') hs bW hv rfl (by simp) S' (λk hk=>?_) bo ?_ ?_
  .have hk:k=b\/k=r:=hk
   rcases hk with rfl|rfl
   .exact e7 _ LQ
   .exact e7 _ Ob
  .refine⟨b,es,clock,l',lu, .inl rfl,(jf b Rq.symm).trans hh,dW,qz.keep hle cY,D2,r,since,seen.push e.born,clock, .inr rfl,Rq,hle.val _ _ Qo,Oe,hold,Vm,Vm,⟨l3,?_,?_⟩,λp' Aj=>?_⟩
   .rw[yv];exact g3.keep hle cY
   .have I6:left.Perm (p::l3):=I5.symm.trans g4;have WY:wF K (p::l3):=vi.perm I6.symm;refine List.Perm.trans ?_ (I6.filter _).symm
    rw[List.filter_cons_of_neg (by
     have:b9 K p.1 p.1=acQ:=(fV g1 g1).2 rfl
     simp[this])]
    rw[acy.2 λq hq=>by rw[oX ((abr.1 WY).1 q hq)];rfl]
   .obtain rfl:=aaT Aj;exact⟨rfl,e,Rr,⟨seen,rfl⟩,g1,g2.keep hle cY⟩
  .exact⟨[.bool acQ,e.key,e.val],rfl,_,_,rfl,az.dY ..,_,_,rfl,yu hK g1,_,_,rfl,g2.keep hle cY,rfl⟩
def AV(objs:List (Nat×(Nat×Th)))(X:aj):Option aj:=
 match X with
 | .ptr nn [] 0=>match wI nn objs with
   |some o=>match find objs o with
    |some (_, .smap _ K agg V _ (some (n',_,some p)))=>bif aaY n' nn&&Cw K then some (.tup [(acQ, .leaf K p.1),(agg, .leaf V p.2)])else acP
    |_=>acP
   |none=>acP
 |_=>acP
theorem El{objs:List (Nat×(Nat×Th))}{X D:aj}{x:Operand}(h:AV objs X=some D)(hs:aq U H F w (find objs) n)(hx:ah H F w X (ev ρ x)):
 bO P U H F w ρ (find objs) n ⟨some d, .entry x,ty,pos,aft,acP⟩ {dst:=D}:=by
 unfold AV at h;split at h
 case h_2=>cases h
 rename_i nn;split at h
 case h_2=>cases h
 rename_i o _;split at h
 case h_2=>cases h
 rename_i s T K agg V l n' left p bW;obtain⟨hc,h'⟩:=aB h;obtain⟨uq,hK⟩:=bU hc;obtain rfl:=beq_true uq;obtain rfl:=aaT h';obtain⟨v,hv,bP⟩:=hs.obj _ _ _ bW;obtain⟨b,es,clock,l',lu,LQ,hh,dW,qz,D2,r,since,seen,last,Ob,Rq,Qo,hr,hold,fq,_,_,Rs⟩:=bP.ok;obtain⟨rfl,e,he,⟨s0,rfl⟩,g1,g2⟩:=Rs p rfl;obtain⟨b0,xK,Af⟩:=hx;rw[Qo]at xK;cases xK;have bq:=run_entry_at (P:=P) w r b since s0 es last e hr hh he dW.2.1;exact bm hs (v:= .tuple #[e.key,e.val]) (by simp[execOp,Af,bq,abc]) ⟨[e.key,e.val],rfl,_,_,rfl,yu hK g1,_,_,rfl,g2,rfl⟩
end
end
section
open Go Go.RowKit Go.MapKept
section
variable {P:Program} {ρ:Nat->Value} {w w':World} {H H':an} {F F':Nat->Prop} {U:Nat->Prop} {ob:Nat->Option (Nat×Th)} {n:Nat} {R:Type}
variable {op:Op} {ty:TypeId} {pos:String} {aft:Array Edge} {d:Nat}
noncomputable def K3(ob:Nat->Option (Nat×Th))(n o:Nat):Option c9:=GM ob n o
theorem AW(hs:aq U H F w ob n){o:Nat}{e:c9}(h:K3 ob n o=some e):kg H F w ob n e undef w:=Ee hs h
theorem DR.qI:(d:DR)->d.low.dB=d.row.dB
 | .leaf _=>rfl
 | .sl _ _=>rfl
 | .pair a b=>by show a.low.dB++b.low.dB=a.row.dB++b.row.dB;rw[a.qI,b.qI]
theorem GR{α β:Type}{l m out:List α}{lx ly:List β}(h:bK l m=some out)(h1:lx.length=l.length)(h2:ly.length=m.length):bK lx ly=some (lx++ly)/\out=l++m:=by
 unfold bK at h⊢;split at h
 case isFalse=>cases h
 rename_i hle;exact⟨by rw[acU (by omega)],(aaT h).symm⟩
theorem rp(T:aM P){t e:TypeId}{r:Row}(hu:find T.und t=some (.slice e))(hr:find T.row e=some r){dr:DR}(jS:dr.row=r){x y:Operand}{l m out:List dr.row.den}{Sx:Nat->Prop}{eat:List Nat}{o2 s2:Nat}
 (hs:aq U H F w ob n)(hx:DL F w e dr.low (λ_=>iq F w dr) (ev ρ x) l Sx)(Rt:∀k,Sx k->¬F k)(Vn:∀k,Sx k->bJ H ob eat k)(wh:∀k,Sx k->k<w.heap.size)
 (rR:ob o2=some (s2, .deep e dr m acP))(lu:H.val o2=some (ev ρ y))(WZ:o2∈eat)(JD:∀k,Sx k->¬H.sub s2 k)(ha:bK l m=some out):
 bO P U H F w ρ ob n ⟨some d, .call {callee:= .builtin .append,args:= #[x,y],argTypes:= #[t,t]},ty,pos,aft,acP⟩ {dst:= .val acR (.own n),eat:=eat,make:=[(n,(n, .deep e dr out acP))]}:=by
 obtain⟨lx,Qr,GD,NG,W0,FG⟩:=hx;obtain⟨ly,Sy,W1,Qe,W2,LS⟩:=hs.low rR lu;obtain⟨v2,DG,JE⟩:=hs.obj _ _ _ rR;rw[lu]at DG;obtain rfl:=aaT DG;obtain⟨W4,rfl⟩:=GR ha NG Qe;obtain⟨ti,z,h1,h2,h3,h4,h5⟩:=T.row_ok _ _ hr;have ht:=T.und_ok _ _ hu;subst jS;obtain⟨v',w',bq,bo,eZ,hm⟩:=sD ty ht h1 h2 (h3.trans dr.qI.symm) (h4.trans dr.size.symm) h5 (base:=0) (l:=lx) ⟨λk hk=>Rt k (FG.bh k hk),GD⟩ W1.reads W4 hs.lt (Nat.zero_le _)
 have dW:Step F w F w':=Step.ext bo hs.lt λk hk=>Rt k (FG.bh k hk)
 have Of:∀k,H.sub s2 k->bJ H ob eat k:=λk hk=>⟨o2,WZ,s2,_,_,rR,lu,hk⟩
 have Og:∀i,i<l.length->∀k,Qr i k->w'.heap[k]? =w.heap[k]? :=λi hi k hk=>bo.block k (wh k (FG.part hi k hk)) (FG.out i k hi hk)
 have Oh:∀i,i<m.length->∀k,Sy i k->w'.heap[k]? =w.heap[k]? :=λi hi k hk=>bo.block k (JE.lt k (LS.part hi k hk)) λGS=>JD k (FG.bh k GS) (LS.part hi k hk)
 have hlen:(l++m).length=l.length+m.length:=aba
 have Oi:∀k,bh v' k->(Sx k/\bh (ev ρ x) k)\/k=w.heap.size:=by
  intro k hk
  rcases hm with g|g
  .rw[g]at hk;exact .inl ⟨FG.bh k hk,hk⟩
  .rw[g]at hk;exact .inr hk.symm
 let SS:Nat->Nat->Prop:=λi=>if i<l.length then Qr i else Sy (i-l.length)
 have Nk:∀i k,i<l.length->SS i k->Qr i k:=λi k hi hk=>by simpa only[SS,acU hi]using hk
 have Nl:∀i k,¬i<l.length->SS i k->Sy (i-l.length) k:=λi k hi hk=>by simpa only[SS,acT hi]using hk
 have Vo:∀i k,i<(l++m).length->SS i k->Sx k\/H.sub s2 k:=by
  intro i k hi hk;by_cases ag:i<l.length
  .exact .inl (FG.part ag k (Nk i k ag hk))
  .exact .inr (LS.part (by omega) k (Nl i k ag hk))
 have kj:v'.oneCell'=acQ:=jG.one (T:=e) (r:=dr.low) eZ.2;refine bH.val (v:=v') (w':=w') (by simp[execOp,resolve,invoke,builtin,bq]) (jV.Jy (t:= .deep e dr (l++m) acP) (S:=oU (bh v') SS (l++m).length) hs rfl kj ⟨bo.os,bo.tape,bo.output,bo.size,λk hk hn=>bo.block k hk λNH=>hn (Vn k (FG.bh k NH))⟩ ?_ (λk hk=>?_) (k0 (o:=n) (v:=v') (by simp[an.bX]) kj))
 .refine⟨lx++ly,SS,eZ.2,by simp[NG,Qe],λi a b=>?_,⟨λk=>Iff.rfl,λi j k hi hj cA hk kh=>?_,λi k hi hk NH=>?_⟩⟩
  .show iq F w' dr (lx++ly)[i] (l++m)[i] (SS i)
   by_cases ag:i<l.length
   .have e1:(lx++ly)[i]=lx[i]'(by omega):=List.getElem_append_left (by omega);have e2:(l++m)[i]=l[i]:=List.getElem_append_left ag
    have e3:SS i=Qr i:=by simp only[SS,acU ag]
    rw[e1,e2,e3];exact iq.keep dW (W0 i (by omega) ag) (Og i ag)
   .have e1:(lx++ly)[i]=ly[i-l.length]'(by simp at a;omega):=by rw[List.getElem_append_right (by omega)];simp only[NG]
    have e2:(l++m)[i]=m[i-l.length]'(by omega):=List.getElem_append_right (by omega)
    have e3:SS i=Sy (i-l.length):=by simp only[SS,acT ag]
    rw[e1,e2,e3];exact iq.keep dW (W2 (i-l.length) _ (by omega)) (Oh _ (by omega))
  .by_cases h1:i<l.length<;>by_cases h2:j<l.length
   .exact FG.two i j k h1 h2 cA (Nk i k h1 hk) (Nk j k h2 kh)
   .exact JD k (FG.part h1 k (Nk i k h1 hk)) (LS.part (by omega) k (Nl j k h2 kh))
   .exact JD k (FG.part h2 k (Nk j k h2 kh)) (LS.part (by omega) k (Nl i k h1 hk))
   .exact LS.two (i-l.length) (j-l.length) k (by omega) (by omega) (by omega) (Nl i k h1 hk) (Nl j k h2 kh)
  .rcases Oi k NH with⟨g1,g2⟩|g
   .by_cases h1:i<l.length
    .exact FG.out i k h1 (Nk i k h1 hk) g2
    .exact JD k g1 (LS.part (by omega) k (Nl i k h1 hk))
   .rcases Vo i k hi hk with h1|h1
    .have:=wh k h1;omega
    .have:=JE.lt k h1;omega
 .have hk:oU (bh v') SS (l++m).length k:=hk
  have fin:Sx k\/H.sub s2 k->¬F k/\k<w'.heap.size/\(w.heap.size<=k\/bJ H ob eat k):=by
   rintro(h1|h1)
   .exact⟨Rt k h1,abt (wh k h1) bo.size, .inr (Vn k h1)⟩
   .exact⟨JE.no k h1,abt (JE.lt k h1) bo.size, .inr (Of k h1)⟩
  rcases hk with hk|⟨i,hi,hk⟩
  .rcases Oi k hk with⟨g,_⟩|g
   .exact fin (.inl g)
   .exact⟨λe=>by have:=hs.lt k e;omega,eZ.lt k hk, .inl (by omega)⟩
  .exact fin (Vo i k hi hk)
def pL(T:aM P)(ob:Nat->Option (Nat×Th))(n:Nat)(t:TypeId)(X Y:aj)(k:c9->Option R):Option R:=
 match find T.und t with
 |some (.slice e)=>match find T.row e with
  |some r=>match Y with
   | .val acR (.own o2)=>match ob o2 with
     |some (_, .deep T2 d2 m acP)=>bif aaY T2 e&&d2.row.beq r then(match X with
      | .val acR .nil=>(bK ([]:List d2.row.den) m).bind λl=>k {dst:= .val acR (.own n),eat:=[o2],make:=[(n,(n, .deep e d2 l acP))]}
      | .val acR (.own o1)=>match ob o1 with
        |some (_, .deep T1 d1 l0 acP)=>bif aaY o1 o2 then acP else bif aaY T1 e then(if h:d1.beq d2=acQ then(bK (DR.eq_of_beq h▸l0) m).bind λl=>k {dst:= .val acR (.own n),eat:=[o1,o2],make:=[(n,(n, .deep e d2 l acP))]}else acP)else acP
        |_=>acP
      |_=>acP)else acP
     |_=>acP
   |_=>acP
  |none=>acP
 |_=>acP
theorem yw(T:aM P){t:TypeId}{X Y:aj}{x y:Operand}{k:c9->Option R}{q:R}(h:pL T ob n t X Y k=some q)(hs:aq U H F w ob n)(hx:ah H F w X (ev ρ x))(hy:ah H F w Y (ev ρ y)):
 ∃e,k e=some q/\bO P U H F w ρ ob n ⟨some d, .call {callee:= .builtin .append,args:= #[x,y],argTypes:= #[t,t]},ty,pos,aft,acP⟩ e:=by
 unfold pL at h;split at h
 case h_2=>cases h
 rename_i e hu;split at h
 case h_2=>cases h
 rename_i r hr;split at h
 case h_2=>cases h
 rename_i o2;split at h
 case h_2=>cases h
 rename_i s2 T2 d2 m rR;obtain⟨hc,h'⟩:=aB h;clear h;obtain⟨uq,xP⟩:=bU hc;obtain rfl:=beq_true uq;have jS:=Row.eq_of_beq xP;obtain⟨cs,⟨u,Jo,_,e2⟩,_,h3⟩:=hy;rw[h3 rfl]at e2
 obtain rfl:ev ρ y=u:=by simpa using e2
 split at h'
 .obtain⟨l,hl,hk⟩:=bind_some h';refine⟨_,hk,rp (Sx:=λ_=>False) T hu hr jS hs ?_ (λ_ h=>h.elim) (λ_ h=>h.elim) (λ_ h=>h.elim) rR Jo (by simp) (λ_ h=>h.elim) hl⟩;obtain⟨cs,h1,_,h4⟩:=hx;rw[h4 rfl]at h1;have sI:[ev ρ x]=[Value.slice acP 0 0]:=h1;rw[show ev ρ x= .slice acP 0 0 by simpa using sI];exact⟨[],λ_ _=>False,jG.nil F w T2 d2.low,rfl,λi h=>absurd h (by simp),⟨λk=>by simp[bh,abu],λ_ _ _ h=>absurd h (by simp),λ_ _ h=>absurd h (by simp)⟩⟩
 .rename_i o1;split at h'
  case h_2=>cases h'
  rename_i s1 T1 d1 l0 wz
  cases cA:aaY o1 o2 with
  |true=>rw[cA]at h';cases h'
  |false=>
   rw[cA,cond_false]at h'
   have cA:o1≠o2:=λe=>by rw[e]at cA;simp at cA
   obtain⟨hT,h⟩:=aB h';clear h';obtain rfl:=beq_true hT;split at h
   case isFalse=>cases h
   rename_i hb;obtain rfl:=DR.eq_of_beq hb;obtain⟨l,hl,hk⟩:=bind_some h;obtain⟨cs,⟨v,sa,_,e1⟩,_,h4⟩:=hx;rw[h4 rfl]at e1
   obtain rfl:ev ρ x=v:=by simpa using e1
   obtain⟨v',da,mO⟩:=hs.obj _ _ _ wz;rw[sa]at da;obtain rfl:=aaT da;exact⟨_,hk,rp (Sx:=H.sub s1) T hu hr jS hs mO.ok mO.no (λk hk=>⟨o1,by simp,s1,_,_,wz,sa,hk⟩) mO.lt rR Jo (by simp) (λk hk=>hs.apart _ _ _ _ _ _ _ _ cA wz rR sa Jo k hk) hl⟩
 .cases h'
def GU(ob:Nat->Option (Nat×Th)):aj->Bool
 | .val acR (.own o)=>match ob o with
   |some (_, .deep ..)=>acQ
   |_=>acR
 |_=>acR
def lN(T:aM P)(ob:Nat->Option (Nat×Th))(n:Nat)(t:TypeId)(X Y:aj)(k:c9->Option R):Option R:=
 bif GU ob Y then pL T ob n t X Y k else nS T ob n t X Y k
theorem yx(T:aM P){t:TypeId}{X Y:aj}{x y:Operand}{k:c9->Option R}{q:R}(h:lN T ob n t X Y k=some q)(hs:aq U H F w ob n)(hx:ah H F w X (ev ρ x))(hy:ah H F w Y (ev ρ y)):
 ∃e,k e=some q/\bO P U H F w ρ ob n ⟨some d, .call {callee:= .builtin .append,args:= #[x,y],argTypes:= #[t,t]},ty,pos,aft,acP⟩ e:=by
 unfold lN at h
 cases hb:GU ob Y with
 |true=>rw[hb,cond_true]at h;exact yw T h hs hx hy
 |false=>rw[hb,cond_false]at h;exact AE T h hs hx hy
end
end
end Go.Proofs.YtbladfbbhijpmaaGreat
section
open _root_.Bool renaming false->acR,true->acQ
open _root_.Option renaming none->acP,none_or->abT
open _root_.List renaming append_assoc->abm,length_cons->aa6,mem_cons_of_mem->abz,mem_cons_self->abW
open _root_.Nat renaming beq->aaY,blt->abI,eq_of_beq_eq_true->abK,le_refl->aaX
open _root_.Option.some renaming inj->aaT,injEq->aa1
open _root_.Prod.mk renaming injEq->abU
open _root_.Go.Value renaming ownBlock->abu
namespace Go.Proofs.YtbladfbbhijpmaaGreat
open Go Go.RowKit
def dZ(objs:List (Nat×(Nat×Th))):List Nat->Option (List (Nat×(Nat×Th)))
 |[]=>some objs
 |o::os=>match find objs o with
  |some (s, .own T r l)=>dZ ((o,(s, .qk T r l))::del [o] objs) os
  |some (s, .map T K agg V l)=>dZ ((o,(s, .fmap T K agg V l))::del [o] objs) os
  |some (s, .deep T d l acP)=>dZ ((o,(s, .fdeep T d l))::del [o] objs) os
  |some (_, .qk ..)=>dZ objs os
  |some (_, .fmap ..)=>dZ objs os
  |some (_, .fdeep ..)=>dZ objs os
  |_=>acP
def df:Th->Bool
 | .qk .. =>acQ
 | .fmap .. =>acQ
 | .fdeep .. =>acQ
 |_=>acR
structure Oj(t t':Th):Prop where
 froz:df t'=acQ
 base:t'.base=t.base
 fp:∀S v k,¬fp S v t' k
 ok:∀{H:an}{F:Nat->Prop}{w:World}{S:Nat->Prop}{v:Value},(∀k,Go.Proofs.YtbladfbbhijpmaaGreat.fp S v t k->¬F k)->fB H F w S v t->fB H (λb=>F b\/Go.Proofs.YtbladfbbhijpmaaGreat.fp S v t b) w S v t'
structure bQ(H:an)(F:Nat->Prop)(w:World)(H':an)(F':Nat->Prop)(w':World):Prop where
 eR:H.le H'
 step:Step F w F' w'
theorem bQ.refl(H:an)(F:Nat->Prop)(w:World):bQ H F w H F w:=⟨an.le.refl H,Step.refl F w⟩
theorem bQ.trans{H H' rN:an}{F F' AX:Nat->Prop}{w w' r8:World}(h:bQ H F w H' F' w')(k:bQ H' F' w' rN AX r8):bQ H F w rN AX r8:=⟨h.eR.trans k.eR,h.step.trans k.step⟩
structure GV(G:Nat->Prop)(w0:World)(F0:Nat->Prop)(w:World)(F:Nat->Prop):Prop where
 ext:Ext G w0 w
 le:∀b,F0 b->F b
 new:∀b,F b->F0 b\/w0.heap.size<=b\/G b
section
variable {U:Nat->Prop} {H:an} {F:Nat->Prop} {w:World} {n:Nat}
theorem JF(T:TypeId)(r:Row)(l:List r.den):Oj (.own T r l) (.qk T r l) where
 froz:=rfl
 base:=rfl
 fp _ _ _ h:=h
 ok hn h:=gv.freeze (base:=0) (T:=T) (l:=l) ⟨hn,h⟩
theorem JG(T:TypeId)(K:Row)(agg:Bool)(V:Row)(l:List (K.den×V.den)):Oj (.map T K agg V l) (.fmap T K agg V l) where
 froz:=rfl
 base:=rfl
 fp _ _ _ h:=h
 ok {H F w S v} _ h:=by
  obtain⟨b,es,clock,h1,h2,h3,h4⟩:=h;obtain⟨g1,g2⟩:=Cq h4;refine⟨v,rfl, .inr ⟨b,es,clock,h1, .inr h1,h2,h3,by simpa using g1,λi hi=>?_⟩⟩;obtain⟨e,cs,q1,q2,q3,q4,q5⟩:=g2 i hi;exact⟨e,cs,by simpa using q1,q2,q3.step (Step.freeze F w _),q4,q5⟩
theorem jG.jS{F:Nat->Prop}{w:World}{T:TypeId}{r:Row}{v:Value}{l:List r.den}(h:jG F w T r v l):bT F w .jS [v] v:=by
 obtain⟨xs,⟨_,h⟩,_⟩:=h
 rcases h with⟨rfl,_⟩|⟨gg,o0,cap,cur,rfl,_⟩<;>exact⟨rfl,_,_,_,rfl⟩
theorem GW(T:TypeId)(d:DR)(l:List d.row.den):Oj (.deep T d l acP) (.fdeep T d l) where
 froz:=rfl
 base:=rfl
 fp _ _ _ h:=h
 ok {H F w S v} hn h:=by
  have h':iq F w (.sl T d) v l S:=h;obtain⟨lh,Ss,h1,_⟩:=h;exact iq.freeze h' hn h1.jS
theorem JH{objs:List (Nat×(Nat×Th))}{o s:Nat}{t0 t1:Th}(hf:Oj t0 t1)(hs:aq U H F w (find objs) n)(ho:find objs o=some (s,t0)):
 ∃F',aq U H F' w (find ((o,(s,t1))::del [o] objs)) n/\(∀b,F b->F' b)/\(∀b,F' b->F b\/∃v,H.val o=some v/\fp (H.sub s) v t0 b):=by
 obtain⟨v,hv,bP⟩:=hs.obj _ _ _ ho;refine⟨λb=>F b\/fp (H.sub s) v t0 b,?_,λ_ h=> .inl h,λb hb=>hb.imp id λhm=>⟨v,hv,hm⟩⟩
 have part:∀o' s' t',find ((o,(s,t1))::del [o] objs) o'=some (s',t')->(o'=o/\s'=s/\t'=t1)\/(o'≠o/\find objs o'=some (s',t')):=by
  intro o' s' t' h;rw[aA]at h;split at h
  .rename_i e;simp only[aa1,abU]at h;exact .inl ⟨e.symm,h.1.symm,h.2.symm⟩
  .rename_i e;exact .inr ⟨λe'=>e e'.symm,(fE.1 h).2⟩
 have fz:Step F w (λb=>F b\/fp (H.sub s) v t0 b) w:=Step.freeze F w _;refine⟨λo' s' t' h=>?_,λo1 o2 s1 s2 W5 t2 v1 v2 cA h1 h2 e1 e2 k hk kh=>?_,hs.fresh,λb hb=>hb.elim (hs.lt b) (bP.lt b),hs.new,hs.gl.step fz⟩
 .rcases part o' s' t' h with⟨rfl,rfl,rfl⟩|⟨cA,h'⟩
  .exact⟨v,hv,bP.one,by rw[hf.base];exact bP.con,hf.ok bP.no bP.ok,λk hk=>(hf.fp _ _ _ hk).elim,λk hk=>(hf.fp _ _ _ hk).elim,λk hk=>(hf.fp _ _ _ hk).elim⟩
  .obtain⟨v',da,yy⟩:=hs.obj _ _ _ h';refine⟨v',da,yy.one,yy.con,yy.ok.heap (an.le.refl H) fz λ_ _=>rfl,λk hk hF=>?_,yy.lt,yy.use⟩
   rcases hF with hF|hF
   .exact yy.no k hk hF
   .exact hs.apart _ _ _ _ _ _ _ _ cA h' ho da hv k hk hF
 .rcases part o1 s1 W5 h1 with⟨rfl,rfl,rfl⟩|⟨W6,sI⟩
  .exact hf.fp _ _ _ hk
  .rcases part o2 s2 t2 h2 with⟨rfl,rfl,rfl⟩|⟨Xa,um⟩
   .exact hf.fp _ _ _ kh
   .exact hs.apart _ _ _ _ _ _ _ _ cA sI um e1 e2 k hk kh
theorem lO:{os:List Nat}->{F:Nat->Prop}->{objs k6:List (Nat×(Nat×Th))}->dZ objs os=some k6->aq U H F w (find objs) n->
 ∃F',aq U H F' w (find k6) n/\(∀b,F b->F' b)/\(∀b,F' b->F b\/bJ H (find objs) os b)
 |[],F,objs,k6,h,hs=>by obtain rfl:=aaT h;exact⟨F,hs,λ_ h=>h,λ_ h=> .inl h⟩
 |o::os,F,objs,k6,h,hs=>by
  have main:∀s t t',Oj t t'->find objs o=some (s,t)->dZ ((o,(s,t'))::del [o] objs) os=some k6->
   ∃F',aq U H F' w (find k6) n/\(∀b,F b->F' b)/\(∀b,F' b->F b\/bJ H (find objs) (o::os) b):=by
   intro s t t' hf ho h;obtain⟨F1,a1,a2,a3⟩:=JH hf hs ho;obtain⟨F2,b1,b2,b3⟩:=lO h a1;refine⟨F2,b1,λb hb=>b2 b (a2 b hb),λb hb=>?_⟩
   rcases b3 b hb with h1|⟨o',iY,s',t',v,h1,h2,h3⟩
   .rcases a3 b h1 with h2|⟨v,hv,hm⟩
    .exact .inl h2
    .exact .inr ⟨o,by simp,s,_,v,ho,hv,hm⟩
   .rw[aA]at h1;split at h1
    .simp only[aa1,abU]at h1;rw[<-h1.2]at h3;exact(hf.fp _ _ _ h3).elim
    .exact .inr ⟨o',by simp[iY],s',t',v,(fE.1 h1).2,h2,h3⟩
  have same:dZ objs os=some k6->∃F',aq U H F' w (find k6) n/\(∀b,F b->F' b)/\(∀b,F' b->F b\/bJ H (find objs) (o::os) b):=by
   intro h;obtain⟨F2,b1,b2,b3⟩:=lO h hs;exact⟨F2,b1,b2,λb hb=>(b3 b hb).imp id λ⟨o',iY,rest⟩=>⟨o',by simp[iY],rest⟩⟩
  unfold dZ at h;split at h
  .rename_i ho;exact main _ _ _ (JF ..) ho h
  .rename_i ho;exact main _ _ _ (JG ..) ho h
  .rename_i ho;exact main _ _ _ (GW ..) ho h
  .exact same h
  .exact same h
  .exact same h
  .cases h
end
theorem fh{S:Nat->Prop}{v:Value}{t:Th}{k:Nat}(h:df t=acQ)(hk:fp S v t k):False:=by
 cases t<;>first|(exact hk)|(cases h)
theorem ig:{os:List Nat}->{objs k6:List (Nat×(Nat×Th))}->dZ objs os=some k6->∀o s t,find k6 o=some (s,t)->
 find objs o=some (s,t)\/df t=acQ
 |[],objs,k6,h,o,s,t,ho=>by obtain rfl:=aaT h;exact .inl ho
 |o0::os,objs,k6,h,o,s,t,ho=>by
  have main:∀s0 t1,df t1=acQ->dZ ((o0,(s0,t1))::del [o0] objs) os=some k6->find objs o=some (s,t)\/df t=acQ:=by
   intro s0 t1 hf h
   rcases ig h o s t ho with h1|g
   .rw[aA]at h1;split at h1
    .simp only[aa1,abU]at h1;obtain⟨rfl,rfl⟩:=h1;exact .inr hf
    .exact .inl (fE.1 h1).2
   .exact .inr g
  unfold dZ at h;split at h
  .exact main _ _ rfl h
  .exact main _ _ rfl h
  .exact main _ _ rfl h
  .exact ig h o s t ho
  .exact ig h o s t ho
  .exact ig h o s t ho
  .cases h
inductive Sh where
 |leaf (r:Row)
 |own (j:Nat)
 |nil
 |pair (a b:Sh)
 |junk (n:Nat)
inductive SS where
 |val (agg:Bool) (t:Sh)
 |ptr (j:Nat) (p:List Bool) (off:Nat)
 |at (r:Row)
 |undef
 |fn (f:FuncId) (js:List (Nat×List Bool×Nat))
 |ifc (T:TypeId) (s:SS)
inductive OS where
 |box (T:TypeId) (t:Sh)
 |own (T:TypeId) (r:Row)
 |map (T:TypeId) (K:Row) (agg:Bool) (V:Row)
 |deep (T:TypeId) (d:DR)
 |smap (T:TypeId) (K:Row) (agg:Bool) (V:Row) (it:Option Nat)
structure JS where
 ak:List (Nat×SS)
 objs:List (Nat×OS):=[]
 drop:List Nat:=[]
 nxt:Nat
def Sh.rows:Sh->List Row
 | .leaf r=>[r]
 | .own _=>[]
 | .nil=>[]
 | .pair a b=>a.rows++b.rows
 | .junk _=>[]
def SS.rows:SS->List Row
 | .val _ t=>t.rows
 | .ptr .. =>[]
 | .at r=>[r]
 | .undef=>[]
 | .fn .. =>[]
 | .ifc _ s=>s.rows
def OS.rows:OS->List Row
 | .box _ t=>t.rows
 | .own _ r=>[.slice r]
 | .map _ K _ V=>[.slice (.pair K V)]
 | .deep _ d=>[.slice d.row]
 | .smap _ K _ V acP=>[.slice (.pair K V)]
 | .smap _ K _ V (some _)=>[.slice (.pair K V), .slice (.pair K V)]
def yz:List (Nat×SS)->List Row
 |[]=>[]
 |p::l=>p.2.rows++yz l
def Cx:List (Nat×OS)->List Row
 |[]=>[]
 |p::l=>p.2.rows++Cx l
def JS.rows(J:JS):List Row:=yz J.ak++Cx J.objs
abbrev iu:=(r:Row)×r.den
@[reducible] def cE:List Row->Type
  |[]=>Unit
  |[r]=>r.den
  |r::s::rs=>r.den×cE (s::rs)
def cK:(rs:List Row)->cE rs->List iu
 |[],_=>[]
 |[r],x=>[⟨r,x⟩]
 |r::s::rs,x=>⟨r,x.1⟩::cK (s::rs) x.2
def yA:(rs:List Row)->List iu->Option (cE rs)
 |[],[]=>some ()
 |[r],[⟨s,x⟩]=>if h:s.beq r=acQ then some (gG (Row.eq_of_beq h) x)else acP
 |r::r'::rs,⟨s,x⟩::vs=>if h:s.beq r=acQ then(match yA (r'::rs) vs with
  |some y=>some (gG (Row.eq_of_beq h) x,y)
  |none=>acP)else acP
 |_,_=>acP
theorem vj{r s:Row}(h:s=r)(x:s.den):(⟨r,gG h x⟩:iu)=⟨s,x⟩:=by subst h;rfl
theorem rq:{rs:List Row}->{vs:List iu}->{x:cE rs}->yA rs vs=some x->cK rs x=vs
 |[],[],x,_=>rfl
 |[],_::_,_,h=>by cases h
 |[r],[],_,h=>by cases h
 |[r],[⟨s,x⟩],y,h=>by
  unfold yA at h;split at h
  .rename_i hb;obtain rfl:=aaT h
   show[(⟨r,_⟩:iu)]=_
   rw[vj]
  .cases h
 |[r],_::_::_,_,h=>by cases h
 |r::r'::rs,[],_,h=>by cases h
 |r::r'::rs,⟨s,x⟩::vs,y,h=>by
  unfold yA at h;split at h
  .rename_i hb;split at h
   .rename_i z hz;obtain rfl:=aaT h;have:=rq hz
    show(⟨r,_⟩:iu)::cK (r'::rs) z=_
    rw[vj,this]
   .cases h
  .cases h
def mP:Sh->List iu->Tree×List iu
 | .leaf r,⟨s,x⟩::vs=>(bif s.beq r then .leaf s x else .nil,vs)
 | .leaf _,[]=>(.nil,[])
 | .own j,vs=>(.own j,vs)
 | .nil,vs=>(.nil,vs)
 | .pair a b,vs=>(.pair (mP a vs).1 (mP b (mP a vs).2).1,(mP b (mP a vs).2).2)
 | .junk n,vs=>(.junk n,vs)
def dt:SS->List iu->aj×List iu
 | .val agg t,vs=>(.val agg (mP t vs).1,(mP t vs).2)
 | .ptr j p off,vs=>(.ptr j p off,vs)
 | .at r,⟨s,x⟩::vs=>(bif s.beq r then .at s x else .dead,vs)
 | .at _,[]=>(.dead,[])
 | .undef,vs=>(.undef,vs)
 | .fn f js,vs=>(.fn f js,vs)
 | .ifc T s,vs=>(.ifc T (dt s vs).1,(dt s vs).2)
def cB:List (Nat×SS)->List iu->List (Nat×aj)×List iu
 |[],vs=>([],vs)
 |(t,s)::l,vs=>((t,(dt s vs).1)::(cB l (dt s vs).2).1,(cB l (dt s vs).2).2)
def nf(K V:Row)(d:iu):Option (List (K.den×V.den)):=if h:d.1.beq (.slice (.pair K V))=acQ then some (gG (s:= .slice (.pair K V)) (Row.eq_of_beq h) d.2)else acP
def LU(T:TypeId)(K:Row)(agg:Bool)(V:Row):Option Nat->List iu->Th×List iu
 |none,d::vs=>(.smap T K agg V ((nf K V d).getD []) acP,vs)
 |some n,d::d'::vs=>(.smap T K agg V ((nf K V d).getD []) (some (n,(nf K V d').getD [],acP)),vs)
 |_,vs=>(.smap T K agg V [] acP,vs)
theorem qJ{K V:Row}(l:List (K.den×V.den)):nf K V ⟨.slice (.pair K V),l⟩=some l:=by
 unfold nf;rw[dif_pos (Row.beq_refl _)];rfl
def cu:OS->List iu->Th×List iu
 | .box T t,vs=>(.box T (mP t vs).1,(mP t vs).2)
 | .own T r,⟨.slice s,l⟩::vs=>(bif s.beq r then .own T s l else .own T r [],vs)
 | .own T r,vs=>(.own T r [],vs)
 | .map T K agg V,⟨.slice (.pair K' V'),l⟩::vs=>(if h:K'.beq K=acQ/\V'.beq V=acQ then .map T K agg V (gG (r:= .slice (.pair K' V')) (s:= .slice (.pair K V)) (by rw[Row.eq_of_beq h.1,Row.eq_of_beq h.2]) l)else .map T K agg V [],vs)
 | .map T K agg V,vs=>(.map T K agg V [],vs)
 | .deep T d,⟨.slice s,l⟩::vs=>(if h:s.beq d.row=acQ then .deep T d (gG (r:= .slice s) (s:= .slice d.row) (ac0 Row.slice (Row.eq_of_beq h)) l) acP else .deep T d [] acP,vs)
 | .deep T d,vs=>(.deep T d [] acP,vs)
 | .smap T K agg V it,vs=>LU T K agg V it vs
def e8(m:Nat):List (Nat×OS)->List iu->List (Nat×(Nat×Th))
 |[],_=>[]
 |(j,s)::l,vs=>(j,(m,(cu s vs).1))::e8 (m+1) l (cu s vs).2
abbrev Bs:=List (Nat×Option Nat)
def AY:Option Nat->Option Nat->Bool
 |some a,some b=>aaY a b
 |none,acP=>acQ
 |_,_=>acR
theorem vk{a b:Option Nat}(h:AY a b=acQ):a=b:=by
 cases a<;>cases b<;>first|rfl|cases h|(rw[beq_true h])
def th(bs:Bs)(j:Nat)(v:Option Nat):Option Bs:=
 match find bs j with
 |none=>some ((j,v)::bs)
 |some u=>bif AY u v then some bs else acP
def Ak(ob:Nat->Option (Nat×Th)):Sh->Tree->Bs->Option (List iu×Bs)
 | .leaf r,t,bs=>match flat ob r t with
   |some x=>some ([⟨r,x⟩],bs)
   |none=>acP
 | .own j, .own o,bs=>match th bs j (some o)with
   |some ey=>some ([],ey)
   |none=>acP
 | .own j, .nil,bs=>match th bs j acP with
   |some ey=>some ([],ey)
   |none=>acP
 | .nil, .nil,bs=>some ([],bs)
 | .junk n,t,bs=>bif aaY t.size n then some ([],bs)else acP
 | .pair a b,t,bs=>match t.split with
   |some (x,y)=>match Ak ob a x bs with
    |some (vs,AZ)=>match Ak ob b y AZ with
     |some (us,Cy)=>some (vs++us,Cy)
     |none=>acP
    |none=>acP
   |none=>acP
 |_,_,_=>acP
def qK:List (Nat×List Bool×Nat)->List (Nat×List Bool×Nat)->Bs->Option Bs
 |[],[],bs=>some bs
 |(j,_,off)::js,(o,_,cV)::cs,bs=>bif aaY off cV then(match th bs j (some o)with
  |some ey=>qK js cs ey
  |none=>acP)else acP
 |_,_,_=>acP
def GX(ob:Nat->Option (Nat×Th))(s:SS)(d:aj)(bs:Bs):Option (List iu×Bs):=
 match s,d with
 | .val agg sh, .val dq t=>bif (bif agg then dq else !dq)then Ak ob sh t bs else acP
 | .ptr j _ off, .ptr o _ cV=>bif aaY off cV then(match th bs j (some o)with
   |some ey=>some ([],ey)
   |none=>acP)else acP
 | .at r, .at s x=>if h:s.beq r=acQ then some ([⟨r,gG (Row.eq_of_beq h) x⟩],bs)else acP
 | .undef, .undef=>some ([],bs)
 | .fn f js, .fn f' cs=>bif aaY f f' then(match qK js cs bs with
   |some ey=>some ([],ey)
   |none=>acP)else acP
 |_,_=>acP
def Em(ob:Nat->Option (Nat×Th)):SS->aj->Bs->Option (List iu×Bs)
 | .ifc T s,d,bs=>match d with
   | .ifc T' d'=>bif aaY T T' then Em ob s d' bs else acP
   |_=>acP
 |s,d,bs=>GX ob s d bs
def Nn(ob:Nat->Option (Nat×Th))(ak:List (Nat×aj)):List (Nat×SS)->Bs->Option (List iu×Bs)
 |[],bs=>some ([],bs)
 |(t,s)::l,bs=>match find ak t with
  |some d=>match Em ob s d bs with
   |some (vs,AZ)=>match Nn ob ak l AZ with
    |some (us,Cy)=>some (vs++us,Cy)
    |none=>acP
   |none=>acP
  |none=>acP
def GY(ob:Nat->Option (Nat×Th))(j:Nat)(s:OS)(bs:Bs):Option (List iu×Bs):=
 match find bs j with
 |some (some o)=>match ob o with
  |some (_,t)=>match s,t with
   | .own T r, .own T' r' l=>bif aaY T T' then(if h:r'.beq r=acQ then some ([⟨.slice r,gG (r:= .slice r') (s:= .slice r) (ac0 Row.slice (Row.eq_of_beq h)) l⟩],bs)else acP)else acP
   | .box T sh, .box T' t=>bif aaY T T' then Ak ob sh t bs else acP
   | .map T K agg V, .map T' K' dq V' l=>bif aaY T T'&&(bif agg then dq else !dq)then(if h:K'.beq K=acQ/\V'.beq V=acQ then some ([⟨.slice (.pair K V),gG (r:= .slice (.pair K' V')) (s:= .slice (.pair K V)) (by rw[Row.eq_of_beq h.1,Row.eq_of_beq h.2]) l⟩],bs)else acP)else acP
   | .deep T d, .deep T' d' l acP=>bif aaY T T'&&d'.beq d then some ([⟨.slice d'.row,l⟩],bs)else acP
   | .smap T K agg V acP, .smap T' K' dq V' l _=>bif aaY T T'&&(bif agg then dq else !dq)&&K'.beq K&&V'.beq V then some ([⟨.slice (.pair K' V'),l⟩],bs)else acP
   | .smap T K agg V (some n), .smap T' K' dq V' l (some (n',left,_))=>bif aaY T T'&&(bif agg then dq else !dq)&&K'.beq K&&V'.beq V then(match th bs n (some n')with
     |some ey=>some ([⟨.slice (.pair K' V'),l⟩,⟨.slice (.pair K' V'),left⟩],ey)
     |none=>acP)else acP
   |_,_=>acP
  |none=>acP
 |some acP=>match s with
  | .own _ r=>some ([⟨.slice r,([]:List r.den)⟩],bs)
  | .deep _ d=>some ([⟨.slice d.row,([]:List d.row.den)⟩],bs)
  |_=>acP
 |none=>acP
def No(ob:Nat->Option (Nat×Th)):List (Nat×OS)->Bs->Option (List iu×Bs)
 |[],bs=>some ([],bs)
 |(j,s)::l,bs=>match GY ob j s bs with
  |some (vs,AZ)=>match No ob l AZ with
   |some (us,Cy)=>some (vs++us,Cy)
   |none=>acP
  |none=>acP
section
variable {U:Nat->Prop} {H H':an} {F:Nat->Prop} {w:World} {n:Nat} {ob:Nat->Option (Nat×Th)}
def yB(bs ey:Bs):Prop:=∀j v,find bs j=some v->find ey j=some v
theorem gH{bs ey:Bs}{j:Nat}{v:Option Nat}(h:th bs j v=some ey):yB bs ey/\find ey j=some v:=by
 unfold th at h;split at h
 .rename_i hn;obtain rfl:=aaT h;refine⟨λi u hu=>?_,by rw[aA,acU rfl]⟩;rw[aA];by_cases e:j=i
  .subst e;rw[hn]at hu;cases hu
  .rw[acT e];exact hu
 .rename_i u hu;obtain⟨h1,rfl⟩:=pC h;obtain rfl:=vk h1;exact⟨λ_ _ h=>h,hu⟩
def valOf(H:an):Option Nat->Option Value
 |some o=>H.val o
 |none=>some (.slice acP 0 0)
def lP(H H':an)(bs:Bs):Prop:=∀j v,find bs j=some v->∀u,valOf H v=some u->H'.val j=some u
theorem tj:{sh:Sh}->{t:Tree}->{bs ey:Bs}->{vs:List iu}->Ak ob sh t bs=some (vs,ey)->yB bs ey
 | .leaf r,t,bs,ey,vs,h=>by
   unfold Ak at h
   split at h<;>cases h
   exact λ_ _ h=>h
 | .own j, .own o,bs,ey,vs,h=>by
   unfold Ak at h
   split at h<;>cases h
   rename_i hb;exact(gH hb).1
 | .own j, .nil,bs,ey,vs,h=>by
   unfold Ak at h
   split at h<;>cases h
   rename_i hb;exact(gH hb).1
 | .nil, .nil,bs,ey,vs,h=>by cases h;exact λ_ _ h=>h
 | .pair a b,t,bs,ey,vs,h=>by
   unfold Ak at h;split at h
   case h_2=>cases h
   split at h
   case h_2=>cases h
   rename_i h1;split at h
   case h_2=>cases h
   rename_i h2;cases h
   exact λj v hj=>tj h2 j v (tj h1 j v hj)
 | .own _, .leaf _ _,_,_,_,h=>by cases h
 | .own _, .pair _ _,_,_,_,h=>by cases h
 | .nil, .leaf _ _,_,_,_,h=>by cases h
 | .nil, .own _,_,_,_,h=>by cases h
 | .nil, .pair _ _,_,_,_,h=>by cases h
 | .own _, .view ..,_,_,_,h=>by cases h
 | .nil, .view ..,_,_,_,h=>by cases h
 | .own _, .junk _,_,_,_,h=>by cases h
 | .nil, .junk _,_,_,_,h=>by cases h
 | .junk n,t,bs,ey,vs,h=>by
   unfold Ak at h;obtain⟨_,h⟩:=aB h;cases h
   exact λ_ _ h=>h
theorem wJ(hs:aq U H F w ob n):{sh:Sh}->{t:Tree}->{bs ey:Bs}->{vs:List iu}->{cs:List Value}->Ak ob sh t bs=some (vs,ey)->Holds H F w t cs->lP H H' ey->∀rest,
 Holds H' F w (mP sh (vs++rest)).1 cs/\(mP sh (vs++rest)).2=rest
 | .leaf r,t,bs,ey,vs,cs,h,hh,hb,rest=>by
   unfold Ak at h
   split at h<;>cases h
   rename_i x hf;refine⟨?_,rfl⟩
   show Holds H' F w (bif r.beq r then Tree.leaf r x else .nil) cs
   rw[Row.beq_refl,cond_true];exact eT hs hf hh
 | .own j, .own o,bs,ey,vs,cs,h,hh,hb,rest=>by
   unfold Ak at h
   split at h<;>cases h
   rename_i v7;obtain⟨v,hv,h1,rfl⟩:=hh;exact⟨⟨v,hb _ _ (gH v7).2 v hv,h1,rfl⟩,rfl⟩
 | .own j, .nil,bs,ey,vs,cs,h,hh,hb,rest=>by
   unfold Ak at h
   split at h<;>cases h
   rename_i v7;rw[show cs=_ from hh];exact⟨⟨_,hb _ _ (gH v7).2 _ rfl,rfl,rfl⟩,rfl⟩
 | .nil, .nil,bs,ey,vs,cs,h,hh,hb,rest=>by cases h;exact⟨hh,rfl⟩
 | .pair a b,t,bs,ey,vs,cs,h,hh,hb,rest=>by
   unfold Ak at h;split at h
   case h_2=>cases h
   rename_i x y uu;split at h
   case h_2=>cases h
   rename_i Ru AZ h1;split at h
   case h_2=>cases h
   rename_i us Cy h2;cases h;obtain⟨c1,c2,rfl,g1,g2,_⟩:=hh.split uu
   have FF:lP H H' AZ:=λj v hj=>hb j v (tj h2 j v hj)
   obtain⟨k1,k2⟩:=wJ hs h1 g1 FF (us++rest);obtain⟨m1,m2⟩:=wJ hs h2 g2 hb rest;rw[abm];unfold mP;rw[k2];exact⟨⟨c1,c2,rfl,k1,m1⟩,m2⟩
 | .own _, .leaf _ _,_,_,_,_,h,_,_,_=>by cases h
 | .own _, .pair _ _,_,_,_,_,h,_,_,_=>by cases h
 | .nil, .leaf _ _,_,_,_,_,h,_,_,_=>by cases h
 | .nil, .own _,_,_,_,_,h,_,_,_=>by cases h
 | .nil, .pair _ _,_,_,_,_,h,_,_,_=>by cases h
 | .own _, .view ..,_,_,_,_,h,_,_,_=>by cases h
 | .nil, .view ..,_,_,_,_,h,_,_,_=>by cases h
 | .own _, .junk _,_,_,_,_,h,_,_,_=>by cases h
 | .nil, .junk _,_,_,_,_,h,_,_,_=>by cases h
 | .junk n,t,bs,ey,vs,cs,h,hh,hb,rest=>by
   unfold Ak at h;obtain⟨hn,h⟩:=aB h;cases h;exact⟨⟨hh.length.trans (abK hn),hh.gO⟩,rfl⟩
theorem qL:{js cs:List (Nat×List Bool×Nat)}->{bs ey:Bs}->qK js cs bs=some ey->yB bs ey
 |[],[],bs,ey,h=>by obtain rfl:=aaT h;exact λ_ _ h=>h
 |(j,p,off)::js,(o,p',cV)::cs,bs,ey,h=>by
  unfold qK at h;obtain⟨_,h⟩:=aB h;split at h
  case h_2=>cases h
  rename_i hb
  exact λi v hi=>qL h i v ((gH hb).1 i v hi)
 |[],_::_,_,_,h=>by cases h
 |_::_,[],_,_,h=>by cases h
theorem vl:{js cs:List (Nat×List Bool×Nat)}->{bs ey:Bs}->{vs:List Value}->qK js cs bs=some ey->jd H cs vs->lP H H' ey->jd H' js vs
 |[],[],bs,ey,vs,h,hc,hb=>hc
 |(j,p,off)::js,(o,p',cV)::cs,bs,ey,vs,h,hc,hb=>by
  unfold qK at h;obtain⟨ho,h'⟩:=aB h;clear h;split at h'
  case h_2=>cases h'
  rename_i b1 v7;obtain⟨v,us,rfl,⟨b,h1,rfl⟩,h2⟩:=hc;have ho:=beq_true ho;subst ho;exact⟨_,us,rfl,⟨b,hb _ _ (qL h' _ _ (gH v7).2) _ h1,rfl⟩,vl h' h2 hb⟩
 |[],_::_,_,_,_,h,_,_=>by cases h
 |_::_,[],_,_,_,h,_,_=>by cases h
theorem JI{s:SS}{d:aj}{bs ey:Bs}{vs:List iu}(h:GX ob s d bs=some (vs,ey)):yB bs ey:=by
 unfold GX at h;split at h
 .obtain⟨_,h⟩:=aB h;exact tj h
 .obtain⟨_,h⟩:=aB h
  split at h<;>cases h
  rename_i hb;exact(gH hb).1
 .split at h<;>cases h
  exact λ_ _ h=>h
 .cases h
  exact λ_ _ h=>h
 .obtain⟨_,h'⟩:=aB h
  split at h'<;>cases h'
  rename_i hb;exact qL hb
 .cases h
theorem JJ{s:SS}{d:aj}{bs ey:Bs}{vs:List iu}(h:Em ob s d bs=some (vs,ey)):yB bs ey:=by
 induction s generalizing d with
 |ifc T s ih=>
  cases d with
  |ifc T' d'=>
   obtain⟨_,h'⟩:=aB (show(bif aaY T T' then Em ob s d' bs else acP)=some (vs,ey)from h);exact ih h'
  |_=>cases h
 |_=>exact JI h
theorem JK(hs:aq U H F w ob n){s:SS}{d:aj}{bs ey:Bs}{vs:List iu}{v:Value}(h:GX ob s d bs=some (vs,ey))(hd:ah H F w d v)(hb:lP H H' ey)(rest:List iu):
 ah H' F w (dt s (vs++rest)).1 v/\(dt s (vs++rest)).2=rest:=by
 unfold GX at h;split at h
 .rename_i agg sh dq t;obtain⟨ha,h'⟩:=aB h;clear h
  have:agg=dq:=by cases agg<;>cases dq<;>simp_all
  subst this;obtain⟨cs,h1,h2⟩:=hd;obtain⟨k1,k2⟩:=wJ hs h' h1 hb rest;exact⟨⟨cs,k1,h2⟩,k2⟩
 .rename_i j p off o p' cV;obtain⟨ho,h'⟩:=aB h;clear h
  split at h'<;>cases h'
  rename_i v7;obtain⟨b,h1,h2⟩:=hd;refine⟨⟨b,hb _ _ (gH v7).2 _ h1,?_⟩,rfl⟩;rw[beq_true ho];exact h2
 .rename_i r s x
  split at h<;>cases h
  rename_i xX;obtain rfl:=Row.eq_of_beq xX;refine⟨?_,rfl⟩
  show ah H' F w (bif s.beq s then aj.at s x else .dead) v
  rw[Row.beq_refl,cond_true];exact hd
 .cases h;exact⟨hd,rfl⟩
 .rename_i f js f' cs;obtain⟨hf,h'⟩:=aB h
  split at h'<;>cases h'
  rename_i v7;obtain⟨us,h1,h2⟩:=hd;refine⟨⟨us,?_,vl v7 h2 hb⟩,rfl⟩;rw[beq_true hf];exact h1
 .cases h
theorem JL(hs:aq U H F w ob n){s:SS}{d:aj}{bs ey:Bs}{vs:List iu}{v:Value}(h:Em ob s d bs=some (vs,ey))(hd:ah H F w d v)(hb:lP H H' ey)(rest:List iu):
 ah H' F w (dt s (vs++rest)).1 v/\(dt s (vs++rest)).2=rest:=by
 induction s generalizing d v with
 |ifc T s ih=>
  cases d with
  |ifc T' d'=>
   obtain⟨hT,h'⟩:=aB (show(bif aaY T T' then Em ob s d' bs else acP)=some (vs,ey)from h);obtain⟨u,e,h2⟩:=hd;obtain⟨k1,k2⟩:=ih h' h2;exact⟨⟨u,by rw[beq_true hT];exact e,k1⟩,k2⟩
  |_=>cases h
 |_=>exact JK hs h hd hb rest
theorem GZ:{l:List (Nat×SS)}->{ak:List (Nat×aj)}->{bs ey:Bs}->{vs:List iu}->Nn ob ak l bs=some (vs,ey)->yB bs ey
 |[],_,_,_,_,h=>by cases h;exact λ_ _ h=>h
 |(t,s)::l,ak,bs,ey,vs,h=>by
  unfold Nn at h;split at h
  case h_2=>cases h
  split at h
  case h_2=>cases h
  rename_i h1;split at h
  case h_2=>cases h
  rename_i h2;cases h
  exact λj v hj=>GZ h2 j v (JJ h1 j v hj)
theorem G0(hs:aq U H F w ob n){ak:List (Nat×aj)}{ρ:Nat->Value}(fq:∀t d,find ak t=some d->ah H F w d (ρ t)):{l:List (Nat×SS)}->{bs ey:Bs}->{vs:List iu}->Nn ob ak l bs=some (vs,ey)->lP H H' ey->∀rest,
 (∀t d,find (cB l (vs++rest)).1 t=some d->ah H' F w d (ρ t))/\(cB l (vs++rest)).2=rest
 |[],bs,ey,vs,h,_,rest=>by cases h;exact⟨λ_ _ h=>(by cases h),rfl⟩
 |(t,s)::l,bs,ey,vs,h,hb,rest=>by
  unfold Nn at h;split at h
  case h_2=>cases h
  rename_i d hd;split at h
  case h_2=>cases h
  rename_i Ru AZ h1;split at h
  case h_2=>cases h
  rename_i us Cy h2;cases h
  have FF:lP H H' AZ:=λj v hj=>hb j v (GZ h2 j v hj)
  obtain⟨k1,k2⟩:=JL hs h1 (fq t d hd) FF (us++rest);obtain⟨m1,m2⟩:=G0 hs fq h2 hb rest;rw[abm];unfold cB;rw[k2];refine⟨λt' d' h'=>?_,m2⟩;rw[aA]at h';split at h'
  .rename_i e;subst e;obtain rfl:=aaT h';exact k1
  .exact m1 t' d' h'
end
end Go.Proofs.YtbladfbbhijpmaaGreat
namespace Go.Proofs.YtbladfbbhijpmaaGreat
open Go Go.RowKit
def Tree.owns:Tree->List Nat
 | .own o=>[o]
 | .pair a b=>a.owns++b.owns
 | .view o _ _ _=>[o]
 |_=>[]
def yC:Sh->Tree->List Nat
 | .leaf _,t=>t.owns
 | .pair a b,t=>match t.split with
   |some (x,y)=>yC a x++yC b y
   |none=>[]
 |_,_=>[]
def Cz(ak:List (Nat×aj)):List (Nat×SS)->List Nat
 |[]=>[]
 |(t, .val _ sh)::l=>(match find ak t with
  |some (.val _ tr)=>yC sh tr
  |_=>[])++Cz ak l
 |(t, .ifc _ (.val _ sh))::l=>(match find ak t with
  |some (.ifc _ (.val _ tr))=>yC sh tr
  |_=>[])++Cz ak l
 |_::l=>Cz ak l
def K4(j:Nat):List (Nat×List Bool×Nat)->List (Nat×List Bool×Nat)->Option Nat
 |(j',_)::js,(o,_)::cs=>bif aaY j' j then some o else K4 j js cs
 |_,_=>acP
def yD(ak:List (Nat×aj))(j:Nat):List (Nat×SS)->Option Nat
 |[]=>acP
 |(t, .ptr j' _ _)::l=>bif aaY j' j then(match find ak t with
  |some (.ptr o _ _)=>some o
  |_=>acP)else yD ak j l
 |(t, .ifc _ (.ptr j' _ _))::l=>bif aaY j' j then(match find ak t with
  |some (.ifc _ (.ptr o _ _))=>some o
  |_=>acP)else yD ak j l
 |(t, .fn _ js)::l=>match(match find ak t with
    |some (.fn _ cs)=>K4 j js cs
    |_=>acP)with
  |some o=>some o
  |none=>yD ak j l
 |_::l=>yD ak j l
def G1(nb:Nat)(ak:List (Nat×aj))(ss:List (Nat×SS))(objs:List (Nat×(Nat×Th))):List (Nat×OS)->List Nat
 |[]=>[]
 |(j, .box _ sh)::l=>(match(bif abI j nb then some j else yD ak j ss)with
  |some o=>(match find objs o with
   |some (_, .box _ tr)=>yC sh tr
   |_=>[])
  |none=>[])++G1 nb ak ss objs l
 |_::l=>G1 nb ak ss objs l
def Rv(nb:Nat):List (Nat×OS)->Bs
 |[]=>[]
 |(j,_)::l=>bif abI j nb then(j,some j)::Rv nb l else Rv nb l
def fj:Bs->List Nat
 |[]=>[]
 |(_,some o)::l=>o::fj l
 |(_,acP)::l=>fj l
def kJ(o:Nat)(l:List Nat):Bool:=l.any (aaY o)
def A0:List Nat->Bool
 |[]=>acQ
 |o::l=> !kJ o l&&A0 l
def G2(nb nxt:Nat):Bs->Bool
 |[]=>acQ
 |(j,u)::l=>(bif abI j nb then AY u (some j)else abI j nxt)&&G2 nb nxt l
def A3(objs:List (Nat×(Nat×Th)))(yE:List Nat):List (Nat×(Nat×Th))->Bool
 |[]=>acQ
 |(o,(s,t))::l=>(match find objs o with
  |some (s',t')=>aaY s s'&&(bif df t then df t' else !df t')
  |none=>acR)&& !kJ o yE&&A3 objs yE l
def vm(nb:Nat)(J:JS)(ak:List (Nat×aj))(objs:List (Nat×(Nat×Th))):List Nat:=Cz ak J.ak++G1 nb ak J.ak objs J.objs
def vn(nb:Nat)(frame:List (Nat×(Nat×Th)))(J:JS)(ak:List (Nat×aj))(objs:List (Nat×(Nat×Th))):Option (cE J.rows×Bs×List (Nat×(Nat×Th))):=
 match dZ objs (vm nb J ak objs)with
 |none=>acP
 |some aG=>match Nn (find aG) ak J.ak (Rv nb J.objs)with
  |none=>acP
  |some (vs,AZ)=>match No (find aG) J.objs AZ with
   |none=>acP
   |some (us,Cy)=>bif A0 (fj Cy)&&G2 nb J.nxt Cy&&Nat.ble (nb+J.objs.length) J.nxt&&A3 aG (fj Cy) frame then
     (match yA J.rows (vs++us)with
     |some x=>some (x,Cy,aG)
     |none=>acP)else acP
def pM:List (Nat×(Nat×Th))->Nat->Option Th
 |[],_=>acP
 |(_,(s,t))::l,m=>bif aaY s m then some t else pM l m
def LV:List (Nat×(Nat×Th))->Nat->Option Nat
 |[],_=>acP
 |(j,(s,_))::l,m=>bif aaY s m then some j else LV l m
def tl(H:an)(ob:Nat->Option (Nat×Th)):Option (Option Nat)->Nat->Prop
 |some (some o)=>match ob o with
  |some (s,_)=>H.sub s
  |none=>λ_=>False
 |_=>λ_=>False
def dp(H:an)(nb:Nat)(bs:Bs)(cons:List (Nat×(Nat×Th)))(ob:Nat->Option (Nat×Th)):an where
 val m:=if m<nb then H.val m else match find bs m with
  |some u=>valOf H u
  |none=>acP
 con m:=if m<nb then H.con m else pM cons m
 sub m:=if m<nb then H.sub m else match LV cons m with
  |some j=>tl H ob (find bs j)
  |none=>λ_=>False
section
variable {U:Nat->Prop} {H H':an} {F:Nat->Prop} {w:World} {n:Nat} {ob:Nat->Option (Nat×Th)}
theorem CA{j:Nat}{s:OS}{bs ey:Bs}{vs:List iu}(h:GY ob j s bs=some (vs,ey)):yB bs ey:=by
 unfold GY at h;split at h
 .split at h
  case h_2=>cases h
  split at h
  .obtain⟨_,h'⟩:=aB h
   split at h'<;>cases h'
   exact λ_ _ h=>h
  .obtain⟨_,h'⟩:=aB h;exact tj h'
  .obtain⟨_,h'⟩:=aB h
   split at h'<;>cases h'
   exact λ_ _ h=>h
  .obtain⟨_,h'⟩:=aB h;cases h'
   exact λ_ _ h=>h
  .obtain⟨_,h'⟩:=aB h;cases h'
   exact λ_ _ h=>h
  .obtain⟨_,h'⟩:=aB h
   split at h'<;>cases h'
   rename_i v7;exact(gH v7).1
  .cases h
 .split at h<;>cases h
  .exact λ_ _ h=>h
  .exact λ_ _ h=>h
 .cases h
theorem wK:{l:List (Nat×OS)}->{bs ey:Bs}->{vs:List iu}->No ob l bs=some (vs,ey)->yB bs ey
 |[],_,_,_,h=>by cases h;exact λ_ _ h=>h
 |(j,s)::l,bs,ey,vs,h=>by
  unfold No at h;split at h
  case h_2=>cases h
  rename_i h1;split at h
  case h_2=>cases h
  rename_i h2;cases h
  exact λj v hj=>wK h2 j v (CA h1 j v hj)
def jt(H H':an)(F:Nat->Prop)(w:World)(ob:Nat->Option (Nat×Th))(bs:Bs)(j:Nat)(t:Th):Prop:=
 ∃u v,find bs j=some u/\valOf H u=some v/\v.oneCell'=acQ/\t.base=t/\fB H' F w (tl H ob (find bs j)) v t/\∀k,fp (tl H ob (find bs j)) v t k->∃o s0 t0,u=some o/\ob o=some (s0,t0)/\H.val o=some v/\fp (H.sub s0) v t0 k
theorem JM(hs:aq U H F w ob n){j:Nat}{s:OS}{bs ey:Bs}{vs:List iu}(h:GY ob j s bs=some (vs,ey))(hb:lP H H' ey)(rest:List iu):
 jt H H' F w ob bs j (cu s (vs++rest)).1/\(cu s (vs++rest)).2=rest:=by
 unfold GY at h;split at h
 .rename_i o Np;split at h
  case h_2=>cases h
  rename_i s0 t0 bW;obtain⟨v,hv,bP⟩:=hs.obj _ _ _ bW
  have eL:tl H ob (find bs j)=H.sub s0:=by rw[Np];simp[tl,bW]
  have mk:∀t,t.base=t->fB H' F w (H.sub s0) v t->(∀k,fp (H.sub s0) v t k->fp (H.sub s0) v t0 k)->jt H H' F w ob bs j t:=by
   intro t hb kz hf;refine⟨some o,v,Np,hv,bP.one,hb,by rw[eL];exact kz,λk hk=>?_⟩;rw[eL]at hk;exact⟨o,_,_,rfl,bW,hv,hf k hk⟩
  split at h
  .rename_i T r T' r' l;obtain⟨hT,h'⟩:=aB h;clear h
   split at h'<;>cases h'
   rename_i xX;obtain rfl:=Row.eq_of_beq xX;obtain rfl:=beq_true hT;refine⟨?_,rfl⟩
   show jt H H' F w ob bs j (bif r'.beq r' then Th.own T r' l else .own T r' [])
   rw[Row.beq_refl,cond_true]
   exact mk _ rfl bP.ok λk hk=>hk
  .rename_i T sh T' t;obtain⟨hT,h'⟩:=aB h;clear h;obtain rfl:=beq_true hT;obtain⟨b,es,e,h1,h2⟩:=bP.ok;obtain⟨k1,k2⟩:=wJ hs h' h2 hb rest;exact⟨mk _ rfl ⟨b,es,e,h1,k1⟩ λk hk=>hk,k2⟩
  .rename_i T K agg V T' K' dq V' l;obtain⟨hT,h'⟩:=aB h;clear h
   split at h'<;>cases h'
   rename_i xX;obtain⟨LW,ha⟩:=bU hT;clear hT
   have ha:agg=dq:=by cases agg<;>cases dq<;>simp_all
   subst ha;obtain⟨hK,hV⟩:=xX;obtain rfl:=Row.eq_of_beq hK;obtain rfl:=Row.eq_of_beq hV;obtain rfl:=beq_true LW;refine⟨?_,rfl⟩
   show jt H H' F w ob bs j (if h:K'.beq K'=acQ/\V'.beq V'=acQ then Th.map T K' agg V' l else .map T K' agg V' [])
   rw[dif_pos ⟨Row.beq_refl _,Row.beq_refl _⟩];obtain⟨b,es,clock,e,h1,h2,h3⟩:=bP.ok
   exact mk _ rfl ⟨b,es,clock,e,h1,h2,h3.eR⟩ λk hk=>hk
  .rename_i T d T' d' l;obtain⟨hT,h'⟩:=aB h;clear h;obtain⟨LW,hd⟩:=bU hT;obtain rfl:=DR.eq_of_beq hd;obtain rfl:=beq_true LW;cases h';refine⟨?_,rfl⟩
   show jt H H' F w ob bs j (if h:d'.row.beq d'.row=acQ then Th.deep T d' l acP else .deep T d' [] acP)
   rw[dif_pos (Row.beq_refl _)]
   exact mk _ rfl bP.ok λk hk=>hk
  .rename_i T K agg V T' K' dq V' l it;obtain⟨hT,h'⟩:=aB h;clear h;obtain⟨hT,hd⟩:=bU hT;obtain⟨hT,ul⟩:=bU hT;obtain⟨LW,ha⟩:=bU hT
   have ha:agg=dq:=by cases agg<;>cases dq<;>simp_all
   subst ha;obtain rfl:=Row.eq_of_beq hd;obtain rfl:=Row.eq_of_beq ul;obtain rfl:=beq_true LW;cases h';refine⟨?_,rfl⟩
   show jt H H' F w ob bs j (Th.smap T K' agg V' ((nf K' V' ⟨.slice (.pair K' V'),l⟩).getD []) acP)
   rw[qJ];obtain⟨b,es,clock,l',e,h0,h1,h2,h3,h4,_⟩:=bP.ok
   exact mk _ rfl ⟨b,es,clock,l',e,h0,h1,h2,h3.eR,h4,trivial⟩ λk hk=>hk
  .rename_i T K agg V nj T' K' dq V' l n' left cur;obtain⟨hT,h'⟩:=aB h;clear h;obtain⟨hT,hd⟩:=bU hT;obtain⟨hT,ul⟩:=bU hT;obtain⟨LW,ha⟩:=bU hT
   have ha:agg=dq:=by cases agg<;>cases dq<;>simp_all
   subst ha;obtain rfl:=Row.eq_of_beq hd;obtain rfl:=Row.eq_of_beq ul;obtain rfl:=beq_true LW
   split at h'<;>cases h'
   rename_i v7;refine⟨?_,rfl⟩
   show jt H H' F w ob bs j (Th.smap T K' agg V' ((nf K' V' ⟨.slice (.pair K' V'),l⟩).getD []) (some (nj,(nf K' V' ⟨.slice (.pair K' V'),left⟩).getD [],acP)))
   rw[qJ,qJ];obtain⟨b,es,clock,l',e,h0,h1,h2,h3,h4,r,since,seen,last,i1,i2,i3,i4,i5,i6,i7,⟨l2,i8,i9⟩,_⟩:=bP.ok
   exact mk _ rfl ⟨b,es,clock,l',e,h0,h1,h2,h3.eR,h4,r,since,seen,last,i1,i2,hb _ _ (gH v7).2 _ i3,i4,i5,i6,i7,⟨l2,i8.eR,i9⟩,λp hp=>by cases hp⟩ λk hk=>hk
  .cases h
 .rename_i Np
  split at h<;>cases h
  .rename_i T r;refine⟨?_,rfl⟩
   show jt H H' F w ob bs j (bif r.beq r then Th.own T r []else .own T r [])
   rw[Row.beq_refl,cond_true];refine⟨acP,_,Np,rfl,rfl,rfl,(gv.nil 0 F w T r).2,λk hk=>?_⟩;have kh:bh (.slice acP 0 0) k:=hk;simp[bh,abu]at kh
  .rename_i T d;refine⟨?_,rfl⟩
   show jt H H' F w ob bs j (if h:d.row.beq d.row=acQ then Th.deep T d [] acP else .deep T d [] acP)
   rw[dif_pos (Row.beq_refl _)]
   have eL:tl H ob (find bs j)=λ_=>False:=by rw[Np];rfl
   refine⟨acP,_,Np,rfl,rfl,rfl,?_,λk hk=>?_⟩
   .rw[eL];exact⟨[],λ_ _=>False,jG.nil F w T d.low,rfl,λi h=>absurd h (by simp),⟨λk=>by simp[bh,abu],λ_ _ _ h=>absurd h (by simp),λ_ _ h=>absurd h (by simp)⟩⟩
   .rw[eL]at hk;exact hk.elim
 .cases h
theorem yF:{l:List (Nat×OS)}->{m k:Nat}->{vs:List iu}->m+l.length<=k->pM (e8 m l vs) k=acP
 |[],_,_,_,_=>rfl
 |(j,s)::l,m,k,vs,h=>by
  show(bif aaY m k then _ else pM (e8 (m+1) l _) k)=acP
  rw[aa6]at h
  have:aaY m k=acR:=by
   cases hb:aaY m k with
   |false=>rfl
   |true=>have:=beq_true hb;omega
  rw[this,cond_false];exact yF (by omega)
theorem G3(hs:aq U H F w ob n):{l:List (Nat×OS)}->{bs ey:Bs}->{vs:List iu}->No ob l bs=some (vs,ey)->lP H H' ey->∀m,
 ∀j s t,find (e8 m l vs) j=some (s,t)->m<=s/\s<m+l.length/\pM (e8 m l vs) s=some t/\LV (e8 m l vs) s=some j/\jt H H' F w ob ey j t
 |[],_,_,_,h,_,m=>by cases h;intro j s t h;cases h
 |(j0,s0)::l,bs,ey,vs,h,hb,m=>by
  unfold No at h;split at h
  case h_2=>cases h
  rename_i Ru AZ h1;split at h
  case h_2=>cases h
  rename_i us Cy h2;cases h
  have FF:lP H H' AZ:=λj v hj=>hb j v (wK h2 j v hj)
  obtain⟨⟨u,v,g1,g2⟩,k2⟩:=JM hs h1 FF us;intro j s t hf;unfold e8 at hf⊢;rw[aA]at hf;rw[k2]at hf⊢;split at hf
  .rename_i e;subst e;simp only[aa1,abU]at hf;obtain⟨rfl,rfl⟩:=hf;have e1:=wK h2 _ _ (CA h1 _ _ g1);rw[g1]at g2;refine⟨aaX _,by simp,?_,?_,u,v,e1,?_⟩
   .show(bif aaY m m then _ else _)=_
    simp
   .show(bif aaY m m then _ else _)=_
    simp
   .rw[e1];exact g2
  .obtain⟨a1,a2,a3,a4,a5⟩:=G3 hs h2 hb (m+1) j s t hf
   have:aaY m s=acR:=by
    cases hb:aaY m s with
    |false=>rfl
    |true=>have:=beq_true hb;omega
   refine⟨by omega,by rw[aa6];omega,?_,?_,a5⟩
   .show(bif aaY m s then _ else _)=_
    rw[this,cond_false];exact a3
   .show(bif aaY m s then _ else _)=_
    rw[this,cond_false];exact a4
theorem db{o:Nat}{l:List Nat}:kJ o l=acQ↔o∈l:=any_beq
theorem gX:{bs:Bs}->{j o:Nat}->find bs j=some (some o)->o∈fj bs
 |[],_,_,h=>by cases h
 |(i,u)::bs,j,o,h=>by
  rw[aA]at h;split at h
  .obtain rfl:=aaT h;exact abW
  .have:=gX h
   cases u with
   |none=>exact this
   |some q=>exact abz _ this
theorem qM:{bs:Bs}->A0 (fj bs)=acQ->{j j' o:Nat}->find bs j=some (some o)->find bs j'=some (some o)->j=j'
 |[],_,_,_,_,h,_=>by cases h
 |(i,u)::bs,hn,j,j',o,h,h'=>by
  rw[aA]at h h'
  cases u with
  |none=>
   split at h
   .cases h
   .split at h'
    .cases h'
    .exact qM (bs:=bs) hn h h'
  |some q=>
   obtain⟨hq,Gk⟩:=bU hn
   have hq:q∉fj bs:=λe=>by rw[db.2 e]at hq;cases hq
   split at h
   .rename_i e1;obtain rfl:q=o:=aaT (aaT h);split at h'
    .rename_i e2;exact e1.symm.trans e2
    .exact absurd (gX h') hq
   .split at h'
    .obtain rfl:q=o:=aaT (aaT h');exact absurd (gX h) hq
    .exact qM Gk h h'
theorem tm{nb nxt:Nat}:{bs:Bs}->G2 nb nxt bs=acQ->{j:Nat}->{u:Option Nat}->find bs j=some u->(j<nb->u=some j)/\(nb<=j->j<nxt)
 |[],_,_,_,h=>by cases h
 |(i,v)::bs,hk,j,u,h=>by
  obtain⟨h1,h2⟩:=bU hk;rw[aA]at h;split at h
  .rename_i e;subst e;obtain rfl:=aaT h
   cases hb:abI i nb with
   |true=>
    rw[hb,cond_true]at h1
    have:i<nb:=by simpa using hb
    exact⟨λ_=>vk h1,λ_=>by omega⟩
   |false=>
    rw[hb,cond_false]at h1
    have hge:¬i<nb:=λe=>by have:abI i nb=acQ:=by simpa using e
                           rw[hb]at this;cases this
    exact⟨λe=>absurd e hge,λ_=>by simpa using h1⟩
  .exact tm h2 h
theorem vo{objs:List (Nat×(Nat×Th))}{yE:List Nat}:{fr:List (Nat×(Nat×Th))}->A3 objs yE fr=acQ->{o s:Nat}->{t:Th}->find fr o=some (s,t)->
 o∉yE/\∃t',find objs o=some (s,t')/\df t'=df t
 |[],_,_,_,_,h=>by cases h
 |(i,(s0,t0))::fr,hf,o,s,t,h=>by
  obtain⟨h1,h2⟩:=bU hf;obtain⟨h1,h3⟩:=bU h1;rw[aA]at h;split at h
  .rename_i e;subst e;simp only[aa1,abU]at h;obtain⟨rfl,rfl⟩:=h;split at h1
   .rename_i s' t' ho;obtain⟨h4,h5⟩:=bU h1;obtain rfl:=beq_true h4;refine⟨λe=>(by rw[db.2 e]at h3;cases h3),t',ho,?_⟩
    cases ha:df t0<;>cases hb:df t'<;>simp_all
   .cases h1
  .exact vo h2 h
theorem G4{t t':Th}(h:t.base=t'.base)(hf:df t=df t'):t=t':=by
 cases t<;>cases t'<;>simp_all[Th.base,df]
theorem tn{U':Nat->Prop}{H0:an}{F0:Nat->Prop}{w0:World}{objs0:List (Nat×(Nat×Th))}{nb:Nat}{ns:List Nat}{J:JS}{ak:List (Nat×aj)}{objs aG:List (Nat×(Nat×Th))}{x:cE J.rows}{bs:Bs}{ρ:Nat->Value}
 (h:vn nb (del ns objs0) J ak objs=some (x,bs,aG))(JN:aq U H0 F0 w0 (find objs0) nb)(K5:fF H0 nb)(hk:bQ H0 F0 w0 H F w)(hs:aq U H F w (find objs) n)(fq:∀t d,find ak t=some d->ah H F w d (ρ t)):
 ∃F1 H1,aq U H F1 w (find aG) n/\(∀b,F b->F1 b)/\(∀b,F1 b->F b\/bJ H (find objs) (vm nb J ak objs) b)/\dZ objs (vm nb J ak objs)=some aG/\H0.le H1/\lP H H1 bs/\fF H1 J.nxt/\
  (∀t d,find (cB J.ak (cK J.rows x)).1 t=some d->ah H1 F1 w d (ρ t))/\
  ((∀b,w.heap.size<=b->U' b)->(∀o s t v k,o∈fj bs->find aG o=some (s,t)->H.val o=some v->fp (H.sub s) v t k->U' k)->(∀o s t v k,find (del ns objs0) o=some (s,t)->H.val o=some v->fp (H.sub s) v t k->U' k)->
    aq U' H1 F1 w (find (e8 nb J.objs (cB J.ak (cK J.rows x)).2++del ns objs0)) J.nxt):=by
 unfold vn at h;split at h
 case h_1=>cases h
 rename_i Rx ux;split at h
 case h_1=>cases h
 rename_i vs AZ hS;split at h
 case h_1=>cases h
 rename_i us Cy hO;obtain⟨hc,h'⟩:=aB h;clear h;split at h'
 case h_2=>cases h'
 rename_i x' hx;cases h';obtain⟨hc,K0⟩:=bU hc;obtain⟨hc,Jv⟩:=bU hc;obtain⟨uq,xP⟩:=bU hc
 have Jv:nb+J.objs.length<=J.nxt:=by simpa using Jv
 obtain⟨F1,qC,Au,I8⟩:=lO ux hs
 have dW:Step F w F1 w:=λb hb=>⟨Au b hb,rfl⟩
 have Ry:∀t d,find ak t=some d->ah H F1 w d (ρ t):=λt d hd=>(fq t d hd).keep (an.le.refl H) dW
 rw[rq hx]
 have G5:∃cons,cons=e8 nb J.objs us:=⟨_,rfl⟩
 obtain⟨cons,yG⟩:=G5
 have yH:H0.le (dp H nb bs cons (find aG)):=by
  have ag:∀s t,H0.con s=some t->s<nb:=λs t dW=>by
   rcases Nat.lt_or_ge s nb with h|h
   .exact h
   .rw[(K5 s h).2]at dW;cases dW
  refine⟨λo v ho=>?_,λs t dW=>?_,λs t dW=>?_⟩
  .have:o<nb:=by
    rcases Nat.lt_or_ge o nb with h|h
    .exact h
    .rw[(K5 o h).1]at ho;cases ho
   simp[dp,this,hk.eR.val _ _ ho]
  .simp[dp,ag s t dW,hk.eR.con _ _ dW]
  .simp[dp,ag s t dW,hk.eR.sub _ _ dW]
 have qN:lP H (dp H nb bs cons (find aG)) bs:=by
  intro j u hj v hv;obtain⟨a1,a2⟩:=tm xP hj;by_cases ag:j<nb
  .obtain rfl:=a1 ag;simpa[dp,ag,valOf]using hv
  .simpa[dp,ag,hj]using hv
 have JO:lP H (dp H nb bs cons (find aG)) AZ:=λj v hj=>qN j v (wK hO j v hj)
 obtain⟨p1,p2⟩:=G0 qC Ry hS JO us
 have CB:fF (dp H nb bs cons (find aG)) J.nxt:=λm hm=>by
  have KY:¬m<nb:=by omega
  refine⟨?_,?_⟩
  .simp only[dp,acT KY];split
   .rename_i u hu;have:=(tm xP hu).2 (by omega);omega
   .rfl
  .simp only[dp,acT KY,yG];exact yF (by omega)
 refine⟨F1,dp H nb bs cons (find aG),qC,Au,I8,ux,yH,qN,CB,p1,λXb Xc Xd=>?_⟩;rw[p2,<-yG];have Ol:=G3 (H':=dp H nb bs cons (find aG)) qC hO qN nb;rw[<-yG]at Ol
 have part:∀o s t,find (cons++del ns objs0) o=some (s,t)->find cons o=some (s,t)\/find (del ns objs0) o=some (s,t):=by
  intro o s t ho;rw[fD]at ho
  cases hm:find cons o with
  |some y=>rw[hm]at ho;exact .inl ho
  |none=>rw[hm,abT]at ho;exact .inr ho
 have wj:∀o s t,find (del ns objs0) o=some (s,t)->o∉fj bs/\find aG o=some (s,t)/\∃v,H.val o=some v/\(dp H nb bs cons (find aG)).val o=some v/\v.oneCell'=acQ/\(dp H nb bs cons (find aG)).con s=some t.base/\(dp H nb bs cons (find aG)).sub s=H.sub s/\fB (dp H nb bs cons (find aG)) F1 w (H.sub s) v t:=by
  intro o s t ho;obtain⟨q1,t',q2,q3⟩:=vo K0 ho;have Xe:=(fE.1 ho).2;obtain⟨v0,NY,A4⟩:=JN.obj _ _ _ Xe;obtain⟨v1,sa,mO⟩:=qC.obj _ _ _ q2;have e1:=hk.eR.val _ _ NY;rw[sa]at e1;obtain rfl:=aaT e1;have e2:=hk.eR.con _ _ A4.con;rw[mO.con]at e2;have ht:=G4 (aaT e2) q3;subst ht;refine⟨q1,q2,v1,sa,yH.val _ _ NY,mO.one,yH.con _ _ A4.con,(yH.sub _ _ A4.con).trans (hk.eR.sub _ _ A4.con).symm,?_⟩
  cases t' with
  |fdeep T d l=>exact mO.ok
  |deep T d l hh=>
   obtain⟨lh0,_,_,e0,r0,_⟩:=A4.ok
   refine DL.mono (show DL F1 w T d.low _ v1 l (H.sub s)from mO.ok) (Step.refl F1 w) (λ_ _=>rfl) λi x' hi A hA hr=>?_
   cases hh with
   |none=>exact hr
   |some h=>
    refine⟨hr.1,λhh=>?_⟩;obtain⟨T',e,q,g1,g2,g3⟩:=hr.2 hh;obtain⟨_,_,q0,_,_,k3⟩:=(r0 i (by omega) hi).2 hh;have e3:=hk.eR.val _ _ k3;rw[g3]at e3;exact⟨T',e,q,g1,g2,by rw[aaT e3];exact yH.val _ _ k3⟩
  |box T tr=>
   obtain⟨b,es,e,g1,g2⟩:=mO.ok;obtain⟨b',jE,e',NQ,Xf⟩:=A4.ok;exact⟨b,es,e,g1,Holds.back hk.eR yH Xf g2⟩
  |own T r l=>exact mO.ok
  |qk T r l=>exact mO.ok
  |fmap T K agg V l=>exact mO.ok
  |smap T K agg V l it=>
   obtain⟨b,es,clock,l',e,g0,g1,g2,g3,g4,g5⟩:=mO.ok;obtain⟨_,_,_,_,_,_,_,_,_,_,r5⟩:=A4.ok;refine⟨b,es,clock,l',e,g0,g1,g2,g3.eR,g4,g5.eR λn' x u e hu=>?_⟩;subst e;obtain⟨_,_,_,_,_,_,Qb,_⟩:=r5;have e3:=hk.eR.val _ _ Qb;rw[hu]at e3;rw[aaT e3];exact yH.val _ _ Qb
  |map T K agg V l=>
   obtain⟨b,es,clock,e,g1,g2,g3⟩:=mO.ok;exact⟨b,es,clock,e,g1,g2,g3.eR⟩
 have Om:∀o s t,find cons o=some (s,t)->∃v,(dp H nb bs cons (find aG)).val o=some v/\v.oneCell'=acQ/\(dp H nb bs cons (find aG)).con s=some t.base/\fB (dp H nb bs cons (find aG)) F1 w ((dp H nb bs cons (find aG)).sub s) v t/\
  ∀k,fp ((dp H nb bs cons (find aG)).sub s) v t k->∃o' s0 t0,find bs o=some (some o')/\find aG o'=some (s0,t0)/\H.val o'=some v/\fp (H.sub s0) v t0 k:=by
  intro o s t ho;obtain⟨a1,a2,a3,a4,u,v,b1,b2,b3,b4,b5,b6⟩:=Ol o s t ho
  have eL:(dp H nb bs cons (find aG)).sub s=tl H (find aG) (find bs o):=by
   simp only[dp];rw[acT (by omega),a4]
  rw[eL];refine⟨v,qN o u b1 v b2,b3,?_,b5,λk hk=>?_⟩
  .rw[b4];simp only[dp];rw[acT (by omega)];exact a3
  .obtain⟨o',s0,t0,c1,c2,c3,c4⟩:=b6 k hk;exact⟨o',s0,t0,by rw[b1,c1],c2,c3,c4⟩
 refine⟨λo s t ho=>?_,λo o' s s' t t' v v' cA ho iY hv da k hk kh=>?_,λm hm _=>CB m hm,qC.lt,Xb,qC.gl⟩
 .rcases part o s t ho with h1|h1
  .obtain⟨v,a1,a2,a3,a4,a5⟩:=Om o s t h1
   refine⟨v,a1,a2,a3,a4,λk hk hF=>?_,λk hk=>?_,λk hk=>?_⟩<;>obtain⟨o',s0,t0,b1,b2,b3,b4⟩:=a5 k hk<;>obtain⟨v',da,bP⟩:=qC.obj _ _ _ b2
   all_goals
    rw[b3]at da;obtain rfl:=aaT da
   .exact bP.no k b4 hF
   .exact bP.lt k b4
   .exact Xc _ _ _ _ _ (gX b1) b2 b3 b4
  .obtain⟨q1,q2,v,a1,a2,a3,a4,a6,a5⟩:=wj o s t h1;obtain⟨v',da,bP⟩:=qC.obj _ _ _ q2;rw[a1]at da;obtain rfl:=aaT da;exact⟨v,a2,a3,a4,by rw[a6];exact a5,by rw[a6];exact bP.no,by rw[a6];exact bP.lt,λk hk=>Xd _ _ _ _ _ h1 a1 (by rwa [a6]at hk)⟩
 .rcases part o s t ho with h1|h1<;>rcases part o' s' t' iY with h2|h2
  .obtain⟨u,a1,_,_,_,a5⟩:=Om o s t h1;obtain⟨u',c1,_,_,_,c5⟩:=Om o' s' t' h2;rw[hv]at a1;rw[da]at c1;obtain rfl:=aaT a1;obtain rfl:=aaT c1;obtain⟨p,s0,t0,d1,d2,d3,d4⟩:=a5 k hk;obtain⟨p',s0',t0',e1,e2,e3,e4⟩:=c5 k kh;refine qC.apart p p' _ _ _ _ _ _ (λe=>cA ?_) d2 e2 d3 e3 k d4 e4;subst e;exact qM uq d1 e1
  .obtain⟨u,a1,_,_,_,a5⟩:=Om o s t h1;obtain⟨q1,q2,u',c1,c2,_,_,c6,_⟩:=wj o' s' t' h2;rw[c6]at kh;rw[hv]at a1;rw[da]at c2;obtain rfl:=aaT a1;obtain rfl:=aaT c2;obtain⟨p,s0,t0,d1,d2,d3,d4⟩:=a5 k hk;exact qC.apart p o' _ _ _ _ _ _ (λe=>q1 (e▸gX d1)) d2 q2 d3 c1 k d4 kh
  .obtain⟨u,a1,_,_,_,a5⟩:=Om o' s' t' h2;obtain⟨q1,q2,u',c1,c2,_,_,c6,_⟩:=wj o s t h1;rw[c6]at hk;rw[da]at a1;rw[hv]at c2;obtain rfl:=aaT a1;obtain rfl:=aaT c2;obtain⟨p,s0,t0,d1,d2,d3,d4⟩:=a5 k kh;exact qC.apart o p _ _ _ _ _ _ (λe=>q1 (e▸gX d1)) q2 d2 c1 d3 k hk d4
  .obtain⟨q1,q2,u,c1,c2,_,_,c6,_⟩:=wj o s t h1;obtain⟨q1',Xg,u',Qs,On,_,_,Xh,_⟩:=wj o' s' t' h2;rw[c6]at hk;rw[Xh]at kh;rw[hv]at c2;rw[da]at On;obtain rfl:=aaT c2;obtain rfl:=aaT On;exact qC.apart o o' _ _ _ _ _ _ cA q2 Xg c1 Qs k hk kh
end
end Go.Proofs.YtbladfbbhijpmaaGreat
end
namespace Go.Proofs.YtbladfbbhijpmaaGreat
open Go Go.RowKit
set_option maxRecDepth 100000
set_option linter.unusedSimpArgs false
set_option linter.unusedVariables false
set_option linter.defProp false
section
structure ng where
 inn:JS
 out:JS
 fn:cE inn.rows->Option (cE out.rows)
def uy:List Value->Value
 |[v]=>v
 |vs=> .tuple vs.toArray
structure fH(P:Program)(f:FuncId)(sg:ng):Prop where
 fn:∃fn,P.funcs[f]? =some fn/\(fn.name== "runtime.NumGoroutine")=acR/\fn.body.isNone=acR
 ok:∀x y,sg.fn x=some y->∀(args:List Value)(w:World)(H:an)(F G:Nat->Prop),args.length=sg.inn.ak.length->
  (∀t d,find (cB sg.inn.ak (cK _ x)).1 t=some d->ah H F w d (args.getD t undef))->
  aq (λk=>w.heap.size<=k\/G k) H F w (find (e8 0 sg.inn.objs (cB sg.inn.ak (cK _ x)).2)) sg.inn.nxt->fF H sg.inn.nxt->(∀k,G k->¬F k)->
  Calls P f args.toArray w λe w'=>∃vs,e= .returned (uy vs)/\vs.length=sg.out.ak.length/\∃H' F',Ext G w w'/\H.le H'/\(∀b,F b->F' b)/\(∀b,F' b->F b\/w.heap.size<=b\/G b)/\
   (∀t d,find (cB sg.out.ak (cK _ y)).1 t=some d->ah H' F' w' d (vs.getD t undef))/\
   aq (λk=>w.heap.size<=k\/G k) H' F' w' (find (e8 sg.inn.nxt sg.out.objs (cB sg.out.ak (cK _ y)).2)) sg.out.nxt/\fF H' sg.out.nxt
def Sh.oC(φ:Nat->Nat):Sh->Sh
 | .leaf r=> .leaf r
 | .own j=> .own (φ j)
 | .nil=> .nil
 | .pair a b=> .pair (a.oC φ) (b.oC φ)
 | .junk n=> .junk n
def SS.oC(φ:Nat->Nat):SS->SS
 | .val agg t=> .val agg (t.oC φ)
 | .ptr j p off=> .ptr (φ j) p off
 | .at r=> .at r
 | .undef=> .undef
 | .fn f js=> .fn f (js.map λc=>(φ c.1,c.2))
 | .ifc T s=> .ifc T (s.oC φ)
def OS.oC(φ:Nat->Nat):OS->OS
 | .box T t=> .box T (t.oC φ)
 | .own T r=> .own T r
 | .map T K agg V=> .map T K agg V
 | .deep T d=> .deep T d
 | .smap T K agg V it=> .smap T K agg V (it.map φ)
def pO(φ:Nat->Nat):List (Nat×SS)->List (Nat×SS)
 |[]=>[]
 |(t,s)::l=>(t,s.oC φ)::pO φ l
def yI(φ:Nat->Nat):List (Nat×OS)->List (Nat×OS)
 |[]=>[]
 |(j,s)::l=>(φ j,s.oC φ)::yI φ l
def Row.yJ:Row->Bool
 | .slice _=>acR
 | .map .. =>acR
 | .pair a b=>a.yJ&&b.yJ
 |_=>acQ
def DR.gA(p:Row->Bool):DR->Bool
 | .leaf r=>p r
 | .sl _ d=>d.gA p
 | .pair a b=>a.gA p&&b.gA p
def Sh.gA(p:Row->Bool):Sh->Bool
 | .leaf r=>p r
 | .pair a b=>a.gA p&&b.gA p
 |_=>acQ
def SS.gA(p:Row->Bool):SS->Bool
 | .val _ t=>t.gA p
 | .at r=>p (.slice r)
 | .ifc _ s=>s.gA p
 |_=>acQ
def OS.gA(p:Row->Bool):OS->Bool
 | .box _ t=>t.gA p
 | .own _ r=>p r
 | .map _ _ _ V=>p V
 | .deep _ d=>d.gA p
 | .smap _ _ _ V _=>p V
def oY(p:Row->Bool):List (Nat×SS)->Bool
 |[]=>acQ
 |(_,s)::l=>s.gA p&&oY p l
def vp(p:Row->Bool):List (Nat×OS)->Bool
 |[]=>acQ
 |(_,s)::l=>s.gA p&&vp p l
section
variable {H H':an} {F F':Nat->Prop} {w w':World} {φ:Nat->Nat} {p:Row->Bool}
theorem bT.A5:{r:Row}->{cs:List Value}->{x:r.den}->r.yJ=acQ->bT F w r cs x->bT F' w' r cs x
 | .int _,_,_,_,h=>h
 | .bool,_,_,_,h=>h
 | .str,_,_,_,h=>h
 | .jS,_,_,_,h=>h
 | .nul _,_,_,_,h=>h
 | .map ..,_,_,hf,_=>by cases hf
 | .slice _,_,_,hf,_=>by cases hf
 | .pair a b,_,_,hf,h=>by
   obtain⟨c1,c2,e,h1,h2⟩:=h;obtain⟨f1,f2⟩:=bU hf;exact⟨c1,c2,e,bT.A5 f1 h1,bT.A5 f2 h2⟩
def Ren(H H':an)(φ:Nat->Nat):Prop:=∀j v,H.val j=some v->H'.val (φ j)=some v
def rr(p:Row->Bool)(F F':Nat->Prop)(w:World):Prop:=∀r,p r=acQ->∀cs x,bT F w r cs x->bT F' w r cs x
theorem nh:(sh:Sh)->(vs:List iu)->(mP (sh.oC φ) vs).2=(mP sh vs).2
 | .leaf r,[]=>rfl
 | .leaf r,_::_=>rfl
 | .own j,vs=>rfl
 | .nil,vs=>rfl
 | .pair a b,vs=>by
   show(mP (b.oC φ) (mP (a.oC φ) vs).2).2=_
   rw[nh a,nh b];rfl
 | .junk _,_=>rfl
theorem vq(s:SS)(vs:List iu):(dt (s.oC φ) vs).2=(dt s vs).2:=by
 induction s with
 |ifc T s ih=>exact ih
 |val agg t=>exact nh t vs
 |ptr j p off=>rfl
 |«at» r=>cases vs<;>rfl
 |undef=>rfl
 |fn f js=>rfl
theorem vr(s:OS)(vs:List iu):(cu (s.oC φ) vs).2=(cu s vs).2:=by
 cases s with
 |box T t=>exact nh t vs
 |own T r=>rfl
 |map T K agg V=>rfl
 |deep T d=>rfl
 |smap T K agg V it=>
  cases it with
  |none=>cases vs<;>rfl
  |some n=>match vs with
   |[]=>rfl
   |[_]=>rfl
   |_::_::_=>rfl
theorem yK:(l:List (Nat×SS))->(vs:List iu)->(cB (pO φ l) vs).2=(cB l vs).2
 |[],_=>rfl
 |(t,s)::l,vs=>by
  show(cB (pO φ l) (dt (s.oC φ) vs).2).2=(cB l (dt s vs).2).2
  rw[vq,yK l]
theorem pP(hr:Ren H H' φ)(hm:rr p F F' w):{sh:Sh}->{vs:List iu}->{cs:List Value}->sh.gA p=acQ->Holds H F w (mP sh vs).1 cs->Holds H' F' w (mP (sh.oC φ) vs).1 cs
 | .leaf r,[],cs,_,h=>h
 | .leaf r,⟨s,x⟩::vs,cs,hp,h=>by
   have h':Holds H F w (bif s.beq r then Tree.leaf s x else .nil) cs:=h
   show Holds H' F' w (bif s.beq r then Tree.leaf s x else .nil) cs
   cases hb:s.beq r with
   |true=>
    rw[hb,cond_true]at h';obtain rfl:=Row.eq_of_beq hb;exact hm _ hp _ _ h'
   |false=>rw[hb]at h';exact h'
 | .own j,vs,cs,_,h=>by obtain⟨v,h1,h2⟩:=h;exact⟨v,hr j v h1,h2⟩
 | .nil,vs,cs,_,h=>h
 | .pair a b,vs,cs,hp,h=>by
   obtain⟨c1,c2,e,h1,h2⟩:=h;obtain⟨p1,p2⟩:=bU hp;refine⟨c1,c2,e,pP hr hm p1 h1,?_⟩;rw[nh a];exact pP hr hm p2 h2
 | .junk _,vs,cs,_,h=>h
theorem jd.oC(hr:Ren H H' φ):{cs:List (Nat×List Bool×Nat)}->{vs:List Value}->jd H cs vs->jd H' (cs.map λc=>(φ c.1,c.2)) vs
 |[],_,h=>h
 |_::_,_,h=>by obtain⟨v,us,e,⟨b,h1,h2⟩,h3⟩:=h;exact⟨v,us,e,⟨b,hr _ _ h1,h2⟩,jd.oC hr h3⟩
theorem Eo(hr:Ren H H' φ)(hm:rr p F F' w){s:SS}{vs:List iu}{v:Value}(hp:s.gA p=acQ)(h:ah H F w (dt s vs).1 v):ah H' F' w (dt (s.oC φ) vs).1 v:=by
 induction s generalizing v with
 |ifc T s ih=>
  obtain⟨u,e,h2⟩:=h;exact⟨u,e,ih hp h2⟩
 |val agg t=>
  obtain⟨cs,h1,h2⟩:=h;exact⟨cs,pP hr hm hp h1,h2⟩
 |ptr j p off=>
  obtain⟨b,h1,h2⟩:=h;exact⟨b,hr _ _ h1,h2⟩
 |«at» r=>
  match vs,h with
  |[],h=>exact h
  |⟨s,x⟩::vs,h=>
   have h':ah H F w (bif s.beq r then aj.at s x else .dead) v:=h
   show ah H' F' w (bif s.beq r then aj.at s x else .dead) v
   cases hb:s.beq r with
   |false=>trivial
   |true=>
    rw[hb,cond_true]at h';obtain rfl:=Row.eq_of_beq hb;obtain⟨b,off,rfl,hF,es,h1,h2,h3⟩:=h'
    have fq:bT F w (.slice s) [.slice (some ⟨b,off,acP⟩) 1 1] [x]:=⟨some ⟨b,off,acP⟩,1,rfl,aaX _,by unfold maxLen;omega,λi hi=>by
     have e:i=0:=by simp at hi;omega
     subst e
     exact⟨b,off,es,rfl,hF,h1,λj u hu=>by rw[Nat.zero_mul,ab3];exact h2 j u hu,h3⟩⟩
    obtain⟨A,cap,e1,_,_,rK⟩:=hm (.slice s) hp _ _ fq;obtain⟨b',cV,jE,hA,g1,g2,g3,g4⟩:=rK 0 (by simp);simp only[ab9,aci,and_true]at e1;obtain⟨e1,_,_⟩:=e1;rw[<-e1]at hA;simp only[aa1,acp,and_true]at hA;obtain⟨rfl,rfl⟩:=hA;exact⟨b,off,rfl,g1,jE,g2,λj u hu=>by have:=g3 j u hu;rwa [Nat.zero_mul,ab3]at this,g4⟩
 |undef=>exact h
 |fn f js=>
  obtain⟨us,h1,h2⟩:=h;exact⟨us,h1,h2.oC hr⟩
theorem eh.mJ{K:Row}{agg:Bool}{V:Row}(hm:∀cs x,bT F w V cs x->bT F' w' V cs x):{es:List MapEntry}->{l:List (K.den×V.den)}->eh H F w K agg V es l->eh H' F' w' K agg V es l
 |[],_,h=>h
 |_::_,_,h=>by
  obtain⟨k,x,l',e,h1,⟨cs,h2,um⟩,h3⟩:=h;exact⟨k,x,l',e,h1,⟨cs,hm _ _ h2,um⟩,eh.mJ hm h3⟩
theorem bT.tq(hm:rr p F F' w):{d:DR}->{cs:List Value}->{x:d.low.den}->d.gA p=acQ->bT F w d.low cs x->bT F' w d.low cs x
 | .leaf r,_,_,hp,h=>hm r hp _ _ h
 | .sl _ _,_,_,_,h=>h
 | .pair a b,_,_,hp,h=>by
   obtain⟨p1,p2⟩:=bU hp;obtain⟨c1,c2,e,h1,h2⟩:=h;exact⟨c1,c2,e,bT.tq hm p1 h1,bT.tq hm p2 h2⟩
theorem jG.mJ(hm:rr p F F' w){d:DR}(hp:d.gA p=acQ){T:TypeId}{v:Value}{l:List d.low.den}(h:jG F w T d.low v l):jG F' w T d.low v l:=by
 obtain⟨xs,h1,h2⟩:=h;exact⟨xs,h1,λi hi=>bT.tq hm hp (h2 i hi)⟩
theorem iq.mJ(hm:rr p F F' w):{d:DR}->{x':d.low.den}->{x:d.row.den}->{S:Nat->Prop}->d.gA p=acQ->iq F w d x' x S->iq F' w d x' x S
 | .leaf _,_,_,_,_,h=>h
 | .sl _ d,_,_,_,hp,h=>by
   obtain⟨lh,Ss,h1,h2,h3,h4⟩:=h;exact⟨lh,Ss,h1.mJ hm (show d.gA p=acQ from hp),h2,λi a b=>iq.mJ hm (show d.gA p=acQ from hp) (h3 i a b),h4⟩
 | .pair a b,_,_,_,hp,h=>by
   obtain⟨p1,p2⟩:=bU hp;obtain⟨A,B,h1,h2,h3⟩:=h;exact⟨A,B,iq.mJ hm p1 h1,iq.mJ hm p2 h2,h3⟩
theorem A6(T:TypeId)(d:DR):(vs:List iu)->∃l,(cu (.deep T d) vs).1= .deep T d l acP
 |[]=>⟨[],rfl⟩
 |⟨.slice s,l⟩::vs=>by
  unfold cu;simp only
  split<;>exact⟨_,rfl⟩
 |⟨.int _,_⟩::_|⟨.bool,_⟩::_|⟨.str,_⟩::_|⟨.jS,_⟩::_|⟨.nul _,_⟩::_|⟨.pair _ _,_⟩::_|⟨.map ..,_⟩::_=>⟨[],rfl⟩
theorem Ep(T:TypeId)(K:Row)(agg:Bool)(V:Row):(vs:List iu)->∃l,(cu (.map T K agg V) vs).1= .map T K agg V l
 |[]=>⟨[],rfl⟩
 |⟨.slice (.pair K' V'),l⟩::vs=>by
  unfold cu;simp only
  split<;>exact⟨_,rfl⟩
 |⟨.slice (.int _),_⟩::_|⟨.slice .bool,_⟩::_|⟨.slice .str,_⟩::_|⟨.slice (.slice _),_⟩::_|⟨.slice .jS,_⟩::_|⟨.slice (.nul _),_⟩::_|⟨.slice (.map ..),_⟩::_=>⟨[],rfl⟩
 |⟨.int _,_⟩::_|⟨.bool,_⟩::_|⟨.str,_⟩::_|⟨.jS,_⟩::_|⟨.nul _,_⟩::_|⟨.pair _ _,_⟩::_|⟨.map ..,_⟩::_=>⟨[],rfl⟩
theorem qO(hr:Ren H H' φ)(hm:rr p F F' w){s:OS}{vs:List iu}{S:Nat->Prop}{v:Value}(hp:s.gA p=acQ)(h:fB H F w S v (cu s vs).1):
 fB H' F' w S v (cu (s.oC φ) vs).1/\(cu (s.oC φ) vs).1.base=(cu (s.oC φ) vs).1/\(∀k,fp S v (cu (s.oC φ) vs).1 k->fp S v (cu s vs).1 k):=by
 have own:∀(T:TypeId)(q:Row)(l:List q.den),p q=acQ->fB H F w S v (.own T q l)->fB H' F' w S v (.own T q l):=λT q l hq ⟨xs,hx,h3⟩=>⟨xs,hx,λi hi=>hm q hq _ _ (h3 i hi)⟩
 cases s with
 |box T t=>
  obtain⟨b,es,e,h1,h2⟩:=h;exact⟨⟨b,es,e,h1,pP hr hm hp h2⟩,rfl,λk hk=>hk⟩
 |own T r=>
  match vs,h with
  |[],h=>exact⟨own T r [] hp h,rfl,λ_ h=>h⟩
  |⟨.slice s,l⟩::vs,h=>
   have h':fB H F w S v (bif s.beq r then Th.own T s l else .own T r []):=h
   show fB H' F' w S v (bif s.beq r then Th.own T s l else .own T r [])/\Th.base (bif s.beq r then Th.own T s l else .own T r [])=(bif s.beq r then Th.own T s l else .own T r [])/\∀k,fp S v (bif s.beq r then Th.own T s l else .own T r []) k->fp S v (bif s.beq r then Th.own T s l else .own T r []) k
   cases hb:s.beq r with
   |true=>
    rw[hb,cond_true]at h';obtain rfl:=Row.eq_of_beq hb;exact⟨own T s l hp h',rfl,λ_ h=>h⟩
   |false=>
    rw[hb,cond_false]at h';exact⟨own T r [] hp h',rfl,λ_ h=>h⟩
  |⟨.int _,_⟩::vs,h=>exact⟨own T r [] hp h,rfl,λ_ h=>h⟩
  |⟨.bool,_⟩::vs,h=>exact⟨own T r [] hp h,rfl,λ_ h=>h⟩
  |⟨.str,_⟩::vs,h=>exact⟨own T r [] hp h,rfl,λ_ h=>h⟩
  |⟨.jS,_⟩::vs,h=>exact⟨own T r [] hp h,rfl,λ_ h=>h⟩
  |⟨.nul _,_⟩::vs,h=>exact⟨own T r [] hp h,rfl,λ_ h=>h⟩
  |⟨.map ..,_⟩::vs,h=>exact⟨own T r [] hp h,rfl,λ_ h=>h⟩
  |⟨.pair _ _,_⟩::vs,h=>exact⟨own T r [] hp h,rfl,λ_ h=>h⟩
 |map T K agg V=>
  have gen:∀l:List (K.den×V.den),fB H F w S v (.map T K agg V l)->fB H' F' w S v (.map T K agg V l):=by
   rintro l ⟨b,es,clock,e,h1,h2,h3⟩
   exact⟨b,es,clock,e,h1,h2,eh.mJ (λcs x hr=>hm V hp cs x hr) h3⟩
  obtain⟨l,hl⟩:=Ep T K agg V vs
  show fB H' F' w S v (cu (OS.map T K agg V) vs).1/\(cu (OS.map T K agg V) vs).1.base=(cu (OS.map T K agg V) vs).1/\∀k,fp S v (cu (OS.map T K agg V) vs).1 k->fp S v (cu (OS.map T K agg V) vs).1 k
  rw[hl]at h⊢;exact⟨gen l h,rfl,λ_ h=>h⟩
 |deep T d=>
  obtain⟨l,hl⟩:=A6 T d vs
  show fB H' F' w S v (cu (OS.deep T d) vs).1/\(cu (OS.deep T d) vs).1.base=(cu (OS.deep T d) vs).1/\∀k,fp S v (cu (OS.deep T d) vs).1 k->fp S v (cu (OS.deep T d) vs).1 k
  rw[hl]at h⊢;refine⟨?_,rfl,λ_ h=>h⟩;have h':iq F w (.sl T d) v l S:=h;exact(iq.mJ (d:= .sl T d) hm hp h':iq F' w (.sl T d) v l S)
 |smap T K agg V it=>
  have gen:∀(l:List (K.den×V.den)),fB H F w S v (.smap T K agg V l acP)->fB H' F' w S v (.smap T K agg V l acP):=by
   rintro l ⟨b,es,clock,l',e,h0,h1,h2,h3,h4,_⟩
   exact⟨b,es,clock,l',e,h0,h1,h2,eh.mJ (λcs x hr=>hm V hp cs x hr) h3,h4,trivial⟩
  have Rz:∀(n:Nat)(l left:List (K.den×V.den)),fB H F w S v (.smap T K agg V l (some (n,left,acP)))->fB H' F' w S v (.smap T K agg V l (some (φ n,left,acP))):=by
   rintro n l left ⟨b,es,clock,l',e,h0,h1,h2,h3,h4,r,since,seen,last,i1,i2,i3,i4,i5,i6,i7,⟨l2,i8,i9⟩,_⟩
   exact⟨b,es,clock,l',e,h0,h1,h2,eh.mJ (λcs x hr=>hm V hp cs x hr) h3,h4,r,since,seen,last,i1,i2,hr _ _ i3,i4,i5,i6,i7,⟨l2,eh.mJ (λcs x hr=>hm V hp cs x hr) i8,i9⟩,λp hp=>by cases hp⟩
  cases it with
  |none=>
   match vs,h with
   |[],h=>exact⟨gen _ h,rfl,λ_ h=>h⟩
   |_::_,h=>exact⟨gen _ h,rfl,λ_ h=>h⟩
  |some n=>
   match vs,h with
   |[],h=>exact⟨gen _ h,rfl,λ_ h=>h⟩
   |[_],h=>exact⟨gen _ h,rfl,λ_ h=>h⟩
   |_::_::_,h=>exact⟨Rz _ _ _ h,rfl,λ_ h=>h⟩
theorem vu:{l:List (Nat×SS)}->{vs:List iu}->{t:Nat}->{d:aj}->oY p l=acQ->find (cB (pO φ l) vs).1 t=some d->∃s us,d=(dt (s.oC φ) us).1/\find (cB l vs).1 t=some (dt s us).1/\s.gA p=acQ
 |[],_,_,_,_,h=>by cases h
 |(t0,s)::l,vs,t,d,hp,h=>by
  obtain⟨p1,p2⟩:=bU hp;have h':find ((t0,(dt (s.oC φ) vs).1)::(cB (pO φ l) (dt (s.oC φ) vs).2).1) t=some d:=h
  show∃s' us,d=_/\find ((t0,(dt s vs).1)::(cB l (dt s vs).2).1) t=_/\_
  rw[aA]at h';by_cases e:t0=t
  .rw[acU e]at h';exact⟨s,vs,(aaT h').symm,by rw[aA,acU e],p1⟩
  .rw[acT e]at h';rw[vq]at h';obtain⟨s',us,a1,a2,a3⟩:=vu p2 h';exact⟨s',us,a1,by rw[aA,acT e];exact a2,a3⟩
theorem G6(hr:Ren H H' φ)(hm:rr p F F' w){ρ:Nat->Value}{l:List (Nat×SS)}{vs:List iu}(hp:oY p l=acQ)(h:∀t d,find (cB l vs).1 t=some d->ah H F w d (ρ t)):∀t d,find (cB (pO φ l) vs).1 t=some d->ah H' F' w d (ρ t):=by
 intro t d hf;obtain⟨s,us,rfl,h2,h3⟩:=vu hp hf;exact Eo hr hm h3 (h t _ h2)
theorem yL{m m':Nat}:{l:List (Nat×OS)}->{vs:List iu}->{o s:Nat}->{t:Th}->find (e8 m (yI φ l) vs) o=some (s,t)->∃j s' us sh,φ j=o/\t=(cu (sh.oC φ) us).1/\find (e8 m' l vs) j=some (s',(cu sh us).1)/\(vp p l=acQ->sh.gA p=acQ)/\pM (e8 m (yI φ l) vs) s=some t/\m<=s/\s<m+l.length/\s'=s-m+m'
 |[],_,_,_,_,h=>by cases h
 |(j,sh)::l,vs,o,s,t,h=>by
  have h':find ((φ j,(m,(cu (sh.oC φ) vs).1))::e8 (m+1) (yI φ l) (cu (sh.oC φ) vs).2) o=some (s,t):=h;rw[aA]at h';split at h'
  .rename_i e;simp only[aa1,abU]at h';obtain⟨rfl,rfl⟩:=h';refine⟨j,m',vs,sh,e,rfl,?_,λhp=>(bU hp).1,?_,aaX _,by simp,by omega⟩
   .show find ((j,(m',(cu sh vs).1))::_) j=_
    rw[aA,acU rfl]
   .show(bif aaY m m then _ else _)=_
    simp
  .rename_i e;rw[vr]at h';obtain⟨j',s',us,Vp,a1,a2,a3,a4,a5,a6,a7,a8⟩:=yL (m':=m'+1) h';refine⟨j',s',us,Vp,a1,a2,?_,λhp=>a4 (bU hp).2,?_,by omega,by rw[aa6];omega,by omega⟩
   .show find ((j,(m',(cu sh vs).1))::e8 (m'+1) l (cu sh vs).2) j'=_
    rw[aA,acT (λe'=>e (by rw[e',a1]))];exact a3
   .show(bif aaY m s then _ else pM (e8 (m+1) (yI φ l) (cu (sh.oC φ) vs).2) s)=_
    have:aaY m s=acR:=by
     cases hb:aaY m s with
     |false=>rfl
     |true=>have:=beq_true hb;omega
    rw[this,cond_false,vr];exact a5
def A7:List (Nat×aj)->Option (List (Bool×Tree))
 |[]=>some []
 |(_, .val a t)::l=>match A7 l with
  |some ds=>some ((a,t)::ds)
  |none=>acP
 |_::_=>acP
def G7:List (Nat×aj)->Option aj
 |[]=>some .dead
 |[(_,d)]=>some d
 |l=>match A7 l with
  |some ds=>some (.tup ds)
  |none=>acP
def qP:Nat->List (Nat×SS)->Bool
 |_,[]=>acQ
 |k,(t,_)::l=>aaY t k&&qP (k+1) l
theorem CC:{l:List (Nat×SS)}->{vs:List iu}->{k t:Nat}->{d:aj}->qP k l=acQ->find (cB l vs).1 t=some d->k<=t
 |[],_,_,_,_,_,h=>by cases h
 |(t0,s)::l,vs,k,t,d,hi,h=>by
  obtain⟨h1,h2⟩:=bU hi;have h':find ((t0,(dt s vs).1)::(cB l (dt s vs).2).1) t=some d:=h;rw[aA]at h';have:=beq_true h1;split at h'
  .omega
  .have:=CC h2 h';omega
theorem G8{f:Nat->Value}:{l:List (Nat×SS)}->{vs:List iu}->{k:Nat}->{ds:List (Bool×Tree)}->qP k l=acQ->(∀t d,find (cB l vs).1 t=some d->ah H F w d (f t))->A7 (cB l vs).1=some ds->pA H F w ds ((List.range' k l.length).map f)
 |[],_,_,_,_,_,h=>by cases h;rfl
 |(t0,s)::l,vs,k,ds,hi,kz,h=>by
  obtain⟨h1,h2⟩:=bU hi;obtain rfl:=beq_true h1;have h':A7 ((t0,(dt s vs).1)::(cB l (dt s vs).2).1)=some ds:=h;have Oo:∀t d,find ((t0,(dt s vs).1)::(cB l (dt s vs).2).1) t=some d->ah H F w d (f t):=kz;have h0:=Oo t0 _ (by rw[aA,acU rfl]);generalize(dt s vs).1=d0 at*
  cases d0<;>unfold A7 at h'<;>try cases h'
  rename_i a t
  split at h'<;>cases h'
  rename_i Qi sd;refine⟨f t0,(List.range' (t0+1) l.length).map f,by simp[List.range'_succ],h0,G8 h2 (λt d hf=>Oo t d ?_) sd⟩;have:=CC h2 hf;rw[aA,acT (by omega)];exact hf
theorem yM:{l:List (Nat×SS)}->{k:Nat}->qP k (pO φ l)=qP k l
 |[],_=>rfl
 |(t,s)::l,k=>by
  show(aaY t k&&qP (k+1) (pO φ l))=_
  rw[yM];rfl
theorem rv:{l:List (Nat×SS)}->(pO φ l).length=l.length
 |[]=>rfl
 |(t,s)::l=>by
  show(pO φ l).length+1=l.length+1
  rw[rv]
theorem A8(us:List Value):(List.range' 0 us.length).map (λt=>us.getD t undef)=us:=by
 apply List.ext_getElem (by simp);intro i h1 h2;simp[List.getD,h2]
theorem LX{l:List (Nat×SS)}{vs:List iu}{us:List Value}{D:aj}(hi:qP 0 l=acQ)(hl:us.length=l.length)(kz:∀t d,find (cB l vs).1 t=some d->ah H F w d (us.getD t undef))(h:G7 (cB l vs).1=some D):ah H F w D (uy us):=by
 have tup:∀ds,A7 (cB l vs).1=some ds->us.length≠1->ah H F w (.tup ds) (uy us):=by
  intro ds sd cA;have:=G8 hi kz sd;rw[<-hl,A8]at this;refine⟨us,?_,this⟩
  match us,cA with
  |[],_=>rfl
  |[_],h=>exact absurd rfl h
  |_::_::_,_=>rfl
 match l,hl,h with
 |[],_,h=>obtain rfl:=aaT h;trivial
 |[(t,s)],hl,h=>
  have h':G7 [(t,(dt s vs).1)]=some D:=h;obtain rfl:=aaT h';have ht:=beq_true (bU hi).1
  match us,hl with
  |[u],_=>
   have:=kz t (dt s vs).1 (by
    show find [(t,(dt s vs).1)] t=_
    rw[aA,acU rfl])
   rw[ht]at this;exact this
 |(t,s)::(t',s')::l,hl,h=>
  have h':(match A7 (cB ((t,s)::(t',s')::l) vs).1 with|some ds=>some (aj.tup ds)|none=>acP)=some D:=h;split at h'
  .rename_i ds sd;obtain rfl:=aaT h';exact tup ds sd (by simp at hl;omega)
  .cases h'
end
end
end Go.Proofs.YtbladfbbhijpmaaGreat
