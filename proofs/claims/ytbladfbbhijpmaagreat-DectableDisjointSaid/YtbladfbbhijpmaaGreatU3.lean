/- Joined texts: Effs8 Effs9 Smap Apd Pack2 Call. -/
import Derived.Test.YtbladfbbhijpmaaGreatU2
import Derived.Maps.RangeRun
open _root_.Bool renaming false->Yy,true->Yx
open _root_.Option renaming none->Yw,isSome_iff_exists->Xo
open _root_.Array renaming toArray_toList->Xq,getElem?_eq_some_iff->Xj,toList_filter->Yj
open _root_.List renaming replicate->Xb,filter_eq_self->Yi,mem_cons->WS,mem_filter->Xi,pairwise_cons->Xe,length_append->WZ,length_cons->WX
open _root_.Nat renaming beq->WI,le_refl->WH,lt_of_lt_of_le->Xg,add_zero->XL
open _root_.Option.some renaming inj->WD,injEq->WL
open _root_.Prod.mk renaming inj->X9,injEq->XF
open _root_.Go.Value renaming ownBlock->Xh
open _root_.Go.ChangeMaps renaming setBlock->X6
open _root_.Go.Instr renaming findAsking->Yr,findNow->XG,lookup->Yq,mapUpdate->XY
open _root_.Go.MapKept renaming run_getObj_map->Xy,run_setObj_map->X4
open _root_.Go.Result renaming andThen->WT
open _root_.Go.Addr.mk renaming injEq->X8
open _root_.List.cons renaming injEq->XT
open _root_.Go.Value.slice renaming injEq->X2
section
open _root_.Option renaming none->Yw
open _root_.Bool renaming true->Yx
open _root_.Int renaming toNat_natCast->WN
open _root_.Nat renaming beq->WI,le_refl->WH
open _root_.Option.some renaming inj->WD
open _root_.Go.Value renaming ownBlock->Xh
namespace Go.Proofs.YtbladfbbhijpmaaGreat
open Go Go.RowKit
section
variable {P:Program} {ρ:Nat->Value} {w w':World} {H H':ai} {F F':Nat->Prop} {U:Nat->Prop} {ob:Nat->Option (Nat×Th)} {n:Nat} {R:Type}
variable {op:Op} {ty:TypeId} {pos:String} {aft:Array Edge} {d:Nat}
noncomputable def lS(T:aF P)(ob:Nat->Option (Nat×Th))(n:Nat)(t:TypeId)(D V:ag)(k:cI->Option R):Option R:=
 match find T.row t with
 |none=>Yw
 |some rt=>match V with
  | .val _ u=>match D with
    | .dlm o d0 i p off=>match ob o with
      |some (_, .deep T0 dr l h)=>bif d0.beq dr then(match dr.path p with
       |some ⟨.leaf r,q⟩=>bif WI q.lo.off off&&WI rt.size r.size then(match flat ob r u with
        |some y=>(idx l i).bind λx=>k {dst:= .dead,eat:=[o],make:=[(o,(n, .deep T0 dr (be l i (q.hi.set x y)) h))]}
        |none=>Yw)else Yw
       |some ⟨.sl T' e',q⟩=>bif WI q.lo.off off&&WI rt.size 1 then(match u with
        | .own o1=>match ob o1 with
          |some (_,t1)=>match Lb T' e' t1 with
           |some _=>if tX h i p=Yx then(idx l i).bind λ_=>k {dst:= .dead,eat:=[o],make:=[(o,(n, .deep T0 dr l (some ⟨i,p,o1,n⟩)))]}else Yw
           |none=>Yw
          |none=>Yw
        | .nil=>if tX h i p=Yx then(idx l i).bind λx=>k {dst:= .dead,eat:=[o],make:=[(o,(n, .deep T0 dr (be l i (q.hi.set x ([]:List e'.row.den))) Yw))]}else Yw
        |_=>Yw)else Yw
       |_=>Yw)else Yw
      |_=>Yw
    |_=>Yw
  |_=>Yw
theorem mQ(T:aF P){t:TypeId}{rt:Row}(DL:find T.row t=some rt){x y:Operand}{o s:Nat}{T0:TypeId}{dr e:DR}{i:Int}{l l':List dr.row.den}{h h':Option qj}{q:dx dr e}{g o0 qq m cap j:Nat}{u:e.low.den}{cs:List Value}{x1:dr.row.den}
 (hs:ak U H F w ob n)(bH:ob o=some (s, .deep T0 dr l h))(hv:H.val o=some (.slice (some ⟨g,o0,Yw⟩) m cap))(hj:i=(j:Nat))(DY:j<l.length)(hx:ev ρ x= .pointer (some ⟨g,o0+qq*dr.low.size+q.lo.off,Yw⟩))(VU:i=(qq:Nat))(hz:rt.size=e.low.size)
 (hr:bD F w e.low cs u)(sx:(ev ρ y).cells.toList=cs)(Oh:l'=l.set j x1)
 (qI:∀{w':World}{H1:ai},H.le H1->Step F w F w'->∀{x':dr.low.den}{S:Nat->Prop},(∀k,S k->w'.heap[k]? =w.heap[k]?)->ke H F w dr h j x' l[j] S->∃B,(∀k,B k->S k)/\ke H1 F w' dr h' j (q.lo.set x' u) x1 B)
 (Oi:∀{H1:ai}{w':World}{i':Nat}{x':dr.low.den}{x:dr.row.den}{S:Nat->Prop},i'≠j->ke H1 F w' dr h i' x' x S->ke H1 F w' dr h' i' x' x S):
 bw P U H F w ρ ob n ⟨Yw, .store t x y,ty,pos,aft,Yw⟩ {dst:= .dead,eat:=[o],make:=[(o,(n, .deep T0 dr l' h'))]}:=by
 obtain⟨ti,z0,h1,_,_,h4,_⟩:=T.row_ok _ _ DL;obtain⟨lh,Ss,cS,hlen,DZ,cA⟩:=hs.low bH hv;obtain⟨v1,p3,bF⟩:=hs.obj _ _ _ bH;rw[hv]at p3;obtain rfl:=WD p3
 have Oj:j<lh.length:=by omega
 obtain rfl:qq=j:=by omega
 obtain⟨cur,hh,hle,aU,dY⟩:=cS.put rfl Oj hs.lt q.lo hr;generalize SV:w.setRow g (cur.toList.take (o0+qq*dr.low.size+q.lo.off)++cs++cur.toList.drop (o0+qq*dr.low.size+q.lo.off+cs.length)).toArray=w' at aU dY;refine bj.unit (w':=w') (by rw[<-SV];exact jX h1 (h4.trans (hz.trans hr.length.symm)) hx rfl sx hr.fj hh hle) ?_;have dz:Step F w F w':=Step.ext aU hs.lt cS.no
 have hblk:∀i',i'<l.length->∀k,Ss i' k->w'.heap[k]? =w.heap[k]? :=λi' gC k hk=>aU.block k (bF.lt k (cA.part gC k hk)) (cA.out i' k gC hk)
 have hf:=hs.fresh n (WH _) (by omega)
 have dZ:∀k,H.sub s k->bn H ob [o] k:=λk hk=>⟨o,by simp,s,_,_,bH,hv,hk⟩
 obtain⟨B0,VV,_⟩:=qI (w':=w') (H1:=H) (ai.le.refl H) dz (hblk qq DY) (DZ qq Oj DY)
 have main:∀{H1:ai},H.le H1->∃B,(∀k,B k->Ss qq k)/\ke H1 F w' dr h' qq (q.lo.set lh[qq] u) x1 B:=λBA=>qI BA dz (hblk qq DY) (DZ qq Oj DY)
 have Lc:∃B,(∀k,B k->Ss qq k)/\∀{H1:ai},H.le H1->ke H1 F w' dr h' qq (q.lo.set lh[qq] u) x1 B:=by
  obtain⟨B,b1,b2⟩:=main (ai.le.refl H);exact⟨B,b1,λBA=>b2.keep BA (Step.refl F w') λ_ _=>rfl⟩
 obtain⟨B,b1,b2⟩:=Lc;have SX:∀k,mO (aN (Value.slice (some ⟨g,o0,Yw⟩) m cap)) (λi=>if i=qq then B else Ss i) l.length k->H.sub s k:=cA.vM qq b1;refine gS.tV (t':= .deep T0 dr l' h') hs bH hv rfl (by simp) (mO (aN (Value.slice (some ⟨g,o0,Yw⟩) m cap)) (λi=>if i=qq then B else Ss i) l.length) (λk hk=>dZ k (SX k hk)) ⟨aU.os,aU.tape,aU.output,aU.size,λk hk hn=>aU.block k hk λe=>hn (dZ k (cA.aN k e))⟩ ?_ trivial;have BA:=ai.lR (H:=H) (S:=mO (aN (Value.slice (some ⟨g,o0,Yw⟩) m cap)) (λi=>if i=qq then B else Ss i) l.length) (t:= .deep T0 dr l' h') hf.2
 have sB:l'.length=l.length:=by rw[Oh];simp
 refine⟨lh.set qq (q.lo.set lh[qq] u),(λi=>if i=qq then B else Ss i),dY.2,by rw[sB];simpa using hlen,?_,?_⟩
 .intro i' a b
  have:=GN (rel:=ke ((H.cT n (mO (aN (Value.slice (some ⟨g,o0,Yw⟩) m cap)) (λi=>if i=qq then B else Ss i) l.length)).aK n (.deep T0 dr l' h')) F w' dr h') (lh:=lh) (l:=l) (Ss:=Ss) (j:=qq) (x':=q.lo.set lh[qq] u) (x:=x1) (B:=B)
   (λi2 c1 c2 bY=>Oi bY ((DZ i2 c1 c2).keep BA dz (hblk i2 c2))) (b2 BA) i' a (by simpa[Oh]using b)
  simpa only[Oh]using this
 .rw[sB];exact cA.less qq b1
theorem yf(T:aF P){t:TypeId}{D V:ag}{x y:Operand}{k:cI->Option R}{q:R}(h:lS T ob n t D V k=some q)(hs:ak U H F w ob n)(hx:af H F w D (ev ρ x))(hy:af H F w V (ev ρ y)):
 ∃e,k e=some q/\bw P U H F w ρ ob n ⟨Yw, .store t x y,ty,pos,aft,Yw⟩ e:=by
 unfold lS at h;split at h
 .cases h
 rename_i rt DL;split at h
 case h_2=>cases h
 rename_i agg u;split at h
 case h_2=>cases h
 rename_i o d0 i p off;split at h
 case h_2=>cases h
 rename_i s T0 dr l hh bH;obtain⟨hd,h'⟩:=ax h;clear h;obtain rfl:=DR.eq_of_beq hd;obtain⟨g,o0,qq,m,cap,e1,e2,e5⟩:=hx;obtain⟨cs,mH,sx⟩:=au.cells hy;split at h'
 .rename_i r sw tS;obtain⟨h1,h2⟩:=ax h';obtain⟨h1,h3⟩:=bC h1;obtain rfl:=beq_true h1;split at h2
  case h_2=>cases h2
  rename_i z hz;obtain⟨a,ha,hk⟩:=bind_some h2;obtain⟨j,hj,DY,rfl⟩:=dB ha;refine⟨_,hk,mQ (l':=be l i (sw.hi.set l[j] z)) (x1:=sw.hi.set l[j] z) (u:=z) T DL hs bH e1 hj DY e5 e2 (beq_true h3) (dS hs hz mH) sx ?_ ?_ ?_⟩
  .unfold be;rw[hj,WN]
  .intro w' H1 hle dz x' S hb hr;exact⟨S,λ_ h=>h,By sw z (hr.keep hle dz hb)⟩
  .intro H1 w' i' x' x S _ hr;exact hr
 .rename_i T' e' sw tS;obtain⟨h1,h2⟩:=ax h';obtain⟨h1,h3⟩:=bC h1;obtain rfl:=beq_true h1;split at h2
  .rename_i o1;split at h2
   case h_2=>cases h2
   rename_i s1 t1 tY;split at h2
   case h_2=>cases h2
   rename_i y1 hD;split at h2
   case isFalse=>cases h2
   rename_i vP;obtain⟨a,ha,hk⟩:=bind_some h2;obtain⟨j,hj,DY,rfl⟩:=dB ha;obtain⟨u1,CV,kO⟩:=hs.obj _ _ _ tY;obtain⟨v,hv,ic,rfl⟩:=mH;rw[CV]at hv;obtain rfl:=WD hv
   have Ol:bD F w .gP [u1] u1:=by
    have:=kO.ok;rw[ye hD]at this;obtain⟨SY,_,g1,_⟩:=qG this;obtain⟨xs,⟨_,hx⟩,_⟩:=g1
    rcases hx with⟨rfl,_⟩|⟨gg,o0,cp,cur,rfl,_⟩<;>exact⟨rfl,_,_,_,rfl⟩
   refine⟨_,hk,mQ (l':=l) (x1:=l[j]) (u:=u1) (e:= .sl T' e') T DL hs bH e1 hj DY e5 e2 (beq_true h3) Ol sx ?_ ?_ ?_⟩
   .exact(List.set_getElem_self DY).symm
   .intro w' H1 hle dz x' S hb hr;obtain⟨B,b1,b2⟩:=vO vP tS hj hr;refine⟨B,b1,λbY=>absurd hj bY,λ_=>⟨T',e',sw,tS,(b2.keep dz λk hk=>hb k (b1 k hk)).DX sw u1,?_⟩⟩;rw[Path.tU];exact hle.val _ _ CV
   .intro H1 w' i' x' x S bY hr
    have BC:i≠(i':Int):=λe=>bY (by omega)
    exact⟨λ_=>qJ vP BC hr,λe=>absurd e BC⟩
  .split at h2
   case isFalse=>cases h2
   rename_i vP;obtain⟨a,ha,hk⟩:=bind_some h2;obtain⟨j,hj,DY,rfl⟩:=dB ha;have Om:cs=_:=mH;subst Om;refine⟨_,hk,mQ (x1:=sw.hi.set l[j] ([]:List e'.row.den)) (u:=Value.slice Yw 0 0) (e:= .sl T' e') T DL hs bH e1 hj DY e5 e2 (beq_true h3) ⟨rfl,_,_,_,rfl⟩ sx ?_ ?_ ?_⟩
   .unfold be;rw[hj,WN]
   .intro w' H1 hle dz x' S hb hr;obtain⟨B,b1,b2⟩:=vO vP tS hj hr;refine⟨B,b1,?_⟩;refine gQ.put (e:= .sl T' e') sw (b2.keep dz λk hk=>hb k (b1 k hk)) (A:=λ_=>False) ?_ ⟨λk=>by simp,λ_ h=>h.elim⟩;exact⟨[],λ_ _=>False,gD.nil F w' T' e'.low,rfl,λi h=>absurd h (by simp),⟨λk=>by simp[aN,Xh],λ_ _ _ h=>absurd h (by simp),λ_ _ h=>absurd h (by simp)⟩⟩
   .intro H1 w' i' x' x S bY hr
    have BC:i≠(i':Int):=λe=>bY (by omega)
    exact qJ vP BC hr
  .cases h2
 .cases h'
end
end Go.Proofs.YtbladfbbhijpmaaGreat
namespace Go.Proofs.YtbladfbbhijpmaaGreat
open Go Go.RowKit
def oB{α:Type}(l:List α)(i:Int)(f:α->α):List α:=if 0<=i then l.modify i.toNat f else l
theorem gE{α:Type}(l:List α)(i:Int)(f:α->α):(oB l i f).length=l.length:=by unfold oB;split<;>simp
theorem tZ{α:Type}{l:List α}{i:Int}{f:α->α}{j:Nat}(h:j<(oB l i f).length)(h':j<l.length):(oB l i f)[j]=if i=(j:Int)then f l[j]else l[j]:=by
 by_cases hi:0<=i
 .have e:oB l i f=l.modify i.toNat f:=by unfold oB;rw[YB hi]
  simp only[e,List.getElem_modify]
  by_cases Ii:i=(j:Int)
  .rw[YB Ii,YB (by omega)]
  .rw[YA Ii,YA (by omega)]
 .have e:oB l i f=l:=by unfold oB;rw[YA hi]
  simp only[e];rw[YA (by omega)]
theorem Path.ua:{r s:Row}->(p:Path r s)->(x:r.den)->p.set x (p.get x)=x
 |_,_, .here,_=>rfl
 |_,_, .fst p,x=>by show(p.set x.1 (p.get x.1),x.2)=x;rw[Path.ua p]
 |_,_, .snd p,x=>by show(x.1,p.set x.2 (p.get x.2))=x;rw[Path.ua p]
section
variable {P:Program} {ρ:Nat->Value} {w w':World} {H H':ai} {F F':Nat->Prop} {U:Nat->Prop} {ob:Nat->Option (Nat×Th)} {n:Nat} {R:Type}
variable {op:Op} {ty:TypeId} {pos:String} {aft:Array Edge} {d:Nat}
def D1(ob:Nat->Option (Nat×Th))(n o:Nat):Option cI:=
 match ob o with
 |some (_, .deep T0 dr l (some h))=>match dr.path h.p with
  |some ⟨.sl T' e',q⟩=>match ob h.o with
   |some (_,t1)=>bif WI h.o o then Yw else(match Lb T' e' t1 with
    |some y=>some {dst:= .dead,eat:=[o,h.o],make:=[(o,(n, .deep T0 dr (oB l h.i λx=>q.hi.set x y) Yw))]}
    |none=>Yw)
   |none=>Yw
  |_=>Yw
 |_=>Yw
theorem BD(hs:ak U H F w ob n){o:Nat}{e:cI}(h:D1 ob n o=some e):gW H F w ob n e undef w:=by
 unfold D1 at h;split at h
 case h_2=>cases h
 rename_i s T0 dr l hh bH;split at h
 case h_2=>cases h
 rename_i T' e' q hq;split at h
 case h_2=>cases h
 rename_i s1 t1 tY
 cases bY:WI hh.o o with
 |true=>rw[bY]at h;cases h
 |false=>
  rw[bY,cond_false]at h
  have bY:o≠hh.o:=λe=>by rw[e]at bY;simp at bY
  split at h
  case h_2=>cases h
  rename_i y hD;obtain rfl:=WD h;have hD:=ye hD;subst hD;obtain⟨v,hv,bF⟩:=hs.obj _ _ _ bH;obtain⟨u,hu,kO⟩:=hs.obj _ _ _ tY;obtain⟨lh,Ss,cS,hlen,qI,cA⟩:=hs.low bH hv;have hA:=qG kO.ok;generalize Rm:(λk=>fp (H.sub s1) u (Bx T' e' y) k)=A at hA
  have Nn:∀k,A k->¬H.sub s k:=λk hk=>by
   rw[<-Rm]at hk
   exact λh2=>hs.apart _ _ _ _ _ _ _ _ bY bH tY hv hu k h2 hk
  have hf:=hs.fresh n (WH _) (by omega)
  let Ld:Nat->Nat->Prop:=λi k=>Ss i k\/(hh.i=(i:Int)/\A k)
  have dZ:∀k,H.sub s k\/A k->bn H ob [o,hh.o] k:=by
   rintro k (hk|hk)
   .exact⟨o,by simp,s,_,v,bH,hv,hk⟩
   .rw[<-Rm]at hk;exact⟨hh.o,by simp,s1,_,u,tY,hu,hk⟩
  have hS:∀k,mO (aN v) Ld l.length k->H.sub s k\/A k:=by
   rintro k (hk|⟨i,hi,hk|hk⟩)
   .exact .inl (cA.aN k hk)
   .exact .inl (cA.part hi k hk)
   .exact .inr hk.2
  refine gS.tV (t':= .deep T0 dr (oB l hh.i λx=>q.hi.set x y) Yw) hs bH hv rfl (by simp) (mO (aN v) Ld l.length) (λk hk=>dZ k (hS k hk)) ⟨rfl,⟨rfl,WH _⟩,rfl,WH _,λ_ _ _=>rfl⟩ ?_ trivial;have sB:(oB l hh.i λx=>q.hi.set x y).length=l.length:=gE ..;refine⟨lh,Ld,cS.2,by rw[sB];exact hlen,λi a b=>?_,?_⟩
  .have b':i<l.length:=by omega
   rw[tZ b b'];have hr:=qI i a b'
   by_cases hi:hh.i=(i:Int)
   .rw[YB hi];obtain⟨SQ,SR,SU,k1,k2,k3⟩:=hr.2 hi;rw[hq]at k1;cases k1;rw[hu]at k3;have k3:=WD k3;have:fI F w dr (q.lo.set lh[i] u) (q.hi.set l[i] y) (Ld i):=k2.put q hA ⟨λk=>⟨λhk=>hk.elim .inr λhk=> .inl hk.2,λhk=>hk.elim (λhk=> .inr ⟨hi,hk⟩) .inl⟩,λk hk h2=>Nn k hk (cA.part b' k h2)⟩;rw[k3,Path.ua]at this;exact this
   .rw[YA hi];have SZ:=hr.1 hi
    have:Ld i=Ss i:=by
     funext k;exact propext ⟨λhk=>hk.elim id λhk=>absurd hk.1 hi, .inl⟩
    rw[this];exact SZ
  .rw[sB];refine⟨λk=>Iff.rfl,λi j k h1 h2 Ii h3 h4=>?_,λi k h1 h3 h4=>?_⟩
   .rcases h3 with h3|h3<;>rcases h4 with h4|h4
    .exact cA.two i j k h1 h2 Ii h3 h4
    .exact Nn k h4.2 (cA.part h1 k h3)
    .exact Nn k h3.2 (cA.part h2 k h4)
    .have:=h3.1;have:=h4.1;omega
   .rcases h3 with h3|h3
    .exact cA.out i k h1 h3 h4
    .exact Nn k h3.2 (cA.aN k h4)
end
end Go.Proofs.YtbladfbbhijpmaaGreat
end
namespace Go.Proofs.YtbladfbbhijpmaaGreat
open Go Go.RowKit
set_option maxRecDepth 100000
set_option linter.unusedSimpArgs false
set_option linter.unusedVariables false
set_option linter.defProp false
section
theorem DR.da:(d:DR)->d.low.da=d.row.da
 | .leaf _=>rfl
 | .sl _ _=>rfl
 | .pair a b=>by show a.low.da++b.low.da=a.row.da++b.row.da;rw[a.da,b.da]
theorem TI.low{P:Program}{e:TypeId}{d:DR}(h:TI P e d.row):TI P e d.low:=by
 obtain⟨ti,z,h1,h2,h3,h4,h5⟩:=h;exact⟨ti,z,h1,h2,by rw[d.da];exact h3,by rw[d.size];exact h4,h5⟩
def yg:List Nat->Bool
 |[]=>Yx
 |o::l=> !l.any (WI o)&&yg l
theorem sC:{l:List Nat}->yg l=Yx->l.Nodup
 |[],_=>List.nodup_nil
 |o::l,h=>by
  obtain⟨h1,h2⟩:=bC h;refine List.nodup_cons.2 ⟨λhm=>?_,sC h2⟩;rw[any_beq.2 hm]at h1;cases h1
def DR.S0:DR->DR->DR
 | .leaf a, .leaf b=> .leaf (.pair a b)
 |a,b=> .pair a b
def I1(ob:Nat->Option (Nat×Th)):Row->Tree->DR
 | .slice e, .own o=>match ob o with
   |some (_, .own T r _)=> .sl T (.leaf r)
   |some (_, .deep T d _ Yw)=> .sl T d
   |_=> .leaf (.slice e)
 | .pair a b,t=>match t.split with
   |some (x,y)=>DR.S0 (I1 ob a x) (I1 ob b y)
   |none=> .leaf (.pair a b)
 |r,_=> .leaf r
def yh(ob:Nat->Option (Nat×Th)):(d:DR)->Tree->Option (d.row.den×List Nat)
 | .leaf r,t=>match flat ob r t with
   |some x=>some (x,[])
   |none=>Yw
 | .sl T e, .own o=>match ob o with
   |some (_,t1)=>match Lb T e t1 with
    |some y=>some (y,[o])
    |none=>Yw
   |none=>Yw
 | .sl _ _, .nil=>some ([],[])
 | .sl _ _,_=>Yw
 | .pair a b,t=>match t.split with
   |some (x,y)=>match yh ob a x with
    |some (u,os)=>match yh ob b y with
     |some (v,BE)=>some ((u,v),os++BE)
     |none=>Yw
    |none=>Yw
   |none=>Yw
def zX(ob:Nat->Option (Nat×Th))(d:DR):List ag->Option (List d.row.den×List Nat)
 |[]=>some ([],[])
 | .val _ u::l=>match yh ob d u with
   |some (x,os)=>match zX ob d l with
    |some (xs,BE)=>some (x::xs,os++BE)
    |none=>Yw
   |none=>Yw
 |_::_=>Yw
section
variable {P:Program} {ρ:Nat->Value} {w w':World} {H H':ai} {F F':Nat->Prop} {U:Nat->Prop} {ob:Nat->Option (Nat×Th)} {n:Nat} {R:Type}
variable {op:Op} {ty:TypeId} {pos:String} {aft:Array Edge} {d:Nat}
theorem pb(hs:ak U H F w ob n){os BE:List Nat}(hd:∀o,o∈os->o∉BE):∀k,bn H ob os k->¬bn H ob BE k:=by
 rintro k ⟨o,ho,s,t,v,h1,h2,h3⟩ ⟨o',fZ,s',t',v',g1,g2,g3⟩
 exact hs.apart o o' s s' t t' v v' (λe=>hd o ho (e▸fZ)) h1 g1 h2 g2 k h3 g3
theorem lT{os BE:List Nat}(h:∀o,o∈os->o∈BE):∀k,bn H ob os k->bn H ob BE k:=λ_ ⟨o,ho,rest⟩=>⟨o,h o ho,rest⟩
theorem ub(hs:ak U H F w ob n):{d:DR}->{t:Tree}->{x:d.row.den}->{os:List Nat}->{cs:List Value}->yh ob d t=some (x,os)->Holds H F w t cs->os.Nodup->∃x' S,bD F w d.low cs x'/\fI F w d x' x S/\∀k,S k->bn H ob os k
 | .leaf r,t,x,os,cs,h,hh,yi=>by
   unfold yh at h
   split at h<;>cases h
   rename_i hf;exact⟨x,λ_=>False,dS hs hf hh,⟨rfl,λ_ h=>h⟩,λ_ h=>h.elim⟩
 | .sl T e, .own o,x,os,cs,h,hh,yi=>by
   unfold yh at h;split at h
   case h_2=>cases h
   rename_i s1 t1 ho
   split at h<;>cases h
   rename_i hD;obtain⟨v,hv,_,rfl⟩:=hh;obtain⟨v',cM,bF⟩:=hs.obj _ _ _ ho;rw[hv]at cM;obtain rfl:=WD cM;have hD:=ye hD;subst hD;have hb:=qG bF.ok;refine⟨v,_,?_,hb,λk hk=>⟨o,by simp,s1,_,v,ho,hv,hk⟩⟩;obtain⟨SY,_,⟨xs,⟨_,hx⟩,_⟩,_⟩:=hb
   rcases hx with⟨rfl,_⟩|⟨gg,o0,cp,cur,rfl,_⟩<;>exact⟨rfl,_,_,_,rfl⟩
 | .sl T e, .nil,x,os,cs,h,hh,_=>by
   cases h;have No:cs=_:=hh;subst No;exact⟨.slice Yw 0 0,λ_=>False,⟨rfl,_,_,_,rfl⟩,⟨[],λ_ _=>False,gD.nil F w T e.low,rfl,λi h=>absurd h (by simp),⟨λk=>by simp[aN,Xh],λ_ _ _ h=>absurd h (by simp),λ_ _ h=>absurd h (by simp)⟩⟩,λ_ h=>h.elim⟩
 | .pair a b,t,x,os,cs,h,hh,hn=>by
   unfold yh at h;split at h
   case h_2=>cases h
   rename_i t1 t2 rM;split at h
   case h_2=>cases h
   rename_i u S3 h1;split at h
   case h_2=>cases h
   rename_i v S4 h2;cases h;obtain⟨c1,c2,rfl,g1,g2,_⟩:=hh.split rM;obtain⟨n1,n2,n3⟩:=List.nodup_append.1 hn;obtain⟨x1,S1,r1,e1,s1⟩:=ub hs h1 g1 n1;obtain⟨x2,S2,r2,e2,s2⟩:=ub hs h2 g2 n2;refine⟨(x1,x2),λk=>S1 k\/S2 k,⟨c1,c2,rfl,r1,r2⟩,⟨S1,S2,e1,e2,λ_=>Iff.rfl,λk hk gX=>pb hs (λo ho fZ=>n3 o ho o fZ rfl) k (s1 k hk) (s2 k gX)⟩,λk hk=>hk.elim (λhk=>lT (λo ho=>by simp[ho]) k (s1 k hk)) λhk=>lT (λo ho=>by simp[ho]) k (s2 k hk)⟩
 | .sl _ _, .leaf _ _,_,_,_,h,_,_=>by cases h
 | .sl _ _, .pair _ _,_,_,_,h,_,_=>by cases h
 | .sl _ _, .view ..,_,_,_,h,_,_=>by cases h
theorem vQ(hs:ak U H F w ob n){d:DR}:{ds:List ag}->{l:List d.row.den}->{os:List Nat}->{vs:List Value}->zX ob d ds=some (l,os)->dp H F w ds vs->os.Nodup->
 ∃(lh:List d.low.den)(Ss:Nat->Nat->Prop),qi F w d.low vs lh/\lh.length=l.length/\(∀i(h1:i<lh.length)(h2:i<l.length),fI F w d lh[i] l[i] (Ss i))/\(∀i k,i<l.length->Ss i k->bn H ob os k)/\∀i j k,i<l.length->j<l.length->i≠j->Ss i k->¬Ss j k
 |[],l,os,vs,h,hd,_=>by
  cases h;rw[show vs=[]from hd];exact⟨[],λ_ _=>False, .nil,rfl,λi h=>absurd h (by simp),λ_ _ h=>absurd h (by simp),λ_ _ _ h=>absurd h (by simp)⟩
 | .val _ u::ds,l,os,vs,h,hd,hn=>by
   obtain⟨v,us,rfl,h1,h2⟩:=hd;unfold zX at h;split at h
   case h_2=>cases h
   rename_i x S3 hf;split at h
   case h_2=>cases h
   rename_i xs S4 hg;cases h;obtain⟨cs,mH,sx⟩:=au.cells h1;obtain⟨n1,n2,n3⟩:=List.nodup_append.1 hn;obtain⟨x',S,r1,e1,s1⟩:=ub hs hf mH n1;obtain⟨lh,Ss,k1,k2,k3,k4,k5⟩:=vQ hs hg h2 n2
   have ap:∀i k,i<xs.length->S k->¬Ss i k:=λi k hi hk gX=>pb hs (λo ho fZ=>n3 o ho o fZ rfl) k (s1 k hk) (k4 i k hi gX)
   refine⟨x'::lh,λi=>match i with|0=>S|i+1=>Ss i, .cons sx r1 k1,by simp[k2],λi a b=>?_,λi k hi hk=>?_,λi j k hi hj bY hk gX=>?_⟩
   .cases i with
    |zero=>exact e1
    |succ i=>exact k3 i (by simpa using a) (by simpa using b)
   .cases i with
    |zero=>exact lT (λo ho=>by simp[ho]) k (s1 k hk)
    |succ i=>exact lT (λo ho=>by simp[ho]) k (k4 i k (by simpa using hi) hk)
   .cases i with
    |zero=>
     cases j with
     |zero=>exact bY rfl
     |succ j=>exact ap j k (by simpa using hj) hk gX
    |succ i=>
     cases j with
     |zero=>exact ap i k (by simpa using hi) gX hk
     |succ j=>exact k5 i j k (by simpa using hi) (by simpa using hj) (λe=>bY (by rw[e])) hk gX
 | .dead::_,_,_,_,h,_,_=>by cases h
 | .undef::_,_,_,_,h,_,_=>by cases h
 | .ptr .. ::_,_,_,_,h,_,_=>by cases h
 | .at .. ::_,_,_,_,h,_,_=>by cases h
 | .elem .. ::_,_,_,_,h,_,_=>by cases h
 | .tup _::_,_,_,_,h,_,_=>by cases h
 | .dlm .. ::_,_,_,_,h,_,_=>by cases h
 | .fn .. ::_,_,_,_,h,_,_=>by cases h
 | .ifc .. ::_,_,_,_,h,_,_=>by cases h
theorem gS.GP(hs:ak U H F w ob n){eat:List Nat}{t:Th}{v0:Value}{S:Nat->Prop}(hb:t.base=t)(h1:v0.oneCell'=Yx){D:ag}{v:Value}
 (aU:Ext (bn H ob eat) w w')(iP:eC (((H.cT n S).aK n t).bI n v0) F w' S v0 t)(DK:∀k,fp S v0 t k->¬F k/\k<w'.heap.size/\(w.heap.size<=k\/bn H ob eat k))
 (hd:af (((H.cT n S).aK n t).bI n v0) F w' D v):gW H F w ob n {dst:=D,eat:=eat,make:=[(n,(n,t))]} v w':=by
 have hf:=hs.fresh n (WH _) (by omega)
 have dN:(((H.cT n S).aK n t).bI n v0).sub n=S:=by simp[ai.bI,ai.aK,ai.cT]
 refine⟨((H.cT n S).aK n t).bI n v0,F,⟨(ai.lR hf.2).trans (ai.lL (by simp[ai.aK,ai.cT,hf.1])),aU,λ_ h=>h,λ_ h=> .inl h,λb hb=>Xg (hs.lt b hb) aU.size⟩,λm hm=>?_,hd,⟨λo' s' q hq=>?_,λo1 o2 s1 s2 q1 q2 u1 u2 bY h1 h2=>?_⟩,λo' h=>?_⟩
 .simp[ai.aK,ai.bI,ai.cT,show m≠n from by omega]
 .obtain⟨rfl,e⟩:=bf hq;obtain⟨rfl,rfl⟩:=X9 e;exact⟨v0,by simp[ai.bI],h1,by simp[ai.aK,ai.bI,hb],by rw[dN];exact iP,by rw[dN];exact DK⟩
 .exact absurd ((bf h1).1.trans (bf h2).1.symm) bY
 .right
  obtain⟨y,hy⟩:=Xo.1 h;rw[(bf hy).1];exact WH _
def uc(ob:Nat->Option (Nat×Th))(r:Row):List ag->DR
 | .val _ u::_=>I1 ob r u
 |_=> .leaf r
def kZ(e:TypeId)(dr:DR)(ob:Nat->Option (Nat×Th))(n:Nat)(ds:List ag)(k:cI->Option R):Option R:=
 match zX ob dr ds with
 |some (l,os)=>bif yg os then k {dst:= .val Yy (.own n),eat:=os,make:=[(n,(n,Bx e dr l))]}else Yw
 |none=>Yw
def lU(T:aF P)(rd:Operand->Option ag)(ob:Nat->Option (Nat×Th))(n:Nat)(t:TypeId)(m:Nat)(parts:Array (Nat×Operand))(k:cI->Option R):Option R:=
 match find T.und t with
 |some (.slice e)=>match find T.row e with
  |some r=>bif zP 0 parts.toList&&WI m parts.toList.length&&Nat.ble (m*r.size) 16777216 then
    (match nE rd (parts.toList.map (·.2))with
    |some ds=>bif (uc ob r ds).row.beq r then kZ e (uc ob r ds) ob n ds k else Yw
    |none=>Yw)else Yw
  |none=>Yw
 |_=>Yw
theorem yj(T:aF P){rd:Operand->Option ag}(dg:∀x d,rd x=some d->af H F w d (ev ρ x)){t:TypeId}{m:Nat}{parts:Array (Nat×Operand)}{k:cI->Option R}{q:R}(h:lU T rd ob n t m parts k=some q)(hs:ak U H F w ob n):
 ∃e,k e=some q/\bw P U H F w ρ ob n ⟨some d, .buildSlice t m parts,ty,pos,aft,Yw⟩ e:=by
 unfold lU at h;split at h
 case h_2=>cases h
 rename_i e hu;split at h
 case h_2=>cases h
 rename_i r hr;obtain⟨c0,h8⟩:=ax h;clear h;obtain⟨c1,c3⟩:=bC c0;obtain⟨h1,c2⟩:=bC c1;have h2:=beq_true c2
 have h3:m*r.size<=16777216:=by simpa using c3
 clear c0 c1 c2 c3;split at h8
 case h_2=>cases h8
 rename_i ds p4;obtain⟨Le,h⟩:=ax h8;clear h8;have gP:=Row.eq_of_beq Le;clear Le
 obtain⟨dr,Kq⟩:∃dr,dr=uc ob r ds:=⟨_,rfl⟩
 rw[<-Kq]at h gP;clear Kq;subst gP;unfold kZ at h;split at h
 case h_2=>cases h
 rename_i l os hl;obtain⟨hn,hk⟩:=ax h;clear h;obtain⟨lh,Ss,k1,k2,k3,k4,k5⟩:=vQ hs hl (jC dg p4) (sC hn)
 have hp:parts=(((parts.toList.map (·.2)).zipIdx).map λp=>(p.2,p.1)).toArray:=by
  rw[<-qy h1,Xq]
 have hm:m=(parts.toList.map (·.2)).length:=by simpa using h2
 obtain⟨v,w',aV,aU,cS,qv⟩:=qx (d:=d) (ty:=ty) (pos:=pos) (aft:=aft) (T.und_ok _ _ hu) (TI.low (T.row_ok _ _ hr)) hp (by rw[<-hm,DR.size];exact h3) k1 hs;rw[<-hm]at aV;refine⟨_,hk,bj.val aV ?_⟩
 have av:∀i k,i<l.length->Ss i k->k<w.heap.size:=λi k hi hk=>hs.qk k (k4 i k hi hk)
 have dz:Step F w F w':=λb hb=>⟨hb,(aU λ_=>False).block b (hs.lt b hb) λh=>h⟩
 have cA:jy Ss l.length (aN v) (mO (aN v) Ss l.length):=⟨λ_=>Iff.rfl,k5,λi k hi hk hm=>by have:=av i k hi hk;have:=qv k hm;omega⟩
 have pD:fI F w' (.sl e dr) v l (mO (aN v) Ss l.length):=⟨lh,Ss,cS.2,k2,λi a b=>(k3 i a b).keep dz λk hk=>(aU λ_=>False).block k (av i k b hk) λh=>h,cA⟩
 have DK:∀k,mO (aN v) Ss l.length k->¬F k/\k<w'.heap.size/\(w.heap.size<=k\/bn H ob os k):=by
  rintro k (hk|⟨i,hi,hk⟩)
  .exact⟨cS.1 k hk,cS.lt k hk, .inl (qv k hk)⟩
  .have:=k4 i k hi hk;exact⟨hs.db k this,Xg (hs.qk k this) (aU λ_=>False).size, .inr this⟩
 refine gS.GP (S:=mO (aN v) Ss l.length) (v0:=v) hs (qF ..) (lM cS) (aU _) (oy pD).1 (λk hk=>DK k ((oy (H:=H) pD).2.1 k hk)) (iZ (by simp[ai.bI]) (lM cS))
def ud(T:aF P)(n:Nat)(t:TypeId)(same:Bool)(a b:Int)(k:cI->Option R):Option R:=
 match find T.und t with
 |some (.slice e)=>match find T.row e with
  |some (.slice r)=>match find T.und e with
   |some (.slice e')=>(bif same then sf a ([]:List r.den)else Ni a b ([]:List r.den)).bind λl=>k {dst:= .val Yy (.own n),make:=[(n,(n, .deep e (.sl e' (.leaf r)) l Yw))]}
   |_=>Yw
  |_=>qw T n t same a b k
 |_=>Yw
theorem sD{e e' t:TypeId}{r:Row}{a b:Int}(ht:P.underlying t=some (.slice e))(su:TI P e (.slice r))(hs:ak U H F w ob n){ka kb:IntKind}{x y:Operand}(hx:ev ρ x= .int ka a)(hy:ev ρ y= .int kb b)(h0:0<=a)(h1:a<=b)(h2:b<=4294967296):
 bw P U H F w ρ ob n ⟨some d, .makeSlice t x y,ty,pos,aft,Yw⟩ {dst:= .val Yy (.own n),make:=[(n,(n, .deep e (.sl e' (.leaf r)) (Xb a.toNat ([]:List r.den)) Yw))]}:=by
 obtain⟨v,w',aV,aU,cS,qv⟩:=sy (d:=d) (ty:=ty) (pos:=pos) (aft:=aft) (r:= .gP) ht (TI.low (d:= .sl e' (.leaf r)) su) hs hx hy h0 h1 h2
 have pD:fI F w' (.sl e (.sl e' (.leaf r))) v (Xb a.toNat ([]:List r.den)) (aN v):=by
  refine⟨Xb a.toNat (Value.slice Yw 0 0),λ_ _=>False,cS.2,by simp,λi h1 h2=>?_,⟨λk=>by simp,λ_ _ _ _ _ _ h=>h.elim,λ_ _ _ h=>h.elim⟩⟩;simp only[List.getElem_replicate];exact⟨[],λ_ _=>False,gD.nil F w' e' r,rfl,λi h=>absurd h (by simp),⟨λk=>by simp[aN,Xh],λ_ _ _ h=>absurd h (by simp),λ_ _ h=>absurd h (by simp)⟩⟩
 refine bj.val aV (gS.GP (S:=aN v) (v0:=v) (eat:=[]) (t:=Bx e (.sl e' (.leaf r)) (Xb a.toNat ([]:List r.den))) hs (qF ..) (lM cS) (aU _) (oy pD).1 (λk hk=>?_) (iZ (by simp[ai.bI]) (lM cS)));have hk:=(oy (H:=H) pD).2.1 k hk;exact⟨cS.1 k hk,cS.lt k hk, .inl (qv k hk)⟩
theorem BF(T:aF P){t:TypeId}{a b:Int}{ka kb:IntKind}{x y:Operand}{k:cI->Option R}{q:R}(h:ud T n t (kX x y) a b k=some q)(hs:ak U H F w ob n)(hx:ev ρ x= .int ka a)(hy:ev ρ y= .int kb b):
 ∃e,k e=some q/\bw P U H F w ρ ob n ⟨some d, .makeSlice t x y,ty,pos,aft,Yw⟩ e:=by
 unfold ud at h;split at h
 case h_2=>cases h
 rename_i e hu;split at h
 case h_2=>exact vA T h hs hx hy
 rename_i r hr;split at h
 case h_2=>cases h
 rename_i e' zW;obtain⟨l,hl,hk⟩:=bind_some h;have su:=T.row_ok _ _ hr;have ht:=T.und_ok _ _ hu
 cases DO:kX x y with
 |true=>
  rw[DO,cond_true]at hl;unfold sf at hl;split at hl
  case isFalse=>cases hl
  rename_i hc;obtain rfl:=WD hl;obtain rfl:=sz DO hx hy;exact⟨_,hk,sD ht su hs hx hy hc.1 (Int.le_refl _) hc.2⟩
 |false=>
  rw[DO,cond_false]at hl;unfold Ni at hl;split at hl
  case isFalse=>cases hl
  rename_i hc;obtain rfl:=WD hl;exact⟨_,hk,sD ht su hs hx hy hc.1 hc.2.1 hc.2.2⟩
def qK(deep:Bool)(T:aF P)(n:Nat)(t:TypeId)(same:Bool)(a b:Int)(k:cI->Option R):Option R:=
 match deep with
 |true=>ud T n t same a b k
 |false=>qw T n t same a b k
theorem BG(deep:Bool)(T:aF P){t:TypeId}{a b:Int}{ka kb:IntKind}{x y:Operand}{k:cI->Option R}{q:R}(h:qK deep T n t (kX x y) a b k=some q)(hs:ak U H F w ob n)(hx:ev ρ x= .int ka a)(hy:ev ρ y= .int kb b):
 ∃e,k e=some q/\bw P U H F w ρ ob n ⟨some d, .makeSlice t x y,ty,pos,aft,Yw⟩ e:=by
 cases deep with
 |true=>exact BF T h hs hx hy
 |false=>exact vA T h hs hx hy
def k0(T:aF P)(ob:Nat->Option (Nat×Th))(n:Nat)(t:TypeId)(D:ag)(k:cI->Option R):Option R:=
 match D with
 | .dlm .. =>mP T ob n t D k
 |_=>sv T ob t D k
theorem BH(T:aF P){t:TypeId}{D:ag}{x:Operand}{k:cI->Option R}{q:R}(h:k0 T ob n t D k=some q)(hs:ak U H F w ob n)(hx:af H F w D (ev ρ x)):
 ∃e,k e=some q/\bw P U H F w ρ ob n ⟨some d, .load t x,ty,pos,aft,Yw⟩ e:=by
 unfold k0 at h;split at h
 .exact Bz T h hs hx
 .exact DJ T h hs hx
noncomputable def lV(T:aF P)(ob:Nat->Option (Nat×Th))(n:Nat)(t:TypeId)(D V:ag)(k:cI->Option R):Option R:=
 match D with
 | .dlm .. =>lS T ob n t D V k
 |_=>om T ob n t D V k
theorem yk(T:aF P){t:TypeId}{D V:ag}{x y:Operand}{k:cI->Option R}{q:R}(h:lV T ob n t D V k=some q)(hs:ak U H F w ob n)(hx:af H F w D (ev ρ x))(hy:af H F w V (ev ρ y)):
 ∃e,k e=some q/\bw P U H F w ρ ob n ⟨Yw, .store t x y,ty,pos,aft,Yw⟩ e:=by
 unfold lV at h;split at h
 .exact yf T h hs hx hy
 .exact Bk T h hs hx hy
def p8(deep:Bool)(T:aF P)(rd:Operand->Option ag)(ob:Nat->Option (Nat×Th))(n:Nat)(t:TypeId)(m:Nat)(parts:Array (Nat×Operand))(k:cI->Option R):Option R:=
 match deep with
 |true=>lU T rd ob n t m parts k
 |false=>fA T rd ob n t m parts k
theorem yl(deep:Bool)(T:aF P){rd:Operand->Option ag}(dg:∀x d,rd x=some d->af H F w d (ev ρ x)){t:TypeId}{m:Nat}{parts:Array (Nat×Operand)}{k:cI->Option R}{q:R}(h:p8 deep T rd ob n t m parts k=some q)(hs:ak U H F w ob n):
 ∃e,k e=some q/\bw P U H F w ρ ob n ⟨some d, .buildSlice t m parts,ty,pos,aft,Yw⟩ e:=by
 cases deep with
 |true=>exact yj T dg h hs
 |false=>exact qz T dg h hs
end
end
section
open Go Go.RowKit Go.MapKept
def D2:(K:Row)->K.den->K.den->Bool
 | .int _,a,b=>decide ((a:Int)<b)
 | .pair (.int _) (.int _),a,b=>decide ((a.1:Int)<b.1\/((a.1:Int)=b.1/\(a.2:Int)<b.2))
 |_,_,_=>Yy
def vR{α:Type}(K:Row):List (K.den×α)->K.den->α->List (K.den×α)
 |[],k,v=>[(k,v)]
 |p::l,k,v=>if D2 K k p.1=Yx then(k,v)::p::l else p::vR K l k v
noncomputable def mo{α:Type}(K:Row)(l:List (K.den×α))(k:K.den)(v:α):List (K.den×α):=vR K (l.filter λp=> !bN K p.1 k) k v
theorem lW{α:Type}{K:Row}(k:K.den)(v:α):(l:List (K.den×α))->(vR K l k v).Perm ((k,v)::l)
 |[]=> .refl _
 |p::l=>by
  unfold vR;split
  .exact .refl _
  .exact((lW k v l).cons p).trans (.swap ..)
theorem jG{K:Row}{a b:K.den}(h:bN K a b=Yx):a=b:=by
 unfold bN at h;split at h
 .exact YC h
 .exact YC h
 .exact YC h
 .exact Prod.ext (YC h).1 (YC h).2
 .cases h
theorem mR{K:Row}{a b:K.den}(h:bN K a b=Yy):bN K b a=Yy:=by
 cases hc:bN K b a with
 |false=>rfl
 |true=>
  obtain rfl:=jG hc;rw[hc]at h;cases h
def ue{α:Type}(K:Row)(l:List (K.den×α)):Prop:=l.Pairwise λp q=>bN K p.1 q.1=Yy
theorem ue.perm{α:Type}{K:Row}{l l':List (K.den×α)}(h:l'.Perm l)(hd:ue K l):ue K l':=(h.pairwise_iff λ{a b}=>mR).2 hd
theorem ym{α:Type}{K:Row}{x:K.den}{l l':List (K.den×α)}(h:l'.Perm l):ue K l'->aT K l' x=aT K l x:=by
 induction h with
 |nil=>intro _;rfl
 |cons p _ ih=>
  intro hd;unfold aT;rw[ih (Xe.1 hd).2]
 |swap p q l=>
  intro hd;have Ig:=(Xe.1 hd).1 p (by simp)
  show(if bN K q.1 x=Yx then some q.2 else if bN K p.1 x=Yx then some p.2 else aT K l x)=if bN K p.1 x=Yx then some p.2 else if bN K q.1 x=Yx then some q.2 else aT K l x
  by_cases h1:bN K q.1 x=Yx
  .by_cases h2:bN K p.1 x=Yx
   .have e1:=jG h1;have e2:=jG h2;rw[e1,e2]at Ig;rw[e1,Ig]at h1;cases h1
   .rw[YB h1,YA h2,YB h1]
  .rw[YA h1];by_cases h2:bN K p.1 x=Yx
   .rw[YB h2,YB h2]
   .rw[YA h2,YA h2,YA h1]
 |trans h1 h2 ih1 ih2=>intro hd;exact(ih1 hd).trans (ih2 (hd.perm h1.symm))
section
variable {P:Program} {ρ:Nat->Value} {w w':World} {H H':ai} {F F':Nat->Prop} {U:Nat->Prop} {ob:Nat->Option (Nat×Th)} {n:Nat} {R:Type}
variable {op:Op} {ty:TypeId} {pos:String} {aft:Array Edge} {d:Nat}
theorem nI{K:Row}{agg:Bool}{V:Row}:{es:List MapEntry}->{l:List (K.den×V.den)}->dA H F w K agg V es l->∀q∈l,∃e∈es,fH K q.1=some e.key/\au H F w agg (.leaf V q.2) e.val
 |[],l,h=>by obtain rfl:l=[]:=h;exact λq hq=>by cases hq
 |e::es,_,h=>by
  obtain⟨k,x,l',rfl,h1,h2,h3⟩:=h;intro q hq
  rcases WS.1 hq with rfl|hq
  .exact⟨e,by simp,h1,h2⟩
  .obtain⟨e',he',g⟩:=nI h3 q hq;exact⟨e',by simp[he'],g⟩
theorem jH{K:Row}{agg:Bool}{V:Row}:{es:List MapEntry}->{l:List (K.den×V.den)}->dA H F w K agg V es l->∀e∈es,∃q∈l,fH K q.1=some e.key/\au H F w agg (.leaf V q.2) e.val
 |[],_,_=>λe he=>by cases he
 |e::es,_,h=>by
  obtain⟨k,x,l',rfl,h1,h2,h3⟩:=h;intro e' he
  rcases WS.1 he with rfl|he
  .exact⟨(k,x),by simp,h1,h2⟩
  .obtain⟨q,hq,g⟩:=jH h3 e' he;exact⟨q,by simp[hq],g⟩
theorem lX{K:Row}{agg:Bool}{V:Row}:{es:List MapEntry}->{l:List (K.den×V.den)}->dA H F w K agg V es l->(es.map (·.key)).Nodup->ue K l
 |[],l,h,_=>by obtain rfl:l=[]:=h;exact .nil
 |e::es,_,h,hn=>by
  obtain⟨k,x,l',rfl,h1,h2,h3⟩:=h;obtain⟨n1,n2⟩:=List.nodup_cons.1 hn;refine Xe.2 ⟨λq hq=>?_,lX h3 n2⟩;obtain⟨e',he',g,_⟩:=nI h3 q hq
  cases hc:bN K k q.1 with
  |false=>rfl
  |true=>
   have:=(eR h1 g).1 hc;exact absurd (List.mem_map.2 ⟨e',he',this.symm⟩) n1
theorem sE{K:Row}{agg:Bool}{V:Row}{e:MapEntry}:{es:List MapEntry}->{l:List (K.den×V.den)}->dA H F w K agg V es l->(es.map (·.born)).Nodup->e∈es->
 ∃p l2,fH K p.1=some e.key/\au H F w agg (.leaf V p.2) e.val/\dA H F w K agg V (es.filter λx=> !(x.born==e.born)) l2/\l.Perm (p::l2)
 |[],_,_,_,he=>by cases he
 |e'::es,_,h,hn,he=>by
  obtain⟨k,x,l',rfl,h1,h2,h3⟩:=h;obtain⟨n1,n2⟩:=List.nodup_cons.1 hn;by_cases hb:e'.born=e.born
  .have bY:e∉es:=λh=>n1 (List.mem_map.2 ⟨e,h,hb.symm⟩)
   obtain rfl:e=e':=(WS.1 he).resolve_right bY;rw[List.filter_cons_of_neg (by simp)]
   have df:es.filter (λx=> !(x.born==e.born))=es:=Yi.2 λy hy=>by
    have:y.born≠e.born:=λg=>n1 (List.mem_map.2 ⟨y,hy,g⟩)
    simpa using this
   rw[df];exact⟨(k,x),l',h1,h2,h3, .refl _⟩
  .have he':e∈es:=(WS.1 he).resolve_left λg=>hb (by rw[g])
   obtain⟨p,l2,g1,g2,g3,g4⟩:=sE h3 n2 he';rw[List.filter_cons_of_pos (by simpa using hb)];exact⟨p,(k,x)::l2,g1,g2,⟨k,x,l2,rfl,h1,h2,g3⟩,(g4.cons _).trans (.swap ..)⟩
def On(P:Program)(t:TypeId):Prop:=∀(em:Bool)(a b:Value)(w:World),(Instr.checkKey em 10000 t (.agg #[a,b])).run P w= .ok () w
def BI(T:aF P)(kt:TypeId):Row->Bool
 | .pair (.int j) (.int k)=>match find T.eqs kt with
   |some r=>r.beq (.pair (.int j) (.int k))&&T.kys.any (WI kt)
   |none=>Yy
 |_=>Yy
structure I2(P:Program)(kt:TypeId)(K:Row):Prop where
 rP:∀em x v(w:World),fH K x=some v->(Instr.checkKey em 10000 kt v).run P w= .ok () w
 find:∀x v(w:World)(es:List MapEntry),fH K x=some v->(∀e∈es,∃k,fH K k=some e.key)->
  ((Instr.findKey kt v es).run P w= .ok Yw w/\∀e∈es,e.key≠v)\/∃j e,(Instr.findKey kt v es).run P w= .ok (some (j,e.val)) w/\es[j]? =some e/\e.key=v
 stays:∀x v(w:World),fH K x=some v->(Instr.keyThatStays v v).run P w= .ok v w
 M8:∀(F:Nat->Prop)(w:World)cs x,bD F w K cs x->fH K x=some (.agg cs.toArray)
theorem zY(T:aF P){kt:TypeId}{K:Row}(h:BI T kt K=Yx):I2 P kt K:=by
 unfold BI at h;split at h
 case h_2=>cases h
 rename_i j k;split at h
 case h_2=>cases h
 rename_i r he;obtain⟨h1,h2⟩:=bC h;obtain rfl:=Row.eq_of_beq h1;obtain⟨KK,dd,hE,hd,_,hD⟩:=T.eqs_ok _ _ he;have S5:On P kt:=T.kys_ok _ (any_beq.1 h2)
 have M8:∀(F:Nat->Prop)(w:World)cs(x:Int×Int),bD F w (.pair (.int j) (.int k)) cs x->cs=[.int j x.1, .int k x.2]:=by
  rintro F w cs x ⟨c1,c2,rfl,g1,g2⟩
  rw[show c1=_ from g1,show c2=_ from g2];rfl
 have mk:∀(x:Int×Int)(w:World),bD (λ_=>True) w (.pair (.int j) (.int k)) [.int j x.1, .int k x.2] x:=λx w=>⟨[_],[_],rfl,rfl,rfl⟩
 cases hu:P.underlying kt with
 |none=>rw[hu]at hD;cases hD
 |some D=>
  have hA:fm D=Yx:=by rw[hu]at hD;exact hD
  have o9:∀(x y:Int×Int)(w:World),(Op.equal kt (.agg #[.int j x.1, .int k x.2]) (.agg #[.int j y.1, .int k y.2])).run P w= .ok (decide (x=y)) w:=λx y w=>by
   have:=hE dd w w (λ_=>True) _ _ x y (.agg #[.int j x.1, .int k x.2]) (.agg #[.int j y.1, .int k y.2]) ⟨D,hu,by rw[YB hA]⟩ ⟨D,hu,by rw[YB hA]⟩ (mk x w) (mk y w);rw[hd]at this;unfold Op.equal;rw[show Op.maxDepth=10000 from rfl,this]
  have Lf:∀(x:Int×Int)(e:MapEntry)(es:List MapEntry)i,XG D (.agg #[.int j x.1, .int k x.2]) (e::es) i=Yw:=λx e es i=>by
   unfold XG Instr.sameNow
   cases D<;>first|rfl|cases hA
  have ask:∀(x:Int×Int)(w:World)(es:List MapEntry)(i:Nat),(∀e∈es,∃y:Int×Int,e.key= .agg #[.int j y.1, .int k y.2])->
   ((Yr kt (.agg #[.int j x.1, .int k x.2]) es i).run P w= .ok Yw w/\∀e∈es,e.key≠ .agg #[.int j x.1, .int k x.2])\/∃q e,(Yr kt (.agg #[.int j x.1, .int k x.2]) es i).run P w= .ok (some (i+q,e.val)) w/\es[q]? =some e/\e.key= .agg #[.int j x.1, .int k x.2]:=by
   intro x w es
   induction es with
   |nil=>intro i _;exact .inl ⟨rfl,λe he=>by cases he⟩
   |cons e es ih=>
    intro i Kr;obtain⟨y,hy⟩:=Kr e (by simp);by_cases mJ:x=y
    .subst mJ;refine .inr ⟨0,e,?_,rfl,hy⟩;unfold Yr;rw[hy];simp[o9,WT]
    .rcases ih (i+1) (λe' he'=>Kr e' (by simp[he']))with⟨g1,g2⟩|⟨q,e',g1,g2,g3⟩
     .refine .inl ⟨?_,λe' he'=>?_⟩
      .unfold Yr;rw[hy];simp[o9,mJ,g1,WT]
      .rcases WS.1 he' with rfl|he'
       .rw[hy];intro g;simp at g;exact mJ (Prod.ext g.1.symm g.2.symm)
       .exact g2 e' he'
     .refine .inr ⟨q+1,e',?_,by simpa using g2,g3⟩;unfold Yr;rw[hy];simp[o9,mJ,g1,WT,Nat.add_assoc,Nat.add_comm 1]
  refine⟨λem x v w hv=>?_,λx v w es hv Kr=>?_,λx v w hv=>?_,λF w cs x hr=>?_⟩
  .obtain rfl:=WD hv;exact S5 em _ _ w
  .obtain rfl:=WD hv
   have Oo:∀e∈es,∃y:Int×Int,e.key= .agg #[.int j y.1, .int k y.2]:=λe he=>by
    obtain⟨y,hy⟩:=Kr e he;exact⟨y,(WD hy).symm⟩
   unfold Instr.findKey
   cases es with
   |nil=>exact .inl ⟨by simp[run_underlying hu,XG,WT],λe he=>by cases he⟩
   |cons e es=>
    rcases ask x w (e::es) 0 Oo with⟨g1,g2⟩|⟨q,e',g1,g2,g3⟩
    .exact .inl ⟨by simp[run_underlying hu,Lf,g1,WT],g2⟩
    .exact .inr ⟨q,e',by simp[run_underlying hu,Lf,g1,WT],g2,g3⟩
  .obtain rfl:=WD hv;unfold Instr.keyThatStays;simp[Instr.sameBits]
  .rw[M8 F w cs x hr];rfl
structure Rn where
 o:Nat
 s:Nat
 T:TypeId
 K:Row
 agg:Bool
 V:Row
 l:List (K.den×V.den)
 it:Option (Nat×List (K.den×V.den)×Option (K.den×V.den))
def qL(ob:Nat->Option (Nat×Th)):ag->Option Rn
 | .val Yy (.own o)=>match ob o with
   |some (s, .smap T K agg V l it)=>some ⟨o,s,T,K,agg,V,l,it⟩
   |_=>Yw
 |_=>Yw
theorem oC(hs:ak U H F w ob n){D:ag}{m:Rn}{v:Value}(h:qL ob D=some m)(hd:af H F w D v):ob m.o=some (m.s, .smap m.T m.K m.agg m.V m.l m.it)/\H.val m.o=some v/\eC H F w (H.sub m.s) v (.smap m.T m.K m.agg m.V m.l m.it):=by
 unfold qL at h;split at h
 .rename_i o;split at h
  .rename_i s T K agg V l it bH;obtain rfl:=WD h;obtain⟨cs,⟨u,hu,_,e⟩,_,h3⟩:=hd;rw[h3 rfl]at e
   obtain rfl:v=u:=by simpa using e
   obtain⟨v',cM,bF⟩:=hs.obj _ _ _ bH;rw[hu]at cM;obtain rfl:=WD cM;exact⟨bH,hu,bF.ok⟩
  .cases h
 .cases h
noncomputable def uf(ob:Nat->Option (Nat×Th))(K:Row):ag->Option K.den
 | .val Yx t=>flat ob K t
 |_=>Yw
theorem sF(hs:ak U H F w ob n){kt:TypeId}{K:Row}{D:ag}{x:K.den}{v:Value}(hK:I2 P kt K)(h:uf ob K D=some x)(hd:af H F w D v):fH K x=some v:=by
 unfold uf at h;split at h
 .obtain⟨cs,h1,h2,_⟩:=hd;rw[h2];exact hK.M8 F w cs x (dS hs h h1)
 .cases h
def iu(_:Bool)(T:aF P)(n:Nat)(t:TypeId)(k:cI->Option R):Option R:=
 match find T.und t with
 |some (.map kt vt)=>match find T.row kt with
  |some K=>bif BI T kt K then(match find T.row vt with
   |some V=>match find T.und vt with
    |some kk=>k {dst:= .val Yy (.own n),make:=[(n,(n, .smap t K (fJ kk) V [] Yw))]}
    |none=>Yw
   |none=>Yw)else jE T n t k
  |none=>Yw
 |_=>Yw
theorem ug(b:Bool)(T:aF P){t:TypeId}{k:cI->Option R}{q:R}(h:iu b T n t k=some q)(hs:ak U H F w ob n):
 ∃e,k e=some q/\bw P U H F w ρ ob n ⟨some d, .makeMap t Yw,ty,pos,aft,Yw⟩ e:=by
 unfold iu at h;split at h
 case h_2=>cases h
 split at h
 case h_2=>cases h
 rename_i K _
 cases hc:BI T _ K with
 |false=>rw[hc,cond_false]at h;exact vI T h hs
 |true=>
  rw[hc,cond_true]at h;split at h
  case h_2=>cases h
  rename_i V _;split at h
  case h_2=>cases h
  rename_i kk _
  have aV:(execOp (ev ρ) ⟨some d, .makeMap t Yw,ty,pos,aft,Yw⟩).run P w= .ok (.value (.map (some w.heap.size))) (w.alloc (.map #[] 0)):=by
   simp[execOp,Instr.makeMap,WT]
  refine⟨_,h,bj.val aV ?_⟩
  have hv:(((H.cT n (is w.heap.size)).aK n (.smap t K (fJ kk) V [] Yw)).bI n (.map (some w.heap.size))).val n=some (.map (some w.heap.size)):=by simp[ai.bI]
  refine gS.GP (v0:= .map (some w.heap.size)) (S:=is w.heap.size) hs rfl rfl (jB _) ⟨_, #[],0,[],rfl,rfl,(heap_alloc w _).1,stamped_empty 0,rfl, .refl _,trivial⟩ (λk hk=>?_) (iZ hv rfl);have hk:k=w.heap.size:=hk;subst hk;exact⟨λe=>by have:=hs.lt _ e;omega,by simp, .inl (WH _)⟩
theorem nJ{IY kt et:TypeId}{K:Row}{b clock:Nat}{es:Array MapEntry}{x:K.den}{key val:Value}(hm:P.underlying IY=some (.map kt et))(hK:I2 P kt K)(hx:fH K x=some key)(hb:w.heap[b]? =some (.map es clock))(Kr:∀e∈es.toList,∃k,fH K k=some e.key):
 ((XY IY (.map (some b)) key val).run P w= .ok () {w with heap:=w.heap.setIfInBounds b (.map (es.push {key,val,born:=clock}) (clock+1))}/\∀e∈es.toList,e.key≠key)\/
 ∃j e,es.toList[j]? =some e/\e.key=key/\(XY IY (.map (some b)) key val).run P w= .ok () {w with heap:=w.heap.setIfInBounds b (.map (es.modify j λe=>{e with key,val}) clock)}:=by
 rcases hK.find x key w es.toList hx Kr with⟨h1,h2⟩|⟨j,e,h1,h2,h3⟩
 .exact .inl ⟨by simp[XY,run_underlying hm,Xy hb,hK.rP _ _ _ _ hx,h1,X4 _ hb,WT],h2⟩
 .refine .inr ⟨j,e,h2,h3,?_⟩
  have hj:es[j]? =some e:=by simpa using h2
  simp[XY,run_underlying hm,Xy hb,hK.rP _ _ _ _ hx,h1,hj,h3,hK.stays _ _ _ hx,X4 _ hb,WT]
theorem sG{K:Row}{agg:Bool}{V:Row}{e:MapEntry}{x:K.den}{y:V.den}(hk:fH K x=some e.key)(hv:au H F w agg (.leaf V y) e.val):{es:List MapEntry}->{l:List (K.den×V.den)}->dA H F w K agg V es l->dA H F w K agg V (es++[e]) (l++[(x,y)])
 |[],l,h=>by obtain rfl:l=[]:=h;exact⟨x,y,[],rfl,hk,hv,rfl⟩
 |e'::es,_,h=>by
  obtain⟨k,z,l',rfl,h1,h2,h3⟩:=h;exact⟨k,z,_,rfl,h1,h2,sG hk hv h3⟩
theorem pc{K:Row}{agg:Bool}{V:Row}{x:K.den}{y:V.den}{key:Value}{f:MapEntry->MapEntry}(hx:fH K x=some key)(hf:∀e:MapEntry,(f e).key=key)(hv:∀e,au H F w agg (.leaf V y) (f e).val):{es:List MapEntry}->{l:List (K.den×V.den)}->{j:Nat}->{e:MapEntry}->
 dA H F w K agg V es l->ue K l->es[j]? =some e->e.key=key->∃l2,dA H F w K agg V (es.modify j f) l2/\l2.Perm ((x,y)::l.filter λp=> !bN K p.1 x)
 |[],_,_,_,_,_,hj,_=>by simp at hj
 |e'::es,_,0,e,h,hd,hj,I3=>by
  obtain⟨k,z,l',rfl,h1,h2,h3⟩:=h;obtain⟨d1,d2⟩:=Xe.1 hd
  obtain rfl:e'=e:=by simpa using hj
  have Np:bN K k x=Yx:=(eR h1 hx).2 I3;obtain rfl:=jG Np;refine⟨(k,y)::l',⟨k,y,l',rfl,by rw[hf];exact hx,hv _,h3⟩,?_⟩
  have e:((k,z)::l').filter (λq=> !bN K q.1 k)=l':=by
   rw[List.filter_cons_of_neg (by simp[Np])]
   exact Yi.2 λq o8=>by rw[mR (d1 q o8)];rfl
  rw[e]
 |e'::es,_,j+1,e,h,hd,hj,I3=>by
  obtain⟨k,z,l',rfl,h1,h2,h3⟩:=h;obtain⟨d1,d2⟩:=Xe.1 hd
  have Gh:es[j]? =some e:=by simpa using hj
  obtain⟨l2,g1,g2⟩:=pc hx hf hv h3 d2 Gh I3;obtain⟨q,hq,I4,_⟩:=jH h3 e (List.mem_of_getElem? Gh);have S6:bN K q.1 x=Yx:=(eR I4 hx).2 I3;obtain rfl:=jG S6;have bY:bN K k q.1=Yy:=d1 q hq;refine⟨(k,z)::l2,⟨k,z,l2,rfl,h1,h2,g1⟩,?_⟩;rw[List.filter_cons_of_pos (by rw[bY];rfl)];exact(g2.cons _).trans (.swap ..)
noncomputable def fB(T:aF P)(ob:Nat->Option (Nat×Th))(n:Nat)(t:TypeId)(M X Y:ag)(k:cI->Option R):Option R:=
 match qL ob M with
 |some m=>match find T.und t with
  |some (.map kt _)=>bif BI T kt m.K then(match uf ob m.K X with
   |some x=>match Y with
    | .val cV tr=>bif (bif m.agg then cV else !cV)then(match flat ob m.V tr with
      |some y=>k {dst:= .dead,eat:=[m.o],make:=[(m.o,(n, .smap m.T m.K m.agg m.V (mo m.K m.l x y) Yw))]}
      |none=>Yw)else Yw
    |_=>Yw
   |none=>Yw)else Yw
  |_=>Yw
 |none=>gh T ob n t M X Y k
theorem qM(T:aF P){t:TypeId}{M X Y:ag}{m x y:Operand}{k:cI->Option R}{q:R}(h:fB T ob n t M X Y k=some q)(hs:ak U H F w ob n)(hm:af H F w M (ev ρ m))(hx:af H F w X (ev ρ x))(hy:af H F w Y (ev ρ y)):
 ∃e,k e=some q/\bw P U H F w ρ ob n ⟨Yw, .mapUpdate t m x y,ty,pos,aft,Yw⟩ e:=by
 unfold fB at h;split at h
 case h_2=>exact rO T h hs hm hx hy
 rename_i r nF;obtain⟨bH,hv,iP⟩:=oC hs nF hm;obtain⟨o,s,T0,K,agg,V,l,it⟩:=r;dsimp only at h bH hv iP;split at h
 case h_2=>cases h
 rename_i kt vt hu;obtain⟨hc,h'⟩:=ax h;clear h;split at h'
 case h_2=>cases h'
 rename_i a ha;split at h'
 case h_2=>cases h'
 rename_i cV tr;obtain⟨mN,h⟩:=ax h';clear h'
 have mN:agg=cV:=by cases agg<;>cases cV<;>simp_all
 subst mN;split at h
 case h_2=>cases h
 rename_i z hz;refine⟨_,h,?_⟩;have hK:=zY T hc;have jF:=sF hs hK ha hx
 have kY:au H F w agg (.leaf V z) (ev ρ y):=by
  obtain⟨cs,h1,h2⟩:=hy;exact⟨cs,dS hs hz h1,h2⟩
 obtain⟨b,es,clock,l',jm,I5,hh,dz,ox,Bp,_⟩:=iP;have sH:=lX ox dz.2.2
 have dZ:bn H ob [o] b:=⟨o,by simp,s,_,_,bH,hv,I5⟩
 have hf:=hs.fresh n (WH _) (by omega)
 have fin:∀o',(XY t (.map (some b)) (ev ρ x) (ev ρ y)).run P w= .ok () {w with heap:=w.heap.setIfInBounds b o'}->
  (∀(H':ai)(w':World),H.le H'->Step F w F w'->∃gB jn l2,o'= .map gB jn/\Stamped gB jn/\dA H' F w' K agg V gB.toList l2/\l2.Perm (mo K l a z))->
  bw P U H F w ρ ob n ⟨Yw, .mapUpdate t m x y,ty,pos,aft,Yw⟩ {dst:= .dead,eat:=[o],make:=[(o,(n, .smap T0 K agg V (mo K l a z) Yw))]}:=by
  intro o' aV DV;refine bj.unit (w':={w with heap:=w.heap.setIfInBounds b o'}) ?_ ?_
  .simp[execOp,jm,aV,WT]
  .have gj:∀k,k≠b->(w.heap.setIfInBounds b o')[k]? =w.heap[k]? :=(heap_set hh).2
   have cF:Step F w F {w with heap:=w.heap.setIfInBounds b o'}:=λc hc=>⟨hc,gj c λe=>by subst e;exact hs.db _ dZ hc⟩
   obtain⟨gB,jn,l2,rfl,g1,g2,g3⟩:=DV ((H.cT n (is b)).aK n (.smap T0 K agg V (mo K l a z) Yw)) _ (ai.lR hf.2) cF;refine gS.tV (t':= .smap T0 K agg V (mo K l a z) Yw) hs bH hv rfl (by simp) (is b) (λk hk=>?_) ⟨rfl,⟨rfl,WH _⟩,rfl,by simp,λk hk hn=>gj k λe=>hn (by subst e;exact dZ)⟩ ⟨b,gB,jn,l2,jm,rfl,(heap_set hh).1,g1,g2,g3,trivial⟩ trivial;have hk:k=b:=hk;subst hk;exact dZ
 have Gg:(l'.filter λp=> !bN K p.1 a).Perm (l.filter λp=> !bN K p.1 a):=Bp.filter _;have mL:((a,z)::l'.filter λp=> !bN K p.1 a).Perm (mo K l a z):=(Gg.cons _).trans (lW a z _).symm
 rcases nJ (val:=ev ρ y) (T.und_ok _ _ hu) hK jF hh (λe he=>by obtain⟨q,_,g,_⟩:=jH ox e he;exact⟨_,g⟩)with⟨aV,xz⟩|⟨j,e,hj,I3,aV⟩
 .refine fin _ aV λH' w' hH cF=>⟨_,_,l'++[(a,z)],rfl,stamped_push dz xz,?_,?_⟩
  .rw[Array.toList_push];exact sG jF (kY.keep hH cF) (ox.keep hH cF)
  .have e:l'.filter (λp=> !bN K p.1 a)=l':=Yi.2 λq hq=>by
    obtain⟨e,he,I4,_⟩:=nI ox q hq
    cases hc:bN K q.1 a with
    |false=>rfl
    |true=>exact absurd ((eR I4 jF).1 hc) (xz e he)
   rw[e]at mL;exact(List.perm_append_comm (l₁:=l') (l₂:=[(a,z)])).trans mL
 .refine fin _ aV λH' w' hH cF=>?_
  obtain⟨l2,g1,g2⟩:=pc (f:=λe=>{e with key:=ev ρ x,val:=ev ρ y}) jF (λ_=>rfl) (λ_=>kY.keep hH cF) (ox.keep hH cF) sH hj I3;refine⟨_,_,l2,rfl,stamped_modify dz _ _ (λ_ _=>rfl) (λe' _ he'=>?_),by rw[Array.toList_modify];exact g1,g2.trans mL⟩
  have Gh:es[j]? =some e:=by simpa using hj
  rw[Gh]at he';cases he';exact I3.symm
theorem zZ{K:Row}{α:Type}{x:K.den}:{l:List (K.den×α)}->ue K l->∀q∈l,bN K q.1 x=Yx->aT K l x=some q.2
 |p::l,hd,q,hq,hx=>by
  obtain⟨d1,d2⟩:=Xe.1 hd;unfold aT
  rcases WS.1 hq with rfl|hq
  .rw[YB hx]
  .have:¬bN K p.1 x=Yx:=λg=>by
    have:=jG hx;rw[<-this,d1 q hq]at g;cases g
   rw[YA this];exact zZ d2 q hq hx
theorem vS{K:Row}{α:Type}{x:K.den}:{l:List (K.den×α)}->(∀q∈l,bN K q.1 x=Yy)->aT K l x=Yw
 |[],_=>rfl
 |p::l,h=>by
  unfold aT;rw[YA (by rw[h p (by simp)];simp)]
  exact vS λq hq=>h q (by simp[hq])
noncomputable def jI(T:aF P)(ob:Nat->Option (Nat×Th))(_n:Nat)(t:TypeId)(ok:Bool)(M X:ag)(k:cI->Option R):Option R:=
 match qL ob M with
 |some m=>match find T.und t with
  |some (.map kt vt)=>match find T.zer vt with
   |some (cV,V')=>bif BI T kt m.K&&(bif m.agg then cV else !cV)&&V'.beq m.V&&(m.agg||WI m.V.size 1)then(match uf ob m.K X with
    |some x=>bif ok then k {dst:= .tup [(m.agg, .leaf m.V ((aT m.K m.l x).getD m.V.zero)),(Yy, .leaf .bool (aT m.K m.l x).isSome)]}
     else k {dst:= .val m.agg (.leaf m.V ((aT m.K m.l x).getD m.V.zero))}
    |none=>Yw)else Yw
   |none=>Yw
  |_=>Yw
 |none=>lP T ob t ok M X k
theorem vT(T:aF P){t:TypeId}{ok:Bool}{M X:ag}{m x:Operand}{k:cI->Option R}{q:R}(h:jI T ob n t ok M X k=some q)(hs:ak U H F w ob n)(hm:af H F w M (ev ρ m))(hx:af H F w X (ev ρ x)):
 ∃e,k e=some q/\bw P U H F w ρ ob n ⟨some d, .lookup t m x ok,ty,pos,aft,Yw⟩ e:=by
 unfold jI at h;split at h
 case h_2=>exact yc T h hs hm hx
 rename_i r nF;obtain⟨bH,hv,iP⟩:=oC hs nF hm;obtain⟨o,s,T0,K,agg,V,l,it⟩:=r;dsimp only at h bH hv iP;split at h
 case h_2=>cases h
 rename_i kt vt hu;split at h
 case h_2=>cases h
 rename_i cV V' hz;obtain⟨hc,h'⟩:=ax h;clear h;obtain⟨hc,Ih⟩:=bC hc;obtain⟨hc,GM⟩:=bC hc;obtain⟨rL,vo⟩:=bC hc
 have mN:agg=cV:=by cases agg<;>cases cV<;>simp_all
 subst mN;obtain rfl:=Row.eq_of_beq GM;split at h'
 case h_2=>cases h'
 rename_i a ha;have hK:=zY T rL;have jF:=sF hs hK ha hx;obtain⟨b,es,clock,l',jm,I5,hh,dz,ox,Bp,_⟩:=iP;have sH:=lX ox dz.2.2;have Oq:aT K l a=aT K l' a:=(ym Bp sH).symm
 have ir:agg=Yy->V'.size=1:=λe=>by subst e;exact beq_true (by simpa using Ih)
 obtain⟨z,xB,xA⟩:=vK (w:=w) (H:=H) (F:=F) (T.zer_ok _ _ _ hz) ir;have zW:=T.und_ok _ _ hu
 have main:∃v,(Yq t (ev ρ m) (ev ρ x) ok).run P w= .ok (if ok then .tuple #[v, .bool (aT K l a).isSome]else v) w/\au H F w agg (.leaf V' ((aT K l a).getD V'.zero)) v:=by
  rw[Oq]
  rcases hK.find a _ w es.toList jF (λe he=>by obtain⟨q,_,g,_⟩:=jH ox e he;exact⟨_,g⟩)with⟨h1,h2⟩|⟨j,e,h1,h2,h3⟩
  .have hn:aT K l' a=Yw:=vS λq hq=>by
    obtain⟨e,he,I4,_⟩:=nI ox q hq
    cases hc:bN K q.1 a with
    |false=>rfl
    |true=>exact absurd ((eR I4 jF).1 hc) (h2 e he)
   refine⟨z,?_,by rw[hn];exact xA⟩;rw[jm,hn];simp[Yq,run_underlying zW,Xy hh,hK.rP _ _ _ _ jF,h1,xB,WT]
  .obtain⟨q,hq,I4,S7⟩:=jH ox e (List.mem_of_getElem? h2);have hl:=zZ sH q hq ((eR I4 jF).2 h3);refine⟨e.val,?_,by rw[hl];exact S7⟩;rw[jm,hl];simp[Yq,run_underlying zW,Xy hh,hK.rP _ _ _ _ jF,h1,WT]
 obtain⟨v,aV,iP⟩:=main
 cases ok with
 |true=>
  refine⟨_,h',aS hs (v:= .tuple #[v, .bool (aT K l a).isSome]) (by simp[execOp,aV,WT]) ⟨[v, .bool (aT K l a).isSome],rfl,_,_,rfl,iP,_,_,rfl,au.dv ..,rfl⟩⟩
 |false=>exact⟨_,h',aS hs (v:=v) (by simp[execOp,aV,WT]) iP⟩
def oD(T:aF P)(ob:Nat->Option (Nat×Th))(n:Nat)(t:TypeId)(M:ag)(k:cI->Option R):Option R:=
 match qL ob M with
 |some m=>match find T.und t with
  |some (.map _ _)=>k {dst:= .ptr (n+1) [] 0,eat:=[m.o],make:=[(m.o,(n, .smap m.T m.K m.agg m.V m.l (some (n+1,m.l,Yw))))]}
  |_=>Yw
 |none=>Yw
theorem yn(es:Array MapEntry):leftOf es #[]=es:=by
 unfold leftOf
 exact Array.filter_eq_self.2 λe _=>by simp
theorem BJ(T:aF P){t:TypeId}{M:ag}{m:Operand}{k:cI->Option R}{q:R}(h:oD T ob n t M k=some q)(hs:ak U H F w ob n)(hm:af H F w M (ev ρ m)):
 ∃e,k e=some q/\bw P U H F w ρ ob n ⟨some d, .range t m,ty,pos,aft,Yw⟩ e:=by
 unfold oD at h;split at h
 case h_2=>cases h
 rename_i r nF;obtain⟨bH,hv,iP⟩:=oC hs nF hm;obtain⟨o,s,T0,K,agg,V,l,it⟩:=r;dsimp only at h bH hv iP;split at h
 case h_2=>cases h
 rename_i kt vt hu;obtain⟨b,es,clock,l',jm,I5,hh,dz,ox,Bp,_⟩:=iP;have Lg:b<w.heap.size:=(Xj.1 hh).1
 have dZ:bn H ob [o] b:=⟨o,by simp,s,_,_,bH,hv,I5⟩
 obtain⟨v1,p3,bF⟩:=hs.obj _ _ _ bH;rw[hv]at p3;obtain rfl:=WD p3
 have aV:(execOp (ev ρ) ⟨some d, .range t m,ty,pos,aft,Yw⟩).run P w= .ok (.value (.pointer (some ⟨w.heap.size,0,Yw⟩))) (w.alloc (.mapIter (some b) clock #[] clock)):=by
  simp[execOp,jm,run_range_map w t kt vt b es clock (T.und_ok _ _ hu) hh,WT]
 refine⟨_,h,bj.val aV ?_⟩;have hf:=hs.fresh n (WH _) (by omega);have Ot:=hs.fresh (n+1) (by omega) (by omega)
 let S':Nat->Prop:=λk=>k=b\/k=w.heap.size
 let t':Th:= .smap T0 K agg V l (some (n+1,l,Yw))
 let H1:ai:=((H.cT n S').aK n t').bI (n+1) (.pointer (some ⟨w.heap.size,0,Yw⟩))
 have hle:H.le H1:=(ai.lR hf.2).trans (ai.lL (by simpa[ai.aK,ai.cT]using Ot.1))
 have Ro:H1.val (n+1)=some (.pointer (some ⟨w.heap.size,0,Yw⟩)):=by simp[H1,ai.bI]
 have dN:H1.sub n=S':=by simp[H1,ai.bI,ai.aK,ai.cT]
 have Ou:H1.con n=some t':=by simp[H1,ai.bI,ai.aK,ai.cT]
 have cF:Step F w F (w.alloc (.mapIter (some b) clock #[] clock)):=λc hc=>⟨hc,by rw[heap_alloc_old _ _ (hs.lt c hc)]⟩
 refine⟨H1,F,⟨hle,jB _,λ_ h=>h,λ_ h=> .inl h,λc hc=>by have:=hs.lt c hc;simp;omega⟩,λm hm=>?_,⟨_,Ro,rfl⟩,⟨λo' s' q hq=>?_,λo1 o2 s1 s2 q1 q2 u1 u2 bY h1 h2=>?_⟩,λo' h=>?_⟩
 .have a1:m≠n:=by omega
  have a2:m≠n+1:=by omega
  simp[H1,ai.bI,ai.aK,ai.cT,a1,a2]
 .obtain⟨rfl,e⟩:=bf hq;obtain⟨rfl,rfl⟩:=X9 e;refine⟨_,hle.val _ _ hv,bF.one,Ou,?_,λk hk=>?_⟩
  .rw[dN];refine⟨b,es,clock,l',jm, .inl rfl,by rw[heap_alloc_old _ _ Lg];exact hh,dz,ox.keep hle cF,Bp,w.heap.size,clock, #[],clock, .inr rfl,λe=>by omega,Ro,heap_alloc_new w _,dz.1,WH _,WH _,⟨l',?_,Bp⟩,λp hp=>by cases hp⟩;rw[yn];exact ox.keep hle cF
  .rw[dN]at hk;have hk:k=b\/k=w.heap.size:=hk
   rcases hk with rfl|rfl
   .exact⟨hs.db _ dZ,by simp;omega, .inr dZ⟩
   .exact⟨λe=>by have:=hs.lt _ e;omega,by simp, .inl (WH _)⟩
 .exact absurd ((bf h1).1.trans (bf h2).1.symm) bY
 .left
  obtain⟨y,hy⟩:=Xo.1 h;rw[(bf hy).1];simp
open Classical in
noncomputable def GQ{α β:Type}(p:α->Prop)(k:α->Option β):Option β:=if h:∃r,(∃x,p x)/\∀x,p x->k x=some r then some h.choose else Yw
theorem D3{α β:Type}{p:α->Prop}{k:α->Option β}{q:β}(h:GQ p k=some q):∀x,p x->k x=some q:=by
 unfold GQ at h;split at h
 .rename_i hd;obtain rfl:=WD h;exact hd.choose_spec.2
 .cases h
theorem I6{α β:Type}{p:α->Prop}{k:α->Option β}{q:β}(h0:∃x,p x)(h:∀x,p x->k x=some q):GQ p k=some q:=by
 have hd:∃r,(∃x,p x)/\∀x,p x->k x=some r:=⟨q,h0,h⟩
 unfold GQ;rw[dif_pos hd];obtain⟨x,hx⟩:=h0;have:=hd.choose_spec.2 x hx;rw[h x hx]at this;rw[WD this]
def uh(nn:Nat):List (Nat×(Nat×Th))->Option Nat
 |[]=>Yw
 |(o,(_, .smap _ _ _ _ _ (some (n',_,_))))::l=>bif WI n' nn then some o else uh nn l
 |_::l=>uh nn l
def z6:Row->Bool
 | .pair (.int _) (.int _)=>Yx
 |_=>Yy
noncomputable def iD{α:Type}(K:Row)(l:List (K.den×α))(k:K.den):List (K.den×α):=l.filter λq=> !bN K q.1 k
noncomputable def D4(objs:List (Nat×(Nat×Th)))(n:Nat)(X:ag)(k:cI->Option R):Option R:=
 match X with
 | .ptr nn [] 0=>match uh nn objs with
   |some o=>match find objs o with
    |some (_, .smap T K agg V l (some (n',left,_)))=>bif WI n' nn&&z6 K then
      (if left.isEmpty=Yx then k {dst:= .tup [(Yy, .leaf .bool Yy)]}
      else GQ (λp=>p∈left) λp=>k {dst:= .tup [(Yy, .leaf .bool Yx),(Yx, .leaf K p.1),(agg, .leaf V p.2)],eat:=[o],make:=[(o,(n, .smap T K agg V l (some (nn,iD K left p.1,some p))))]})else Yw
    |_=>Yw
   |none=>Yw
 |_=>Yw
theorem vU{K:Row}{x:K.den}{v:Value}(hK:z6 K=Yx)(h:fH K x=some v):au H F w Yx (.leaf K x) v:=by
 unfold z6 at hK;split at hK
 .obtain rfl:=WD h;exact⟨[_,_],⟨[_],[_],rfl,rfl,rfl⟩,rfl,λe=>by cases e⟩
 .cases hK
theorem vV(es:Array MapEntry)(seen:Array Nat)(b:Nat):(leftOf es (seen.push b)).toList=(leftOf es seen).toList.filter λx=> !(x.born==b):=by
 unfold leftOf;rw[Yj,Yj,List.filter_filter]
 congr 1
 funext x;rw[Array.contains_push]
 cases seen.contains x.born<;>cases x.born==b<;>simp_all
theorem D5{objs:List (Nat×(Nat×Th))}{X:ag}{x:Operand}{k:cI->Option R}{q:R}(h:D4 objs n X k=some q)(hs:ak U H F w (find objs) n)(hx:af H F w X (ev ρ x)):
 ∃e,k e=some q/\bw P U H F w ρ (find objs) n ⟨some d, .next x Yy,ty,pos,aft,Yw⟩ e:=by
 unfold D4 at h;split at h
 case h_2=>cases h
 rename_i nn;split at h
 case h_2=>cases h
 rename_i o _;split at h
 case h_2=>cases h
 rename_i s T K agg V l n' left cur bH;obtain⟨hc,h'⟩:=ax h;clear h;obtain⟨rL,hK⟩:=bC hc;obtain rfl:=beq_true rL;obtain⟨v,hv,bF⟩:=hs.obj _ _ _ bH;obtain⟨b,es,clock,l',jm,I5,hh,dz,ox,Bp,r,since,seen,last,Lh,Ov,Nq,hr,hold,eA,Rp,⟨l2,Nr,Gf⟩,_⟩:=bF.ok;obtain⟨b0,vj,xy⟩:=hx;rw[Nq]at vj;cases vj;have Od:r<w.heap.size:=(Xj.1 hr).1
 rcases run_next_at (P:=P) w ty r b since last seen es clock hr hh hold eA with⟨h0,aV⟩|⟨e,he,w1,Ns,aV⟩
 .have hle:l2=[]:=by
   have:(leftOf es seen).toList=[]:=by rw[Array.toList_eq_nil_iff];exact Array.eq_empty_of_size_eq_zero h0
   rw[this]at Nr;exact Nr
  subst hle;obtain rfl:left=[]:=Gf.nil_eq.symm;rw[YB (show([]:List (K.den×V.den)).isEmpty=Yx from rfl)]at h';exact⟨_,h',aS hs (v:= .tuple #[.bool Yy]) (by simp[execOp,xy,aV,WT]) ⟨[.bool Yy],rfl,_,_,rfl,au.dv ..,rfl⟩⟩
 .have Li:((leftOf es seen).toList.map (·.born)).Nodup:=by
   unfold leftOf;rw[Yj];exact(dz.2.1.sublist ((List.filter_sublist).map _))
  have Lj:((leftOf es seen).toList.map (·.key)).Nodup:=by
   unfold leftOf;rw[Yj];exact(dz.2.2.sublist ((List.filter_sublist).map _))
  obtain⟨p,l3,g1,g2,g3,g4⟩:=sE Nr Li he;have kP:p∈left:=Gf.mem_iff.1 (g4.mem_iff.2 (by simp))
  have bY:¬left.isEmpty=Yx:=by
   cases left with
   |nil=>cases kP
   |cons _ _=>simp
  rw[YA bY]at h';refine⟨_,D3 h' p kP,?_⟩
  have Ow:e∈es.toList:=by
   have:e∈(leftOf es seen).toList:=he;unfold leftOf at this;rw[Yj]at this;exact(Xi.1 this).1
  have GR:w1.heap=w.heap:=by rcases Ns with rfl|rfl<;>rfl
  have gj:∀k,k≠r->(X6 w1 r (.mapIter (some b) since (seen.push e.born) clock)).heap[k]? =w.heap[k]? :=λk hk=>by
   rw[<-GR];exact(heap_set (w:=w1) (by rw[GR];exact hr)).2 k hk
  have Lk:(X6 w1 r (.mapIter (some b) since (seen.push e.born) clock)).heap[r]? =some (.mapIter (some b) since (seen.push e.born) clock):=(heap_set (w:=w1) (by rw[GR];exact hr)).1
  have dZ:∀k,H.sub s k->bn H (find objs) [o] k:=λk hk=>⟨o,by simp,s,_,_,bH,hv,hk⟩
  have hf:=hs.fresh n (WH _) (by omega)
  let t':Th:= .smap T K agg V l (some (n',iD K left p.1,some p))
  let S':Nat->Prop:=λk=>k=b\/k=r
  have hle:H.le ((H.cT n S').aK n t'):=ai.lR hf.2
  have cF:Step F w F (X6 w1 r (.mapIter (some b) since (seen.push e.born) clock)):=λc hc=>⟨hc,gj c λg=>by subst g;exact hs.db _ (dZ _ Lh) hc⟩
  refine bj.val (v:= .tuple #[.bool Yx,e.key,e.val]) (w':=X6 w1 r (.mapIter (some b) since (seen.push e.born) clock)) (by simp[execOp,xy,aV,WT]) ?_
  have aU:Ext (bn H (find objs) [o]) w (X6 w1 r (.mapIter (some b) since (seen.push e.born) clock)):=by
   rcases Ns with rfl|rfl
   .exact⟨rfl,⟨rfl,WH _⟩,rfl,by simp[X6],λk hk hn=>gj k λg=>hn (by subst g;exact dZ _ Lh)⟩
   .exact⟨rfl,⟨rfl,Nat.le_succ _⟩,rfl,by simp[X6,GR],λk hk hn=>gj k λg=>hn (by subst g;exact dZ _ Lh)⟩
  have sH:ue K left:=(lX Nr Lj).perm Gf.symm;refine gS.tV (t':=t') hs bH hv rfl (by simp) S' (λk hk=>?_) aU ?_ ?_
  .have hk:k=b\/k=r:=hk
   rcases hk with rfl|rfl
   .exact dZ _ I5
   .exact dZ _ Lh
  .refine⟨b,es,clock,l',jm, .inl rfl,(gj b Ov.symm).trans hh,dz,ox.keep hle cF,Bp,r,since,seen.push e.born,clock, .inr rfl,Ov,hle.val _ _ Nq,Lk,hold,Rp,Rp,⟨l3,?_,?_⟩,λp' xD=>?_⟩
   .rw[vV];exact g3.keep hle cF
   .have Gg:left.Perm (p::l3):=Gf.symm.trans g4;have S8:ue K (p::l3):=sH.perm Gg.symm;refine List.Perm.trans ?_ (Gg.filter _).symm
    rw[List.filter_cons_of_neg (by
     have:bN K p.1 p.1=Yx:=(eR g1 g1).2 rfl
     simp[this])]
    rw[Yi.2 λq hq=>by rw[mR ((Xe.1 S8).1 q hq)];rfl]
   .obtain rfl:=WD xD;exact⟨rfl,e,Ow,⟨seen,rfl⟩,g1,g2.keep hle cF⟩
  .exact⟨[.bool Yx,e.key,e.val],rfl,_,_,rfl,au.dv ..,_,_,rfl,vU hK g1,_,_,rfl,g2.keep hle cF,rfl⟩
def yo(objs:List (Nat×(Nat×Th)))(X:ag):Option ag:=
 match X with
 | .ptr nn [] 0=>match uh nn objs with
   |some o=>match find objs o with
    |some (_, .smap _ K agg V _ (some (n',_,some p)))=>bif WI n' nn&&z6 K then some (.tup [(Yx, .leaf K p.1),(agg, .leaf V p.2)])else Yw
    |_=>Yw
   |none=>Yw
 |_=>Yw
theorem BK{objs:List (Nat×(Nat×Th))}{X D:ag}{x:Operand}(h:yo objs X=some D)(hs:ak U H F w (find objs) n)(hx:af H F w X (ev ρ x)):
 bw P U H F w ρ (find objs) n ⟨some d, .entry x,ty,pos,aft,Yw⟩ {dst:=D}:=by
 unfold yo at h;split at h
 case h_2=>cases h
 rename_i nn;split at h
 case h_2=>cases h
 rename_i o _;split at h
 case h_2=>cases h
 rename_i s T K agg V l n' left p bH;obtain⟨hc,h'⟩:=ax h;obtain⟨rL,hK⟩:=bC hc;obtain rfl:=beq_true rL;obtain rfl:=WD h';obtain⟨v,hv,bF⟩:=hs.obj _ _ _ bH;obtain⟨b,es,clock,l',jm,I5,hh,dz,ox,Bp,r,since,seen,last,Lh,Ov,Nq,hr,hold,eA,_,_,Ox⟩:=bF.ok;obtain⟨rfl,e,he,⟨s0,rfl⟩,g1,g2⟩:=Ox p rfl;obtain⟨b0,vj,xy⟩:=hx;rw[Nq]at vj;cases vj;have aV:=run_entry_at (P:=P) w r b since s0 es last e hr hh he dz.2.1;exact aS hs (v:= .tuple #[e.key,e.val]) (by simp[execOp,xy,aV,WT]) ⟨[e.key,e.val],rfl,_,_,rfl,vU hK g1,_,_,rfl,g2,rfl⟩
end
end
section
open Go Go.RowKit Go.MapKept
section
variable {P:Program} {ρ:Nat->Value} {w w':World} {H H':ai} {F F':Nat->Prop} {U:Nat->Prop} {ob:Nat->Option (Nat×Th)} {n:Nat} {R:Type}
variable {op:Op} {ty:TypeId} {pos:String} {aft:Array Edge} {d:Nat}
noncomputable def Ij(ob:Nat->Option (Nat×Th))(n o:Nat):Option cI:=D1 ob n o
theorem yp(hs:ak U H F w ob n){o:Nat}{e:cI}(h:Ij ob n o=some e):gW H F w ob n e undef w:=BD hs h
theorem DR.oE:(d:DR)->d.low.da=d.row.da
 | .leaf _=>rfl
 | .sl _ _=>rfl
 | .pair a b=>by show a.low.da++b.low.da=a.row.da++b.row.da;rw[a.oE,b.oE]
theorem D6{α β:Type}{l m out:List α}{lx ly:List β}(h:bW l m=some out)(h1:lx.length=l.length)(h2:ly.length=m.length):bW lx ly=some (lx++ly)/\out=l++m:=by
 unfold bW at h⊢;split at h
 case isFalse=>cases h
 rename_i hle;exact⟨by rw[YB (by omega)],(WD h).symm⟩
theorem pd(T:aF P){t e:TypeId}{r:Row}(hu:find T.und t=some (.slice e))(hr:find T.row e=some r){dr:DR}(gP:dr.row=r){x y:Operand}{l m out:List dr.row.den}{Sx:Nat->Prop}{eat:List Nat}{o2 s2:Nat}
 (hs:ak U H F w ob n)(hx:Ba F w e dr.low (λ_=>fI F w dr) (ev ρ x) l Sx)(Oy:∀k,Sx k->¬F k)(Rq:∀k,Sx k->bn H ob eat k)(xL:∀k,Sx k->k<w.heap.size)
 (pK:ob o2=some (s2, .deep e dr m Yw))(jm:H.val o2=some (ev ρ y))(S9:o2∈eat)(GS:∀k,Sx k->¬H.sub s2 k)(ha:bW l m=some out):
 bw P U H F w ρ ob n ⟨some d, .call {callee:= .builtin .append,args:= #[x,y],argTypes:= #[t,t]},ty,pos,aft,Yw⟩ {dst:= .val Yy (.own n),eat:=eat,make:=[(n,(n, .deep e dr out Yw))]}:=by
 obtain⟨lx,Nt,DQ,KO,Ta,CY⟩:=hx;obtain⟨ly,Sy,Tb,Nd,Tc,I7⟩:=hs.low pK jm;obtain⟨v2,A6,GU⟩:=hs.obj _ _ _ pK;rw[jm]at A6;obtain rfl:=WD A6;obtain⟨Td,rfl⟩:=D6 ha KO Nd;obtain⟨ti,z,h1,h2,h3,h4,h5⟩:=T.row_ok _ _ hr;have ht:=T.und_ok _ _ hu;subst gP;obtain⟨v',w',aV,aU,dY,hm⟩:=qh ty ht h1 h2 (h3.trans dr.oE.symm) (h4.trans dr.size.symm) h5 (base:=0) (l:=lx) ⟨λk hk=>Oy k (CY.aN k hk),DQ⟩ Tb.reads Td hs.lt (Nat.zero_le _)
 have dz:Step F w F w':=Step.ext aU hs.lt λk hk=>Oy k (CY.aN k hk)
 have Ll:∀k,H.sub s2 k->bn H ob eat k:=λk hk=>⟨o2,S9,s2,_,_,pK,jm,hk⟩
 have Lm:∀i,i<l.length->∀k,Nt i k->w'.heap[k]? =w.heap[k]? :=λi hi k hk=>aU.block k (xL k (CY.part hi k hk)) (CY.out i k hi hk)
 have Ln:∀i,i<m.length->∀k,Sy i k->w'.heap[k]? =w.heap[k]? :=λi hi k hk=>aU.block k (GU.lt k (I7.part hi k hk)) λD7=>GS k (CY.aN k D7) (I7.part hi k hk)
 have hlen:(l++m).length=l.length+m.length:=WZ
 have Lo:∀k,aN v' k->(Sx k/\aN (ev ρ x) k)\/k=w.heap.size:=by
  intro k hk
  rcases hm with g|g
  .rw[g]at hk;exact .inl ⟨CY.aN k hk,hk⟩
  .rw[g]at hk;exact .inr hk.symm
 let SS:Nat->Nat->Prop:=λi=>if i<l.length then Nt i else Sy (i-l.length)
 have Ks:∀i k,i<l.length->SS i k->Nt i k:=λi k hi hk=>by simpa only[SS,YB hi]using hk
 have Kt:∀i k,¬i<l.length->SS i k->Sy (i-l.length) k:=λi k hi hk=>by simpa only[SS,YA hi]using hk
 have Rr:∀i k,i<(l++m).length->SS i k->Sx k\/H.sub s2 k:=by
  intro i k hi hk;by_cases av:i<l.length
  .exact .inl (CY.part av k (Ks i k av hk))
  .exact .inr (I7.part (by omega) k (Kt i k av hk))
 have ic:v'.oneCell'=Yx:=gD.one (T:=e) (r:=dr.low) dY.2;refine bj.val (v:=v') (w':=w') (by simp[execOp,resolve,invoke,builtin,aV]) (gS.GP (t:= .deep e dr (l++m) Yw) (S:=mO (aN v') SS (l++m).length) hs rfl ic ⟨aU.os,aU.tape,aU.output,aU.size,λk hk hn=>aU.block k hk λKP=>hn (Rq k (CY.aN k KP))⟩ ?_ (λk hk=>?_) (iZ (o:=n) (v:=v') (by simp[ai.bI]) ic))
 .refine⟨lx++ly,SS,dY.2,by simp[KO,Nd],λi a b=>?_,⟨λk=>Iff.rfl,λi j k hi hj bY hk gX=>?_,λi k hi hk KP=>?_⟩⟩
  .show fI F w' dr (lx++ly)[i] (l++m)[i] (SS i)
   by_cases av:i<l.length
   .have e1:(lx++ly)[i]=lx[i]'(by omega):=List.getElem_append_left (by omega);have e2:(l++m)[i]=l[i]:=List.getElem_append_left av
    have e3:SS i=Nt i:=by simp only[SS,YB av]
    rw[e1,e2,e3];exact fI.keep dz (Ta i (by omega) av) (Lm i av)
   .have e1:(lx++ly)[i]=ly[i-l.length]'(by simp at a;omega):=by rw[List.getElem_append_right (by omega)];simp only[KO]
    have e2:(l++m)[i]=m[i-l.length]'(by omega):=List.getElem_append_right (by omega)
    have e3:SS i=Sy (i-l.length):=by simp only[SS,YA av]
    rw[e1,e2,e3];exact fI.keep dz (Tc (i-l.length) _ (by omega)) (Ln _ (by omega))
  .by_cases h1:i<l.length<;>by_cases h2:j<l.length
   .exact CY.two i j k h1 h2 bY (Ks i k h1 hk) (Ks j k h2 gX)
   .exact GS k (CY.part h1 k (Ks i k h1 hk)) (I7.part (by omega) k (Kt j k h2 gX))
   .exact GS k (CY.part h2 k (Ks j k h2 gX)) (I7.part (by omega) k (Kt i k h1 hk))
   .exact I7.two (i-l.length) (j-l.length) k (by omega) (by omega) (by omega) (Kt i k h1 hk) (Kt j k h2 gX)
  .rcases Lo k KP with⟨g1,g2⟩|g
   .by_cases h1:i<l.length
    .exact CY.out i k h1 (Ks i k h1 hk) g2
    .exact GS k g1 (I7.part (by omega) k (Kt i k h1 hk))
   .rcases Rr i k hi hk with h1|h1
    .have:=xL k h1;omega
    .have:=GU.lt k h1;omega
 .have hk:mO (aN v') SS (l++m).length k:=hk
  have fin:Sx k\/H.sub s2 k->¬F k/\k<w'.heap.size/\(w.heap.size<=k\/bn H ob eat k):=by
   rintro(h1|h1)
   .exact⟨Oy k h1,Xg (xL k h1) aU.size, .inr (Rq k h1)⟩
   .exact⟨GU.no k h1,Xg (GU.lt k h1) aU.size, .inr (Ll k h1)⟩
  rcases hk with hk|⟨i,hi,hk⟩
  .rcases Lo k hk with⟨g,_⟩|g
   .exact fin (.inl g)
   .exact⟨λe=>by have:=hs.lt k e;omega,dY.lt k hk, .inl (by omega)⟩
  .exact fin (Rr i k hi hk)
def nK(T:aF P)(ob:Nat->Option (Nat×Th))(n:Nat)(t:TypeId)(X Y:ag)(k:cI->Option R):Option R:=
 match find T.und t with
 |some (.slice e)=>match find T.row e with
  |some r=>match Y with
   | .val Yy (.own o2)=>match ob o2 with
     |some (_, .deep T2 d2 m Yw)=>bif WI T2 e&&d2.row.beq r then(match X with
      | .val Yy .nil=>(bW ([]:List d2.row.den) m).bind λl=>k {dst:= .val Yy (.own n),eat:=[o2],make:=[(n,(n, .deep e d2 l Yw))]}
      | .val Yy (.own o1)=>match ob o1 with
        |some (_, .deep T1 d1 l0 Yw)=>bif WI o1 o2 then Yw else bif WI T1 e then(if h:d1.beq d2=Yx then(bW (DR.eq_of_beq h▸l0) m).bind λl=>k {dst:= .val Yy (.own n),eat:=[o1,o2],make:=[(n,(n, .deep e d2 l Yw))]}else Yw)else Yw
        |_=>Yw
      |_=>Yw)else Yw
     |_=>Yw
   |_=>Yw
  |none=>Yw
 |_=>Yw
theorem vW(T:aF P){t:TypeId}{X Y:ag}{x y:Operand}{k:cI->Option R}{q:R}(h:nK T ob n t X Y k=some q)(hs:ak U H F w ob n)(hx:af H F w X (ev ρ x))(hy:af H F w Y (ev ρ y)):
 ∃e,k e=some q/\bw P U H F w ρ ob n ⟨some d, .call {callee:= .builtin .append,args:= #[x,y],argTypes:= #[t,t]},ty,pos,aft,Yw⟩ e:=by
 unfold nK at h;split at h
 case h_2=>cases h
 rename_i e hu;split at h
 case h_2=>cases h
 rename_i r hr;split at h
 case h_2=>cases h
 rename_i o2;split at h
 case h_2=>cases h
 rename_i s2 T2 d2 m pK;obtain⟨hc,h'⟩:=ax h;clear h;obtain⟨rL,vo⟩:=bC hc;obtain rfl:=beq_true rL;have gP:=Row.eq_of_beq vo;obtain⟨cs,⟨u,GF,_,e2⟩,_,h3⟩:=hy;rw[h3 rfl]at e2
 obtain rfl:ev ρ y=u:=by simpa using e2
 split at h'
 .obtain⟨l,hl,hk⟩:=bind_some h';refine⟨_,hk,pd (Sx:=λ_=>False) T hu hr gP hs ?_ (λ_ h=>h.elim) (λ_ h=>h.elim) (λ_ h=>h.elim) pK GF (by simp) (λ_ h=>h.elim) hl⟩;obtain⟨cs,h1,_,h4⟩:=hx;rw[h4 rfl]at h1;have qm:[ev ρ x]=[Value.slice Yw 0 0]:=h1;rw[show ev ρ x= .slice Yw 0 0 by simpa using qm];exact⟨[],λ_ _=>False,gD.nil F w T2 d2.low,rfl,λi h=>absurd h (by simp),⟨λk=>by simp[aN,Xh],λ_ _ _ h=>absurd h (by simp),λ_ _ h=>absurd h (by simp)⟩⟩
 .rename_i o1;split at h'
  case h_2=>cases h'
  rename_i s1 T1 d1 l0 tY
  cases bY:WI o1 o2 with
  |true=>rw[bY]at h';cases h'
  |false=>
   rw[bY,cond_false]at h'
   have bY:o1≠o2:=λe=>by rw[e]at bY;simp at bY
   obtain⟨hT,h⟩:=ax h';clear h';obtain rfl:=beq_true hT;split at h
   case isFalse=>cases h
   rename_i hb;obtain rfl:=DR.eq_of_beq hb;obtain⟨l,hl,hk⟩:=bind_some h;obtain⟨cs,⟨v,p3,_,e1⟩,_,h4⟩:=hx;rw[h4 rfl]at e1
   obtain rfl:ev ρ x=v:=by simpa using e1
   obtain⟨v',cM,kO⟩:=hs.obj _ _ _ tY;rw[p3]at cM;obtain rfl:=WD cM;exact⟨_,hk,pd (Sx:=H.sub s1) T hu hr gP hs kO.ok kO.no (λk hk=>⟨o1,by simp,s1,_,_,tY,p3,hk⟩) kO.lt pK GF (by simp) (λk hk=>hs.apart _ _ _ _ _ _ _ _ bY tY pK p3 GF k hk) hl⟩
 .cases h'
def D8(ob:Nat->Option (Nat×Th)):ag->Bool
 | .val Yy (.own o)=>match ob o with
   |some (_, .deep ..)=>Yx
   |_=>Yy
 |_=>Yy
def jJ(T:aF P)(ob:Nat->Option (Nat×Th))(n:Nat)(t:TypeId)(X Y:ag)(k:cI->Option R):Option R:=
 bif D8 ob Y then nK T ob n t X Y k else lN T ob n t X Y k
theorem vX(T:aF P){t:TypeId}{X Y:ag}{x y:Operand}{k:cI->Option R}{q:R}(h:jJ T ob n t X Y k=some q)(hs:ak U H F w ob n)(hx:af H F w X (ev ρ x))(hy:af H F w Y (ev ρ y)):
 ∃e,k e=some q/\bw P U H F w ρ ob n ⟨some d, .call {callee:= .builtin .append,args:= #[x,y],argTypes:= #[t,t]},ty,pos,aft,Yw⟩ e:=by
 unfold jJ at h
 cases hb:D8 ob Y with
 |true=>rw[hb,cond_true]at h;exact vW T h hs hx hy
 |false=>rw[hb,cond_false]at h;exact xX T h hs hx hy
end
end
end Go.Proofs.YtbladfbbhijpmaaGreat
section
open _root_.Bool renaming false->Yy,true->Yx
open _root_.Option renaming none->Yw,none_or->X3
open _root_.List renaming append_assoc->W7,length_cons->WX,mem_cons_of_mem->Xk,mem_cons_self->Xx
open _root_.Nat renaming beq->WI,blt->Xt,eq_of_beq_eq_true->Xw,le_refl->WH
open _root_.Option.some renaming inj->WD,injEq->WL
open _root_.Prod.mk renaming injEq->XF
open _root_.Go.Value renaming ownBlock->Xh
namespace Go.Proofs.YtbladfbbhijpmaaGreat
open Go Go.RowKit
def dw(objs:List (Nat×(Nat×Th))):List Nat->Option (List (Nat×(Nat×Th)))
 |[]=>some objs
 |o::os=>match find objs o with
  |some (s, .own T r l)=>dw ((o,(s, .oh T r l))::del [o] objs) os
  |some (s, .map T K agg V l)=>dw ((o,(s, .fmap T K agg V l))::del [o] objs) os
  |some (s, .deep T d l Yw)=>dw ((o,(s, .fdeep T d l))::del [o] objs) os
  |some (_, .oh ..)=>dw objs os
  |some (_, .fmap ..)=>dw objs os
  |some (_, .fdeep ..)=>dw objs os
  |_=>Yw
def cN:Th->Bool
 | .oh .. =>Yx
 | .fmap .. =>Yx
 | .fdeep .. =>Yx
 |_=>Yy
structure Lp(t t':Th):Prop where
 froz:cN t'=Yx
 base:t'.base=t.base
 fp:∀S v k,¬fp S v t' k
 ok:∀{H:ai}{F:Nat->Prop}{w:World}{S:Nat->Prop}{v:Value},(∀k,Go.Proofs.YtbladfbbhijpmaaGreat.fp S v t k->¬F k)->eC H F w S v t->eC H (λb=>F b\/Go.Proofs.YtbladfbbhijpmaaGreat.fp S v t b) w S v t'
structure bx(H:ai)(F:Nat->Prop)(w:World)(H':ai)(F':Nat->Prop)(w':World):Prop where
 dR:H.le H'
 step:Step F w F' w'
theorem bx.refl(H:ai)(F:Nat->Prop)(w:World):bx H F w H F w:=⟨ai.le.refl H,Step.refl F w⟩
theorem bx.trans{H H' pG:ai}{F F' yq:Nat->Prop}{w w' pY:World}(h:bx H F w H' F' w')(k:bx H' F' w' pG yq pY):bx H F w pG yq pY:=⟨h.dR.trans k.dR,h.step.trans k.step⟩
structure D9(G:Nat->Prop)(w0:World)(F0:Nat->Prop)(w:World)(F:Nat->Prop):Prop where
 ext:Ext G w0 w
 le:∀b,F0 b->F b
 new:∀b,F b->F0 b\/w0.heap.size<=b\/G b
section
variable {U:Nat->Prop} {H:ai} {F:Nat->Prop} {w:World} {n:Nat}
theorem GV(T:TypeId)(r:Row)(l:List r.den):Lp (.own T r l) (.oh T r l) where
 froz:=rfl
 base:=rfl
 fp _ _ _ h:=h
 ok hn h:=e7.freeze (base:=0) (T:=T) (l:=l) ⟨hn,h⟩
theorem GW(T:TypeId)(K:Row)(agg:Bool)(V:Row)(l:List (K.den×V.den)):Lp (.map T K agg V l) (.fmap T K agg V l) where
 froz:=rfl
 base:=rfl
 fp _ _ _ h:=h
 ok {H F w S v} _ h:=by
  obtain⟨b,es,clock,h1,h2,h3,h4⟩:=h;obtain⟨g1,g2⟩:=zU h4;refine⟨v,rfl, .inr ⟨b,es,clock,h1, .inr h1,h2,h3,by simpa using g1,λi hi=>?_⟩⟩;obtain⟨e,cs,q1,q2,q3,q4,q5⟩:=g2 i hi;exact⟨e,cs,by simpa using q1,q2,q3.step (Step.freeze F w _),q4,q5⟩
theorem gD.gP{F:Nat->Prop}{w:World}{T:TypeId}{r:Row}{v:Value}{l:List r.den}(h:gD F w T r v l):bD F w .gP [v] v:=by
 obtain⟨xs,⟨_,h⟩,_⟩:=h
 rcases h with⟨rfl,_⟩|⟨gg,o0,cap,cur,rfl,_⟩<;>exact⟨rfl,_,_,_,rfl⟩
theorem Ea(T:TypeId)(d:DR)(l:List d.row.den):Lp (.deep T d l Yw) (.fdeep T d l) where
 froz:=rfl
 base:=rfl
 fp _ _ _ h:=h
 ok {H F w S v} hn h:=by
  have h':fI F w (.sl T d) v l S:=h;obtain⟨lh,Ss,h1,_⟩:=h;exact fI.freeze h' hn h1.gP
theorem GX{objs:List (Nat×(Nat×Th))}{o s:Nat}{t0 t1:Th}(hf:Lp t0 t1)(hs:ak U H F w (find objs) n)(ho:find objs o=some (s,t0)):
 ∃F',ak U H F' w (find ((o,(s,t1))::del [o] objs)) n/\(∀b,F b->F' b)/\(∀b,F' b->F b\/∃v,H.val o=some v/\fp (H.sub s) v t0 b):=by
 obtain⟨v,hv,bF⟩:=hs.obj _ _ _ ho;refine⟨λb=>F b\/fp (H.sub s) v t0 b,?_,λ_ h=> .inl h,λb hb=>hb.imp id λhm=>⟨v,hv,hm⟩⟩
 have part:∀o' s' t',find ((o,(s,t1))::del [o] objs) o'=some (s',t')->(o'=o/\s'=s/\t'=t1)\/(o'≠o/\find objs o'=some (s',t')):=by
  intro o' s' t' h;rw[aw]at h;split at h
  .rename_i e;simp only[WL,XF]at h;exact .inl ⟨e.symm,h.1.symm,h.2.symm⟩
  .rename_i e;exact .inr ⟨λe'=>e e'.symm,(eE.1 h).2⟩
 have fz:Step F w (λb=>F b\/fp (H.sub s) v t0 b) w:=Step.freeze F w _;refine⟨λo' s' t' h=>?_,λo1 o2 s1 s2 Te t2 v1 v2 bY h1 h2 e1 e2 k hk gX=>?_,hs.fresh,λb hb=>hb.elim (hs.lt b) (bF.lt b),hs.new,hs.gl.step fz⟩
 .rcases part o' s' t' h with⟨rfl,rfl,rfl⟩|⟨bY,h'⟩
  .exact⟨v,hv,bF.one,by rw[hf.base];exact bF.con,hf.ok bF.no bF.ok,λk hk=>(hf.fp _ _ _ hk).elim,λk hk=>(hf.fp _ _ _ hk).elim,λk hk=>(hf.fp _ _ _ hk).elim⟩
  .obtain⟨v',cM,vY⟩:=hs.obj _ _ _ h';refine⟨v',cM,vY.one,vY.con,vY.ok.heap (ai.le.refl H) fz λ_ _=>rfl,λk hk hF=>?_,vY.lt,vY.use⟩
   rcases hF with hF|hF
   .exact vY.no k hk hF
   .exact hs.apart _ _ _ _ _ _ _ _ bY h' ho cM hv k hk hF
 .rcases part o1 s1 Te h1 with⟨rfl,rfl,rfl⟩|⟨Tf,qm⟩
  .exact hf.fp _ _ _ hk
  .rcases part o2 s2 t2 h2 with⟨rfl,rfl,rfl⟩|⟨Tg,rH⟩
   .exact hf.fp _ _ _ gX
   .exact hs.apart _ _ _ _ _ _ _ _ bY qm rH e1 e2 k hk gX
theorem jK:{os:List Nat}->{F:Nat->Prop}->{objs ja:List (Nat×(Nat×Th))}->dw objs os=some ja->ak U H F w (find objs) n->
 ∃F',ak U H F' w (find ja) n/\(∀b,F b->F' b)/\(∀b,F' b->F b\/bn H (find objs) os b)
 |[],F,objs,ja,h,hs=>by obtain rfl:=WD h;exact⟨F,hs,λ_ h=>h,λ_ h=> .inl h⟩
 |o::os,F,objs,ja,h,hs=>by
  have main:∀s t t',Lp t t'->find objs o=some (s,t)->dw ((o,(s,t'))::del [o] objs) os=some ja->
   ∃F',ak U H F' w (find ja) n/\(∀b,F b->F' b)/\(∀b,F' b->F b\/bn H (find objs) (o::os) b):=by
   intro s t t' hf ho h;obtain⟨F1,a1,a2,a3⟩:=GX hf hs ho;obtain⟨F2,b1,b2,b3⟩:=jK h a1;refine⟨F2,b1,λb hb=>b2 b (a2 b hb),λb hb=>?_⟩
   rcases b3 b hb with h1|⟨o',fZ,s',t',v,h1,h2,h3⟩
   .rcases a3 b h1 with h2|⟨v,hv,hm⟩
    .exact .inl h2
    .exact .inr ⟨o,by simp,s,_,v,ho,hv,hm⟩
   .rw[aw]at h1;split at h1
    .simp only[WL,XF]at h1;rw[<-h1.2]at h3;exact(hf.fp _ _ _ h3).elim
    .exact .inr ⟨o',by simp[fZ],s',t',v,(eE.1 h1).2,h2,h3⟩
  have same:dw objs os=some ja->∃F',ak U H F' w (find ja) n/\(∀b,F b->F' b)/\(∀b,F' b->F b\/bn H (find objs) (o::os) b):=by
   intro h;obtain⟨F2,b1,b2,b3⟩:=jK h hs;exact⟨F2,b1,b2,λb hb=>(b3 b hb).imp id λ⟨o',fZ,rest⟩=>⟨o',by simp[fZ],rest⟩⟩
  unfold dw at h;split at h
  .rename_i ho;exact main _ _ _ (GV ..) ho h
  .rename_i ho;exact main _ _ _ (GW ..) ho h
  .rename_i ho;exact main _ _ _ (Ea ..) ho h
  .exact same h
  .exact same h
  .exact same h
  .cases h
end
theorem eh{S:Nat->Prop}{v:Value}{t:Th}{k:Nat}(h:cN t=Yx)(hk:fp S v t k):False:=by
 cases t<;>first|(exact hk)|(cases h)
theorem fC:{os:List Nat}->{objs ja:List (Nat×(Nat×Th))}->dw objs os=some ja->∀o s t,find ja o=some (s,t)->
 find objs o=some (s,t)\/cN t=Yx
 |[],objs,ja,h,o,s,t,ho=>by obtain rfl:=WD h;exact .inl ho
 |o0::os,objs,ja,h,o,s,t,ho=>by
  have main:∀s0 t1,cN t1=Yx->dw ((o0,(s0,t1))::del [o0] objs) os=some ja->find objs o=some (s,t)\/cN t=Yx:=by
   intro s0 t1 hf h
   rcases fC h o s t ho with h1|g
   .rw[aw]at h1;split at h1
    .simp only[WL,XF]at h1;obtain⟨rfl,rfl⟩:=h1;exact .inr hf
    .exact .inl (eE.1 h1).2
   .exact .inr g
  unfold dw at h;split at h
  .exact main _ _ rfl h
  .exact main _ _ rfl h
  .exact main _ _ rfl h
  .exact fC h o s t ho
  .exact fC h o s t ho
  .exact fC h o s t ho
  .cases h
inductive Sh where
 |leaf (r:Row)
 |own (j:Nat)
 |nil
 |pair (a b:Sh)
 |junk (n:Nat)
inductive SS where
 |val (agg:Bool) (t:Sh)
 |ptr (j:Nat) (p:List Bool) (off:Nat)
 |at (r:Row)
 |undef
 |fn (f:FuncId) (js:List (Nat×List Bool×Nat))
 |ifc (T:TypeId) (s:SS)
inductive OS where
 |box (T:TypeId) (t:Sh)
 |own (T:TypeId) (r:Row)
 |map (T:TypeId) (K:Row) (agg:Bool) (V:Row)
 |deep (T:TypeId) (d:DR)
 |smap (T:TypeId) (K:Row) (agg:Bool) (V:Row) (it:Option Nat)
structure JS where
 ah:List (Nat×SS)
 objs:List (Nat×OS):=[]
 drop:List Nat:=[]
 nxt:Nat
def Sh.rows:Sh->List Row
 | .leaf r=>[r]
 | .own _=>[]
 | .nil=>[]
 | .pair a b=>a.rows++b.rows
 | .junk _=>[]
def SS.rows:SS->List Row
 | .val _ t=>t.rows
 | .ptr .. =>[]
 | .at r=>[r]
 | .undef=>[]
 | .fn .. =>[]
 | .ifc _ s=>s.rows
def OS.rows:OS->List Row
 | .box _ t=>t.rows
 | .own _ r=>[.slice r]
 | .map _ K _ V=>[.slice (.pair K V)]
 | .deep _ d=>[.slice d.row]
 | .smap _ K _ V Yw=>[.slice (.pair K V)]
 | .smap _ K _ V (some _)=>[.slice (.pair K V), .slice (.pair K V)]
def vZ:List (Nat×SS)->List Row
 |[]=>[]
 |p::l=>p.2.rows++vZ l
def z7:List (Nat×OS)->List Row
 |[]=>[]
 |p::l=>p.2.rows++z7 l
def JS.rows(J:JS):List Row:=vZ J.ah++z7 J.objs
abbrev fL:=(r:Row)×r.den
@[reducible] def bZ:List Row->Type
  |[]=>Unit
  |[r]=>r.den
  |r::s::rs=>r.den×bZ (s::rs)
def cm:(rs:List Row)->bZ rs->List fL
 |[],_=>[]
 |[r],x=>[⟨r,x⟩]
 |r::s::rs,x=>⟨r,x.1⟩::cm (s::rs) x.2
def v7:(rs:List Row)->List fL->Option (bZ rs)
 |[],[]=>some ()
 |[r],[⟨s,x⟩]=>if h:s.beq r=Yx then some (ff (Row.eq_of_beq h) x)else Yw
 |r::r'::rs,⟨s,x⟩::vs=>if h:s.beq r=Yx then(match v7 (r'::rs) vs with
  |some y=>some (ff (Row.eq_of_beq h) x,y)
  |none=>Yw)else Yw
 |_,_=>Yw
theorem sI{r s:Row}(h:s=r)(x:s.den):(⟨r,ff h x⟩:fL)=⟨s,x⟩:=by subst h;rfl
theorem pe:{rs:List Row}->{vs:List fL}->{x:bZ rs}->v7 rs vs=some x->cm rs x=vs
 |[],[],x,_=>rfl
 |[],_::_,_,h=>by cases h
 |[r],[],_,h=>by cases h
 |[r],[⟨s,x⟩],y,h=>by
  unfold v7 at h;split at h
  .rename_i hb;obtain rfl:=WD h
   show[(⟨r,_⟩:fL)]=_
   rw[sI]
  .cases h
 |[r],_::_::_,_,h=>by cases h
 |r::r'::rs,[],_,h=>by cases h
 |r::r'::rs,⟨s,x⟩::vs,y,h=>by
  unfold v7 at h;split at h
  .rename_i hb;split at h
   .rename_i z hz;obtain rfl:=WD h;have:=pe hz
    show(⟨r,_⟩:fL)::cm (r'::rs) z=_
    rw[sI,this]
   .cases h
  .cases h
def kQ:Sh->List fL->Tree×List fL
 | .leaf r,⟨s,x⟩::vs=>(bif s.beq r then .leaf s x else .nil,vs)
 | .leaf _,[]=>(.nil,[])
 | .own j,vs=>(.own j,vs)
 | .nil,vs=>(.nil,vs)
 | .pair a b,vs=>(.pair (kQ a vs).1 (kQ b (kQ a vs).2).1,(kQ b (kQ a vs).2).2)
 | .junk n,vs=>(.junk n,vs)
def cW:SS->List fL->ag×List fL
 | .val agg t,vs=>(.val agg (kQ t vs).1,(kQ t vs).2)
 | .ptr j p off,vs=>(.ptr j p off,vs)
 | .at r,⟨s,x⟩::vs=>(bif s.beq r then .at s x else .dead,vs)
 | .at _,[]=>(.dead,[])
 | .undef,vs=>(.undef,vs)
 | .fn f js,vs=>(.fn f js,vs)
 | .ifc T s,vs=>(.ifc T (cW s vs).1,(cW s vs).2)
def bX:List (Nat×SS)->List fL->List (Nat×ag)×List fL
 |[],vs=>([],vs)
 |(t,s)::l,vs=>((t,(cW s vs).1)::(bX l (cW s vs).2).1,(bX l (cW s vs).2).2)
def k6(K V:Row)(d:fL):Option (List (K.den×V.den)):=if h:d.1.beq (.slice (.pair K V))=Yx then some (ff (s:= .slice (.pair K V)) (Row.eq_of_beq h) d.2)else Yw
def I8(T:TypeId)(K:Row)(agg:Bool)(V:Row):Option Nat->List fL->Th×List fL
 |none,d::vs=>(.smap T K agg V ((k6 K V d).getD []) Yw,vs)
 |some n,d::d'::vs=>(.smap T K agg V ((k6 K V d).getD []) (some (n,(k6 K V d').getD [],Yw)),vs)
 |_,vs=>(.smap T K agg V [] Yw,vs)
theorem oF{K V:Row}(l:List (K.den×V.den)):k6 K V ⟨.slice (.pair K V),l⟩=some l:=by
 unfold k6;rw[dif_pos (Row.beq_refl _)];rfl
def bT:OS->List fL->Th×List fL
 | .box T t,vs=>(.box T (kQ t vs).1,(kQ t vs).2)
 | .own T r,⟨.slice s,l⟩::vs=>(bif s.beq r then .own T s l else .own T r [],vs)
 | .own T r,vs=>(.own T r [],vs)
 | .map T K agg V,⟨.slice (.pair K' V'),l⟩::vs=>(if h:K'.beq K=Yx/\V'.beq V=Yx then .map T K agg V (ff (r:= .slice (.pair K' V')) (s:= .slice (.pair K V)) (by rw[Row.eq_of_beq h.1,Row.eq_of_beq h.2]) l)else .map T K agg V [],vs)
 | .map T K agg V,vs=>(.map T K agg V [],vs)
 | .deep T d,⟨.slice s,l⟩::vs=>(if h:s.beq d.row=Yx then .deep T d (ff (r:= .slice s) (s:= .slice d.row) (YH Row.slice (Row.eq_of_beq h)) l) Yw else .deep T d [] Yw,vs)
 | .deep T d,vs=>(.deep T d [] Yw,vs)
 | .smap T K agg V it,vs=>I8 T K agg V it vs
def ec(m:Nat):List (Nat×OS)->List fL->List (Nat×(Nat×Th))
 |[],_=>[]
 |(j,s)::l,vs=>(j,(m,(bT s vs).1))::ec (m+1) l (bT s vs).2
abbrev Bs:=List (Nat×Option Nat)
def yr:Option Nat->Option Nat->Bool
 |some a,some b=>WI a b
 |none,Yw=>Yx
 |_,_=>Yy
theorem sJ{a b:Option Nat}(h:yr a b=Yx):a=b:=by
 cases a<;>cases b<;>first|rfl|cases h|(rw[beq_true h])
def qN(bs:Bs)(j:Nat)(v:Option Nat):Option Bs:=
 match find bs j with
 |none=>some ((j,v)::bs)
 |some u=>bif yr u v then some bs else Yw
def xE(ob:Nat->Option (Nat×Th)):Sh->Tree->Bs->Option (List fL×Bs)
 | .leaf r,t,bs=>match flat ob r t with
   |some x=>some ([⟨r,x⟩],bs)
   |none=>Yw
 | .own j, .own o,bs=>match qN bs j (some o)with
   |some dE=>some ([],dE)
   |none=>Yw
 | .own j, .nil,bs=>match qN bs j Yw with
   |some dE=>some ([],dE)
   |none=>Yw
 | .nil, .nil,bs=>some ([],bs)
 | .junk n,t,bs=>bif WI t.size n then some ([],bs)else Yw
 | .pair a b,t,bs=>match t.split with
   |some (x,y)=>match xE ob a x bs with
    |some (vs,yt)=>match xE ob b y yt with
     |some (us,z8)=>some (vs++us,z8)
     |none=>Yw
    |none=>Yw
   |none=>Yw
 |_,_,_=>Yw
def oG:List (Nat×List Bool×Nat)->List (Nat×List Bool×Nat)->Bs->Option Bs
 |[],[],bs=>some bs
 |(j,_,off)::js,(o,_,cC)::cs,bs=>bif WI off cC then(match qN bs j (some o)with
  |some dE=>oG js cs dE
  |none=>Yw)else Yw
 |_,_,_=>Yw
def Eb(ob:Nat->Option (Nat×Th))(s:SS)(d:ag)(bs:Bs):Option (List fL×Bs):=
 match s,d with
 | .val agg sh, .val cV t=>bif (bif agg then cV else !cV)then xE ob sh t bs else Yw
 | .ptr j _ off, .ptr o _ cC=>bif WI off cC then(match qN bs j (some o)with
   |some dE=>some ([],dE)
   |none=>Yw)else Yw
 | .at r, .at s x=>if h:s.beq r=Yx then some ([⟨r,ff (Row.eq_of_beq h) x⟩],bs)else Yw
 | .undef, .undef=>some ([],bs)
 | .fn f js, .fn f' cs=>bif WI f f' then(match oG js cs bs with
   |some dE=>some ([],dE)
   |none=>Yw)else Yw
 |_,_=>Yw
def BL(ob:Nat->Option (Nat×Th)):SS->ag->Bs->Option (List fL×Bs)
 | .ifc T s,d,bs=>match d with
   | .ifc T' d'=>bif WI T T' then BL ob s d' bs else Yw
   |_=>Yw
 |s,d,bs=>Eb ob s d bs
def Ku(ob:Nat->Option (Nat×Th))(ah:List (Nat×ag)):List (Nat×SS)->Bs->Option (List fL×Bs)
 |[],bs=>some ([],bs)
 |(t,s)::l,bs=>match find ah t with
  |some d=>match BL ob s d bs with
   |some (vs,yt)=>match Ku ob ah l yt with
    |some (us,z8)=>some (vs++us,z8)
    |none=>Yw
   |none=>Yw
  |none=>Yw
def Ec(ob:Nat->Option (Nat×Th))(j:Nat)(s:OS)(bs:Bs):Option (List fL×Bs):=
 match find bs j with
 |some (some o)=>match ob o with
  |some (_,t)=>match s,t with
   | .own T r, .own T' r' l=>bif WI T T' then(if h:r'.beq r=Yx then some ([⟨.slice r,ff (r:= .slice r') (s:= .slice r) (YH Row.slice (Row.eq_of_beq h)) l⟩],bs)else Yw)else Yw
   | .box T sh, .box T' t=>bif WI T T' then xE ob sh t bs else Yw
   | .map T K agg V, .map T' K' cV V' l=>bif WI T T'&&(bif agg then cV else !cV)then(if h:K'.beq K=Yx/\V'.beq V=Yx then some ([⟨.slice (.pair K V),ff (r:= .slice (.pair K' V')) (s:= .slice (.pair K V)) (by rw[Row.eq_of_beq h.1,Row.eq_of_beq h.2]) l⟩],bs)else Yw)else Yw
   | .deep T d, .deep T' d' l Yw=>bif WI T T'&&d'.beq d then some ([⟨.slice d'.row,l⟩],bs)else Yw
   | .smap T K agg V Yw, .smap T' K' cV V' l _=>bif WI T T'&&(bif agg then cV else !cV)&&K'.beq K&&V'.beq V then some ([⟨.slice (.pair K' V'),l⟩],bs)else Yw
   | .smap T K agg V (some n), .smap T' K' cV V' l (some (n',left,_))=>bif WI T T'&&(bif agg then cV else !cV)&&K'.beq K&&V'.beq V then(match qN bs n (some n')with
     |some dE=>some ([⟨.slice (.pair K' V'),l⟩,⟨.slice (.pair K' V'),left⟩],dE)
     |none=>Yw)else Yw
   |_,_=>Yw
  |none=>Yw
 |some Yw=>match s with
  | .own _ r=>some ([⟨.slice r,([]:List r.den)⟩],bs)
  | .deep _ d=>some ([⟨.slice d.row,([]:List d.row.den)⟩],bs)
  |_=>Yw
 |none=>Yw
def Kv(ob:Nat->Option (Nat×Th)):List (Nat×OS)->Bs->Option (List fL×Bs)
 |[],bs=>some ([],bs)
 |(j,s)::l,bs=>match Ec ob j s bs with
  |some (vs,yt)=>match Kv ob l yt with
   |some (us,z8)=>some (vs++us,z8)
   |none=>Yw
  |none=>Yw
section
variable {U:Nat->Prop} {H H':ai} {F:Nat->Prop} {w:World} {n:Nat} {ob:Nat->Option (Nat×Th)}
def v8(bs dE:Bs):Prop:=∀j v,find bs j=some v->find dE j=some v
theorem fg{bs dE:Bs}{j:Nat}{v:Option Nat}(h:qN bs j v=some dE):v8 bs dE/\find dE j=some v:=by
 unfold qN at h;split at h
 .rename_i hn;obtain rfl:=WD h;refine⟨λi u hu=>?_,by rw[aw,YB rfl]⟩;rw[aw];by_cases e:j=i
  .subst e;rw[hn]at hu;cases hu
  .rw[YA e];exact hu
 .rename_i u hu;obtain⟨h1,rfl⟩:=nC h;obtain rfl:=sJ h1;exact⟨λ_ _ h=>h,hu⟩
def valOf(H:ai):Option Nat->Option Value
 |some o=>H.val o
 |none=>some (.slice Yw 0 0)
def jL(H H':ai)(bs:Bs):Prop:=∀j v,find bs j=some v->∀u,valOf H v=some u->H'.val j=some u
theorem qO:{sh:Sh}->{t:Tree}->{bs dE:Bs}->{vs:List fL}->xE ob sh t bs=some (vs,dE)->v8 bs dE
 | .leaf r,t,bs,dE,vs,h=>by
   unfold xE at h
   split at h<;>cases h
   exact λ_ _ h=>h
 | .own j, .own o,bs,dE,vs,h=>by
   unfold xE at h
   split at h<;>cases h
   rename_i hb;exact(fg hb).1
 | .own j, .nil,bs,dE,vs,h=>by
   unfold xE at h
   split at h<;>cases h
   rename_i hb;exact(fg hb).1
 | .nil, .nil,bs,dE,vs,h=>by cases h;exact λ_ _ h=>h
 | .pair a b,t,bs,dE,vs,h=>by
   unfold xE at h;split at h
   case h_2=>cases h
   split at h
   case h_2=>cases h
   rename_i h1;split at h
   case h_2=>cases h
   rename_i h2;cases h
   exact λj v hj=>qO h2 j v (qO h1 j v hj)
 | .own _, .leaf _ _,_,_,_,h=>by cases h
 | .own _, .pair _ _,_,_,_,h=>by cases h
 | .nil, .leaf _ _,_,_,_,h=>by cases h
 | .nil, .own _,_,_,_,h=>by cases h
 | .nil, .pair _ _,_,_,_,h=>by cases h
 | .own _, .view ..,_,_,_,h=>by cases h
 | .nil, .view ..,_,_,_,h=>by cases h
 | .own _, .junk _,_,_,_,h=>by cases h
 | .nil, .junk _,_,_,_,h=>by cases h
 | .junk n,t,bs,dE,vs,h=>by
   unfold xE at h;obtain⟨_,h⟩:=ax h;cases h
   exact λ_ _ h=>h
theorem ui(hs:ak U H F w ob n):{sh:Sh}->{t:Tree}->{bs dE:Bs}->{vs:List fL}->{cs:List Value}->xE ob sh t bs=some (vs,dE)->Holds H F w t cs->jL H H' dE->∀rest,
 Holds H' F w (kQ sh (vs++rest)).1 cs/\(kQ sh (vs++rest)).2=rest
 | .leaf r,t,bs,dE,vs,cs,h,hh,hb,rest=>by
   unfold xE at h
   split at h<;>cases h
   rename_i x hf;refine⟨?_,rfl⟩
   show Holds H' F w (bif r.beq r then Tree.leaf r x else .nil) cs
   rw[Row.beq_refl,cond_true];exact dS hs hf hh
 | .own j, .own o,bs,dE,vs,cs,h,hh,hb,rest=>by
   unfold xE at h
   split at h<;>cases h
   rename_i tI;obtain⟨v,hv,h1,rfl⟩:=hh;exact⟨⟨v,hb _ _ (fg tI).2 v hv,h1,rfl⟩,rfl⟩
 | .own j, .nil,bs,dE,vs,cs,h,hh,hb,rest=>by
   unfold xE at h
   split at h<;>cases h
   rename_i tI;rw[show cs=_ from hh];exact⟨⟨_,hb _ _ (fg tI).2 _ rfl,rfl,rfl⟩,rfl⟩
 | .nil, .nil,bs,dE,vs,cs,h,hh,hb,rest=>by cases h;exact⟨hh,rfl⟩
 | .pair a b,t,bs,dE,vs,cs,h,hh,hb,rest=>by
   unfold xE at h;split at h
   case h_2=>cases h
   rename_i x y rM;split at h
   case h_2=>cases h
   rename_i Oz yt h1;split at h
   case h_2=>cases h
   rename_i us z8 h2;cases h;obtain⟨c1,c2,rfl,g1,g2,_⟩:=hh.split rM
   have CX:jL H H' yt:=λj v hj=>hb j v (qO h2 j v hj)
   obtain⟨k1,k2⟩:=ui hs h1 g1 CX (us++rest);obtain⟨m1,m2⟩:=ui hs h2 g2 hb rest;rw[W7];unfold kQ;rw[k2];exact⟨⟨c1,c2,rfl,k1,m1⟩,m2⟩
 | .own _, .leaf _ _,_,_,_,_,h,_,_,_=>by cases h
 | .own _, .pair _ _,_,_,_,_,h,_,_,_=>by cases h
 | .nil, .leaf _ _,_,_,_,_,h,_,_,_=>by cases h
 | .nil, .own _,_,_,_,_,h,_,_,_=>by cases h
 | .nil, .pair _ _,_,_,_,_,h,_,_,_=>by cases h
 | .own _, .view ..,_,_,_,_,h,_,_,_=>by cases h
 | .nil, .view ..,_,_,_,_,h,_,_,_=>by cases h
 | .own _, .junk _,_,_,_,_,h,_,_,_=>by cases h
 | .nil, .junk _,_,_,_,_,h,_,_,_=>by cases h
 | .junk n,t,bs,dE,vs,cs,h,hh,hb,rest=>by
   unfold xE at h;obtain⟨hn,h⟩:=ax h;cases h;exact⟨⟨hh.length.trans (Xw hn),hh.fj⟩,rfl⟩
theorem oH:{js cs:List (Nat×List Bool×Nat)}->{bs dE:Bs}->oG js cs bs=some dE->v8 bs dE
 |[],[],bs,dE,h=>by obtain rfl:=WD h;exact λ_ _ h=>h
 |(j,p,off)::js,(o,p',cC)::cs,bs,dE,h=>by
  unfold oG at h;obtain⟨_,h⟩:=ax h;split at h
  case h_2=>cases h
  rename_i hb
  exact λi v hi=>oH h i v ((fg hb).1 i v hi)
 |[],_::_,_,_,h=>by cases h
 |_::_,[],_,_,h=>by cases h
theorem sK:{js cs:List (Nat×List Bool×Nat)}->{bs dE:Bs}->{vs:List Value}->oG js cs bs=some dE->gf H cs vs->jL H H' dE->gf H' js vs
 |[],[],bs,dE,vs,h,hc,hb=>hc
 |(j,p,off)::js,(o,p',cC)::cs,bs,dE,vs,h,hc,hb=>by
  unfold oG at h;obtain⟨ho,h'⟩:=ax h;clear h;split at h'
  case h_2=>cases h'
  rename_i b1 tI;obtain⟨v,us,rfl,⟨b,h1,rfl⟩,h2⟩:=hc;have ho:=beq_true ho;subst ho;exact⟨_,us,rfl,⟨b,hb _ _ (oH h' _ _ (fg tI).2) _ h1,rfl⟩,sK h' h2 hb⟩
 |[],_::_,_,_,_,h,_,_=>by cases h
 |_::_,[],_,_,_,h,_,_=>by cases h
theorem GY{s:SS}{d:ag}{bs dE:Bs}{vs:List fL}(h:Eb ob s d bs=some (vs,dE)):v8 bs dE:=by
 unfold Eb at h;split at h
 .obtain⟨_,h⟩:=ax h;exact qO h
 .obtain⟨_,h⟩:=ax h
  split at h<;>cases h
  rename_i hb;exact(fg hb).1
 .split at h<;>cases h
  exact λ_ _ h=>h
 .cases h
  exact λ_ _ h=>h
 .obtain⟨_,h'⟩:=ax h
  split at h'<;>cases h'
  rename_i hb;exact oH hb
 .cases h
theorem GZ{s:SS}{d:ag}{bs dE:Bs}{vs:List fL}(h:BL ob s d bs=some (vs,dE)):v8 bs dE:=by
 induction s generalizing d with
 |ifc T s ih=>
  cases d with
  |ifc T' d'=>
   obtain⟨_,h'⟩:=ax (show(bif WI T T' then BL ob s d' bs else Yw)=some (vs,dE)from h);exact ih h'
  |_=>cases h
 |_=>exact GY h
theorem G0(hs:ak U H F w ob n){s:SS}{d:ag}{bs dE:Bs}{vs:List fL}{v:Value}(h:Eb ob s d bs=some (vs,dE))(hd:af H F w d v)(hb:jL H H' dE)(rest:List fL):
 af H' F w (cW s (vs++rest)).1 v/\(cW s (vs++rest)).2=rest:=by
 unfold Eb at h;split at h
 .rename_i agg sh cV t;obtain⟨ha,h'⟩:=ax h;clear h
  have:agg=cV:=by cases agg<;>cases cV<;>simp_all
  subst this;obtain⟨cs,h1,h2⟩:=hd;obtain⟨k1,k2⟩:=ui hs h' h1 hb rest;exact⟨⟨cs,k1,h2⟩,k2⟩
 .rename_i j p off o p' cC;obtain⟨ho,h'⟩:=ax h;clear h
  split at h'<;>cases h'
  rename_i tI;obtain⟨b,h1,h2⟩:=hd;refine⟨⟨b,hb _ _ (fg tI).2 _ h1,?_⟩,rfl⟩;rw[beq_true ho];exact h2
 .rename_i r s x
  split at h<;>cases h
  rename_i vy;obtain rfl:=Row.eq_of_beq vy;refine⟨?_,rfl⟩
  show af H' F w (bif s.beq s then ag.at s x else .dead) v
  rw[Row.beq_refl,cond_true];exact hd
 .cases h;exact⟨hd,rfl⟩
 .rename_i f js f' cs;obtain⟨hf,h'⟩:=ax h
  split at h'<;>cases h'
  rename_i tI;obtain⟨us,h1,h2⟩:=hd;refine⟨⟨us,?_,sK tI h2 hb⟩,rfl⟩;rw[beq_true hf];exact h1
 .cases h
theorem G1(hs:ak U H F w ob n){s:SS}{d:ag}{bs dE:Bs}{vs:List fL}{v:Value}(h:BL ob s d bs=some (vs,dE))(hd:af H F w d v)(hb:jL H H' dE)(rest:List fL):
 af H' F w (cW s (vs++rest)).1 v/\(cW s (vs++rest)).2=rest:=by
 induction s generalizing d v with
 |ifc T s ih=>
  cases d with
  |ifc T' d'=>
   obtain⟨hT,h'⟩:=ax (show(bif WI T T' then BL ob s d' bs else Yw)=some (vs,dE)from h);obtain⟨u,e,h2⟩:=hd;obtain⟨k1,k2⟩:=ih h' h2;exact⟨⟨u,by rw[beq_true hT];exact e,k1⟩,k2⟩
  |_=>cases h
 |_=>exact G0 hs h hd hb rest
theorem Ed:{l:List (Nat×SS)}->{ah:List (Nat×ag)}->{bs dE:Bs}->{vs:List fL}->Ku ob ah l bs=some (vs,dE)->v8 bs dE
 |[],_,_,_,_,h=>by cases h;exact λ_ _ h=>h
 |(t,s)::l,ah,bs,dE,vs,h=>by
  unfold Ku at h;split at h
  case h_2=>cases h
  split at h
  case h_2=>cases h
  rename_i h1;split at h
  case h_2=>cases h
  rename_i h2;cases h
  exact λj v hj=>Ed h2 j v (GZ h1 j v hj)
theorem Ee(hs:ak U H F w ob n){ah:List (Nat×ag)}{ρ:Nat->Value}(eA:∀t d,find ah t=some d->af H F w d (ρ t)):{l:List (Nat×SS)}->{bs dE:Bs}->{vs:List fL}->Ku ob ah l bs=some (vs,dE)->jL H H' dE->∀rest,
 (∀t d,find (bX l (vs++rest)).1 t=some d->af H' F w d (ρ t))/\(bX l (vs++rest)).2=rest
 |[],bs,dE,vs,h,_,rest=>by cases h;exact⟨λ_ _ h=>(by cases h),rfl⟩
 |(t,s)::l,bs,dE,vs,h,hb,rest=>by
  unfold Ku at h;split at h
  case h_2=>cases h
  rename_i d hd;split at h
  case h_2=>cases h
  rename_i Oz yt h1;split at h
  case h_2=>cases h
  rename_i us z8 h2;cases h
  have CX:jL H H' yt:=λj v hj=>hb j v (Ed h2 j v hj)
  obtain⟨k1,k2⟩:=G1 hs h1 (eA t d hd) CX (us++rest);obtain⟨m1,m2⟩:=Ee hs eA h2 hb rest;rw[W7];unfold bX;rw[k2];refine⟨λt' d' h'=>?_,m2⟩;rw[aw]at h';split at h'
  .rename_i e;subst e;obtain rfl:=WD h';exact k1
  .exact m1 t' d' h'
end
end Go.Proofs.YtbladfbbhijpmaaGreat
namespace Go.Proofs.YtbladfbbhijpmaaGreat
open Go Go.RowKit
def Tree.owns:Tree->List Nat
 | .own o=>[o]
 | .pair a b=>a.owns++b.owns
 | .view o _ _ _=>[o]
 |_=>[]
def wa:Sh->Tree->List Nat
 | .leaf _,t=>t.owns
 | .pair a b,t=>match t.split with
   |some (x,y)=>wa a x++wa b y
   |none=>[]
 |_,_=>[]
def Aa(ah:List (Nat×ag)):List (Nat×SS)->List Nat
 |[]=>[]
 |(t, .val _ sh)::l=>(match find ah t with
  |some (.val _ tr)=>wa sh tr
  |_=>[])++Aa ah l
 |(t, .ifc _ (.val _ sh))::l=>(match find ah t with
  |some (.ifc _ (.val _ tr))=>wa sh tr
  |_=>[])++Aa ah l
 |_::l=>Aa ah l
def Ik(j:Nat):List (Nat×List Bool×Nat)->List (Nat×List Bool×Nat)->Option Nat
 |(j',_)::js,(o,_)::cs=>bif WI j' j then some o else Ik j js cs
 |_,_=>Yw
def wb(ah:List (Nat×ag))(j:Nat):List (Nat×SS)->Option Nat
 |[]=>Yw
 |(t, .ptr j' _ _)::l=>bif WI j' j then(match find ah t with
  |some (.ptr o _ _)=>some o
  |_=>Yw)else wb ah j l
 |(t, .ifc _ (.ptr j' _ _))::l=>bif WI j' j then(match find ah t with
  |some (.ifc _ (.ptr o _ _))=>some o
  |_=>Yw)else wb ah j l
 |(t, .fn _ js)::l=>match(match find ah t with
    |some (.fn _ cs)=>Ik j js cs
    |_=>Yw)with
  |some o=>some o
  |none=>wb ah j l
 |_::l=>wb ah j l
def Ef(nb:Nat)(ah:List (Nat×ag))(ss:List (Nat×SS))(objs:List (Nat×(Nat×Th))):List (Nat×OS)->List Nat
 |[]=>[]
 |(j, .box _ sh)::l=>(match(bif Xt j nb then some j else wb ah j ss)with
  |some o=>(match find objs o with
   |some (_, .box _ tr)=>wa sh tr
   |_=>[])
  |none=>[])++Ef nb ah ss objs l
 |_::l=>Ef nb ah ss objs l
def OA(nb:Nat):List (Nat×OS)->Bs
 |[]=>[]
 |(j,_)::l=>bif Xt j nb then(j,some j)::OA nb l else OA nb l
def ek:Bs->List Nat
 |[]=>[]
 |(_,some o)::l=>o::ek l
 |(_,Yw)::l=>ek l
def iE(o:Nat)(l:List Nat):Bool:=l.any (WI o)
def yu:List Nat->Bool
 |[]=>Yx
 |o::l=> !iE o l&&yu l
def Eg(nb nxt:Nat):Bs->Bool
 |[]=>Yx
 |(j,u)::l=>(bif Xt j nb then yr u (some j)else Xt j nxt)&&Eg nb nxt l
def yv(objs:List (Nat×(Nat×Th)))(wc:List Nat):List (Nat×(Nat×Th))->Bool
 |[]=>Yx
 |(o,(s,t))::l=>(match find objs o with
  |some (s',t')=>WI s s'&&(bif cN t then cN t' else !cN t')
  |none=>Yy)&& !iE o wc&&yv objs wc l
def sL(nb:Nat)(J:JS)(ah:List (Nat×ag))(objs:List (Nat×(Nat×Th))):List Nat:=Aa ah J.ah++Ef nb ah J.ah objs J.objs
def sM(nb:Nat)(frame:List (Nat×(Nat×Th)))(J:JS)(ah:List (Nat×ag))(objs:List (Nat×(Nat×Th))):Option (bZ J.rows×Bs×List (Nat×(Nat×Th))):=
 match dw objs (sL nb J ah objs)with
 |none=>Yw
 |some aA=>match Ku (find aA) ah J.ah (OA nb J.objs)with
  |none=>Yw
  |some (vs,yt)=>match Kv (find aA) J.objs yt with
   |none=>Yw
   |some (us,z8)=>bif yu (ek z8)&&Eg nb J.nxt z8&&Nat.ble (nb+J.objs.length) J.nxt&&yv aA (ek z8) frame then
     (match v7 J.rows (vs++us)with
     |some x=>some (x,z8,aA)
     |none=>Yw)else Yw
def nL:List (Nat×(Nat×Th))->Nat->Option Th
 |[],_=>Yw
 |(_,(s,t))::l,m=>bif WI s m then some t else nL l m
def I9:List (Nat×(Nat×Th))->Nat->Option Nat
 |[],_=>Yw
 |(j,(s,_))::l,m=>bif WI s m then some j else I9 l m
def qP(H:ai)(ob:Nat->Option (Nat×Th)):Option (Option Nat)->Nat->Prop
 |some (some o)=>match ob o with
  |some (s,_)=>H.sub s
  |none=>λ_=>False
 |_=>λ_=>False
def cU(H:ai)(nb:Nat)(bs:Bs)(cons:List (Nat×(Nat×Th)))(ob:Nat->Option (Nat×Th)):ai where
 val m:=if m<nb then H.val m else match find bs m with
  |some u=>valOf H u
  |none=>Yw
 con m:=if m<nb then H.con m else nL cons m
 sub m:=if m<nb then H.sub m else match I9 cons m with
  |some j=>qP H ob (find bs j)
  |none=>λ_=>False
section
variable {U:Nat->Prop} {H H':ai} {F:Nat->Prop} {w:World} {n:Nat} {ob:Nat->Option (Nat×Th)}
theorem Ab{j:Nat}{s:OS}{bs dE:Bs}{vs:List fL}(h:Ec ob j s bs=some (vs,dE)):v8 bs dE:=by
 unfold Ec at h;split at h
 .split at h
  case h_2=>cases h
  split at h
  .obtain⟨_,h'⟩:=ax h
   split at h'<;>cases h'
   exact λ_ _ h=>h
  .obtain⟨_,h'⟩:=ax h;exact qO h'
  .obtain⟨_,h'⟩:=ax h
   split at h'<;>cases h'
   exact λ_ _ h=>h
  .obtain⟨_,h'⟩:=ax h;cases h'
   exact λ_ _ h=>h
  .obtain⟨_,h'⟩:=ax h;cases h'
   exact λ_ _ h=>h
  .obtain⟨_,h'⟩:=ax h
   split at h'<;>cases h'
   rename_i tI;exact(fg tI).1
  .cases h
 .split at h<;>cases h
  .exact λ_ _ h=>h
  .exact λ_ _ h=>h
 .cases h
theorem uj:{l:List (Nat×OS)}->{bs dE:Bs}->{vs:List fL}->Kv ob l bs=some (vs,dE)->v8 bs dE
 |[],_,_,_,h=>by cases h;exact λ_ _ h=>h
 |(j,s)::l,bs,dE,vs,h=>by
  unfold Kv at h;split at h
  case h_2=>cases h
  rename_i h1;split at h
  case h_2=>cases h
  rename_i h2;cases h
  exact λj v hj=>uj h2 j v (Ab h1 j v hj)
def gw(H H':ai)(F:Nat->Prop)(w:World)(ob:Nat->Option (Nat×Th))(bs:Bs)(j:Nat)(t:Th):Prop:=
 ∃u v,find bs j=some u/\valOf H u=some v/\v.oneCell'=Yx/\t.base=t/\eC H' F w (qP H ob (find bs j)) v t/\∀k,fp (qP H ob (find bs j)) v t k->∃o s0 t0,u=some o/\ob o=some (s0,t0)/\H.val o=some v/\fp (H.sub s0) v t0 k
theorem G2(hs:ak U H F w ob n){j:Nat}{s:OS}{bs dE:Bs}{vs:List fL}(h:Ec ob j s bs=some (vs,dE))(hb:jL H H' dE)(rest:List fL):
 gw H H' F w ob bs j (bT s (vs++rest)).1/\(bT s (vs++rest)).2=rest:=by
 unfold Ec at h;split at h
 .rename_i o Kw;split at h
  case h_2=>cases h
  rename_i s0 t0 bH;obtain⟨v,hv,bF⟩:=hs.obj _ _ _ bH
  have dN:qP H ob (find bs j)=H.sub s0:=by rw[Kw];simp[qP,bH]
  have mk:∀t,t.base=t->eC H' F w (H.sub s0) v t->(∀k,fp (H.sub s0) v t k->fp (H.sub s0) v t0 k)->gw H H' F w ob bs j t:=by
   intro t hb iP hf;refine⟨some o,v,Kw,hv,bF.one,hb,by rw[dN];exact iP,λk hk=>?_⟩;rw[dN]at hk;exact⟨o,_,_,rfl,bH,hv,hf k hk⟩
  split at h
  .rename_i T r T' r' l;obtain⟨hT,h'⟩:=ax h;clear h
   split at h'<;>cases h'
   rename_i vy;obtain rfl:=Row.eq_of_beq vy;obtain rfl:=beq_true hT;refine⟨?_,rfl⟩
   show gw H H' F w ob bs j (bif r'.beq r' then Th.own T r' l else .own T r' [])
   rw[Row.beq_refl,cond_true]
   exact mk _ rfl bF.ok λk hk=>hk
  .rename_i T sh T' t;obtain⟨hT,h'⟩:=ax h;clear h;obtain rfl:=beq_true hT;obtain⟨b,es,e,h1,h2⟩:=bF.ok;obtain⟨k1,k2⟩:=ui hs h' h2 hb rest;exact⟨mk _ rfl ⟨b,es,e,h1,k1⟩ λk hk=>hk,k2⟩
  .rename_i T K agg V T' K' cV V' l;obtain⟨hT,h'⟩:=ax h;clear h
   split at h'<;>cases h'
   rename_i vy;obtain⟨Ja,ha⟩:=bC hT;clear hT
   have ha:agg=cV:=by cases agg<;>cases cV<;>simp_all
   subst ha;obtain⟨hK,hV⟩:=vy;obtain rfl:=Row.eq_of_beq hK;obtain rfl:=Row.eq_of_beq hV;obtain rfl:=beq_true Ja;refine⟨?_,rfl⟩
   show gw H H' F w ob bs j (if h:K'.beq K'=Yx/\V'.beq V'=Yx then Th.map T K' agg V' l else .map T K' agg V' [])
   rw[dif_pos ⟨Row.beq_refl _,Row.beq_refl _⟩];obtain⟨b,es,clock,e,h1,h2,h3⟩:=bF.ok
   exact mk _ rfl ⟨b,es,clock,e,h1,h2,h3.dR⟩ λk hk=>hk
  .rename_i T d T' d' l;obtain⟨hT,h'⟩:=ax h;clear h;obtain⟨Ja,hd⟩:=bC hT;obtain rfl:=DR.eq_of_beq hd;obtain rfl:=beq_true Ja;cases h';refine⟨?_,rfl⟩
   show gw H H' F w ob bs j (if h:d'.row.beq d'.row=Yx then Th.deep T d' l Yw else .deep T d' [] Yw)
   rw[dif_pos (Row.beq_refl _)]
   exact mk _ rfl bF.ok λk hk=>hk
  .rename_i T K agg V T' K' cV V' l it;obtain⟨hT,h'⟩:=ax h;clear h;obtain⟨hT,hd⟩:=bC hT;obtain⟨hT,rG⟩:=bC hT;obtain⟨Ja,ha⟩:=bC hT
   have ha:agg=cV:=by cases agg<;>cases cV<;>simp_all
   subst ha;obtain rfl:=Row.eq_of_beq hd;obtain rfl:=Row.eq_of_beq rG;obtain rfl:=beq_true Ja;cases h';refine⟨?_,rfl⟩
   show gw H H' F w ob bs j (Th.smap T K' agg V' ((k6 K' V' ⟨.slice (.pair K' V'),l⟩).getD []) Yw)
   rw[oF];obtain⟨b,es,clock,l',e,h0,h1,h2,h3,h4,_⟩:=bF.ok
   exact mk _ rfl ⟨b,es,clock,l',e,h0,h1,h2,h3.dR,h4,trivial⟩ λk hk=>hk
  .rename_i T K agg V nj T' K' cV V' l n' left cur;obtain⟨hT,h'⟩:=ax h;clear h;obtain⟨hT,hd⟩:=bC hT;obtain⟨hT,rG⟩:=bC hT;obtain⟨Ja,ha⟩:=bC hT
   have ha:agg=cV:=by cases agg<;>cases cV<;>simp_all
   subst ha;obtain rfl:=Row.eq_of_beq hd;obtain rfl:=Row.eq_of_beq rG;obtain rfl:=beq_true Ja
   split at h'<;>cases h'
   rename_i tI;refine⟨?_,rfl⟩
   show gw H H' F w ob bs j (Th.smap T K' agg V' ((k6 K' V' ⟨.slice (.pair K' V'),l⟩).getD []) (some (nj,(k6 K' V' ⟨.slice (.pair K' V'),left⟩).getD [],Yw)))
   rw[oF,oF];obtain⟨b,es,clock,l',e,h0,h1,h2,h3,h4,r,since,seen,last,i1,i2,i3,i4,i5,i6,i7,⟨l2,i8,i9⟩,_⟩:=bF.ok
   exact mk _ rfl ⟨b,es,clock,l',e,h0,h1,h2,h3.dR,h4,r,since,seen,last,i1,i2,hb _ _ (fg tI).2 _ i3,i4,i5,i6,i7,⟨l2,i8.dR,i9⟩,λp hp=>by cases hp⟩ λk hk=>hk
  .cases h
 .rename_i Kw
  split at h<;>cases h
  .rename_i T r;refine⟨?_,rfl⟩
   show gw H H' F w ob bs j (bif r.beq r then Th.own T r []else .own T r [])
   rw[Row.beq_refl,cond_true];refine⟨Yw,_,Kw,rfl,rfl,rfl,(e7.nil 0 F w T r).2,λk hk=>?_⟩;have gX:aN (.slice Yw 0 0) k:=hk;simp[aN,Xh]at gX
  .rename_i T d;refine⟨?_,rfl⟩
   show gw H H' F w ob bs j (if h:d.row.beq d.row=Yx then Th.deep T d [] Yw else .deep T d [] Yw)
   rw[dif_pos (Row.beq_refl _)]
   have dN:qP H ob (find bs j)=λ_=>False:=by rw[Kw];rfl
   refine⟨Yw,_,Kw,rfl,rfl,rfl,?_,λk hk=>?_⟩
   .rw[dN];exact⟨[],λ_ _=>False,gD.nil F w T d.low,rfl,λi h=>absurd h (by simp),⟨λk=>by simp[aN,Xh],λ_ _ _ h=>absurd h (by simp),λ_ _ h=>absurd h (by simp)⟩⟩
   .rw[dN]at hk;exact hk.elim
 .cases h
theorem we:{l:List (Nat×OS)}->{m k:Nat}->{vs:List fL}->m+l.length<=k->nL (ec m l vs) k=Yw
 |[],_,_,_,_=>rfl
 |(j,s)::l,m,k,vs,h=>by
  show(bif WI m k then _ else nL (ec (m+1) l _) k)=Yw
  rw[WX]at h
  have:WI m k=Yy:=by
   cases hb:WI m k with
   |false=>rfl
   |true=>have:=beq_true hb;omega
  rw[this,cond_false];exact we (by omega)
theorem Eh(hs:ak U H F w ob n):{l:List (Nat×OS)}->{bs dE:Bs}->{vs:List fL}->Kv ob l bs=some (vs,dE)->jL H H' dE->∀m,
 ∀j s t,find (ec m l vs) j=some (s,t)->m<=s/\s<m+l.length/\nL (ec m l vs) s=some t/\I9 (ec m l vs) s=some j/\gw H H' F w ob dE j t
 |[],_,_,_,h,_,m=>by cases h;intro j s t h;cases h
 |(j0,s0)::l,bs,dE,vs,h,hb,m=>by
  unfold Kv at h;split at h
  case h_2=>cases h
  rename_i Oz yt h1;split at h
  case h_2=>cases h
  rename_i us z8 h2;cases h
  have CX:jL H H' yt:=λj v hj=>hb j v (uj h2 j v hj)
  obtain⟨⟨u,v,g1,g2⟩,k2⟩:=G2 hs h1 CX us;intro j s t hf;unfold ec at hf⊢;rw[aw]at hf;rw[k2]at hf⊢;split at hf
  .rename_i e;subst e;simp only[WL,XF]at hf;obtain⟨rfl,rfl⟩:=hf;have e1:=uj h2 _ _ (Ab h1 _ _ g1);rw[g1]at g2;refine⟨WH _,by simp,?_,?_,u,v,e1,?_⟩
   .show(bif WI m m then _ else _)=_
    simp
   .show(bif WI m m then _ else _)=_
    simp
   .rw[e1];exact g2
  .obtain⟨a1,a2,a3,a4,a5⟩:=Eh hs h2 hb (m+1) j s t hf
   have:WI m s=Yy:=by
    cases hb:WI m s with
    |false=>rfl
    |true=>have:=beq_true hb;omega
   refine⟨by omega,by rw[WX];omega,?_,?_,a5⟩
   .show(bif WI m s then _ else _)=_
    rw[this,cond_false];exact a3
   .show(bif WI m s then _ else _)=_
    rw[this,cond_false];exact a4
theorem cJ{o:Nat}{l:List Nat}:iE o l=Yx↔o∈l:=any_beq
theorem fo:{bs:Bs}->{j o:Nat}->find bs j=some (some o)->o∈ek bs
 |[],_,_,h=>by cases h
 |(i,u)::bs,j,o,h=>by
  rw[aw]at h;split at h
  .obtain rfl:=WD h;exact Xx
  .have:=fo h
   cases u with
   |none=>exact this
   |some q=>exact Xk _ this
theorem oI:{bs:Bs}->yu (ek bs)=Yx->{j j' o:Nat}->find bs j=some (some o)->find bs j'=some (some o)->j=j'
 |[],_,_,_,_,h,_=>by cases h
 |(i,u)::bs,hn,j,j',o,h,h'=>by
  rw[aw]at h h'
  cases u with
  |none=>
   split at h
   .cases h
   .split at h'
    .cases h'
    .exact oI (bs:=bs) hn h h'
  |some q=>
   obtain⟨hq,Dw⟩:=bC hn
   have hq:q∉ek bs:=λe=>by rw[cJ.2 e]at hq;cases hq
   split at h
   .rename_i e1;obtain rfl:q=o:=WD (WD h);split at h'
    .rename_i e2;exact e1.symm.trans e2
    .exact absurd (fo h') hq
   .split at h'
    .obtain rfl:q=o:=WD (WD h');exact absurd (fo h) hq
    .exact oI Dw h h'
theorem qQ{nb nxt:Nat}:{bs:Bs}->Eg nb nxt bs=Yx->{j:Nat}->{u:Option Nat}->find bs j=some u->(j<nb->u=some j)/\(nb<=j->j<nxt)
 |[],_,_,_,h=>by cases h
 |(i,v)::bs,hk,j,u,h=>by
  obtain⟨h1,h2⟩:=bC hk;rw[aw]at h;split at h
  .rename_i e;subst e;obtain rfl:=WD h
   cases hb:Xt i nb with
   |true=>
    rw[hb,cond_true]at h1
    have:i<nb:=by simpa using hb
    exact⟨λ_=>sJ h1,λ_=>by omega⟩
   |false=>
    rw[hb,cond_false]at h1
    have hge:¬i<nb:=λe=>by have:Xt i nb=Yx:=by simpa using e
                           rw[hb]at this;cases this
    exact⟨λe=>absurd e hge,λ_=>by simpa using h1⟩
  .exact qQ h2 h
theorem sN{objs:List (Nat×(Nat×Th))}{wc:List Nat}:{fr:List (Nat×(Nat×Th))}->yv objs wc fr=Yx->{o s:Nat}->{t:Th}->find fr o=some (s,t)->
 o∉wc/\∃t',find objs o=some (s,t')/\cN t'=cN t
 |[],_,_,_,_,h=>by cases h
 |(i,(s0,t0))::fr,hf,o,s,t,h=>by
  obtain⟨h1,h2⟩:=bC hf;obtain⟨h1,h3⟩:=bC h1;rw[aw]at h;split at h
  .rename_i e;subst e;simp only[WL,XF]at h;obtain⟨rfl,rfl⟩:=h;split at h1
   .rename_i s' t' ho;obtain⟨h4,h5⟩:=bC h1;obtain rfl:=beq_true h4;refine⟨λe=>(by rw[cJ.2 e]at h3;cases h3),t',ho,?_⟩
    cases ha:cN t0<;>cases hb:cN t'<;>simp_all
   .cases h1
  .exact sN h2 h
theorem Ei{t t':Th}(h:t.base=t'.base)(hf:cN t=cN t'):t=t':=by
 cases t<;>cases t'<;>simp_all[Th.base,cN]
theorem qR{U':Nat->Prop}{H0:ai}{F0:Nat->Prop}{w0:World}{objs0:List (Nat×(Nat×Th))}{nb:Nat}{ns:List Nat}{J:JS}{ah:List (Nat×ag)}{objs aA:List (Nat×(Nat×Th))}{x:bZ J.rows}{bs:Bs}{ρ:Nat->Value}
 (h:sM nb (del ns objs0) J ah objs=some (x,bs,aA))(G3:ak U H0 F0 w0 (find objs0) nb)(Il:eF H0 nb)(hk:bx H0 F0 w0 H F w)(hs:ak U H F w (find objs) n)(eA:∀t d,find ah t=some d->af H F w d (ρ t)):
 ∃F1 H1,ak U H F1 w (find aA) n/\(∀b,F b->F1 b)/\(∀b,F1 b->F b\/bn H (find objs) (sL nb J ah objs) b)/\dw objs (sL nb J ah objs)=some aA/\H0.le H1/\jL H H1 bs/\eF H1 J.nxt/\
  (∀t d,find (bX J.ah (cm J.rows x)).1 t=some d->af H1 F1 w d (ρ t))/\
  ((∀b,w.heap.size<=b->U' b)->(∀o s t v k,o∈ek bs->find aA o=some (s,t)->H.val o=some v->fp (H.sub s) v t k->U' k)->(∀o s t v k,find (del ns objs0) o=some (s,t)->H.val o=some v->fp (H.sub s) v t k->U' k)->
    ak U' H1 F1 w (find (ec nb J.objs (bX J.ah (cm J.rows x)).2++del ns objs0)) J.nxt):=by
 unfold sM at h;split at h
 case h_1=>cases h
 rename_i OB rQ;split at h
 case h_1=>cases h
 rename_i vs yt hS;split at h
 case h_1=>cases h
 rename_i us z8 hO;obtain⟨hc,h'⟩:=ax h;clear h;split at h'
 case h_2=>cases h'
 rename_i x' hx;cases h';obtain⟨hc,Ih⟩:=bC hc;obtain⟨hc,GM⟩:=bC hc;obtain⟨rL,vo⟩:=bC hc
 have GM:nb+J.objs.length<=J.nxt:=by simpa using GM
 obtain⟨F1,oA,xO,Gi⟩:=jK rQ hs
 have dz:Step F w F1 w:=λb hb=>⟨xO b hb,rfl⟩
 have OC:∀t d,find ah t=some d->af H F1 w d (ρ t):=λt d hd=>(eA t d hd).keep (ai.le.refl H) dz
 rw[pe hx]
 have Ej:∃cons,cons=ec nb J.objs us:=⟨_,rfl⟩
 obtain⟨cons,wg⟩:=Ej
 have wh:H0.le (cU H nb bs cons (find aA)):=by
  have av:∀s t,H0.con s=some t->s<nb:=λs t dz=>by
   rcases Nat.lt_or_ge s nb with h|h
   .exact h
   .rw[(Il s h).2]at dz;cases dz
  refine⟨λo v ho=>?_,λs t dz=>?_,λs t dz=>?_⟩
  .have:o<nb:=by
    rcases Nat.lt_or_ge o nb with h|h
    .exact h
    .rw[(Il o h).1]at ho;cases ho
   simp[cU,this,hk.dR.val _ _ ho]
  .simp[cU,av s t dz,hk.dR.con _ _ dz]
  .simp[cU,av s t dz,hk.dR.sub _ _ dz]
 have oJ:jL H (cU H nb bs cons (find aA)) bs:=by
  intro j u hj v hv;obtain⟨a1,a2⟩:=qQ vo hj;by_cases av:j<nb
  .obtain rfl:=a1 av;simpa[cU,av,valOf]using hv
  .simpa[cU,av,hj]using hv
 have G4:jL H (cU H nb bs cons (find aA)) yt:=λj v hj=>oJ j v (uj hO j v hj)
 obtain⟨p1,p2⟩:=Ee oA OC hS G4 us
 have Ac:eF (cU H nb bs cons (find aA)) J.nxt:=λm hm=>by
  have Nh:¬m<nb:=by omega
  refine⟨?_,?_⟩
  .simp only[cU,YA Nh];split
   .rename_i u hu;have:=(qQ vo hu).2 (by omega);omega
   .rfl
  .simp only[cU,YA Nh,wg];exact we (by omega)
 refine⟨F1,cU H nb bs cons (find aA),oA,xO,Gi,rQ,wh,oJ,Ac,p1,λTi Tj Tk=>?_⟩;rw[p2,<-wg];have Lq:=Eh (H':=cU H nb bs cons (find aA)) oA hO oJ nb;rw[<-wg]at Lq
 have part:∀o s t,find (cons++del ns objs0) o=some (s,t)->find cons o=some (s,t)\/find (del ns objs0) o=some (s,t):=by
  intro o s t ho;rw[eD]at ho
  cases hm:find cons o with
  |some y=>rw[hm]at ho;exact .inl ho
  |none=>rw[hm,X3]at ho;exact .inr ho
 have tP:∀o s t,find (del ns objs0) o=some (s,t)->o∉ek bs/\find aA o=some (s,t)/\∃v,H.val o=some v/\(cU H nb bs cons (find aA)).val o=some v/\v.oneCell'=Yx/\(cU H nb bs cons (find aA)).con s=some t.base/\(cU H nb bs cons (find aA)).sub s=H.sub s/\eC (cU H nb bs cons (find aA)) F1 w (H.sub s) v t:=by
  intro o s t ho;obtain⟨q1,t',q2,q3⟩:=sN Ih ho;have Tl:=(eE.1 ho).2;obtain⟨v0,K5,yw⟩:=G3.obj _ _ _ Tl;obtain⟨v1,p3,kO⟩:=oA.obj _ _ _ q2;have e1:=hk.dR.val _ _ K5;rw[p3]at e1;obtain rfl:=WD e1;have e2:=hk.dR.con _ _ yw.con;rw[kO.con]at e2;have ht:=Ei (WD e2) q3;subst ht;refine⟨q1,q2,v1,p3,wh.val _ _ K5,kO.one,wh.con _ _ yw.con,(wh.sub _ _ yw.con).trans (hk.dR.sub _ _ yw.con).symm,?_⟩
  cases t' with
  |fdeep T d l=>exact kO.ok
  |deep T d l hh=>
   obtain⟨VW,_,_,e0,r0,_⟩:=yw.ok
   refine Ba.mono (show Ba F1 w T d.low _ v1 l (H.sub s)from kO.ok) (Step.refl F1 w) (λ_ _=>rfl) λi x' hi A hA hr=>?_
   cases hh with
   |none=>exact hr
   |some h=>
    refine⟨hr.1,λhh=>?_⟩;obtain⟨T',e,q,g1,g2,g3⟩:=hr.2 hh;obtain⟨_,_,q0,_,_,k3⟩:=(r0 i (by omega) hi).2 hh;have e3:=hk.dR.val _ _ k3;rw[g3]at e3;exact⟨T',e,q,g1,g2,by rw[WD e3];exact wh.val _ _ k3⟩
  |box T tr=>
   obtain⟨b,es,e,g1,g2⟩:=kO.ok;obtain⟨b',gB,e',NZ,Tm⟩:=yw.ok;exact⟨b,es,e,g1,Holds.back hk.dR wh Tm g2⟩
  |own T r l=>exact kO.ok
  |oh T r l=>exact kO.ok
  |fmap T K agg V l=>exact kO.ok
  |smap T K agg V l it=>
   obtain⟨b,es,clock,l',e,g0,g1,g2,g3,g4,g5⟩:=kO.ok;obtain⟨_,_,_,_,_,_,_,_,_,_,r5⟩:=yw.ok;refine⟨b,es,clock,l',e,g0,g1,g2,g3.dR,g4,g5.dR λn' x u e hu=>?_⟩;subst e;obtain⟨_,_,_,_,_,_,Na,_⟩:=r5;have e3:=hk.dR.val _ _ Na;rw[hu]at e3;rw[WD e3];exact wh.val _ _ Na
  |map T K agg V l=>
   obtain⟨b,es,clock,e,g1,g2,g3⟩:=kO.ok;exact⟨b,es,clock,e,g1,g2,g3.dR⟩
 have Lr:∀o s t,find cons o=some (s,t)->∃v,(cU H nb bs cons (find aA)).val o=some v/\v.oneCell'=Yx/\(cU H nb bs cons (find aA)).con s=some t.base/\eC (cU H nb bs cons (find aA)) F1 w ((cU H nb bs cons (find aA)).sub s) v t/\
  ∀k,fp ((cU H nb bs cons (find aA)).sub s) v t k->∃o' s0 t0,find bs o=some (some o')/\find aA o'=some (s0,t0)/\H.val o'=some v/\fp (H.sub s0) v t0 k:=by
  intro o s t ho;obtain⟨a1,a2,a3,a4,u,v,b1,b2,b3,b4,b5,b6⟩:=Lq o s t ho
  have dN:(cU H nb bs cons (find aA)).sub s=qP H (find aA) (find bs o):=by
   simp only[cU];rw[YA (by omega),a4]
  rw[dN];refine⟨v,oJ o u b1 v b2,b3,?_,b5,λk hk=>?_⟩
  .rw[b4];simp only[cU];rw[YA (by omega)];exact a3
  .obtain⟨o',s0,t0,c1,c2,c3,c4⟩:=b6 k hk;exact⟨o',s0,t0,by rw[b1,c1],c2,c3,c4⟩
 refine⟨λo s t ho=>?_,λo o' s s' t t' v v' bY ho fZ hv cM k hk gX=>?_,λm hm _=>Ac m hm,oA.lt,Ti,oA.gl⟩
 .rcases part o s t ho with h1|h1
  .obtain⟨v,a1,a2,a3,a4,a5⟩:=Lr o s t h1
   refine⟨v,a1,a2,a3,a4,λk hk hF=>?_,λk hk=>?_,λk hk=>?_⟩<;>obtain⟨o',s0,t0,b1,b2,b3,b4⟩:=a5 k hk<;>obtain⟨v',cM,bF⟩:=oA.obj _ _ _ b2
   all_goals
    rw[b3]at cM;obtain rfl:=WD cM
   .exact bF.no k b4 hF
   .exact bF.lt k b4
   .exact Tj _ _ _ _ _ (fo b1) b2 b3 b4
  .obtain⟨q1,q2,v,a1,a2,a3,a4,a6,a5⟩:=tP o s t h1;obtain⟨v',cM,bF⟩:=oA.obj _ _ _ q2;rw[a1]at cM;obtain rfl:=WD cM;exact⟨v,a2,a3,a4,by rw[a6];exact a5,by rw[a6];exact bF.no,by rw[a6];exact bF.lt,λk hk=>Tk _ _ _ _ _ h1 a1 (by rwa [a6]at hk)⟩
 .rcases part o s t ho with h1|h1<;>rcases part o' s' t' fZ with h2|h2
  .obtain⟨u,a1,_,_,_,a5⟩:=Lr o s t h1;obtain⟨u',c1,_,_,_,c5⟩:=Lr o' s' t' h2;rw[hv]at a1;rw[cM]at c1;obtain rfl:=WD a1;obtain rfl:=WD c1;obtain⟨p,s0,t0,d1,d2,d3,d4⟩:=a5 k hk;obtain⟨p',VX,VY,e1,e2,e3,e4⟩:=c5 k gX;refine oA.apart p p' _ _ _ _ _ _ (λe=>bY ?_) d2 e2 d3 e3 k d4 e4;subst e;exact oI rL d1 e1
  .obtain⟨u,a1,_,_,_,a5⟩:=Lr o s t h1;obtain⟨q1,q2,u',c1,c2,_,_,c6,_⟩:=tP o' s' t' h2;rw[c6]at gX;rw[hv]at a1;rw[cM]at c2;obtain rfl:=WD a1;obtain rfl:=WD c2;obtain⟨p,s0,t0,d1,d2,d3,d4⟩:=a5 k hk;exact oA.apart p o' _ _ _ _ _ _ (λe=>q1 (e▸fo d1)) d2 q2 d3 c1 k d4 gX
  .obtain⟨u,a1,_,_,_,a5⟩:=Lr o' s' t' h2;obtain⟨q1,q2,u',c1,c2,_,_,c6,_⟩:=tP o s t h1;rw[c6]at hk;rw[cM]at a1;rw[hv]at c2;obtain rfl:=WD a1;obtain rfl:=WD c2;obtain⟨p,s0,t0,d1,d2,d3,d4⟩:=a5 k gX;exact oA.apart o p _ _ _ _ _ _ (λe=>q1 (e▸fo d1)) q2 d2 c1 d3 k hk d4
  .obtain⟨q1,q2,u,c1,c2,_,_,c6,_⟩:=tP o s t h1;obtain⟨VZ,Tn,u',Nu,Ls,_,_,To,_⟩:=tP o' s' t' h2;rw[c6]at hk;rw[To]at gX;rw[hv]at c2;rw[cM]at Ls;obtain rfl:=WD c2;obtain rfl:=WD Ls;exact oA.apart o o' _ _ _ _ _ _ bY q2 Tn c1 Nu k hk gX
end
end Go.Proofs.YtbladfbbhijpmaaGreat
end
namespace Go.Proofs.YtbladfbbhijpmaaGreat
open Go Go.RowKit
set_option maxRecDepth 100000
set_option linter.unusedSimpArgs false
set_option linter.unusedVariables false
set_option linter.defProp false
section
structure nq where
 inn:JS
 out:JS
 fn:bZ inn.rows->Option (bZ out.rows)
def rR:List Value->Value
 |[v]=>v
 |vs=> .tuple vs.toArray
structure fK(P:Program)(f:FuncId)(sg:nq):Prop where
 fn:∃fn,P.funcs[f]? =some fn/\(fn.name== "runtime.NumGoroutine")=Yy/\fn.body.isNone=Yy
 ok:∀x y,sg.fn x=some y->∀(args:List Value)(w:World)(H:ai)(F G:Nat->Prop),args.length=sg.inn.ah.length->
  (∀t d,find (bX sg.inn.ah (cm _ x)).1 t=some d->af H F w d (args.getD t undef))->
  ak (λk=>w.heap.size<=k\/G k) H F w (find (ec 0 sg.inn.objs (bX sg.inn.ah (cm _ x)).2)) sg.inn.nxt->eF H sg.inn.nxt->(∀k,G k->¬F k)->
  Calls P f args.toArray w λe w'=>∃vs,e= .returned (rR vs)/\vs.length=sg.out.ah.length/\∃H' F',Ext G w w'/\H.le H'/\(∀b,F b->F' b)/\(∀b,F' b->F b\/w.heap.size<=b\/G b)/\
   (∀t d,find (bX sg.out.ah (cm _ y)).1 t=some d->af H' F' w' d (vs.getD t undef))/\
   ak (λk=>w.heap.size<=k\/G k) H' F' w' (find (ec sg.inn.nxt sg.out.objs (bX sg.out.ah (cm _ y)).2)) sg.out.nxt/\eF H' sg.out.nxt
def Sh.mw(φ:Nat->Nat):Sh->Sh
 | .leaf r=> .leaf r
 | .own j=> .own (φ j)
 | .nil=> .nil
 | .pair a b=> .pair (a.mw φ) (b.mw φ)
 | .junk n=> .junk n
def SS.mw(φ:Nat->Nat):SS->SS
 | .val agg t=> .val agg (t.mw φ)
 | .ptr j p off=> .ptr (φ j) p off
 | .at r=> .at r
 | .undef=> .undef
 | .fn f js=> .fn f (js.map λc=>(φ c.1,c.2))
 | .ifc T s=> .ifc T (s.mw φ)
def OS.mw(φ:Nat->Nat):OS->OS
 | .box T t=> .box T (t.mw φ)
 | .own T r=> .own T r
 | .map T K agg V=> .map T K agg V
 | .deep T d=> .deep T d
 | .smap T K agg V it=> .smap T K agg V (it.map φ)
def nM(φ:Nat->Nat):List (Nat×SS)->List (Nat×SS)
 |[]=>[]
 |(t,s)::l=>(t,s.mw φ)::nM φ l
def wi(φ:Nat->Nat):List (Nat×OS)->List (Nat×OS)
 |[]=>[]
 |(j,s)::l=>(φ j,s.mw φ)::wi φ l
def Row.wj:Row->Bool
 | .slice _=>Yy
 | .map .. =>Yy
 | .pair a b=>a.wj&&b.wj
 |_=>Yx
def DR.fc(p:Row->Bool):DR->Bool
 | .leaf r=>p r
 | .sl _ d=>d.fc p
 | .pair a b=>a.fc p&&b.fc p
def Sh.fc(p:Row->Bool):Sh->Bool
 | .leaf r=>p r
 | .pair a b=>a.fc p&&b.fc p
 |_=>Yx
def SS.fc(p:Row->Bool):SS->Bool
 | .val _ t=>t.fc p
 | .at r=>p (.slice r)
 | .ifc _ s=>s.fc p
 |_=>Yx
def OS.fc(p:Row->Bool):OS->Bool
 | .box _ t=>t.fc p
 | .own _ r=>p r
 | .map _ _ _ V=>p V
 | .deep _ d=>d.fc p
 | .smap _ _ _ V _=>p V
def mS(p:Row->Bool):List (Nat×SS)->Bool
 |[]=>Yx
 |(_,s)::l=>s.fc p&&mS p l
def sO(p:Row->Bool):List (Nat×OS)->Bool
 |[]=>Yx
 |(_,s)::l=>s.fc p&&sO p l
section
variable {H H':ai} {F F':Nat->Prop} {w w':World} {φ:Nat->Nat} {p:Row->Bool}
theorem bD.yx:{r:Row}->{cs:List Value}->{x:r.den}->r.wj=Yx->bD F w r cs x->bD F' w' r cs x
 | .int _,_,_,_,h=>h
 | .bool,_,_,_,h=>h
 | .str,_,_,_,h=>h
 | .gP,_,_,_,h=>h
 | .nul _,_,_,_,h=>h
 | .map ..,_,_,hf,_=>by cases hf
 | .slice _,_,_,hf,_=>by cases hf
 | .pair a b,_,_,hf,h=>by
   obtain⟨c1,c2,e,h1,h2⟩:=h;obtain⟨f1,f2⟩:=bC hf;exact⟨c1,c2,e,bD.yx f1 h1,bD.yx f2 h2⟩
def Ren(H H':ai)(φ:Nat->Nat):Prop:=∀j v,H.val j=some v->H'.val (φ j)=some v
def pf(p:Row->Bool)(F F':Nat->Prop)(w:World):Prop:=∀r,p r=Yx->∀cs x,bD F w r cs x->bD F' w r cs x
theorem k7:(sh:Sh)->(vs:List fL)->(kQ (sh.mw φ) vs).2=(kQ sh vs).2
 | .leaf r,[]=>rfl
 | .leaf r,_::_=>rfl
 | .own j,vs=>rfl
 | .nil,vs=>rfl
 | .pair a b,vs=>by
   show(kQ (b.mw φ) (kQ (a.mw φ) vs).2).2=_
   rw[k7 a,k7 b];rfl
 | .junk _,_=>rfl
theorem sP(s:SS)(vs:List fL):(cW (s.mw φ) vs).2=(cW s vs).2:=by
 induction s with
 |ifc T s ih=>exact ih
 |val agg t=>exact k7 t vs
 |ptr j p off=>rfl
 |«at» r=>cases vs<;>rfl
 |undef=>rfl
 |fn f js=>rfl
theorem sQ(s:OS)(vs:List fL):(bT (s.mw φ) vs).2=(bT s vs).2:=by
 cases s with
 |box T t=>exact k7 t vs
 |own T r=>rfl
 |map T K agg V=>rfl
 |deep T d=>rfl
 |smap T K agg V it=>
  cases it with
  |none=>cases vs<;>rfl
  |some n=>match vs with
   |[]=>rfl
   |[_]=>rfl
   |_::_::_=>rfl
theorem wk:(l:List (Nat×SS))->(vs:List fL)->(bX (nM φ l) vs).2=(bX l vs).2
 |[],_=>rfl
 |(t,s)::l,vs=>by
  show(bX (nM φ l) (cW (s.mw φ) vs).2).2=(bX l (cW s vs).2).2
  rw[sP,wk l]
theorem nN(hr:Ren H H' φ)(hm:pf p F F' w):{sh:Sh}->{vs:List fL}->{cs:List Value}->sh.fc p=Yx->Holds H F w (kQ sh vs).1 cs->Holds H' F' w (kQ (sh.mw φ) vs).1 cs
 | .leaf r,[],cs,_,h=>h
 | .leaf r,⟨s,x⟩::vs,cs,hp,h=>by
   have h':Holds H F w (bif s.beq r then Tree.leaf s x else .nil) cs:=h
   show Holds H' F' w (bif s.beq r then Tree.leaf s x else .nil) cs
   cases hb:s.beq r with
   |true=>
    rw[hb,cond_true]at h';obtain rfl:=Row.eq_of_beq hb;exact hm _ hp _ _ h'
   |false=>rw[hb]at h';exact h'
 | .own j,vs,cs,_,h=>by obtain⟨v,h1,h2⟩:=h;exact⟨v,hr j v h1,h2⟩
 | .nil,vs,cs,_,h=>h
 | .pair a b,vs,cs,hp,h=>by
   obtain⟨c1,c2,e,h1,h2⟩:=h;obtain⟨p1,p2⟩:=bC hp;refine⟨c1,c2,e,nN hr hm p1 h1,?_⟩;rw[k7 a];exact nN hr hm p2 h2
 | .junk _,vs,cs,_,h=>h
theorem gf.mw(hr:Ren H H' φ):{cs:List (Nat×List Bool×Nat)}->{vs:List Value}->gf H cs vs->gf H' (cs.map λc=>(φ c.1,c.2)) vs
 |[],_,h=>h
 |_::_,_,h=>by obtain⟨v,us,e,⟨b,h1,h2⟩,h3⟩:=h;exact⟨v,us,e,⟨b,hr _ _ h1,h2⟩,gf.mw hr h3⟩
theorem BM(hr:Ren H H' φ)(hm:pf p F F' w){s:SS}{vs:List fL}{v:Value}(hp:s.fc p=Yx)(h:af H F w (cW s vs).1 v):af H' F' w (cW (s.mw φ) vs).1 v:=by
 induction s generalizing v with
 |ifc T s ih=>
  obtain⟨u,e,h2⟩:=h;exact⟨u,e,ih hp h2⟩
 |val agg t=>
  obtain⟨cs,h1,h2⟩:=h;exact⟨cs,nN hr hm hp h1,h2⟩
 |ptr j p off=>
  obtain⟨b,h1,h2⟩:=h;exact⟨b,hr _ _ h1,h2⟩
 |«at» r=>
  match vs,h with
  |[],h=>exact h
  |⟨s,x⟩::vs,h=>
   have h':af H F w (bif s.beq r then ag.at s x else .dead) v:=h
   show af H' F' w (bif s.beq r then ag.at s x else .dead) v
   cases hb:s.beq r with
   |false=>trivial
   |true=>
    rw[hb,cond_true]at h';obtain rfl:=Row.eq_of_beq hb;obtain⟨b,off,rfl,hF,es,h1,h2,h3⟩:=h'
    have eA:bD F w (.slice s) [.slice (some ⟨b,off,Yw⟩) 1 1] [x]:=⟨some ⟨b,off,Yw⟩,1,rfl,WH _,by unfold maxLen;omega,λi hi=>by
     have e:i=0:=by simp at hi;omega
     subst e
     exact⟨b,off,es,rfl,hF,h1,λj u hu=>by rw[Nat.zero_mul,XL];exact h2 j u hu,h3⟩⟩
    obtain⟨A,cap,e1,_,_,pD⟩:=hm (.slice s) hp _ _ eA;obtain⟨b',cC,gB,hA,g1,g2,g3,g4⟩:=pD 0 (by simp);simp only[XT,X2,and_true]at e1;obtain⟨e1,_,_⟩:=e1;rw[<-e1]at hA;simp only[WL,X8,and_true]at hA;obtain⟨rfl,rfl⟩:=hA;exact⟨b,off,rfl,g1,gB,g2,λj u hu=>by have:=g3 j u hu;rwa [Nat.zero_mul,XL]at this,g4⟩
 |undef=>exact h
 |fn f js=>
  obtain⟨us,h1,h2⟩:=h;exact⟨us,h1,h2.mw hr⟩
theorem dA.kG{K:Row}{agg:Bool}{V:Row}(hm:∀cs x,bD F w V cs x->bD F' w' V cs x):{es:List MapEntry}->{l:List (K.den×V.den)}->dA H F w K agg V es l->dA H' F' w' K agg V es l
 |[],_,h=>h
 |_::_,_,h=>by
  obtain⟨k,x,l',e,h1,⟨cs,h2,rH⟩,h3⟩:=h;exact⟨k,x,l',e,h1,⟨cs,hm _ _ h2,rH⟩,dA.kG hm h3⟩
theorem bD.qS(hm:pf p F F' w):{d:DR}->{cs:List Value}->{x:d.low.den}->d.fc p=Yx->bD F w d.low cs x->bD F' w d.low cs x
 | .leaf r,_,_,hp,h=>hm r hp _ _ h
 | .sl _ _,_,_,_,h=>h
 | .pair a b,_,_,hp,h=>by
   obtain⟨p1,p2⟩:=bC hp;obtain⟨c1,c2,e,h1,h2⟩:=h;exact⟨c1,c2,e,bD.qS hm p1 h1,bD.qS hm p2 h2⟩
theorem gD.kG(hm:pf p F F' w){d:DR}(hp:d.fc p=Yx){T:TypeId}{v:Value}{l:List d.low.den}(h:gD F w T d.low v l):gD F' w T d.low v l:=by
 obtain⟨xs,h1,h2⟩:=h;exact⟨xs,h1,λi hi=>bD.qS hm hp (h2 i hi)⟩
theorem fI.kG(hm:pf p F F' w):{d:DR}->{x':d.low.den}->{x:d.row.den}->{S:Nat->Prop}->d.fc p=Yx->fI F w d x' x S->fI F' w d x' x S
 | .leaf _,_,_,_,_,h=>h
 | .sl _ d,_,_,_,hp,h=>by
   obtain⟨lh,Ss,h1,h2,h3,h4⟩:=h;exact⟨lh,Ss,h1.kG hm (show d.fc p=Yx from hp),h2,λi a b=>fI.kG hm (show d.fc p=Yx from hp) (h3 i a b),h4⟩
 | .pair a b,_,_,_,hp,h=>by
   obtain⟨p1,p2⟩:=bC hp;obtain⟨A,B,h1,h2,h3⟩:=h;exact⟨A,B,fI.kG hm p1 h1,fI.kG hm p2 h2,h3⟩
theorem yy(T:TypeId)(d:DR):(vs:List fL)->∃l,(bT (.deep T d) vs).1= .deep T d l Yw
 |[]=>⟨[],rfl⟩
 |⟨.slice s,l⟩::vs=>by
  unfold bT;simp only
  split<;>exact⟨_,rfl⟩
 |⟨.int _,_⟩::_|⟨.bool,_⟩::_|⟨.str,_⟩::_|⟨.gP,_⟩::_|⟨.nul _,_⟩::_|⟨.pair _ _,_⟩::_|⟨.map ..,_⟩::_=>⟨[],rfl⟩
theorem BN(T:TypeId)(K:Row)(agg:Bool)(V:Row):(vs:List fL)->∃l,(bT (.map T K agg V) vs).1= .map T K agg V l
 |[]=>⟨[],rfl⟩
 |⟨.slice (.pair K' V'),l⟩::vs=>by
  unfold bT;simp only
  split<;>exact⟨_,rfl⟩
 |⟨.slice (.int _),_⟩::_|⟨.slice .bool,_⟩::_|⟨.slice .str,_⟩::_|⟨.slice (.slice _),_⟩::_|⟨.slice .gP,_⟩::_|⟨.slice (.nul _),_⟩::_|⟨.slice (.map ..),_⟩::_=>⟨[],rfl⟩
 |⟨.int _,_⟩::_|⟨.bool,_⟩::_|⟨.str,_⟩::_|⟨.gP,_⟩::_|⟨.nul _,_⟩::_|⟨.pair _ _,_⟩::_|⟨.map ..,_⟩::_=>⟨[],rfl⟩
theorem oK(hr:Ren H H' φ)(hm:pf p F F' w){s:OS}{vs:List fL}{S:Nat->Prop}{v:Value}(hp:s.fc p=Yx)(h:eC H F w S v (bT s vs).1):
 eC H' F' w S v (bT (s.mw φ) vs).1/\(bT (s.mw φ) vs).1.base=(bT (s.mw φ) vs).1/\(∀k,fp S v (bT (s.mw φ) vs).1 k->fp S v (bT s vs).1 k):=by
 have own:∀(T:TypeId)(q:Row)(l:List q.den),p q=Yx->eC H F w S v (.own T q l)->eC H' F' w S v (.own T q l):=λT q l hq ⟨xs,hx,h3⟩=>⟨xs,hx,λi hi=>hm q hq _ _ (h3 i hi)⟩
 cases s with
 |box T t=>
  obtain⟨b,es,e,h1,h2⟩:=h;exact⟨⟨b,es,e,h1,nN hr hm hp h2⟩,rfl,λk hk=>hk⟩
 |own T r=>
  match vs,h with
  |[],h=>exact⟨own T r [] hp h,rfl,λ_ h=>h⟩
  |⟨.slice s,l⟩::vs,h=>
   have h':eC H F w S v (bif s.beq r then Th.own T s l else .own T r []):=h
   show eC H' F' w S v (bif s.beq r then Th.own T s l else .own T r [])/\Th.base (bif s.beq r then Th.own T s l else .own T r [])=(bif s.beq r then Th.own T s l else .own T r [])/\∀k,fp S v (bif s.beq r then Th.own T s l else .own T r []) k->fp S v (bif s.beq r then Th.own T s l else .own T r []) k
   cases hb:s.beq r with
   |true=>
    rw[hb,cond_true]at h';obtain rfl:=Row.eq_of_beq hb;exact⟨own T s l hp h',rfl,λ_ h=>h⟩
   |false=>
    rw[hb,cond_false]at h';exact⟨own T r [] hp h',rfl,λ_ h=>h⟩
  |⟨.int _,_⟩::vs,h=>exact⟨own T r [] hp h,rfl,λ_ h=>h⟩
  |⟨.bool,_⟩::vs,h=>exact⟨own T r [] hp h,rfl,λ_ h=>h⟩
  |⟨.str,_⟩::vs,h=>exact⟨own T r [] hp h,rfl,λ_ h=>h⟩
  |⟨.gP,_⟩::vs,h=>exact⟨own T r [] hp h,rfl,λ_ h=>h⟩
  |⟨.nul _,_⟩::vs,h=>exact⟨own T r [] hp h,rfl,λ_ h=>h⟩
  |⟨.map ..,_⟩::vs,h=>exact⟨own T r [] hp h,rfl,λ_ h=>h⟩
  |⟨.pair _ _,_⟩::vs,h=>exact⟨own T r [] hp h,rfl,λ_ h=>h⟩
 |map T K agg V=>
  have gen:∀l:List (K.den×V.den),eC H F w S v (.map T K agg V l)->eC H' F' w S v (.map T K agg V l):=by
   rintro l ⟨b,es,clock,e,h1,h2,h3⟩
   exact⟨b,es,clock,e,h1,h2,dA.kG (λcs x hr=>hm V hp cs x hr) h3⟩
  obtain⟨l,hl⟩:=BN T K agg V vs
  show eC H' F' w S v (bT (OS.map T K agg V) vs).1/\(bT (OS.map T K agg V) vs).1.base=(bT (OS.map T K agg V) vs).1/\∀k,fp S v (bT (OS.map T K agg V) vs).1 k->fp S v (bT (OS.map T K agg V) vs).1 k
  rw[hl]at h⊢;exact⟨gen l h,rfl,λ_ h=>h⟩
 |deep T d=>
  obtain⟨l,hl⟩:=yy T d vs
  show eC H' F' w S v (bT (OS.deep T d) vs).1/\(bT (OS.deep T d) vs).1.base=(bT (OS.deep T d) vs).1/\∀k,fp S v (bT (OS.deep T d) vs).1 k->fp S v (bT (OS.deep T d) vs).1 k
  rw[hl]at h⊢;refine⟨?_,rfl,λ_ h=>h⟩;have h':fI F w (.sl T d) v l S:=h;exact(fI.kG (d:= .sl T d) hm hp h':fI F' w (.sl T d) v l S)
 |smap T K agg V it=>
  have gen:∀(l:List (K.den×V.den)),eC H F w S v (.smap T K agg V l Yw)->eC H' F' w S v (.smap T K agg V l Yw):=by
   rintro l ⟨b,es,clock,l',e,h0,h1,h2,h3,h4,_⟩
   exact⟨b,es,clock,l',e,h0,h1,h2,dA.kG (λcs x hr=>hm V hp cs x hr) h3,h4,trivial⟩
  have OD:∀(n:Nat)(l left:List (K.den×V.den)),eC H F w S v (.smap T K agg V l (some (n,left,Yw)))->eC H' F' w S v (.smap T K agg V l (some (φ n,left,Yw))):=by
   rintro n l left ⟨b,es,clock,l',e,h0,h1,h2,h3,h4,r,since,seen,last,i1,i2,i3,i4,i5,i6,i7,⟨l2,i8,i9⟩,_⟩
   exact⟨b,es,clock,l',e,h0,h1,h2,dA.kG (λcs x hr=>hm V hp cs x hr) h3,h4,r,since,seen,last,i1,i2,hr _ _ i3,i4,i5,i6,i7,⟨l2,dA.kG (λcs x hr=>hm V hp cs x hr) i8,i9⟩,λp hp=>by cases hp⟩
  cases it with
  |none=>
   match vs,h with
   |[],h=>exact⟨gen _ h,rfl,λ_ h=>h⟩
   |_::_,h=>exact⟨gen _ h,rfl,λ_ h=>h⟩
  |some n=>
   match vs,h with
   |[],h=>exact⟨gen _ h,rfl,λ_ h=>h⟩
   |[_],h=>exact⟨gen _ h,rfl,λ_ h=>h⟩
   |_::_::_,h=>exact⟨OD _ _ _ h,rfl,λ_ h=>h⟩
theorem sR:{l:List (Nat×SS)}->{vs:List fL}->{t:Nat}->{d:ag}->mS p l=Yx->find (bX (nM φ l) vs).1 t=some d->∃s us,d=(cW (s.mw φ) us).1/\find (bX l vs).1 t=some (cW s us).1/\s.fc p=Yx
 |[],_,_,_,_,h=>by cases h
 |(t0,s)::l,vs,t,d,hp,h=>by
  obtain⟨p1,p2⟩:=bC hp;have h':find ((t0,(cW (s.mw φ) vs).1)::(bX (nM φ l) (cW (s.mw φ) vs).2).1) t=some d:=h
  show∃s' us,d=_/\find ((t0,(cW s vs).1)::(bX l (cW s vs).2).1) t=_/\_
  rw[aw]at h';by_cases e:t0=t
  .rw[YB e]at h';exact⟨s,vs,(WD h').symm,by rw[aw,YB e],p1⟩
  .rw[YA e]at h';rw[sP]at h';obtain⟨s',us,a1,a2,a3⟩:=sR p2 h';exact⟨s',us,a1,by rw[aw,YA e];exact a2,a3⟩
theorem Ek(hr:Ren H H' φ)(hm:pf p F F' w){ρ:Nat->Value}{l:List (Nat×SS)}{vs:List fL}(hp:mS p l=Yx)(h:∀t d,find (bX l vs).1 t=some d->af H F w d (ρ t)):∀t d,find (bX (nM φ l) vs).1 t=some d->af H' F' w d (ρ t):=by
 intro t d hf;obtain⟨s,us,rfl,h2,h3⟩:=sR hp hf;exact BM hr hm h3 (h t _ h2)
theorem wm{m m':Nat}:{l:List (Nat×OS)}->{vs:List fL}->{o s:Nat}->{t:Th}->find (ec m (wi φ l) vs) o=some (s,t)->∃j s' us sh,φ j=o/\t=(bT (sh.mw φ) us).1/\find (ec m' l vs) j=some (s',(bT sh us).1)/\(sO p l=Yx->sh.fc p=Yx)/\nL (ec m (wi φ l) vs) s=some t/\m<=s/\s<m+l.length/\s'=s-m+m'
 |[],_,_,_,_,h=>by cases h
 |(j,sh)::l,vs,o,s,t,h=>by
  have h':find ((φ j,(m,(bT (sh.mw φ) vs).1))::ec (m+1) (wi φ l) (bT (sh.mw φ) vs).2) o=some (s,t):=h;rw[aw]at h';split at h'
  .rename_i e;simp only[WL,XF]at h';obtain⟨rfl,rfl⟩:=h';refine⟨j,m',vs,sh,e,rfl,?_,λhp=>(bC hp).1,?_,WH _,by simp,by omega⟩
   .show find ((j,(m',(bT sh vs).1))::_) j=_
    rw[aw,YB rfl]
   .show(bif WI m m then _ else _)=_
    simp
  .rename_i e;rw[sQ]at h';obtain⟨j',s',us,Rs,a1,a2,a3,a4,a5,a6,a7,a8⟩:=wm (m':=m'+1) h';refine⟨j',s',us,Rs,a1,a2,?_,λhp=>a4 (bC hp).2,?_,by omega,by rw[WX];omega,by omega⟩
   .show find ((j,(m',(bT sh vs).1))::ec (m'+1) l (bT sh vs).2) j'=_
    rw[aw,YA (λe'=>e (by rw[e',a1]))];exact a3
   .show(bif WI m s then _ else nL (ec (m+1) (wi φ l) (bT (sh.mw φ) vs).2) s)=_
    have:WI m s=Yy:=by
     cases hb:WI m s with
     |false=>rfl
     |true=>have:=beq_true hb;omega
    rw[this,cond_false,sQ];exact a5
def yz:List (Nat×ag)->Option (List (Bool×Tree))
 |[]=>some []
 |(_, .val a t)::l=>match yz l with
  |some ds=>some ((a,t)::ds)
  |none=>Yw
 |_::_=>Yw
def El:List (Nat×ag)->Option ag
 |[]=>some .dead
 |[(_,d)]=>some d
 |l=>match yz l with
  |some ds=>some (.tup ds)
  |none=>Yw
def oL:Nat->List (Nat×SS)->Bool
 |_,[]=>Yx
 |k,(t,_)::l=>WI t k&&oL (k+1) l
theorem Ad:{l:List (Nat×SS)}->{vs:List fL}->{k t:Nat}->{d:ag}->oL k l=Yx->find (bX l vs).1 t=some d->k<=t
 |[],_,_,_,_,_,h=>by cases h
 |(t0,s)::l,vs,k,t,d,hi,h=>by
  obtain⟨h1,h2⟩:=bC hi;have h':find ((t0,(cW s vs).1)::(bX l (cW s vs).2).1) t=some d:=h;rw[aw]at h';have:=beq_true h1;split at h'
  .omega
  .have:=Ad h2 h';omega
theorem Em{f:Nat->Value}:{l:List (Nat×SS)}->{vs:List fL}->{k:Nat}->{ds:List (Bool×Tree)}->oL k l=Yx->(∀t d,find (bX l vs).1 t=some d->af H F w d (f t))->yz (bX l vs).1=some ds->nA H F w ds ((List.range' k l.length).map f)
 |[],_,_,_,_,_,h=>by cases h;rfl
 |(t0,s)::l,vs,k,ds,hi,iP,h=>by
  obtain⟨h1,h2⟩:=bC hi;obtain rfl:=beq_true h1;have h':yz ((t0,(cW s vs).1)::(bX l (cW s vs).2).1)=some ds:=h;have Lt:∀t d,find ((t0,(cW s vs).1)::(bX l (cW s vs).2).1) t=some d->af H F w d (f t):=iP;have h0:=Lt t0 _ (by rw[aw,YB rfl]);generalize(cW s vs).1=d0 at*
  cases d0<;>unfold yz at h'<;>try cases h'
  rename_i a t
  split at h'<;>cases h'
  rename_i Nj p4;refine⟨f t0,(List.range' (t0+1) l.length).map f,by simp[List.range'_succ],h0,Em h2 (λt d hf=>Lt t d ?_) p4⟩;have:=Ad h2 hf;rw[aw,YA (by omega)];exact hf
theorem wo:{l:List (Nat×SS)}->{k:Nat}->oL k (nM φ l)=oL k l
 |[],_=>rfl
 |(t,s)::l,k=>by
  show(WI t k&&oL (k+1) (nM φ l))=_
  rw[wo];rfl
theorem pg:{l:List (Nat×SS)}->(nM φ l).length=l.length
 |[]=>rfl
 |(t,s)::l=>by
  show(nM φ l).length+1=l.length+1
  rw[pg]
theorem yA(us:List Value):(List.range' 0 us.length).map (λt=>us.getD t undef)=us:=by
 apply List.ext_getElem (by simp);intro i h1 h2;simp[List.getD,h2]
theorem Jb{l:List (Nat×SS)}{vs:List fL}{us:List Value}{D:ag}(hi:oL 0 l=Yx)(hl:us.length=l.length)(iP:∀t d,find (bX l vs).1 t=some d->af H F w d (us.getD t undef))(h:El (bX l vs).1=some D):af H F w D (rR us):=by
 have tup:∀ds,yz (bX l vs).1=some ds->us.length≠1->af H F w (.tup ds) (rR us):=by
  intro ds p4 bY;have:=Em hi iP p4;rw[<-hl,yA]at this;refine⟨us,?_,this⟩
  match us,bY with
  |[],_=>rfl
  |[_],h=>exact absurd rfl h
  |_::_::_,_=>rfl
 match l,hl,h with
 |[],_,h=>obtain rfl:=WD h;trivial
 |[(t,s)],hl,h=>
  have h':El [(t,(cW s vs).1)]=some D:=h;obtain rfl:=WD h';have ht:=beq_true (bC hi).1
  match us,hl with
  |[u],_=>
   have:=iP t (cW s vs).1 (by
    show find [(t,(cW s vs).1)] t=_
    rw[aw,YB rfl])
   rw[ht]at this;exact this
 |(t,s)::(t',s')::l,hl,h=>
  have h':(match yz (bX ((t,s)::(t',s')::l) vs).1 with|some ds=>some (ag.tup ds)|none=>Yw)=some D:=h;split at h'
  .rename_i ds p4;obtain rfl:=WD h';exact tup ds p4 (by simp at hl;omega)
  .cases h'
end
end
end Go.Proofs.YtbladfbbhijpmaaGreat
