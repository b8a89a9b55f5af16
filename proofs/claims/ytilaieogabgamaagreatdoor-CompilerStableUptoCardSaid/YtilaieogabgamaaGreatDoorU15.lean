/- Joined texts: RZ CC CX. -/
import Derived.Test.YtilaieogabgamaaGreatDoorU14
import Derived.Test.YtilaieogabgamaaGreatDoorU13
section
open _root_.Classical renaming byContradiction->aky
open _root_.Int renaming eq_ofNat_of_zero_le->ajm,le_refl->aki,toNat_natCast->aja,toNat_of_nonneg->akg
open _root_.Go.IntKind renaming i64->ai3
open _root_.List renaming countP_eq_zero->akU,drop_eq_getElem_cons->ajK,getElem_append_left->ajf,getElem_append_right->ajn,getElem_mem->ajc,getElem_of_mem->aji,length_append->ai6,length_cons->ajk,length_eq_zero_iff->akb,length_set->akw,mem_append->ajs,mem_cons->ajq,mem_map->akD,mem_singleton->ajj,pairwise_cons->akn,take_append_of_le_length->ajy,take_length->aju
open _root_.Nat renaming add_zero->aj7,le_refl->ai8,le_trans->ajE,zero_le->ajt
open _root_.Option renaming bind_some->ai2
open _root_.Option.some renaming inj->ai4
namespace Go.Proofs.YtilaieogabgamaaGreatDoor
open Go Go.RowKit
set_option maxRecDepth 100000
set_option linter.unusedSimpArgs false
set_option linter.unusedVariables false
namespace L
def LN(s:iQ)(p:List Int)(d:Int):Prop:=(0<=d/\d<(s.2.2.2.1.length:Int))/\d∉p/\∀y,Dp s d y->y∈p
def pZ(s:iQ)(o:List Int):Prop:=∀k,∀h:k<o.length,LN s (o.take k) o[k]/\∀d,LN s (o.take k) d->o[k]<=d
theorem pZ.snoc{s:iQ}{o:List Int}{x:Int}(h:pZ s o)(hx:LN s o x)(hm:∀d,LN s o d->x<=d):pZ s (o++[x]):=fun k hk=>by
 by_cases e:k<o.length
 .have:=h k e;rw[ajf e,ajy (by omega)];exact this
 .have e:k=o.length:=by simp at hk;omega
  subst e;rw[ajn (ai8 _),List.take_left']
  .simpa using⟨hx,hm⟩
  .rfl
theorem pZ.mem{s:iQ}{o:List Int}(h:pZ s o){x:Int}(hx:x∈o):(0<=x/\x<(s.2.2.2.1.length:Int))/\∀y,Dp s x y->y∈o:=by
 obtain⟨k,hk,rfl⟩:=aji hx;obtain⟨h1,_⟩:=h k hk;exact⟨h1.1,fun y hy=>List.mem_of_mem_take (h1.2.2 y hy)⟩
theorem pZ.nodup{s:iQ}{o:List Int}(h:pZ s o):o.Nodup:=by
 rw[List.nodup_iff_pairwise_ne,List.pairwise_iff_getElem];intro i j hi hj JK e;refine(h j hj).1.2.1 ?_;rw[<-e];rw[List.mem_take_iff_getElem];exact⟨i,by omega,rfl⟩
theorem rZ{n:Nat}{l:List Int}(hn:l.Nodup)(h:∀x∈l,0<=x/\x<(n:Int)):l.length<=n:=by
 have:=pQ (m:=(List.range n).map fun k:Nat=>(k:Int)) hn fun y hy=>by
  obtain⟨a,b⟩:=h y hy;exact akD.2 ⟨y.toNat,List.mem_range.2 (by omega),by omega⟩
 simpa using this
theorem pZ.len{s:iQ}{o:List Int}(h:pZ s o):o.length<=s.2.2.2.1.length:=rZ h.nodup fun x hx=>(h.mem hx).1
theorem OX{α:Type}{l:List α}{i:Int}(h:0<=i):idx l i=l[i.toNat]? :=by unfold idx;rw[if_pos h]
theorem Cy{α:Type}(l:List α)(i:Int)(v:α)(u:Nat)(hi:i.toNat<l.length):(aT l i v)[u]? =if u=i.toNat then some v else l[u]? :=by
 unfold aT;rw[List.getElem?_set];by_cases e:u=i.toNat
 .rw[if_pos e.symm,if_pos hi,if_pos e]
 .rw[if_neg (fun g=>e g.symm),if_neg e]
structure LO(L:List (List Int))(n k:Nat)(U:List (List Int))(W H:List Int):Prop where
 ul:U.length=n
 wl:W.length=n
 u:∀e,∀h:e<U.length,U[e].length<=6000*k/\∀u:Int,U[e].count u=if 0<=u/\u<(k:Int)then(L.getD u.toNat []).count (e:Int)else 0
 w:∀u,u<k->W[u]? =some ((L.getD u []).length:Int)
 hp:qS H H.length
 nd:H.Nodup
 h:∀u:Int,u∈H↔(0<=u/\u<(k:Int))/\L.getD u.toNat []=[]
theorem LO.hl{L:List (List Int)}{n k:Nat}{U:List (List Int)}{W H:List Int}(h:LO L n k U W H):H.length<=k:=rZ h.nd fun x hx=>((h.h x).1 hx).1
structure abQ(s:iQ)(L:List (List Int))(n:Nat)(W O H:List Int):Prop where
 wl:W.length=n
 o:pZ s O
 w:∀u,u<n->W[u]? =some (((L.getD u []).countP fun y=>decide (y∉O):Nat):Int)
 hp:qS H H.length
 nd:H.Nodup
 h:∀u:Int,u∈H↔LN s O u
structure UW(s:iQ)(L:List (List Int))(n:Nat)(O l:List Int)(W H:List Int):Prop where
 wl:W.length=n
 w:∀u,u<n->W[u]? =some (((L.getD u []).countP (fun y=>decide (y∉O))+l.count (u:Int):Nat):Int)
 hp:qS H H.length
 nd:H.Nodup
 h:∀u:Int,u∈H↔(0<=u/\u<(n:Int))/\u∉O/\W[u.toNat]? =some 0
theorem UW.hl{s:iQ}{L:List (List Int)}{n:Nat}{O l W H:List Int}(h:UW s L n O l W H):H.length<=n:=rZ h.nd fun x hx=>((h.h x).1 hx).1
theorem getD_some{L:List (List Int)}{u:Nat}(h:u<L.length):L.getD u []=L[u]:=by simp[h]
theorem Cz(l O:List Int)(x:Int)(hx:x∉O):l.countP (fun y=>decide (y∉O))=l.countP (fun y=>decide (y∉O++[x]))+l.count x:=by
 induction l with
 |nil=>rfl
 |cons y l ih=>
  rw[List.countP_cons,List.countP_cons,List.count_cons,ih];by_cases e:y=x
  .subst e;simp[hx];omega
  .by_cases h:y∈O
   .simp[h,e]
   .simp[h,e];omega
theorem LP(l:List Int)(d n:Nat)(U:List (List Int))(hU:U.length=n)(hl:l.length<=6000)(hr:∀y∈l,0<=y/\y<(n:Int))(hb:∀e,∀h:e<U.length,U[e].length<=100000):Wp (Loop (S:=Int×List (List Int)) (X:=List (List Int)) (fun pI=>
 (if(decide (pI.1<(l.length:Int)))=true then
 (idx l pI.1).bind fun r9=>
 (idx pI.2 r9).bind fun D5=>
 (idx pI.2 r9).bind fun KD=>
 (bR KD ([(d:Int)]:List Int)).bind fun YQ=>
 (idx pI.2 r9).bind fun CO=>
 (if decide (r9=r9)=true then
 (idx pI.2 r9).bind fun Qc=>
 some (Sum.inl (ai3.wrap (pI.1+(1:Int)),oH pI.2 r9 (fun m20=>YQ)))
 else none)
 else
 some (Sum.inr pI.2))) aC ((0:Int),U)) fun V=>V.length=n/\∀e,∀h:e<V.length,∀h':e<U.length,V[e].length<=U[e].length+l.length/\∀u:Int,V[e].count u=U[e].count u+if u=(d:Int)then l.count (e:Int)else 0:=by
 refine Wp.count (fun s=>s.1) l.length (fun k s=>s.2.length=n/\∀e,∀h:e<s.2.length,∀h':e<U.length,s.2[e].length<=U[e].length+k/\∀u:Int,s.2[e].count u=U[e].count u+if u=(d:Int)then(l.take k).count (e:Int)else 0) (by omega) rfl ⟨hU,fun e h h'=>⟨ai8 _,fun u=>by simp⟩⟩ fun k s hk hs hJ=>?_
 obtain⟨i,V⟩:=s;obtain⟨hV,hJ⟩:=hJ;dsimp only at hs hV hJ;subst hs;simp only[W_,implies_true,forall_const,reduceCtorEq,aY,aO];refine⟨fun al=>?_,fun hge=>?_⟩
 .have al:k<l.length:=by omega
  obtain⟨a0,a1⟩:=hr _ (ajc al);obtain⟨x,hx⟩:=ajm a0
  have hxV:x<V.length:=by omega
  simp only[ag al,hx,ag hxV,cu (m:=l.length) (by omega) al,W_,implies_true,forall_const,reduceCtorEq];have hbx:=(hJ x hxV (by omega)).1;have:=hb x (by omega);refine mZ.2 ⟨by simp;omega,trivial |> fun _=>⟨al,by rw[gO];exact hV,fun e h h'=>?_⟩⟩
  have he:e<V.length:=by rw[gO]at h;exact h
  have RE:l.take (k+1)=l.take k++[l[k]]:=(List.take_append_getElem al).symm;rw[uB h he,RE,hx]
  by_cases e0:(x:Int)=(e:Int)
  .rw[if_pos e0]
   have e0:x=e:=by omega
   subst e0;refine⟨by rw[ai6];simp;omega,fun u=>?_⟩;rw[List.count_append,(hJ x he (by omega)).2,List.count_append]
   by_cases eu:u=(d:Int)
   .rw[if_pos eu,if_pos eu,eu];simp;omega
   .rw[if_neg eu,if_neg eu];have:List.count u [(d:Int)]=0:=List.count_eq_zero.2 (by simpa using eu);omega
  .rw[if_neg e0];refine⟨by have:=(hJ e he h').1;omega,fun u=>?_⟩;rw[(hJ e he h').2,List.count_append];have:List.count (e:Int) [(x:Int)]=0:=List.count_eq_zero.2 (by simp;omega);rw[this];rfl
 .obtain rfl:k=l.length:=by omega
  rw[aju]at hJ;exact⟨hV,hJ⟩
theorem N6(s:iQ)(L:List (List Int))(n:Nat)(O l W H:List Int)(x:Int)(hn:n<=14)(Ah:l.length<=100000)(hL:∀u,(L.getD u []).length<=6000)(hI:UW s L n O l W H)
 (hl:∀u∈l,(0<=u/\u<(n:Int))/\u∉O)(Q:((List Int×List Int×List Int)⊕(List Int×List Int))->Prop)(hQ:∀W' H',UW s L n O [] W' H'->Q (.inl (W',O,H'))):Wp (Loop (S:=Int×(List Int)×List Int) (X:=((List Int)×(List Int)×List Int)⊕((List Int)×List Int)) (fun ug=>
   (if(decide (ug.1<(l.length:Int)))=true then
   ((idx l ug.1).bind fun BO=>
   (idx ug.2.1 BO).bind fun QA=>
   (idx ug.2.1 BO).bind fun x32=>
   (idx (aT ug.2.1 BO (ai3.wrap (QA-(1:Int)))) BO).bind fun L1=>
   (if(decide (L1=(0:Int)))=true then
   (M.cK aC BO ug.2.2).bind fun YS=>
   some (aT ug.2.1 BO (ai3.wrap (QA-(1:Int))),YS)
   else
   some (aT ug.2.1 BO (ai3.wrap (QA-(1:Int))),ug.2.2)):Option ((List Int)×List Int)).bind fun TS=>
   some (Sum.inl (ai3.wrap (ug.1+(1:Int)),TS.1,TS.2))
   else
   some (Sum.inr (Sum.inl (ug.2.1,O,ug.2.2))))) aC ((0:Int),W,H)) Q:=by
 refine Wp.count (fun s=>s.1) l.length (fun k z=>UW s L n O (l.drop k) z.2.1 z.2.2) (by omega) rfl hI fun k z hk hs hJ=>?_
 obtain⟨i,V,G⟩:=z;dsimp only at hs hJ;subst hs
 refine Wp.dec (fun al=>?_) fun hge=>?_
 .have al:k<l.length:=by dsimp only at al;omega
  obtain⟨⟨a0,a1⟩,a2⟩:=hl _ (ajc al);have jJ:l.drop k=l[k]::l.drop (k+1):=ajK al;obtain⟨u,hu⟩:=ajm a0;rw[hu]at a1 a2 jJ
  have wI:u<n:=by omega
  have hVl:=hJ.wl;have hw:=hJ.w u wI;rw[jJ,List.count_cons_self]at hw
  obtain⟨a,ha⟩:∃a,a=(L.getD u []).countP (fun y=>decide (y∉O)):=⟨_,rfl⟩
  obtain⟨b,hb⟩:∃b,b=(l.drop (k+1)).count (u:Int):=⟨_,rfl⟩
  have wX:a<=6000:=by rw[ha];exact ajE List.countP_le_length (hL u)
  have CV:b<=100000:=by rw[hb];exact ajE List.count_le_length (by rw[List.length_drop];omega)
  rw[<-ha,<-hb]at hw
  have iw:idx V (u:Int)=some ((a+(b+1):Nat):Int):=by rw[OX (by omega)];exact hw
  have ew:ai3.wrap (((a+(b+1):Nat):Int)-(1:Int))=((a+b:Nat):Int):=by rw[aV (by omega) (by omega)];omega
  have iv:idx (aT V (u:Int) ((a+b:Nat):Int)) (u:Int)=some ((a+b:Nat):Int):=by
   rw[OX (by omega),Cy _ _ _ _ (by omega),if_pos rfl]
  dsimp only;rw[ag al,hu,ai2,iw,ai2,ai2,ew,iv,ai2]
  have w':∀v,v<n->(aT V (u:Int) ((a+b:Nat):Int))[v]? =some (((L.getD v []).countP (fun y=>decide (y∉O))+(l.drop (k+1)).count (v:Int):Nat):Int):=fun v hv=>by
   rw[Cy _ _ _ _ (by omega)];by_cases e:v=u
   .subst e;rw[if_pos (by omega),<-ha,<-hb]
   .rw[if_neg (by omega),hJ.w v hv,jJ,List.count_cons_of_ne (by omega)]
  have nH:(u:Int)∉G:=fun g=>by
   have:=((hJ.h _).1 g).2.2;rw[aja,hw]at this;cases this
  have hGl:=hJ.hl;by_cases e0:a+b=0
  .rw[if_pos (by rw[decide_eq_true_eq];omega),wp_bind,wp_bind]
   refine(Gd _ _ (by omega) hJ.hp).mono fun r hr=> .some (.some ⟨al,?_,?_⟩)
   .exact cu (m:=l.length) (by omega) al
   .refine⟨by show(aT V _ _).length=n;unfold aT;rw[akw];exact hVl,w',hr.2,hr.1.nodup_iff.2 (List.nodup_cons.2 ⟨nH,hJ.nd⟩),fun v=>?_⟩
    show v∈r↔_/\_/\(aT V _ _)[v.toNat]? =some 0
    rw[hr.1.mem_iff,ajq,Cy _ _ _ _ (by omega),hJ.h v]
    by_cases e:v=(u:Int)
    .subst e;rw[if_pos rfl];exact⟨fun _=>⟨⟨by omega,a1⟩,a2,by rw[e0];rfl⟩,fun _=> .inl rfl⟩
    .constructor
     .rintro(h|⟨h1,h2,h3⟩)
      .exact absurd h e
      .rw[if_neg (by omega)];exact⟨h1,h2,h3⟩
     .rintro⟨h1,h2,h3⟩
      rw[if_neg (by omega)]at h3;exact .inr ⟨h1,h2,h3⟩
  .rw[if_neg (by rw[decide_eq_true_eq];omega),ai2];refine .some ⟨al,?_,?_⟩
   .exact cu (m:=l.length) (by omega) al
   .refine⟨by show(aT V _ _).length=n;unfold aT;rw[akw];exact hVl,w',hJ.hp,hJ.nd,fun v=>?_⟩
    show v∈G↔_/\_/\(aT V _ _)[v.toNat]? =some 0
    rw[Cy _ _ _ _ (by omega),hJ.h v]
    by_cases e:v=(u:Int)
    .subst e;rw[if_pos rfl];refine⟨fun h=>absurd ((hJ.h _).2 h) nH,fun h=>?_⟩;have:=ai4 h.2.2;omega
    .constructor
     .rintro⟨h1,h2,h3⟩
      rw[if_neg (by omega)];exact⟨h1,h2,h3⟩
     .rintro⟨h1,h2,h3⟩
      rw[if_neg (by omega)]at h3;exact⟨h1,h2,h3⟩
 .have hge:k=l.length:=by dsimp only at hge;omega
  subst hge;rw[List.drop_length]at hJ;exact .some (hQ _ _ hJ)
theorem LQ(s:iQ)(hs:mo s):Wp (M.cZ aC s) fun r=>∃o,pZ s o/\(∀d,¬LN s o d)/\r=if o.length<s.2.2.2.1.length then((9:Int),([]:List Int))else((0:Int),o):=by
 have Nv:=hs.2.2.1;unfold M.cZ
 refine Wp.seq (Rn s) ?_ fun L hL=>?_
 .have e:M.jT aC s=M.gW aC s:=rfl;rw[e,wp_bind]
  exact(rW s hs).mono fun L hL=> .some hL
 obtain⟨hLl,hL⟩:=hL
 have UX:∀a b,Dp s a b->0<=b/\b<(s.2.2.2.1.length:Int):=fun a b h=>(mn s a).2 b h
 have hLq:∀u,(L.getD u []).length<=6000:=fun u=>by
  by_cases h:u<L.length
  .rw[getD_some h];exact(hL u h).1
  .rw[List.getD_eq_getElem?_getD,List.getElem?_eq_none (by omega)];exact ajt _
 have IR:∀u:Nat,u<s.2.2.2.1.length->∀y,y∈L.getD u []↔Dp s (u:Int) y:=fun u hu y=>by
  rw[getD_some (by omega)];exact(hL u (by omega)).2 y
 obtain⟨n,hn⟩:∃n,n=s.2.2.2.1.length:=⟨_,rfl⟩
 rw[<-hn]at Nv hLl UX IR⊢;rw[wp_bind];refine vN.2 ⟨by omega,?_⟩;rw[wp_bind];refine vN.2 ⟨by omega,?_⟩;rw[aja,hLl]
 refine Wp.seq (fun z=>LO L n n z.1 z.2.1 z.2.2) ?_ fun z hz=>?_
 .rw[wp_bind]
  refine Wp.mono (Q:=fun z=>LO L n n z.1 z.2.1 z.2.2) ?_ fun z hz=> .some hz
  refine Wp.count (fun z=>z.1) n (fun k z=>LO L n k z.2.1 z.2.2.1 z.2.2.2) (by omega) rfl ⟨by simp,by simp,fun e h=>⟨by simp,fun u=>?_⟩,fun u hu=>by omega,fun k h0 h1=>(by cases h1),List.nodup_nil,fun u=>?_⟩ fun k z hk hz hJ=>?_
  .rw[if_neg (by omega)];simp
  .exact⟨fun h=>(by cases h),fun h=>by omega⟩
  obtain⟨i,U,W,H⟩:=z;dsimp only at hz hJ;subst hz
  refine Wp.dec (fun al=>?_) fun hge=>?_
  .have al:k<n:=by dsimp only at al;omega
   have OY:k<L.length:=by omega
   have hUl:=hJ.ul;have hWl:=hJ.wl;dsimp only;rw[ag OY,ai2,ag (show k<W.length by omega),ai2,wp_bind,wp_bind,wp_bind];have hHl:=hJ.hl
   refine(LP L[k] k n U hUl (hL k OY).1 (fun y hy=>UX _ _ (((hL k OY).2 y).1 hy)) fun e h=>by have:=(hJ.u e h).1;omega).mono fun V hV=>?_
   have uu:∀e,∀h:e<V.length,V[e].length<=6000*(k+1)/\∀u:Int,V[e].count u=if 0<=u/\u<((k+1:Nat):Int)then(L.getD u.toNat []).count (e:Int)else 0:=fun e h=>by
    have hV1:=hV.1;obtain⟨g1,g2⟩:=hV.2 e h (by omega);obtain⟨f1,f2⟩:=hJ.u e (by omega);have:=(hL k OY).1;refine⟨by omega,fun u=>?_⟩;rw[g2,f2]
    by_cases eu:u=(k:Int)
    .subst eu;rw[if_neg (by omega),if_pos rfl,if_pos (by omega),aja,getD_some OY];omega
    .rw[if_neg eu];by_cases h1:0<=u/\u<(k:Int)
     .rw[if_pos h1,if_pos (by omega)];rfl
     .rw[if_neg h1,if_neg (by omega)]
   have ww:∀u,u<k+1->(aT W (k:Int) (L[k].length:Int))[u]? =some ((L.getD u []).length:Int):=fun u hu=>by
    rw[Cy _ _ _ _ (by omega)];by_cases e:u=k
    .subst e;rw[if_pos (by omega),getD_some OY]
    .rw[if_neg (by omega),hJ.w u (by omega)]
   have wl:(aT W (k:Int) (L[k].length:Int)).length=n:=by unfold aT;rw[akw];exact hWl
   by_cases e0:L[k].length=0
   .rw[if_pos (by rw[decide_eq_true_eq];omega),wp_bind]
    refine(Gd _ _ (by omega) hJ.hp).mono fun r hr=> .some (.some (.some ⟨al,cu (m:=n) (by omega) al,⟨hV.1,wl,uu,ww,hr.2,hr.1.nodup_iff.2 (List.nodup_cons.2 ⟨fun g=>?_,hJ.nd⟩),fun u=>?_⟩⟩))
    .have:=((hJ.h _).1 g).1;omega
    .show u∈r↔_
     rw[hr.1.mem_iff,ajq,hJ.h u]
     by_cases eu:u=(k:Int)
     .subst eu;rw[aja,getD_some OY];exact⟨fun _=>⟨by omega,akb.1 e0⟩,fun _=> .inl rfl⟩
     .constructor
      .rintro(h|⟨h1,h2⟩)
       .exact absurd h eu
       .exact⟨by omega,h2⟩
      .rintro⟨h1,h2⟩
       exact .inr ⟨by omega,h2⟩
   .rw[if_neg (by rw[decide_eq_true_eq];omega)];refine .some (.some (.some ⟨al,cu (m:=n) (by omega) al,⟨hV.1,wl,uu,ww,hJ.hp,hJ.nd,fun u=>?_⟩⟩))
    show u∈H↔_
    rw[hJ.h u]
    by_cases eu:u=(k:Int)
    .subst eu;rw[aja,getD_some OY];exact⟨fun h=>by omega,fun h=>absurd (by rw[h.2];rfl) e0⟩
    .exact⟨fun⟨h1,h2⟩=>⟨by omega,h2⟩,fun⟨h1,h2⟩=>⟨by omega,h2⟩⟩
  .have hge:k=n:=by dsimp only at hge;omega
   subst hge;exact .some hJ
 obtain⟨U,W,H⟩:=z;dsimp only at hz⊢;have hUl:=hz.ul
 have hU:∀e,∀h:e<U.length,U[e].length<=100000/\∀u:Int,U[e].count u=if 0<=u/\u<(n:Int)then(L.getD u.toNat []).count (e:Int)else 0:=fun e h=>⟨by have:=(hz.u e h).1;omega,(hz.u e h).2⟩
 refine Wp.seq (fun z=>pZ s z.1/\z.2=[]/\∀d,¬LN s z.1 d) ?_ fun z hq=>?_
 .refine Wp.loop (fun z=>abQ s L n z.1 z.2.1 z.2.2) (fun z=>n-z.2.1.length) ⟨hz.wl,fun k h=>(by cases h),fun u hu=>?_,hz.hp,hz.nd,fun u=>?_⟩ (by show n-_<aC;unfold aC;omega) fun z hI=>?_
  .rw[hz.w u hu]
   congr 2
   exact(List.countP_eq_length.2 fun a _=>by simp).symm
  .rw[hz.h u];unfold LN;rw[<-hn];constructor
   .rintro⟨h1,h2⟩
    refine⟨h1,by simp,fun y hy=>?_⟩;have:=(IR u.toNat (by omega) y).2 (by rw[akg h1.1];exact hy);rw[h2]at this;cases this
   .rintro⟨h1,_,h2⟩
    refine⟨h1,List.eq_nil_iff_forall_not_mem.2 fun y hy=>?_⟩;have:=(IR u.toNat (by omega) y).1 hy;rw[akg h1.1]at this;cases h2 y this
  obtain⟨W,O,H⟩:=z;dsimp only at hI⊢;have hO:=hI.o;have hOl:=hO.len;rw[<-hn]at hOl
  have hHl:H.length<=n:=rZ hI.nd fun x hx=>by
   have:=((hI.h x).1 hx).1;rw[<-hn]at this;exact this
  unfold M.dz;rw[ai2]
  refine Wp.dec (fun h0=>?_) fun h0=>?_
  .have h0:0<H.length:=by omega
   rw[wp_bind]
   refine(Rv H h0 (by omega) hI.hp).mono fun r hr=>?_
   obtain⟨x,G⟩:=r;obtain⟨hp,hG,EJ⟩:=hr;dsimp only at hp hG EJ⊢;have hxH:x∈H:=hp.symm.subset (by simp);have hx:=(hI.h x).1 hxH;have MC:=hp.nodup_iff.1 hI.nd;obtain⟨hxG,hGn⟩:=List.nodup_cons.1 MC
   have hO':pZ s (O++[x]):=hO.snoc hx fun d hd=>by
    have:d∈H:=(hI.h d).2 hd
    rcases ajq.1 (hp.subset this)with rfl|h
    .exact aki _
    .exact EJ d h
   have UY:=hO'.len;rw[<-hn,ai6]at UY;simp only[ajk,List.length_nil]at UY;rw[bD (by simp;omega),ai2];have Od:=hx.1;rw[<-hn]at Od;obtain⟨e,he⟩:=ajm Od.1
   have heU:e<U.length:=by omega
   rw[he,ag heU,ai2,<-he];obtain⟨f1,f2⟩:=hU e heU;rw[<-he]at f2
   have inU:∀u∈U[e],(0<=u/\u<(n:Int))/\Dp s u x:=fun u hu=>by
    have h1:=List.count_pos_iff.2 hu;rw[f2]at h1;by_cases hc:0<=u/\u<(n:Int)
    .rw[if_pos hc]at h1;refine⟨hc,?_⟩;have:=(IR u.toNat (by omega) x).1 (List.count_pos_iff.1 h1)
     rwa [akg hc.1]at this
    .rw[if_neg hc]at h1;omega
   refine N6 s L n (O++[x]) U[e] W G x Nv f1 hLq ⟨hI.wl,fun u hu=>?_,hG,hGn,fun u=>?_⟩ (fun u hu=>?_) _ fun W' H' h'=>?_
   .rw[hI.w u hu,f2,if_pos (by omega),aja,Cz _ _ _ hx.2.1]
   .have abR:u∈G↔u∈H/\u≠x:=by
     rw[hp.mem_iff,ajq];exact⟨fun h=>⟨.inr h,fun e=>hxG (e▸h)⟩,fun h=>h.1.resolve_left h.2⟩
    rw[abR,hI.h u];unfold LN;rw[<-hn];constructor
    .rintro⟨⟨h1,h2,h3⟩,h4⟩
     refine⟨h1,by simp[h2,h4],?_⟩;rw[hI.w u.toNat (by omega)]
     congr 2
     rw[akU];intro y hy;have:=(IR u.toNat (by omega) y).1 hy;rw[akg h1.1]at this;simpa using h3 y this
    .rintro⟨h1,h2,h3⟩
     rw[hI.w u.toNat (by omega)]at h3
     have h3:(L.getD u.toNat []).countP (fun y=>decide (y∉O))=0:=by
      have:=ai4 h3;omega
     rw[akU]at h3;simp only[ajs,ajj,not_or]at h2;refine⟨⟨h1,h2.1,fun y hy=>?_⟩,h2.2⟩;have:=h3 y ((IR u.toNat (by omega) y).2 (by rw[akg h1.1];exact hy));simpa using this
   .obtain⟨h1,h2⟩:=inU u hu;refine⟨h1,fun h=>?_⟩
    rcases ajs.1 h with h|h
    .exact hx.2.1 ((hO.mem h).2 x h2)
    .rw[ajj.1 h]at h2;exact hx.2.1 (hx.2.2 x h2)
   .refine⟨⟨h'.wl,hO',fun u hu=>?_,h'.hp,h'.nd,fun u=>?_⟩,?_⟩
    .have:=h'.w u hu;rw[List.count_nil,aj7]at this;exact this
    .rw[h'.h u];unfold LN;rw[<-hn];constructor
     .rintro⟨h1,h2,h3⟩
      refine⟨h1,h2,fun y hy=>?_⟩;rw[h'.w u.toNat (by omega),List.count_nil,aj7]at h3
      have h3:(L.getD u.toNat []).countP (fun y=>decide (y∉O++[x]))=0:=by
       have:=ai4 h3;omega
      rw[akU]at h3;have:=h3 y ((IR u.toNat (by omega) y).2 (by rw[akg h1.1];exact hy))
      exact aky fun g=>this (decide_eq_true g)
     .rintro⟨h1,h2,h3⟩
      refine⟨h1,h2,?_⟩;rw[h'.w u.toNat (by omega),List.count_nil,aj7]
      congr 2
      rw[akU];intro y hy;have:=(IR u.toNat (by omega) y).1 hy;rw[akg h1.1]at this
      exact fun g=>of_decide_eq_true g (h3 y this)
    .show n-(O++[x]).length<n-O.length
     rw[ai6];simp only[ajk,List.length_nil];omega
  .have h0:H=[]:=akb.1 (by omega);subst h0;exact .some ⟨hO,rfl,fun d hd=>by cases(hI.h d).2 hd⟩
 .obtain⟨O,H⟩:=z;obtain⟨h1,h2,h3⟩:=hq;dsimp only at h1 h2 h3⊢
  refine Wp.dec (fun h=> .some ⟨O,h1,h3,?_⟩) fun h=> .some ⟨O,h1,h3,?_⟩
  .rw[if_pos (by omega)]
  .rw[if_neg (by omega)]
theorem Iu{s:iQ}{o:List Int}(h:pZ s o)(hr:∀d,¬LN s o d)(hc:∀d:Nat,d<s.2.2.2.1.length->¬EB (Dp s) (d:Int) (d:Int)):o.length=s.2.2.2.1.length:=by
 refine Nat.le_antisymm h.len (Nat.le_of_not_lt fun al=>?_)
 have UX:∀a b,Dp s a b->0<=b/\b<(s.2.2.2.1.length:Int):=fun a b h=>(mn s a).2 b h
 obtain⟨n,hn⟩:∃n,n=s.2.2.2.1.length:=⟨_,rfl⟩
 rw[<-hn]at al hc UX
 have next:∀d:Int,(0<=d/\d<(n:Int))->d∉o->∃e,Dp s d e/\e∉o:=fun d hd Vd=>aky fun bN=>by
  refine hr d ⟨by rw[<-hn];exact hd,Vd,fun y hy=>aky fun Ds=>bN ⟨y,hy,Ds⟩⟩
 have start:∃d:Int,(0<=d/\d<(n:Int))/\d∉o:=aky fun bN=>by
  have:((List.range n).map fun k:Nat=>(k:Int)).length<=o.length:=pQ (List.Pairwise.map _ (fun a b(h:a≠b)e=>h (by omega)) List.nodup_range) fun y hy=>by
   obtain⟨k,hk,rfl⟩:=akD.1 hy
   exact aky fun h=>bN ⟨(k:Int),by have:=List.mem_range.1 hk;omega,h⟩
  simp at this;omega
 have walk:∀m,∃l:List Int,l.length=m+1/\(∀x∈l,(0<=x/\x<(n:Int))/\x∉o)/\l.Pairwise fun a b=>EB (Dp s) b a:=by
  intro m
  induction m with
  |zero=>
   obtain⟨d,h1,h2⟩:=start;exact⟨[d],rfl,fun x hx=>by rw[ajj.1 hx];exact⟨h1,h2⟩,by simp⟩
  |succ m ih=>
   obtain⟨l,hl,hm,hp⟩:=ih
   cases l with
   |nil=>cases hl
   |cons x t=>
    obtain⟨e,h1,h2⟩:=next x (hm x (by simp)).1 (hm x (by simp)).2
    refine⟨e::x::t,by simp only[ajk]at hl⊢;omega,fun y hy=>?_,akn.2 ⟨fun y hy=>?_,hp⟩⟩
    .rcases ajq.1 hy with rfl|hy
     .exact⟨UX _ _ h1,h2⟩
     .exact hm y hy
    .rcases ajq.1 hy with rfl|hy
     .exact .one h1
     .exact .step ((akn.1 hp).1 y hy) h1
 obtain⟨l,hl,hm,hp⟩:=walk n
 have nd:l.Nodup:=by
  refine hp.imp_of_mem fun{a b}ha hb wX=>fun e=>?_
  subst e;obtain⟨h1,_⟩:=hm a ha;have:=hc a.toNat (by omega);rw[akg h1.1]at this;exact this wX
 have:=rZ nd fun x hx=>(hm x hx).1
 omega
end L
end Go.Proofs.YtilaieogabgamaaGreatDoor
end
section
open _root_.Int renaming eq_ofNat_of_zero_le->ajm,toNat_natCast->aja
open _root_.List renaming getElem?_eq_getElem->ai5,getElem_append_left->ajf,getElem_append_right->ajn,getElem_mem->ajc,getElem_of_mem->aji
open _root_.Option renaming bind_some->ai2
namespace Go.Proofs.YtilaieogabgamaaGreatDoor
open Go Go.RowKit
set_option maxRecDepth 100000
set_option linter.unusedSimpArgs false
set_option linter.unusedVariables false
namespace L
theorem yy{e:List Ty}{s:nL}{t:Ty}(h:qM e s t=0):(CR e s).2.2=0/\(CR e s).1=t:=by
 unfold qM at h;by_cases h1:(CR e s).2.2=0
 .rw[if_neg (fun g=>g h1)]at h;by_cases h2:(CR e s).1=t
  .exact⟨h1,h2⟩
  .rw[if_pos h2]at h;cases h
 .rw[if_pos h1]at h;exact absurd h h1
def OfT(e:List Ty)(s:nL)(t:Ty):Prop:=∃r,M.fS aC e s=some r/\r.2.2=0/\r.1=t
theorem EK{l:Lw}{x:iQ}(hw:WF az x){j:Nat}(hj:j<x.2.2.2.2.length)(h0:th l x j x.2.2.2.2[j]=0):
 (∃k,∃hk:k<x.2.2.2.1.length,(x.2.2.2.2[j].2.1:Int)=(k:Int)/\OfT x.2.2.2.2[j].2.2.2.2.2.2.1 (ed l x) x.2.2.2.1[k].2)/\(0<x.2.2.2.2[j].2.2.2.2.2.1.length->OfT x.2.2.2.2[j].2.2.2.2.2.1 (ed l x) ((1:Int),(0:Int))):=by
 have L9:=hw.2.2.2.2.2 _ (ajc hj);obtain⟨_,_,hd,_,_,_,_,hg,hv⟩:=uG.1 h0;generalize x.2.2.2.2[j]=r at*
 obtain⟨(d:Int),MD⟩:∃d:Int,d=r.2.1:=⟨_,rfl⟩
 rw[<-MD]at hd;have hd0:(0:Int)<=d:=hd.1;have wQ:d<(x.2.2.2.1.length:Int):=hd.2;obtain⟨k,hk⟩:=ajm hd0
 have dO:(r.2.1:Int)=(k:Int):=by rw[<-MD,hk]
 have IP:k<x.2.2.2.1.length:=by omega
 rw[dO,aja,ai5 IP]at hv;obtain⟨v1,v2⟩:=yy hv;refine⟨⟨k,IP,dO,_,wc.all _ _ L9.2.2.2.2.2.2.1.2,v1,v2⟩,fun h=>?_⟩;obtain⟨g1,g2⟩:=yy (hg h);exact⟨_,wc.all _ _ L9.2.2.2.2.2.1.2,g1,g2⟩
def LR(e:List Ty)(s:nL)(y:List Ty):Prop:=(e.length=0/\y=[])\/(0<e.length/\P.V.Code e s y)
structure Prg(l:Lw)(x:iQ)(d:Int)(p:List lj×List Int×List (List Ty)×List (List Ty)):Prop where
 rules:p.1=b8 x.2.2.2.2 d
 order:M.cZ aC x=some ((0:Int),p.2.1)
 ord:pZ x p.2.1
 all:p.2.1.length=x.2.2.2.1.length
 gl:p.2.2.1.length=p.1.length
 vl:p.2.2.2.length=p.1.length
 code:∀i(h:i<p.1.length)(h1:i<p.2.2.1.length)(h2:i<p.2.2.2.length),LR p.1[i].2.2.2.2.2.1 (ed l x) p.2.2.1[i]/\P.V.Code p.1[i].2.2.2.2.2.2.1 (ed l x) p.2.2.2[i]
theorem EL(l:Lw)(hw:WF cn l)(mr:jt l)(hv:Valid l)(k:Nat)(hk:k<l.2.2.length)(d:Int):Wp (M.bV aC l (k:Int) d) (Prg l l.2.2[k] d):=by
 have hm:=hv.abM mr
 have hp:∀x∈l.2.2,ln x.2.2.2.2:=fun x hx=>by
  obtain⟨i,hi,rfl⟩:=aji hx;exact Ab (hv.scope i hi).2.2.2.2.2.2.1
 have wV:=mr.2.2.2.2.2 _ (ajc hk);have hsc:=hv.scope k hk;have Lf:=hw.2.2.2 _ (ajc hk);have AT:=hp _ (ajc hk);unfold M.bV;rw[ag hk,ai2,Cw l d hm mr hp]
 have wK:idx (l.2.2.map (fD · d)) (k:Int)=some (fD l.2.2[k] d):=by rw[ag (show k<(l.2.2.map (fD · d)).length by simpa using hk),List.getElem_map]
 obtain⟨x,hx⟩:∃x,x=l.2.2[k]:=⟨_,rfl⟩
 rw[<-hx]at wV hsc Lf AT wK⊢
 have abV:∃o,M.cZ aC x=some ((0:Int),o)/\pZ x o/\o.length=x.2.2.2.1.length:=by
  obtain⟨r,er,o,h1,h2,hr⟩:=LQ x wV
  have dX:=Iu h1 h2 fun d hd hc=>hsc.2.2.2.2.2.2.2 d hd ((uF x d d).2 hc)
  rw[if_neg (by omega)]at hr;subst hr;exact⟨o,er,h1,dX⟩
 obtain⟨o,e1,e2,e3⟩:=abV;rw[e1];simp only[ai2,wK];have UK:=wV.2.2.2.1;have hR:(fD x d).2.2.2.2=b8 x.2.2.2.2 d:=rfl;rw[hR]
 have hRl:(b8 x.2.2.2.2 d).length<=60:=by
  rw[jF];have:=(mq d x.2.2.2.2).2.1;omega
 have hRm:∀y∈b8 x.2.2.2.2 d,∃j,∃hj:j<x.2.2.2.2.length,∃p:Int,y=Cv x.2.2.2.2[j] p:=fun y hy=>by
  obtain⟨r,hr,p,e,_⟩:=pf d AT hy;obtain⟨j,hj,rfl⟩:=aji hr;exact⟨j,hj,p,e⟩
 obtain⟨R,hRe⟩:∃R,R=b8 x.2.2.2.2 d:=⟨_,rfl⟩
 rw[<-hRe]at hRl hRm⊢;rw[wp_bind]
 refine Wp.mono (Q:=fun p=>Prg l x d p/\True) ?_ fun p hp=> .some hp.1
 refine Wp.count (fun s=>s.1) R.length (fun i s=>s.2.1=R/\s.2.2.1=o/\s.2.2.2.1.length=i/\s.2.2.2.2.length=i/\∀j(h:j<R.length)(h1:j<s.2.2.2.1.length)(h2:j<s.2.2.2.2.length),LR R[j].2.2.2.2.2.1 (ed l x) s.2.2.2.1[j]/\P.V.Code R[j].2.2.2.2.2.2.1 (ed l x) s.2.2.2.2[j]) (by omega) rfl ⟨rfl,rfl,rfl,rfl,fun j h h1=>by cases h1⟩ fun i s hi hs hJ=>?_
 obtain⟨c,R',o',G,V⟩:=s;obtain⟨j1,j2,j3,j4,j5⟩:=hJ;dsimp only at hs j1 j2 j3 j4 j5;subst hs j1 j2
 refine Wp.dec (fun al=>?_) fun hge=>?_
 .have al:i<R'.length:=by dsimp only at al;omega
  obtain⟨j,hj,p,hy⟩:=hRm _ (ajc al);obtain⟨⟨dk,hdk,_,tv⟩,tg⟩:=EK Lf hj (hsc.2.2.2.2.2.2.1 j hj);have L9:=Lf.2.2.2.2.2 _ (ajc hj)
  have eg:R'[i].2.2.2.2.2.1=x.2.2.2.2[j].2.2.2.2.2.1:=by rw[hy];rfl
  have ev:R'[i].2.2.2.2.2.2.1=x.2.2.2.2[j].2.2.2.2.2.2.1:=by rw[hy];rfl
  dsimp only;rw[ag al,ai2,wp_bind]
  have wg:Wp (M.bB aC R'[i].2.2.2.2.2.1) fun y=>LR R'[i].2.2.2.2.2.1 (ed l x) y:=by
   by_cases h0:R'[i].2.2.2.2.2.1.length=0
   .unfold M.bB;rw[if_pos (by rw[decide_eq_true_eq];omega)];exact .some (.inl ⟨h0,rfl⟩)
   .obtain⟨r,h1,h2,_⟩:=tg (by rw[<-eg];omega);rw[eg]at h0⊢
    exact(P.V.FV L9.2.2.2.2.2.1.2 h1 h2).mono fun y hy=> .inr ⟨by omega,hy⟩
  refine wg.mono fun y hyg=>?_
  rw[bD (by simp;omega),ai2,wp_bind];obtain⟨r,h1,h2,_⟩:=tv
  have wv:Wp (M.bB aC R'[i].2.2.2.2.2.2.1) fun z=>P.V.Code R'[i].2.2.2.2.2.2.1 (ed l x) z:=by
   rw[ev];exact P.V.FV L9.2.2.2.2.2.2.1.2 h1 h2
  refine wv.mono fun z hz=>?_
  rw[bD (by simp;omega),ai2];refine .some ⟨al,cu (m:=R'.length) (by omega) al,rfl,rfl,by simp[j3],by simp[j4],fun q h h1 h2=>?_⟩;dsimp only at h1 h2⊢;by_cases hq:q<i
  .rw[ajf (by omega),ajf (by omega)];exact j5 q h (by omega) (by omega)
  .have hq:q=i:=by simp at h1;omega
   subst hq;rw[ajn (by omega),ajn (by omega)];simp only[j3,j4,Nat.sub_self,List.getElem_cons_zero];exact⟨hyg,hz⟩
 .have hge:i=R'.length:=by dsimp only at hge;omega
  exact .some ⟨⟨hRe,e1,e2,e3,by dsimp only;omega,by dsimp only;omega,j5⟩,trivial⟩
theorem EM(l:Lw)(hw:WF cn l)(mr:jt l)(at_ d:Int):Wp (M.bL aC l at_ d) fun p=>(p.2.1≠0/\p.1=[]/\p.2.2=([],[],[])/\(p.2.1=if¬Valid l then 1 else if at_<0\/(l.2.2.length:Int)<=at_ then 6 else 3)/\¬(Valid l/\(0<=at_/\at_<(l.2.2.length:Int))/\0<=d/\d<=109572))\/(p.2.1=0/\Valid l/\(0<=d/\d<=109572)/\∃k,∃hk:k<l.2.2.length,at_=(k:Int)/\Prg l l.2.2[k] d (p.1,p.2.2)):=by
 unfold M.bL;rw[NW l hw mr,ai2]
 refine Wp.mY (fun h=>?_) fun h=>?_
 .refine .some (.inl ⟨by decide,rfl,rfl,?_,fun g=>h g.1⟩);rw[if_pos (show¬Valid l from h)]
 have hv:Valid l:=h
 refine Wp.seq (fun j=>j=true↔(at_<0\/(l.2.2.length:Int)<=at_)) ?_ fun j hj=>?_
 .refine Wp.dec (fun h=> .some (iff_of_true rfl (.inl h))) fun h=> .some ?_
  rw[decide_eq_true_eq];omega
 by_cases ha:at_<0\/(l.2.2.length:Int)<=at_
 .rw[if_pos (hj.2 ha)];refine .some (.inl ⟨by decide,rfl,rfl,?_,fun g=>by omega⟩);rw[if_neg (fun g=>g hv),if_pos ha]
 rw[if_neg (fun g=>ha (hj.1 g))]
 refine Wp.seq (fun j=>j=true↔(d<0\/109572<d)) ?_ fun j hj=>?_
 .refine Wp.dec (fun h=> .some (iff_of_true rfl (.inl h))) fun h=> .some ?_
  rw[decide_eq_true_eq];omega
 by_cases hd:d<0\/109572<d
 .rw[if_pos (hj.2 hd)];refine .some (.inl ⟨by decide,rfl,rfl,?_,fun g=>by omega⟩);rw[if_neg (fun g=>g hv),if_neg ha]
 rw[if_neg (fun g=>hd (hj.1 g))];obtain⟨k,rfl⟩:=ajm (show 0<=at_ by omega)
 have hk:k<l.2.2.length:=by omega
 rw[wp_bind]
 exact(EL l hw mr hv k hk d).mono fun p hp=> .some (.inr ⟨rfl,hv,by omega,k,hk,rfl,hp⟩)
end L
end Go.Proofs.YtilaieogabgamaaGreatDoor
end
section
open _root_.Bool renaming eq_iff_iff->ake
open _root_.Go.Lib renaming compact->aj5
open _root_.List renaming getElem_mem->ajc,getElem_of_mem->aji,length_map->ajG
open _root_.Nat renaming le_trans->ajE,mul_le_mul_right->ajw
open _root_.Option renaming bind_eq_some_iff->ajS,bind_some->ai2
open _root_.Option.some renaming inj->ai4
open _root_.Prod.mk renaming injEq->aj3
namespace Go.Proofs.YtilaieogabgamaaGreatDoor
open Go Go.RowKit
set_option maxRecDepth 100000
set_option linter.unusedSimpArgs false
set_option linter.unusedVariables false
namespace L
theorem r6{S X:Type}{body CA:S->Option (S⊕X)}(I:S->Prop)(h:∀s,I s->CA s=body s)(hI:∀s s',I s->body s=some (.inl s')->I s'):∀(N:Nat)(s:S),I s->Loop CA N s=Loop body N s
 |0,_,_=>rfl
 |N+1,s,hs=>by
  unfold Loop;rw[h s hs]
  cases hb:body s with
  |none=>rfl
  |some x=>cases x with
   |inl s'=>exact r6 I h hI N s' (hI s s' hs hb)
   |inr x=>rfl
theorem CB{S S' X X':Type}{body:S->Option (S⊕X)}{CA:S'->Option (S'⊕X')}(φ:S->S')(ψ:X->X')(I:S->Prop)(h:∀s,I s->CA (φ s)=(body s).map (Sum.map φ ψ))(hI:∀s s',I s->body s=some (.inl s')->I s'):∀(N:Nat)(s:S),I s->Loop CA N (φ s)=(Loop body N s).map ψ
 |0,_,_=>rfl
 |N+1,s,hs=>by
  unfold Loop;rw[h s hs]
  cases hb:body s with
  |none=>rfl
  |some x=>cases x with
   |inl s'=>exact CB φ ψ I h hI N s' (hI s s' hs hb)
   |inr x=>rfl
theorem uI{α:Type}{l:List α}{i:Int}{x:α}(h:idx l i=some x):x∈l:=by
 obtain⟨_,e⟩:=(dB (Q:=fun y=>y=x)).1 ⟨x,h,rfl⟩;exact e▸ajc _
def Ma(a b:Int)(r:Ty):Prop:=uH r a↔uH r b
theorem r7{a b:Int}{r:Ty}(h:Ma a b r):M.bn aC r a=M.bn aC r b:=by
 rw[wB,wB];refine congrArg some ?_;rw[ake,decide_eq_true_eq,decide_eq_true_eq];exact h
theorem CC{t:wM}{a b:Int}(h:∀w∈t.2.2.2,Ma a b w.1):M.cQ aC t a=M.cQ aC t b:=by
 unfold M.cQ;refine congrArg (fun o=>Option.bind o _) ?_;refine r6 (fun _=>True) (fun s _=>?_) (fun _ _ _ _=>trivial) aC _ trivial;by_cases hs:s.1<(t.2.2.2.length:Int)
 .rw[if_pos (decide_eq_true hs),if_pos (decide_eq_true hs)]
  cases hx:idx t.2.2.2 s.1 with
  |none=>rfl
  |some x=>
   simp only[ai2];rw[r7 (h x (uI hx))]
 .rw[if_neg (by rw[decide_eq_true_eq];exact hs),if_neg (by rw[decide_eq_true_eq];exact hs)]
theorem xr{rules:List lj}{a b:Int}(h:∀u∈rules,Ma a b u.2.2.2.2.1):M.bQ aC rules b=(M.bQ aC rules a).map fun r=>(b,r.2):=by
 unfold M.bQ
 cases hm:mV (rules.length:Int) (0:Int)with
 |none=>rfl
 |some l1=>
  rw[ai2,ai2];refine CB (fun s:Int×Int×(List Int)×(List Int)×List Int=>(s.1,b,s.2.2)) (fun r:Int×(List Int)×List Int=>(b,r.2)) (fun s=>s.2.1=a) ?_ ?_ aC ((0:Int),a,l1,([]:List Int),([]:List Int)) rfl
  .rintro⟨i,a',n,x,y⟩ De
   dsimp only at De;obtain rfl:=De.symm;dsimp only;by_cases hs:i<(rules.length:Int)
   .rw[if_pos (decide_eq_true hs),if_pos (decide_eq_true hs)]
    cases hx:idx rules i with
    |none=>rfl
    |some u=>
     simp only[ai2];generalize((((if(decide ((0:Int)<=u.2.2.1))=true then some (decide (u.2.2.1<i))else some false):Option (Bool)).bind fun j6=>(if j6=true then(idx n u.2.2.1).bind fun x7=>some x7 else some (-1:Int))):Option (Int))=VN
     cases VN with
     |none=>rfl
     |some VN=>
      simp only[ai2]
      cases idx n i with
      |none=>rfl
      |some _=>
       simp only[ai2];unfold M.bZ;rw[<-r7 (h u (uI hx)),wB];simp only[ai2]
       cases decide (uH u.2.2.2.2.1 a)with
       |false=>rfl
       |true=>
        simp only[if_true]
        cases idx (aT n i VN) i with
        |none=>rfl
        |some _=>
         simp only[ai2]
         cases bR x ([i]:List Int)with
         |none=>rfl
         |some _=>
          simp only[ai2]
          cases bR y ([VN]:List Int)with
          |none=>rfl
          |some _=>rfl
   .rw[if_neg (by rw[decide_eq_true_eq];exact hs),if_neg (by rw[decide_eq_true_eq];exact hs)];rfl
  .rintro⟨i,a',n,x,y⟩ s' De hb
   dsimp only at De;obtain rfl:=De.symm;dsimp only at hb⊢;by_cases hs:i<(rules.length:Int)
   .rw[if_pos (decide_eq_true hs)]at hb;obtain⟨j,hj,hb⟩:=ajS.1 hb;obtain rfl:=Sum.inl.inj (ai4 hb)
    show j.1=_
    obtain⟨u,_,hj⟩:=ajS.1 hj;obtain⟨_,_,hj⟩:=ajS.1 hj;obtain⟨_,_,hj⟩:=ajS.1 hj;obtain⟨y9,h9,hj⟩:=ajS.1 hj
    have h9':y9.2=a:=by
     unfold M.bZ at h9;obtain⟨_,_,h9⟩:=ajS.1 h9;obtain rfl:=ai4 h9;rfl
    by_cases h1:y9.1=true
    .rw[if_pos h1]at hj;obtain⟨_,_,hj⟩:=ajS.1 hj;obtain⟨_,_,hj⟩:=ajS.1 hj;obtain⟨_,_,hj⟩:=ajS.1 hj;obtain rfl:=ai4 hj;exact h9'
    .rw[if_neg h1]at hj;obtain rfl:=ai4 hj;exact h9'
   .rw[if_neg (by rw[decide_eq_true_eq];exact hs)]at hb;cases hb
theorem CD{x:iQ}{a b:Int}(h:∀u∈x.2.2.2.2,Ma a b u.2.2.2.2.1):M.cR aC x a=M.cR aC x b:=by
 unfold M.cR;rw[xr h]
 cases M.bQ aC x.2.2.2.2 a with
 |none=>rfl
 |some r=>rfl
theorem LS{α β:Type}{m m':Option α}{k k':α->Option β}(hm:m=m')(hk:∀x,k x=k' x):m.bind k=m'.bind k':=by
 subst hm
 cases m with
 |none=>rfl
 |some x=>exact hk x
theorem Iv{l:Lw}{a b:Int}(h1:∀t∈l.2.1,∀w∈t.2.2.2,Ma a b w.1)(h2:∀x∈l.2.2,∀u∈x.2.2.2.2,Ma a b u.2.2.2.2.1):M.dl aC l a=M.dl aC l b:=by
 unfold M.dl
 refine LS rfl fun j1=>LS ?_ fun j6=>LS ?_ fun j7=>rfl
 .refine r6 (fun _=>True) (fun s _=>?_) (fun _ _ _ _=>trivial) aC _ trivial;by_cases hs:s.1<(l.2.1.length:Int)
  .rw[if_pos (decide_eq_true hs),if_pos (decide_eq_true hs)]
   cases hx:idx l.2.1 s.1 with
   |none=>rw[Option.bind_none,Option.bind_none]
   |some x=>
    simp only[ai2];rw[CC (h1 x (uI hx))]
  .rw[if_neg (by rw[decide_eq_true_eq];exact hs),if_neg (by rw[decide_eq_true_eq];exact hs)]
 .refine r6 (fun _=>True) (fun s _=>?_) (fun _ _ _ _=>trivial) aC _ trivial;by_cases hs:s.1<(l.2.2.length:Int)
  .rw[if_pos (decide_eq_true hs),if_pos (decide_eq_true hs)]
   cases hx:idx l.2.2 s.1 with
   |none=>rw[Option.bind_none,Option.bind_none]
   |some x=>
    simp only[ai2];rw[CD (h2 x (uI hx))]
  .rw[if_neg (by rw[decide_eq_true_eq];exact hs),if_neg (by rw[decide_eq_true_eq];exact hs)]
theorem CE{l:Lw}{a b:Int}(ha:0<=a/\a<=109572)(hb:0<=b/\b<=109572)(h1:∀t∈l.2.1,∀w∈t.2.2.2,Ma a b w.1)(h2:∀x∈l.2.2,∀u∈x.2.2.2.2,Ma a b u.2.2.2.2.1)(at_:Int):M.bL aC l at_ a=M.bL aC l at_ b:=by
 unfold M.bL M.bV;rw[Iv h1 h2]
 have e:∀d:Int,0<=d/\d<=109572->((if(decide (d<(0:Int)))=true then some true else some (decide ((109572:Int)<d))):Option Bool)=some false:=fun d hd=>by
  rw[if_neg (by rw[decide_eq_true_eq];omega)];exact congrArg some (decide_eq_false (by omega))
 rw[e a ha,e b hb]
def ik(r:Ty):Prop:=VR r/\(r.1:Int)<(r.2:Int)
instance(r:Ty):Decidable (ik r):=by unfold ik;infer_instance
theorem EN(r:Ty):M.dc aC r=some (decide (ik r)):=by
 obtain⟨(r1:Int),(r2:Int)⟩:=r;apply Wp.eq;unfold M.dc;simp only[zY,W_,implies_true,forall_const,reduceCtorEq];unfold ik;dsimp only[ae,Row.den]
 by_cases h:VR ((r1,r2):Ty)<;>simp only[h,W_,implies_true,forall_const,reduceCtorEq]
theorem nZ(l:List Int):(aj5 l).length<=l.length:=by
 unfold aj5 Go.Lib.compactUpTo;rw[ajG];exact ajE (List.length_filter_le _ _) (by simp)
theorem Iw(R:List Ty)(h:R.length<=1000000000):Wp (M.fi aC R) fun D=>D.length<=2*R.length/\∀r∈R,ik r->(r.1:Int)∈D/\(r.2:Int)∈D:=by
 unfold M.fi
 refine Wp.seq (fun o:List Int=>o.length<=2*R.length/\∀r∈R,ik r->(r.1:Int)∈o/\(r.2:Int)∈o) ?_ fun o ho=>?_
 .refine Wp.count (fun s=>s.1) R.length (fun k s=>s.2.length<=2*k/\∀i(hi:i<R.length),i<k->ik R[i]->(R[i].1:Int)∈s.2/\(R[i].2:Int)∈s.2) (by omega) rfl ⟨by simp,fun i hi h=>by omega⟩ fun k s hk hs hJ=>?_
  obtain⟨c,o⟩:=s;dsimp only at hs hJ;subst hs;obtain⟨j1,j2⟩:=hJ
  refine Wp.dec (fun al=>?_) fun hge=>?_
  .have al:k<R.length:=by dsimp only at al;omega
   dsimp only;rw[ag al,ai2,EN,ai2]
   refine Wp.seq (fun o':List Int=>o'.length<=2*(k+1)/\(∀x∈o,x∈o')/\(ik R[k]->(R[k].1:Int)∈o'/\(R[k].2:Int)∈o')) ?_ fun o' iN=>?_
   .refine Wp.dec (fun hd=>?_) fun hd=>?_
    .rw[bD (by simp;omega),ai2];refine .some ⟨by simp;omega,fun x hx=>by simp[hx],fun _=>by simp⟩
    .exact .some ⟨by omega,fun x hx=>hx,fun g=>absurd g hd⟩
   .obtain⟨g1,g2,g3⟩:=iN;refine .some ⟨al,cu (m:=R.length) (by omega) al,g1,fun i hi G0 hd=>?_⟩;by_cases e:i<k
    .obtain⟨a,b⟩:=j2 i hi e hd;exact⟨g2 _ a,g2 _ b⟩
    .obtain rfl:i=k:=by omega
     exact g3 hd
  .have hge:k=R.length:=by dsimp only at hge;omega
   refine .some ⟨by dsimp only;omega,fun r hr hd=>?_⟩;obtain⟨i,hi,rfl⟩:=aji hr;exact j2 i hi (by omega) hd
 obtain⟨h1,h2⟩:=ho;have hs:(mc o).length=o.length:=List.length_mergeSort ..
 have e1:M.bM aC o=some (mc o):=by
  unfold M.bM ye;rw[if_pos (by omega)]
 have e2:M.bF aC (mc o)=some (aj5 (mc o)):=by
  unfold M.bF nE;rw[if_pos (by omega)]
 rw[e1,ai2,e2,ai2];refine .some ⟨?_,fun r hr hd=>?_⟩
 .have:=nZ (mc o);omega
 have:=h2 r hr hd;rw[pd,pd];exact⟨List.mem_mergeSort.2 this.1,List.mem_mergeSort.2 this.2⟩
def UZ(l:Lw)(r:Ty):Prop:=(∃t∈l.2.1,∃w∈t.2.2.2,w.1=r)\/∃x∈l.2.2,∃u∈x.2.2.2.2,u.2.2.2.2.1=r
theorem EO(l:Lw)(hm:Eu l)(mr:jt l):Wp (M.eQ aC l) fun D=>D.length<=1000000000/\∀r,UZ l r->ik r->(∀d:Int,(d=r.1\/d=r.2)->1<=d->d<=109572->d∈D):=by
 obtain⟨s1,s2,s3,s4,s5,s6⟩:=mr
 obtain⟨B,hB⟩:∃B:Nat,B=1048576:=⟨_,rfl⟩
 have hmt:∀t∈l.2.1,t.2.2.2.length<=B:=fun t h=>hB▸hm.tb t h
 have PF:∀x∈l.2.2,x.2.2.2.2.length<=B:=fun t h=>hB▸(hm.sc t h).2.2
 have sB:∀k,(k+1)*B=k*B+B:=fun k=>Nat.succ_mul k B
 have zB:0*B=0:=Nat.zero_mul B
 have lB:∀k,k<=9->k*B<=9437184:=fun k hk=>by
  have:=ajw B hk;omega
 unfold M.eQ
 refine Wp.seq (fun R:List Ty=>R.length<=9437184/\∀t∈l.2.1,∀w∈t.2.2.2,w.1∈R) ?_ fun R hR=>?_
 .refine Wp.count (fun s=>s.1) l.2.1.length (fun k s=>s.2.length<=k*B/\∀i(hi:i<l.2.1.length),i<k->∀w∈l.2.1[i].2.2.2,w.1∈s.2) (by omega) rfl ⟨by rw[zB];simp,fun i hi h=>by omega⟩ fun k s hk hs hJ=>?_
  have q1:=sB k;have q2:=lB k (by omega);obtain⟨c,o⟩:=s;dsimp only at hs hJ;subst hs;obtain⟨j1,j2⟩:=hJ
  refine Wp.dec (fun al=>?_) fun hge=>?_
  .have al:k<l.2.1.length:=by dsimp only at al;omega
   have DY:=hmt _ (ajc al);dsimp only;rw[ag al,ai2]
   refine Wp.seq (fun o':List Ty=>o'.length<=(k+1)*B/\(∀x∈o,x∈o')/\∀w∈l.2.1[k].2.2.2,w.1∈o') ?_ fun o' iN=>?_
   .generalize l.2.1[k].2.2.2=rows at*
    refine Wp.count (fun s=>s.1) rows.length (fun j s=>s.2.length<=k*B+j/\(∀x∈o,x∈s.2)/\∀i(hi:i<rows.length),i<j->rows[i].1∈s.2) (by omega) rfl ⟨by exact ajE j1 (by omega),fun x hx=>hx,fun i hi h=>by omega⟩ fun j s hj hs hJ=>?_
    obtain⟨c,q⟩:=s;dsimp only at hs hJ;subst hs;obtain⟨z1,z2,z3⟩:=hJ
    refine Wp.dec (fun pT=>?_) fun hge=>?_
    .have pT:j<rows.length:=by dsimp only at pT;omega
     dsimp only;rw[ag pT,ai2,bD (by simp;omega),ai2];refine .some ⟨pT,cu (m:=rows.length) (by omega) pT,by simp;omega,fun x hx=>by simp[z2 x hx],fun i hi JK=>?_⟩;by_cases e:i<j
     .simp[z3 i hi e]
     .obtain rfl:i=j:=by omega
      simp
    .have hge:j=rows.length:=by dsimp only at hge;omega
     refine .some ⟨by exact ajE (by assumption) (by omega),z2,fun w hw=>?_⟩;obtain⟨i,hi,rfl⟩:=aji hw;exact z3 i hi (by omega)
   .obtain⟨g1,g2,g3⟩:=iN;refine .some ⟨al,cu (m:=l.2.1.length) (by omega) al,g1,fun i hi G0 w hw=>?_⟩;by_cases e:i<k
    .exact g2 _ (j2 i hi e w hw)
    .obtain rfl:i=k:=by omega
     exact g3 w hw
  .have hge:k=l.2.1.length:=by dsimp only at hge;omega
   refine .some ⟨by exact ajE (by assumption) (by omega),fun t ht w hw=>?_⟩;obtain⟨i,hi,rfl⟩:=aji ht;exact j2 i hi (by omega) w hw
 obtain⟨r1,r2⟩:=hR
 refine Wp.seq (fun R':List Ty=>R'.length<=100000000/\∀r,UZ l r->r∈R') ?_ fun R' R3=>?_
 .refine Wp.count (fun s=>s.1) l.2.2.length (fun k s=>s.2.length<=9437184+k*B/\(∀x∈R,x∈s.2)/\∀i(hi:i<l.2.2.length),i<k->∀u∈l.2.2[i].2.2.2.2,u.2.2.2.2.1∈s.2) (by omega) rfl ⟨by rw[zB];exact ajE r1 (by omega),fun x hx=>hx,fun i hi h=>by omega⟩ fun k s hk hs hJ=>?_
  have q1:=sB k;have q2:=lB k (by omega);obtain⟨c,o⟩:=s;dsimp only at hs hJ;subst hs;obtain⟨j1,j0,j2⟩:=hJ
  refine Wp.dec (fun al=>?_) fun hge=>?_
  .have al:k<l.2.2.length:=by dsimp only at al;omega
   have DY:=PF _ (ajc al);dsimp only;rw[ag al,ai2]
   refine Wp.seq (fun o':List Ty=>o'.length<=9437184+(k+1)*B/\(∀x∈o,x∈o')/\∀u∈l.2.2[k].2.2.2.2,u.2.2.2.2.1∈o') ?_ fun o' iN=>?_
   .generalize l.2.2[k].2.2.2.2=rows at*
    refine Wp.count (fun s=>s.1) rows.length (fun j s=>s.2.length<=9437184+k*B+j/\(∀x∈o,x∈s.2)/\∀i(hi:i<rows.length),i<j->rows[i].2.2.2.2.1∈s.2) (by omega) rfl ⟨by exact ajE j1 (by omega),fun x hx=>hx,fun i hi h=>by omega⟩ fun j s hj hs hJ=>?_
    obtain⟨c,q⟩:=s;dsimp only at hs hJ;subst hs;obtain⟨z1,z2,z3⟩:=hJ
    refine Wp.dec (fun pT=>?_) fun hge=>?_
    .have pT:j<rows.length:=by dsimp only at pT;omega
     dsimp only;rw[ag pT,ai2,bD (by simp;omega),ai2];refine .some ⟨pT,cu (m:=rows.length) (by omega) pT,by simp;omega,fun x hx=>by simp[z2 x hx],fun i hi JK=>?_⟩;by_cases e:i<j
     .simp[z3 i hi e]
     .obtain rfl:i=j:=by omega
      simp
    .have hge:j=rows.length:=by dsimp only at hge;omega
     refine .some ⟨by exact ajE (by assumption) (by omega),z2,fun w hw=>?_⟩;obtain⟨i,hi,rfl⟩:=aji hw;exact z3 i hi (by omega)
   .obtain⟨g1,g2,g3⟩:=iN;refine .some ⟨al,cu (m:=l.2.2.length) (by omega) al,g1,fun x hx=>g2 _ (j0 x hx),fun i hi G0 w hw=>?_⟩;by_cases e:i<k
    .exact g2 _ (j2 i hi e w hw)
    .obtain rfl:i=k:=by omega
     exact g3 w hw
  .have hge:k=l.2.2.length:=by dsimp only at hge;omega
   refine .some ⟨by exact ajE (by assumption) (by omega),fun r hr=>?_⟩
   rcases hr with⟨t,ht,w,hw,rfl⟩|⟨x,hx,u,hu,rfl⟩
   .exact j0 _ (r2 t ht w hw)
   .obtain⟨i,hi,rfl⟩:=aji hx;exact j2 i hi (by omega) u hu
 obtain⟨q1,q2⟩:=R3
 refine Wp.seq _ (Iw R' (by omega)) fun D hD=>?_
 obtain⟨hl,hD⟩:=hD
 have e:M.cU aC D=some (D.filter fun x=> !tM x):=by
  unfold M.cU pH;rw[if_pos (by omega)]
 rw[e,ai2];refine .some ⟨ajE (List.length_filter_le _ _) (by omega),fun r hr hd d jJ h1 h2=>?_⟩;have:=hD r (q2 r hr) hd;rw[List.mem_filter];refine⟨jJ.elim (fun e=>e▸this.1) fun e=>e▸this.2,?_⟩;unfold tM;rw[decide_eq_false (by omega),decide_eq_false (by omega)];rfl
theorem qT(l:List Ty)(h:l.length<=100000):M.jn aC l l=some true:=by
 apply Wp.eq;unfold M.jn;rw[if_neg (by simp)]
 refine Wp.count (fun s=>s) l.length (fun _ _=>True) (by omega) rfl trivial fun k s hk hs _=>?_
 obtain rfl:s=_:=hs
 refine Wp.seq (fun j=>j=decide (k<l.length)) ?_ fun j hj=>?_
 .refine Wp.dec (fun h=> .some ?_) fun h=> .some ?_
  .simp
  .simp;omega
 .subst hj
  refine Wp.dec (fun al=>?_) fun _=> .some rfl
  rw[ag al,ai2,ai2,if_neg (by rw[wj];decide)];exact .some ⟨al,cu (m:=l.length) (by omega) al,trivial⟩
theorem EP(l:List Int)(h:l.length<=100000):M.pJ aC l l=some true:=by
 apply Wp.eq;unfold M.pJ;rw[if_neg (by simp)]
 refine Wp.count (fun s=>s) l.length (fun _ _=>True) (by omega) rfl trivial fun k s hk hs _=>?_
 obtain rfl:s=_:=hs
 refine Wp.seq (fun j=>j=decide (k<l.length)) ?_ fun j hj=>?_
 .refine Wp.dec (fun h=> .some ?_) fun h=> .some ?_
  .simp
  .simp;omega
 .subst hj
  refine Wp.dec (fun al=>?_) fun _=> .some rfl
  rw[ag al,ai2,ai2,if_neg (by simp)];exact .some ⟨al,cu (m:=l.length) (by omega) al,trivial⟩
theorem wG(l:List (List Ty))(h:l.length<=100000)(hm:∀r∈l,r.length<=100000):M.mg aC l l=some true:=by
 apply Wp.eq;unfold M.mg;rw[if_neg (by simp)]
 refine Wp.count (fun s=>s) l.length (fun _ _=>True) (by omega) rfl trivial fun k s hk hs _=>?_
 obtain rfl:s=_:=hs
 refine Wp.seq (fun j=>j=decide (k<l.length)) ?_ fun j hj=>?_
 .refine Wp.dec (fun h=> .some ?_) fun h=> .some ?_
  .simp
  .simp;omega
 .subst hj
  refine Wp.dec (fun al=>?_) fun _=> .some rfl
  rw[ag al,ai2,ai2,qT _ (hm _ (ajc al)),ai2,if_neg (by simp)];exact .some ⟨al,cu (m:=l.length) (by omega) al,trivial⟩
theorem Ix(r:lj)(h1:r.2.2.2.2.2.1.length<=100000)(h2:r.2.2.2.2.2.2.1.length<=100000):M.pK aC r r=some true:=by
 unfold M.pK;simp only[decide_true,if_true,wj,ai2,qT _ h1,qT _ h2]
theorem EQ(l:List lj)(h:l.length<=100000)(hm:∀r∈l,r.2.2.2.2.2.1.length<=100000/\r.2.2.2.2.2.2.1.length<=100000):M.n9 aC l l=some true:=by
 apply Wp.eq;unfold M.n9;rw[if_neg (by simp)]
 refine Wp.count (fun s=>s) l.length (fun _ _=>True) (by omega) rfl trivial fun k s hk hs _=>?_
 obtain rfl:s=_:=hs
 refine Wp.seq (fun j=>j=decide (k<l.length)) ?_ fun j hj=>?_
 .refine Wp.dec (fun h=> .some ?_) fun h=> .some ?_
  .simp
  .simp;omega
 .subst hj
  refine Wp.dec (fun al=>?_) fun _=> .some rfl
  obtain⟨m1,m2⟩:=hm _ (ajc al);rw[ag al,ai2,ai2,Ix _ m1 m2,ai2,if_neg (by simp)];exact .some ⟨al,cu (m:=l.length) (by omega) al,trivial⟩
theorem r8{O:List Int}{R:List lj}{G V:List (List Ty)}(h1:O.length<=100000)(h2:R.length<=100000)(h3:∀r∈R,r.2.2.2.2.2.1.length<=100000/\r.2.2.2.2.2.2.1.length<=100000)(h4:G.length<=100000)(h5:∀r∈G,r.length<=100000)(h6:V.length<=100000)(h7:∀r∈V,r.length<=100000):
 M.kg aC (O,(R,(G,V))) (O,(R,(G,V)))=some true:=by
 unfold M.kg;simp only[EP _ h1,EQ _ h2 h3,wG _ h4 h5,wG _ h6 h7,ai2,if_true]
theorem Af(l:Lw)(hw:WF cn l)(mr:jt l)(at_ d:Int):Wp (M.bL aC l at_ d) fun p=>M.kg aC (p.2.2.1,(p.1,(p.2.2.2.1,p.2.2.2.2))) (p.2.2.1,(p.1,(p.2.2.2.1,p.2.2.2.2)))=some true:=by
 refine(EM l hw mr at_ d).mono fun p hp=>?_
 obtain⟨R,e,O,G,V⟩:=p;dsimp only at hp⊢
 rcases hp with⟨_,h2,h3,_⟩|⟨_,hv,_,k,hk,rfl,hP⟩
 .simp only[aj3]at h3;obtain⟨rfl,rfl,rfl⟩:=h3;subst h2;exact r8 (by simp) (by simp) (fun r h=>by cases h) (by simp) (fun r h=>by cases h) (by simp) (fun r h=>by cases h)
 .have hs:=mr.2.2.2.2.2 _ (ajc hk);have AT:=Ab (hv.scope k hk).2.2.2.2.2.2.1;have hr:=hP.rules;have ho:=hP.all;have g1:=hP.gl;have g2:=hP.vl;have hc:=hP.code;dsimp only at hr ho g1 g2 hc
  have UK:R.length<=60:=by
   rw[hr,jF];have:=(mq d l.2.2[k].2.2.2.2).2.1;have:=hs.2.2.2.1;omega
  have Nv:=hs.2.2.1;refine r8 (by omega) (by omega) (fun r h=>?_) (by omega) (fun y h=>?_) (by omega) (fun y h=>?_)
  .rw[hr]at h;obtain⟨r',oz,p,e,_⟩:=pf d AT h;have:=hs.2.2.2.2.2.2 _ oz;subst e;exact⟨by have:=this.2.2.1;show r'.2.2.2.2.2.1.length<=_;omega,by have:=this.2.2.2;show r'.2.2.2.2.2.2.1.length<=_;omega⟩
  .obtain⟨i,hi,rfl⟩:=aji h
   rcases(hc i (by omega) hi (by omega)).1 with⟨_,h⟩|⟨_,h⟩
   .rw[h];simp
   .have:=h.le;omega
  .obtain⟨i,hi,rfl⟩:=aji h;have:=(hc i (by omega) (by omega) hi).2.le;omega
theorem LU{D:List Int}{a b:Int}{r:Ty}(hD:ik r->∀d:Int,(d=r.1\/d=r.2)->1<=d->d<=109572->d∈D)(dX:∀d∈D,¬(a<d/\d<=b))(h0:0<=a)(wX:a<=b)(hb:b<=109572):Ma a b r:=by
 unfold Ma uH;obtain⟨(r1:Int),(r2:Int)⟩:=r;unfold ik at hD;dsimp only[ae,Row.den]at*;by_cases hv:VR ((r1,r2):Ty)
 .by_cases al:r1<r2
  .have hd:=hD ⟨hv,al⟩
   have n1:¬(a<r1/\r1<=b):=fun h=>dX r1 (hd r1 (.inl rfl) (by omega) (by omega)) h
   have n2:¬(a<r2/\r2<=b):=fun h=>dX r2 (hd r2 (.inr rfl) (by omega) (by omega)) h
   constructor<;>rintro⟨_,h1,h2⟩<;>exact⟨hv,by omega,by omega⟩
  .constructor<;>rintro⟨_,h1,h2⟩<;>omega
 .constructor<;>rintro⟨h,_⟩<;>exact absurd h hv
theorem p4(l:Lw)(scope a b:Int)(hw:WF cn l)(_:WF ae scope)(_:WF ae a)(_:WF ae b)(mr:cB cn l+cB (.int .i64) scope+cB (.int .i64) a+cB (.int .i64) b<=1048576):M.ij aC l scope a b=some true:=by
 have hm:Eu l:=Eu.of (by omega);apply Wp.eq;unfold M.ij;rw[N4]
 refine Wp.seq (fun j=>j=false->jt l/\0<=a/\a<=b/\b<=109572) ?_ fun j hj=>?_
 .refine Wp.seq _ (Ii l hw) fun y hy=>?_
  cases y with
  |false=>rw[if_pos (by decide)];exact .some fun h=>by cases h
  |true=>
   rw[if_neg (by decide)]
   refine Wp.dec (fun _=> .some fun h=>by cases h) fun h1=>?_
   refine Wp.dec (fun _=> .some fun h=>by cases h) fun h2=>?_
   exact .some fun h=>⟨hy rfl,by omega,by omega,by have:=of_decide_eq_false h;omega⟩
 cases j with
 |true=>rw[if_pos rfl];exact .some rfl
 |false=>
 rw[if_neg (by decide)];obtain⟨hs,h0,wX,hb⟩:=hj rfl
 refine Wp.seq _ (EO l hm hs) fun D hD=>?_
 obtain⟨Vu,hD⟩:=hD;rw[zG]
 refine Wp.count (fun s=>s) D.length (fun k _=>∀i(h:i<D.length),i<k->¬(a<D[i]/\D[i]<=b)) (by omega) rfl (fun i h g=>by omega) fun k s hk Am hJ=>?_
 obtain rfl:s=_:=Am
 refine Wp.dec (fun al=>?_) fun hge=>?_
 .have al:k<D.length:=by omega
  refine Wp.seq (fun j=>j=decide (a<D[k]/\D[k]<=b)) ?_ fun j hj=>?_
  .rw[ag al,ai2]
   refine Wp.dec (fun h=> .some ?_) fun h=> .some ?_
   .simp only[h,true_and]
   .rw[decide_eq_false (fun g=>h g.1)]
  .by_cases h:a<D[k]/\D[k]<=b
   .rw[hj,decide_eq_true h,if_pos rfl];exact .some rfl
   .rw[hj,decide_eq_false h,if_neg (by decide)];refine .some ⟨al,cu (m:=D.length) (by omega) al,fun i hi G0=>?_⟩;by_cases e:i<k
    .exact hJ i hi e
    .obtain rfl:i=k:=by omega
     exact h
 .have dX:∀d∈D,¬(a<d/\d<=b):=fun d hd=>by
   obtain⟨i,hi,rfl⟩:=aji hd;exact hJ i hi (by omega)
  have hc:M.bL aC l scope a=M.bL aC l scope b:=by
   refine CE ⟨h0,by omega⟩ ⟨by omega,hb⟩ (fun t ht w hw=>?_) (fun x hx u hu=>?_) scope
   .exact LU (hD _ (.inl ⟨t,ht,w,hw,rfl⟩)) dX h0 wX hb
   .exact LU (hD _ (.inr ⟨x,hx,u,hu,rfl⟩)) dX h0 wX hb
  refine .some ?_;obtain⟨p,ep,hp⟩:=Af l hw hs scope b
  show Wp _ _
  dsimp only;rw[hc,ep,ai2,ai2,hp,ai2,if_pos rfl,if_pos (decide_eq_true rfl)];exact .some rfl
end L
end Go.Proofs.YtilaieogabgamaaGreatDoor
end
