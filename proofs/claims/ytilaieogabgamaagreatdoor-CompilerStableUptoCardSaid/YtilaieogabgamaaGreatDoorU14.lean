/- Joined texts: RV RW RM RN RX CA RY. -/
import Derived.Test.YtilaieogabgamaaGreatDoorU13
import Derived.Test.YtilaieogabgamaaGreatDoorU10
section
open _root_.Int renaming eq_ofNat_of_zero_le->ajm,tdiv->ajo,tmod->ajL,toNat_natCast->aja
open _root_.Go.IntKind renaming i64->ai3
open _root_.List renaming append_nil->ajW,drop_eq_getElem_cons->ajK,getD->ajD,getElem?_eq_getElem->ai5,getElem_append_left->ajf,getElem_append_right->ajn,getElem_mem->ajc,length_append->ai6,length_cons->ajk,length_map->ajG,length_take->ajl,mem_append->ajs,mem_of_getElem?->akj,mem_singleton->ajj,replicate->ai9,replicate_succ->aj9,set_append_right->ajU,take_length->aju
open _root_.Nat renaming le_refl->ai8
open _root_.Option renaming bind_eq_some_iff->ajS,bind_some->ai2
open _root_.Option.some renaming inj->ai4
namespace Go.Proofs.YtilaieogabgamaaGreatDoor
open Go Go.RowKit
set_option maxRecDepth 100000
set_option linter.unusedSimpArgs false
namespace L
theorem LD(op:Int):M.cV aC op=some (ar op):=by
 apply Wp.eq;unfold M.cV ar;simp only[W_,implies_true,forall_const,reduceCtorEq];omega
theorem LF(op:Int):M.fo aC op=some (decide ((1<=op/\op<=8)\/(14<=op/\op<=16)\/op=33\/op=34\/(36<=op/\op<=39))):=by
 apply Wp.eq;unfold M.fo;simp only[W_,implies_true,forall_const,reduceCtorEq];omega
theorem br(k:Int):M.da aC k=some (decide (k=2\/k=3\/k=4)):=by
 apply Wp.eq;unfold M.da;simp only[W_,implies_true,forall_const,reduceCtorEq];omega
theorem aS(k:Int):M.eG aC k=some (decide (0<=k/\k<=5)):=by
 apply Wp.eq;unfold M.eG;simp only[W_,implies_true,forall_const,reduceCtorEq];omega
theorem bH(m k:Int)(s:nL):M.cw aC m k s=some (if CQ m (k,(0:Int)) s.1 then((k,(0:Int)),(0:Int))else(((0:Int),(0:Int)),(3:Int))):=by
 apply Wp.eq;unfold M.cw;simp only[F6,W_,implies_true,forall_const,reduceCtorEq];have hI:CQ m (k,(0:Int)) s.1↔(Ht (k,(0:Int)) s.1).1<=m/\m<=(Ht (k,(0:Int)) s.1).2:=Iff.rfl;exact⟨fun h=>by rw[if_neg fun g=>by have:=hI.1 g;omega],fun h=>⟨fun h'=>by rw[if_neg fun g=>by have:=hI.1 g;omega],fun h'=>by rw[if_pos (hI.2 (by omega))]⟩⟩
noncomputable def pN(n:Ty)(l:List Ty)(s:nL):Option (Ty×Int):=
 if(n.2:Int)≠0/\¬((1<=(n.1:Int)/\(n.1:Int)<=8)\/(14<=(n.1:Int)/\(n.1:Int)<=16)\/(n.1:Int)=33\/(n.1:Int)=34\/(36<=(n.1:Int)/\(n.1:Int)<=39))then some (((0:Int),(0:Int)),2)else M.aH aC n l s
def pY(t:Ty):Prop:=1<=(t.1:Int)/\(t.1:Int)<=5->(t.2:Int)=0
theorem Rk(op m:Int)(a b:Ty)(s:nL)(h2:ar op=2)(ha:pY a)(_:pY b):pN (op,m) [a,b] s=M.aB aC (op,m) [a,b] s:=by
 have hr:=wk (op,m) s
 have hR:Ck op m s↔(14<=op/\op<=16->0<=m/\m<=5):=by
  unfold ar at h2;unfold Ck;exact⟨fun h=>h.2.1,fun h=>⟨fun _=>by omega,h,fun _=>by omega,fun _=>by omega⟩⟩
 have iK:op=11\/op=12\/op=13\/op=14\/op=15\/op=16\/op=17\/op=18\/op=19\/op=20\/op=21\/op=22\/op=23\/op=24\/op=27\/op=28\/op=29\/op=30:=by unfold ar at h2;omega
 obtain⟨(a1:Int),(a2:Int)⟩:=a;obtain⟨(b1:Int),(b2:Int)⟩:=b;simp only[pY]at ha
 rcases iK with rfl|rfl|rfl|rfl|rfl|rfl|rfl|rfl|rfl|rfl|rfl|rfl|rfl|rfl|rfl|rfl|rfl|rfl
 all_goals
  unfold pN M.aH M.cr M.fK M.aB M.ba M.gh M.kj;simp[aw,ay,av,aU,br,aS,bJ,hr,hR,idx,zP]
  grind
theorem LG(op m:Int)(a b c:Ty)(s:nL)(h3:ar op=3):pN (op,m) [a,b,c] s=M.aB aC (op,m) [a,b,c] s:=by
 have iK:op=26:=by unfold ar at h3;omega
 subst iK;have hr:=wk ((26:Int),m) s
 have hR:Ck 26 m s:=by unfold Ck;omega
 obtain⟨(a1:Int),(a2:Int)⟩:=a;obtain⟨(b1:Int),(b2:Int)⟩:=b;obtain⟨(c1:Int),(c2:Int)⟩:=c;unfold pN M.aH M.cr M.aB M.ba;simp[aw,ay,av,aU,br,aS,bJ,hr,hR,idx,zP]
 grind
theorem Rl(op m:Int)(a:Ty)(s:nL)(hm:m<=9223372036854775807)(h1:ar op=1)(ha:pY a):pN (op,m) [a] s=M.aB aC (op,m) [a] s:=by
 have hr:=wk (op,m) s
 have hR:Ck op m s↔(op=34->0<=m/\ajL m 8<=5):=by
  unfold ar at h1;unfold Ck;exact⟨fun h=>h.2.2.1,fun h=>⟨fun _=>by omega,fun _=>by omega,h,fun _=>by omega⟩⟩
 have hd:0<=m->0<=ai3.wrap (ajo m 8):=fun h=>FW h hm (by omega)
 have ht:0<=m->0<=ajL m 8:=fun h=>Int.tmod_nonneg _ h
 have iK:op=10\/op=25\/op=31\/op=32\/op=33\/op=34:=by unfold ar at h1;omega
 obtain⟨(a1:Int),(a2:Int)⟩:=a;simp only[pY]at ha
 rcases iK with rfl|rfl|rfl|rfl|rfl|rfl
 .unfold pN M.aH M.cr M.aB M.ba M.cf;simp[aw,ay,av,aU,br,aS,bJ,hr,hR,idx,zP]
  grind
 .unfold pN M.aH M.cr M.aB M.ba M.cf;simp[aw,ay,av,aU,br,aS,bJ,hr,hR,idx,zP]
  grind
 .unfold pN M.aH M.cr M.aB M.ba M.cf;simp[aw,ay,av,aU,br,aS,bJ,hr,hR,idx,zP]
  grind
 .unfold pN M.aH M.cr M.aB M.ba M.cf;simp[aw,ay,av,aU,br,aS,bJ,hr,hR,idx,zP]
  grind
 .have i0:idx [((a1,a2):Ty)] 0=some (a1,a2):=rfl;unfold pN M.aH M.fJ M.aB M.ba M.cf;by_cases h:0<=m/\m<(s.2.1.length:Int)
  .obtain⟨k,rfl⟩:=ajm h.1
   have hk:k<s.2.1.length:=by omega
   simp[aw,ay,av,aU,bJ,hr,hR,zP,oh,bG,i0,ag hk,hk,show¬((s.2.1.length:Int)<=(k:Int)) by omega,show¬((k:Int)<0) by omega];generalize s.2.1[k]=t
   by_cases c1:jI t.2.1 s.1.length<;>by_cases c2:jI t.2.2.1 s.1.length<;>by_cases c3:((a1,a2):Ty)=t.2.1<;>simp[c1,c2,c3]
  .simp[aw,ay,av,aU,bJ,hr,hR,zP,oh,bG,i0];by_cases O0:m<0
   .simp[O0,show¬0<=m by omega]
   .simp[O0,show 0<=m by omega,show(s.2.1.length:Int)<=m by omega,show¬m<(s.2.1.length:Int) by omega]
 .have i0:idx [((a1,a2):Ty)] 0=some (a1,a2):=rfl;unfold pN M.aH M.fJ M.aB M.ba M.cf;simp only[hr,hR];by_cases h:0<=m/\ajL m 8<=5
  .have hd:=hd h.1;have ht:=ht h.1;generalize ai3.wrap (ajo m 8)=j at*;generalize ajL m 8=q at*;by_cases h':j<(s.2.1.length:Int)
   .obtain⟨k,rfl⟩:=ajm hd
    have hk:k<s.2.1.length:=by omega
    simp[aw,ay,av,aU,aS,bJ,h,ht,zP,oh,bG,i0,ag hk,hk,show¬(m<0) by omega,show¬((s.2.1.length:Int)<=(k:Int)) by omega,show¬((k:Int)<0) by omega];generalize s.2.1[k]=t;obtain⟨nm,⟨(k1:Int),(k2:Int)⟩,⟨(v1:Int),(v2:Int)⟩,rs⟩:=t;generalize s.1.length=ne;by_cases R:a1=3/\k1=3/\k2=0/\v1=4/\v2=0
    .obtain⟨rfl,rfl,rfl,rfl,rfl⟩:=R;obtain rfl:a2=0:=ha ⟨by decide,by decide⟩
     have v3:jI (((3:Int),(0:Int)):Ty) ne:=by simp[jI]
     have v4:jI (((4:Int),(0:Int)):Ty) ne:=by simp[jI]
     simp[v3,v4]
    .have hR2:(((if a1=3 then if((k1,k2):Int×Int)=(3,0)then some (decide (((v1,v2):Int×Int)=(4,0)),a1,a2)else some (false,a1,a2)else some (false,a1,a2)):Option (Bool×Int×Int)))=some (false,a1,a2):=by
      by_cases q1:a1=3<;>by_cases q2:k1=3<;>by_cases q3:k2=0<;>by_cases q4:v1=4<;>by_cases q5:v2=0<;>simp[q1,q2,q3,q4,q5]<;>exact absurd ⟨q1,q2,q3,q4,q5⟩ R
     rw[hR2];by_cases c1:jI ((k1,k2):Ty) ne
     .by_cases c2:jI ((v1,v2):Ty) ne
      .by_cases e:((a1,a2):Ty)=(k1,k2)
       .injection e with e1 e2
        subst e1 e2;have Vb:=c1;have SQ:=c2;simp only[jI]at Vb SQ;dsimp only[ae,Row.den]at Vb SQ;by_cases f:a1=3
        .have g:¬v1=4:=fun g=>R (by omega)
         subst f
         obtain rfl:a2=0:=by omega
         simp[c1,c2,g]
        .simp[c1,c2,f]
       .simp[c1,c2,e]
      .simp[c1,c2]
     .simp[c1]
   .simp[aw,ay,av,aU,aS,bJ,h,ht,zP,oh,bG,i0,show¬(m<0) by omega,show(s.2.1.length:Int)<=j by omega,show¬j<0 by omega]
  .simp[aw,ay,av,aU,aS,bJ,zP,oh,bG,i0];by_cases O0:m<0
   .simp[O0,show¬0<=m by omega]
   .have h5:5<ajL m 8:=by omega
    simp[O0,h5,show¬ajL m 8<=5 by omega]
theorem aW(m:Int)(ls:List Ty)(s:nL):M.dj aC m ls s=if 0<=m/\m<(ls.length:Int)then(match ls[m.toNat]? with
 |some t=>if jI t s.1.length then some (t,(0:Int))else some (((0:Int),(0:Int)),(8:Int))
 |none=>none)else some (((0:Int),(0:Int)),(6:Int)):=by
 unfold M.dj;by_cases h:0<=m/\m<(ls.length:Int)
 .obtain⟨k,rfl⟩:=ajm h.1
  have hk:k<ls.length:=by omega
  rw[if_neg (by rw[decide_eq_true_eq];omega),ai2,if_neg (by rw[decide_eq_true_eq];omega),ag hk,ai2,oh,ai2,if_pos h,aja,ai5 hk];by_cases hv:jI ls[k] s.1.length
  .rw[if_neg (by simp[hv])];simp only[if_pos hv,ai2]
  .rw[if_pos (by simp[hv])];simp only[if_neg hv]
 .rw[if_neg h];by_cases h0:m<0
  .rw[if_pos (decide_eq_true h0)];rfl
  .rw[if_neg (by simpa using h0),ai2,if_pos (decide_eq_true (by omega))]
theorem LH{α:Type}(ls:List α)(m:Int):idx ls m=if 0<=m then ls[m.toNat]? else none:=rfl
theorem zero_eq(op m:Int)(s:nL)(hm:m<=9223372036854775807)(h0:ar op=0):pN (op,m) [] s=M.aB aC (op,m) [] s:=by
 have hr:=wk (op,m) s
 have hR:Ck op m s↔(1<=op/\op<=5->CQ m (op,(0:Int)) s.1)/\(op=6->0<=m):=by
  unfold ar at h0;unfold Ck;exact⟨fun h=>⟨h.1,h.2.2.2⟩,fun h=>⟨h.1,fun _=>by omega,fun _=>by omega,h.2⟩⟩
 have hd:0<=m->0<=ai3.wrap (ajo m 16):=fun h=>FW h hm (by omega)
 have iK:op=1\/op=2\/op=3\/op=4\/op=5\/op=6\/op=7\/op=8\/op=9\/op=35\/op=36\/op=37\/op=38\/op=39:=by unfold ar at h0;omega
 have v:∀k:Int,1<=k->k<=5->jI ((k,(0:Int)):Ty) s.1.length:=fun k h1 h2=> .inl ⟨h1,h2,rfl⟩
 rcases iK with rfl|rfl|rfl|rfl|rfl|rfl|rfl|rfl|rfl|rfl|rfl|rfl|rfl|rfl
 .unfold pN M.aH M.bl M.bE M.aB M.ba M.bO;have v:=v 1 (by decide) (by decide)
  by_cases h:CQ m ((1:Int),(0:Int)) s.1<;>simp[aw,ay,av,aU,br,aS,bH,aW,bJ,hr,hR,bG,h,v]
 .unfold pN M.aH M.bl M.bE M.aB M.ba M.bO;have v:=v 2 (by decide) (by decide)
  by_cases h:CQ m ((2:Int),(0:Int)) s.1<;>simp[aw,ay,av,aU,br,aS,bH,aW,bJ,hr,hR,bG,h,v]
 .unfold pN M.aH M.bl M.bE M.aB M.ba M.bO;have v:=v 3 (by decide) (by decide)
  by_cases h:CQ m ((3:Int),(0:Int)) s.1<;>simp[aw,ay,av,aU,br,aS,bH,aW,bJ,hr,hR,bG,h,v]
 .unfold pN M.aH M.bl M.bE M.aB M.ba M.bO;have v:=v 4 (by decide) (by decide)
  by_cases h:CQ m ((4:Int),(0:Int)) s.1<;>simp[aw,ay,av,aU,br,aS,bH,aW,bJ,hr,hR,bG,h,v]
 .unfold pN M.aH M.bl M.bE M.aB M.ba M.bO;have v:=v 5 (by decide) (by decide)
  by_cases h:CQ m ((5:Int),(0:Int)) s.1<;>simp[aw,ay,av,aU,br,aS,bH,aW,bJ,hr,hR,bG,h,v]
 .unfold pN M.aH M.bl M.bE M.aB M.ba M.bO;by_cases h:m<0
  .simp[aw,ay,av,aU,br,aS,bH,aW,bJ,hr,hR,bG,h]
  .have hd:=hd (by omega)
   have h':0<=m:=by omega
   generalize ai3.wrap (ajo m 16)=j at*;generalize ajL m 16=q at*;by_cases hj:j<(s.1.length:Int)
   .obtain⟨k,rfl⟩:=ajm hd
    have hk:k<s.1.length:=by omega
    have v6:jI (((6:Int),(k:Int)):Ty) s.1.length:= .inr ⟨rfl,by show(0:Int)<=(k:Int);omega,hj⟩;by_cases hq:q<(s.1[k].2.length:Int)
    .simp[aw,ay,av,aU,br,aS,bH,aW,bJ,hr,hR,bG,h,h',hk,ag hk,v6,hq,show¬(s.1.length:Int)<=(k:Int) by omega,show¬(s.1[k].2.length:Int)<=q by omega]
    .simp[aw,ay,av,aU,br,aS,bH,aW,bJ,hr,hR,bG,h,h',hk,ag hk,v6,hq,show¬(s.1.length:Int)<=(k:Int) by omega,show(s.1[k].2.length:Int)<=q by omega]
   .simp[aw,ay,av,aU,br,aS,bH,aW,bJ,hr,hR,bG,h,h',hj,show(s.1.length:Int)<=j by omega]
 .unfold pN M.aH M.bl M.bE M.aB M.ba M.bO;by_cases h:0<=m/\m<(s.2.2.1.length:Int)
  .obtain⟨k,rfl⟩:=ajm h.1
   have hk:k<s.2.2.1.length:=by omega
   by_cases hv:jI s.2.2.1[k] s.1.length<;>simp[aw,ay,av,aU,br,aS,bH,aW,bJ,hr,hR,bG,hk,ag hk,hv]
  .by_cases h0:0<=m
   .have h1:¬m<(s.2.2.1.length:Int):=fun g=>h ⟨h0,g⟩
    simp[aw,ay,av,aU,br,aS,bH,aW,bJ,hr,hR,bG,h0,h1]
   .simp[aw,ay,av,aU,br,aS,bH,aW,bJ,hr,hR,bG,h0]
 .unfold pN M.aH M.bl M.bE M.aB M.ba M.bO;by_cases h:0<=m/\m<(s.2.2.2.1.length:Int)
  .obtain⟨k,rfl⟩:=ajm h.1
   have hk:k<s.2.2.2.1.length:=by omega
   by_cases hv:jI s.2.2.2.1[k] s.1.length<;>simp[aw,ay,av,aU,br,aS,bH,aW,bJ,hr,hR,bG,hk,ag hk,hv]
  .by_cases h0:0<=m
   .have h1:¬m<(s.2.2.2.1.length:Int):=fun g=>h ⟨h0,g⟩
    simp[aw,ay,av,aU,br,aS,bH,aW,bJ,hr,hR,bG,h0,h1]
   .simp[aw,ay,av,aU,br,aS,bH,aW,bJ,hr,hR,bG,h0]
 .unfold pN M.aH M.bl M.bE M.aB M.ba M.bO;have v:=v 5 (by decide) (by decide);by_cases h:m=0
  .subst h;simp[aw,ay,av,aU,br,aS,bH,aW,bJ,hr,hR,bG,v]
  .simp[aw,ay,av,aU,br,aS,bH,aW,bJ,hr,hR,bG,h]
 .unfold pN M.aH M.bl M.bE M.aB M.ba M.bO;have v:=v 2 (by decide) (by decide);by_cases h:m=0
  .subst h;cases hs:s.2.2.2.2.2<;>simp[aw,ay,av,aU,br,aS,bH,aW,bJ,hr,hR,bG,v,hs]
  .simp[aw,ay,av,aU,br,aS,bH,aW,bJ,hr,hR,bG,h]
 .unfold pN M.aH M.bl M.bE M.aB M.ba M.bO;cases hs:s.2.2.2.2.2
  .simp[aw,ay,av,aU,br,aS,bH,aW,bJ,hr,hR,bG,hs]
  by_cases h:0<=m/\m<(s.2.2.2.2.1.length:Int)
  .obtain⟨k,rfl⟩:=ajm h.1
   have hk:k<s.2.2.2.2.1.length:=by omega
   by_cases hv:jI s.2.2.2.2.1[k] s.1.length
   .simp[aw,ay,av,aU,br,aS,bH,aW,bJ,hr,hR,bG,hk,ag hk,hv,hs];generalize s.2.2.2.2.1[k]=t at*;obtain⟨(t1:Int),(t2:Int)⟩:=t
    by_cases q2:t1=2<;>by_cases q3:t1=3<;>simp[q2,q3]
   .simp[aw,ay,av,aU,br,aS,bH,aW,bJ,hr,hR,bG,hk,ag hk,hv,hs]
  .by_cases h0:0<=m
   .have h1:¬m<(s.2.2.2.2.1.length:Int):=fun g=>h ⟨h0,g⟩
    simp[aw,ay,av,aU,br,aS,bH,aW,bJ,hr,hR,bG,h0,h1,hs]
   .simp[aw,ay,av,aU,br,aS,bH,aW,bJ,hr,hR,bG,h0,hs]
 .unfold pN M.aH M.bl M.bE M.aB M.ba M.bO;cases hs:s.2.2.2.2.2
  .simp[aw,ay,av,aU,br,aS,bH,aW,bJ,hr,hR,bG,hs]
  by_cases h:0<=m/\m<(s.2.2.2.2.1.length:Int)
  .obtain⟨k,rfl⟩:=ajm h.1
   have hk:k<s.2.2.2.2.1.length:=by omega
   by_cases hv:jI s.2.2.2.2.1[k] s.1.length
   .simp[aw,ay,av,aU,br,aS,bH,aW,bJ,hr,hR,bG,hk,ag hk,hv,hs];generalize s.2.2.2.2.1[k]=t at*;obtain⟨(t1:Int),(t2:Int)⟩:=t
    by_cases q:t1=1<;>simp[q]
   .simp[aw,ay,av,aU,br,aS,bH,aW,bJ,hr,hR,bG,hk,ag hk,hv,hs]
  .by_cases h0:0<=m
   .have h1:¬m<(s.2.2.2.2.1.length:Int):=fun g=>h ⟨h0,g⟩
    simp[aw,ay,av,aU,br,aS,bH,aW,bJ,hr,hR,bG,h0,h1,hs]
   .simp[aw,ay,av,aU,br,aS,bH,aW,bJ,hr,hR,bG,h0,hs]
 .unfold pN M.aH M.bl M.bE M.aB M.ba M.bO;cases hs:s.2.2.2.2.2
  .simp[aw,ay,av,aU,br,aS,bH,aW,bJ,hr,hR,bG,hs]
  by_cases h:0<=m/\m<(s.2.2.2.2.1.length:Int)
  .obtain⟨k,rfl⟩:=ajm h.1
   have hk:k<s.2.2.2.2.1.length:=by omega
   by_cases hv:jI s.2.2.2.2.1[k] s.1.length
   .simp[aw,ay,av,aU,br,aS,bH,aW,bJ,hr,hR,bG,hk,ag hk,hv,hs];generalize s.2.2.2.2.1[k]=t at*;obtain⟨(t1:Int),(t2:Int)⟩:=t
    by_cases q:t1=1<;>simp[q]
   .simp[aw,ay,av,aU,br,aS,bH,aW,bJ,hr,hR,bG,hk,ag hk,hv,hs]
  .by_cases h0:0<=m
   .have h1:¬m<(s.2.2.2.2.1.length:Int):=fun g=>h ⟨h0,g⟩
    simp[aw,ay,av,aU,br,aS,bH,aW,bJ,hr,hR,bG,h0,h1,hs]
   .simp[aw,ay,av,aU,br,aS,bH,aW,bJ,hr,hR,bG,h0,hs]
 .unfold pN M.aH M.bl M.bE M.aB M.ba M.bO;cases hs:s.2.2.2.2.2
  .simp[aw,ay,av,aU,br,aS,bH,aW,bJ,hr,hR,bG,hs]
  by_cases h:0<=m/\m<(s.2.2.2.2.1.length:Int)
  .obtain⟨k,rfl⟩:=ajm h.1
   have hk:k<s.2.2.2.2.1.length:=by omega
   by_cases hv:jI s.2.2.2.2.1[k] s.1.length
   .simp[aw,ay,av,aU,br,aS,bH,aW,bJ,hr,hR,bG,hk,ag hk,hv,hs];generalize s.2.2.2.2.1[k]=t at*;obtain⟨(t1:Int),(t2:Int)⟩:=t
    by_cases q2:t1=2<;>by_cases q3:t1=3<;>by_cases q4:t1=4<;>by_cases q5:t1=5<;>simp[q2,q3,q4,q5]
   .simp[aw,ay,av,aU,br,aS,bH,aW,bJ,hr,hR,bG,hk,ag hk,hv,hs]
  .by_cases h0:0<=m
   .have h1:¬m<(s.2.2.2.2.1.length:Int):=fun g=>h ⟨h0,g⟩
    simp[aw,ay,av,aU,br,aS,bH,aW,bJ,hr,hR,bG,h0,h1,hs]
   .simp[aw,ay,av,aU,br,aS,bH,aW,bJ,hr,hR,bG,h0,hs]
theorem UN(n:Ty)(l:List Ty)(s:nL)(hw:WF aa n)(hl:(l.length:Int)=ar n.1)(hN:∀t∈l,pY t):pN n l s=some (FX n l s):=by
 rw[<-Lp hw hl];obtain⟨(op:Int),(m:Int)⟩:=n;have hm:m<=9223372036854775807:=hw.2.2;have h3:=lg op;dsimp only at hl
 match l,hl with
 |[],hl=>exact zero_eq op m s hm hl.symm
 |[a],hl=>exact Rl op m a s hm hl.symm (hN a (by simp))
 |[a,b],hl=>exact Rk op m a b s hl.symm (hN a (by simp)) (hN b (by simp))
 |[a,b,c],hl=>exact LG op m a b c s hl.symm
 |a::b::c::d::l,hl=>simp at hl;omega
theorem jI.nrm{t:Ty}{n:Nat}(h:jI t n):pY t:=fun h'=>by
 obtain⟨(k:Int),(e:Int)⟩:=t
 rcases h with h|h
 .exact h.2.2
 .dsimp only[ae,Row.den]at*;omega
def Pc{α:Type}(m:Option α)(Q:α->Prop):Prop:=∀r,m=some r->Q r
theorem iB{α:Type}{x:α}{Q:α->Prop}:Pc (some x) Q↔Q x:=⟨fun h=>h x rfl,fun h r e=>by cases e;exact h⟩
theorem fl{α β:Type}{m:Option α}{k:α->Option β}{Q:β->Prop}:Pc (m.bind k) Q↔Pc m fun x=>Pc (k x) Q:=by
 constructor
 .intro h x hx r hr;exact h r (by rw[hx];exact hr)
 .intro h r hr;obtain⟨x,hx,hr⟩:=ajS.1 hr;exact h x hx r hr
theorem lz{α:Type}{c:Prop}[Decidable c]{a b:Option α}{Q:α->Prop}:Pc (if c then a else b) Q↔(c->Pc a Q)/\(¬c->Pc b Q):=by
 split<;>simp_all
theorem Pc.of{α:Type}{m:Option α}{Q:α->Prop}(h:∀x,Q x):Pc m Q:=fun x _=>h x
theorem pY.kind(k:Int):pY ((k,(0:Int)):Ty):=fun _=>rfl
theorem LI(n:Ty)(s:nL):Pc (M.bO aC n s) fun r=>r.2=true->pY r.1:=by
 have ho:∀k,M.gu aC k=some (decide (k=2\/k=3\/k=4\/k=5)):=av;unfold M.bO;rw[fl]
 refine Pc.of fun j=>?_
 simp only[bG,ho,ai2];by_cases hv:jI j s.1.length
 .simp only[fl,lz,iB];simp[hv.nrm]
 .simp[hv,fl,lz,iB]
theorem Ey(n a:Ty)(s:nL)(ha:pY a):Pc (M.cf aC n a s) fun r=>r.2=true->pY r.1:=by
 unfold M.cf;simp only[aU,ay,bG,ai2,fl,lz,iB];refine⟨fun _ _=>ha,fun _=>⟨fun _ _=>ha,fun _=>?_⟩⟩
 have L4:Pc (idx s.2.1 n.2) fun x=>(decide (jI x.2.1 s.1.length)=true->(decide (jI x.2.2.1 s.1.length)=true->nh aa a x.2.1=true->pY x.2.2.1)/\(¬decide (jI x.2.2.1 s.1.length)=true->false=true->pY x.2.2.1))/\(¬decide (jI x.2.1 s.1.length)=true->false=true->pY x.2.2.1):=Pc.of fun x=>⟨fun _=>⟨fun h _=>(of_decide_eq_true h:jI x.2.2.1 s.1.length).nrm,fun _ h=>(by cases h)⟩,fun _ h=>(by cases h)⟩
 have tR:Pc (idx s.2.1 (ai3.wrap (ajo n.2 8))) fun x=>(decide ((a.1:Int)=3)=true->(nh aa x.2.1 ((3:Int),(0:Int))=true->nh aa x.2.2.1 ((4:Int),(0:Int))=true->pY a)/\(¬nh aa x.2.1 ((3:Int),(0:Int))=true->false=true->pY a))/\(¬decide ((a.1:Int)=3)=true->false=true->pY a):=Pc.of fun x=>⟨fun _=>⟨fun _ _=>ha,fun _ _=>ha⟩,fun _ _=>ha⟩
 exact⟨fun _=>⟨fun _ _=>pY.kind 2,fun _=>⟨fun _=>L4,fun _=>tR⟩⟩,fun _=>⟨fun _ _=>pY.kind 2,fun _=>⟨fun _=>L4,fun _=>tR⟩⟩⟩
theorem Ez(op:Int)(a b:Ty)(ha:pY a):Pc (M.gh aC op a b) fun r=>r.2=true->pY r.1:=by
 have hk:∀k:Int,pY ((k,(0:Int)):Ty):=pY.kind;unfold M.gh M.kj;simp only[aU,ay,av,ai2,fl,lz,iB];simp[ha,hk]
theorem NV(n:Ty)(l:List Ty)(s:nL)(hw:WF aa n)(hl:(l.length:Int)=ar n.1)(hN:∀t∈l,pY t)(h0:(FX n l s).2=0):pY (FX n l s).1:=by
 have oi:∀i,Pc (idx l i) pY:=fun i x hx=>by
  unfold idx at hx;split at hx
  .exact hN _ (akj hx)
  .cases hx
 have key:Pc (M.aB aC n l s) fun r=>r.2=0->pY r.1:=by
  unfold M.aB;rw[fl]
  refine Pc.of fun j1=>?_
  rw[lz];refine⟨fun _=>iB.2 fun h=>(by cases h),fun _=>?_⟩;rw[fl]
  refine Pc.of fun y3=>?_
  rw[lz];refine⟨fun _=>iB.2 fun h=>(by cases h),fun _=>?_⟩;rw[fl]
  refine Pc.of fun y4=>?_
  rw[lz];refine⟨fun _=>iB.2 fun h=>(by cases h),fun _=>?_⟩;rw[fl]
  have fin:∀{m:Option (Bool×Ty)},Pc m (fun j=>j.1=true->pY j.2)->Pc m fun j5=>Pc (if(!j5.1)=true then some (((0:Int),(0:Int)),(8:Int))else some (j5.2,(0:Int))) fun r:Ty×Int=>r.2=0->pY r.1:=fun{m}h j hj=>by
   have:=h j hj;refine lz.2 ⟨fun _=>iB.2 fun h=>(by cases h),fun h=>iB.2 fun _=>this (by simpa using h)⟩
  refine fin ?_;rw[lz];refine⟨fun _=>?_,fun _=>?_⟩
  .rw[fl]
   exact fun x hx=>iB.2 fun h=>LI n s x hx h
  rw[lz];refine⟨fun _=>?_,fun _=>?_⟩
  .rw[fl]
   refine fun a ha=>fl.2 ?_
   exact fun x hx=>iB.2 fun h=>Ey n a s (oi _ a ha) x hx h
  rw[lz];refine⟨fun _=>?_,fun _=>?_⟩
  .rw[fl]
   refine fun a ha=>fl.2 fun b _=>fl.2 ?_
   exact fun x hx=>iB.2 fun h=>Ez n.1 a b (oi _ a ha) x hx h
  .rw[fl]
   refine fun a ha=>?_
   have ha:=oi _ a ha;simp only[fl,lz,iB]
   refine Pc.of fun x=>⟨fun _=>Pc.of fun y=>Pc.of fun z=>fun _=>ha,fun _ _=>ha⟩
 exact key _ (Lp hw hl) h0
theorem zM(st:List Nat)(m:Nat)(v:Nat):aT (dC st++ai9 (m+1) (0:Int)) (st.length:Int) (v:Int)=dC (st++[v])++ai9 m (0:Int):=by
 unfold aT;rw[aja,ajU _ _ (by simp),aj9];simp
theorem sZ(st:List Nat)(m:Nat)(u v:Nat):aT (dC (st++[u])++ai9 m (0:Int)) (st.length:Int) (v:Int)=dC (st++[v])++ai9 m (0:Int):=by
 unfold aT;rw[aja,List.set_append_left _ _ (by simp)]
 congr 1
 simp only[dC,List.map_append];rw[ajU _ _ (by simp)];simp
theorem EA(e:List Ty):M.eF aC e=some (pW e):=by
 apply Wp.eq;unfold M.eF pW
 refine Wp.dec (fun h=> .some ?_) fun h1=>?_
 .rw[if_pos (by omega)]
 rw[if_neg (show¬48<e.length by omega)]
 refine Wp.dec (fun h=> .some ?_) fun h2=>?_
 .rw[if_pos (show e.length=0 by omega)]
 rw[if_neg (show¬e.length=0 by omega)]
 have wK:mV (e.length:Int) (0:Int)=some (ai9 e.length 0):=by
  unfold mV;rw[if_pos (by omega),aja]
 rw[wK];simp only[ai2];refine Wp.join (Wp.loop (fun s:Int×List Int×List Int=>∃st sk:List Nat,s=((st.length:Int),dC st++ai9 (e.length-st.length) 0,dC sk)/\st.length<=e.length/\sk.length<=12/\jq (e.drop st.length) st.length st sk=jq e 0 [] []) (fun s=>(e.length-s.1).toNat) ⟨[],[],by simp,by simp,by simp,by simp⟩ (by simp only;unfold aC;omega) ?_)
 rintro _ ⟨st,sk,rfl,eB,hsk,bx⟩
 simp only
 refine Wp.dec (fun hk=>?_) fun hk=> .some ?_
 case refine_2=>
  have hd:e.drop st.length=[]:=List.drop_of_length_le (by omega);rw[hd]at bx;rw[<-bx]
  have h0:e.length-st.length=0:=by omega
  rw[h0];simp only[jq,List.replicate_zero,ajW]
  show Wp _ _
  refine Wp.dec (fun h=> .some ?_) fun h=> .some ?_
  .rw[if_pos (by simp at h;omega)]
  .rw[if_neg (by simp at h;omega)]
 have dO:st.length<e.length:=by omega
 have hd:e.drop st.length=e[st.length]::e.drop (st.length+1):=ajK dO
 obtain⟨m,hm⟩:∃m,e.length-st.length=m+1:=⟨e.length-st.length-1,by omega⟩
 rw[hd]at bx;rw[ag dO,hm];simp only[ai2,LD];generalize iK:(e[st.length].1:Int)=op;rw[jq]at bx;rw[iK]at bx;have KS:=lg op
 refine Wp.dec (fun h=> .some ?_) fun Ed=>?_
 .rw[if_pos h]at bx
  show _=_
  rw[<-bx]
 rw[if_neg Ed]at bx
 refine Wp.dec (fun h=> .some ?_) fun hlen=>?_
 .rw[if_pos (by simpa using h)]at bx
  show _=_
  rw[<-bx]
 have hlen:¬(sk.length:Int)<ar op:=by simpa using hlen
 rw[if_neg hlen]at bx
 obtain⟨a,ha⟩:∃a:Nat,ar op=a:=⟨(ar op).toNat,by omega⟩
 rw[ha]at bx Ed hlen KS⊢
 have abm:a<=sk.length:=by omega
 have e6:idx (dC st++ai9 (m+1) (0:Int)) (st.length:Int)=some 0:=by
  rw[ag (by simp)];rw[ajn (by simp)];simp
 rw[e6]
 have hw:ai3.wrap (((dC sk).length:Int)-(a:Int))=((sk.length-a:Nat):Int):=by
  rw[ajG,aV (by omega) (by omega)];omega
 have hs:lQ (a:Int) st.length sk=(if a=0 then st.length else sk.getD (sk.length-a) 0):=by
  unfold lQ;by_cases h0:a=0
  .subst h0;simp
  .rw[if_neg (by omega),if_neg h0,aja]
 simp only[ai2,zM,hw];refine Wp.seq (· =dC (st++[lQ (a:Int) st.length sk])++ai9 m (0:Int)) ?_ ?_
 .refine Wp.dec (fun h=>?_) fun h=>?_
  .have al:sk.length-a<(dC sk).length:=by simp;omega
   rw[ag al]
   have e9:idx (dC (st++[st.length])++ai9 m (0:Int)) (st.length:Int)=some (st.length:Int):=by
    rw[ag (by simp)];rw[ajf (by simp)];simp
   simp only[ai2,e9,List.getElem_map,sZ];refine .some ?_;rw[hs,if_neg (by omega),show sk.getD (sk.length-a) 0=sk[sk.length-a]'(by simpa using al) by simp[ajD,show sk.length-a<sk.length by omega]]
  .refine .some ?_;rw[hs,if_pos (by omega)]
 .rintro _ rfl
  generalize lQ (a:Int) st.length sk=s at bx⊢
  have wP:eR (dC sk) (0:Int) ((sk.length-a:Nat):Int)=some (dC (sk.take (sk.length-a))):=by
   rw[kQ (by simp)];simp
  have e11:idx (dC (st++[s])++ai9 m (0:Int)) (st.length:Int)=some (s:Int):=by
   rw[ag (by simp)];rw[ajf (by simp)];simp
  have Q0:bR (dC (sk.take (sk.length-a))) [(s:Int)]=some (dC (sk.take (sk.length-a)++[s])):=by
   rw[bD (by simp;omega)];simp
  rw[wP];simp only[ai2,e11,Q0]
  have hl:(dC (sk.take (sk.length-a)++[s])).length=sk.length-a+1:=by simp
  rw[hl];rw[aja]at bx
  refine Wp.dec (fun h=> .some ?_) fun h=> .some ?_
  .rw[if_pos (by omega)]at bx
   show _=_
   rw[<-bx]
  .rw[if_neg (by omega)]at bx;rw[aK (by omega)];refine⟨⟨st++[s],sk.take (sk.length-a)++[s],?_,by simp;omega,by simp;omega,?_⟩,by simp only;omega⟩
   .have:e.length-(st++[s]).length=m:=by simp;omega
    rw[this];simp
   .rw[ai6];exact bx
theorem wc.all(s:nL):wc s:=fun e hw=>by
 apply Wp.eq;unfold M.fS;simp only[EA,LD,LF,W_,implies_true,forall_const,reduceCtorEq];refine⟨fun h=>by unfold CR;rw[if_pos h],fun h0=>?_⟩;obtain⟨h48,bN,bU,KT,QW⟩:=NM h0
 have hT:CR e s=match mQ s e 0 []with
  | .inl (i,c)=>(((0:Int),(0:Int)),(i:Int),c)
  | .inr kC=>(kC.headD ((0:Int),(0:Int)),0,0):=by unfold CR;rw[if_neg (by omega)];cases mQ s e 0 []<;>rfl
 refine Wp.count (fun s=>s.1) e.length (fun k q=>∃st sk,q.2.length=sk.length/\jq e 0 [] []=jq (e.drop k) k st sk/\mQ s e 0 []=mQ s (e.drop k) k q.2/\q.2.length<=k/\(0<k->q.2≠[])/\∀t∈q.2,pY t) (by omega) rfl ⟨[],[],rfl,rfl,rfl,ai8 _,fun h=>by omega,fun _ h=>by cases h⟩ fun k q hk hs hJ=>?_
 obtain⟨i,kC⟩:=q;obtain⟨st,sk,hl,hr,ht,Nx,nR,Rm⟩:=hJ;dsimp only at hs hl ht Nx nR Rm;subst hs;simp only[W_,implies_true,forall_const,reduceCtorEq,aY,aO];refine⟨fun al=>?_,fun hge=>?_⟩
 .have al:k<e.length:=by omega
  rw[ajK al,jq]at hr;rw[ajK al,mQ]at ht;rw[QW]at hr;have ha3:=lg e[k].1;split at hr
  .cases hr
  split at hr
  .cases hr
  split at hr
  .cases hr
  rename_i ha0 ha1 ha2
  have w1:ai3.wrap ((kC.length:Int)-ar e[k].1)=((kC.length-(ar e[k].1).toNat:Nat):Int):=by rw[aV (by omega) (by omega)];omega
  have hd:((kC.drop (kC.length-(ar e[k].1).toNat)).length:Int)=ar e[k].1:=by rw[List.length_drop];omega
  have hwk:=hw _ (ajc al)
  have hdn:∀t∈kC.drop (kC.length-(ar e[k].1).toNat),pY t:=fun t h=>Rm t (List.mem_of_mem_drop h)
  have hp:=UN e[k] _ s hwk hd hdn;have uO:=NV e[k] _ s hwk hd hdn
  have bad:∀c:Int,c≠0->(FX e[k] (kC.drop (kC.length-(ar e[k].1).toNat)) s).2=c->(((0:Int),(0:Int)),(k:Int),c)=CR e s:=fun c h0 hc=>by
   rw[hT,ht,if_pos (by rw[hc];exact h0),hc]
  have rest:¬((e[k].2:Int)≠0/\¬((1<=(e[k].1:Int)/\(e[k].1:Int)<=8)\/(14<=(e[k].1:Int)/\(e[k].1:Int)<=16)\/(e[k].1:Int)=33\/(e[k].1:Int)=34\/(36<=(e[k].1:Int)/\(e[k].1:Int)<=39)))->M.aH aC e[k] (kC.drop (kC.length-(ar e[k].1).toNat)) s=some (FX e[k] (kC.drop (kC.length-(ar e[k].1).toNat)) s):=fun h=>by
   rw[<-hp];exact(if_neg h).symm
  have cond:((e[k].2:Int)≠0/\¬((1<=(e[k].1:Int)/\(e[k].1:Int)<=8)\/(14<=(e[k].1:Int)/\(e[k].1:Int)<=16)\/(e[k].1:Int)=33\/(e[k].1:Int)=34\/(36<=(e[k].1:Int)/\(e[k].1:Int)<=39)))->(FX e[k] (kC.drop (kC.length-(ar e[k].1).toNat)) s).2=2:=fun h=>by
   have:some (FX e[k] (kC.drop (kC.length-(ar e[k].1).toNat)) s)=some (((0:Int),(0:Int)),(2:Int)):=by
    rw[<-hp];exact if_pos h
   rw[ai4 this]
  have we:¬((e[k].2:Int)≠0/\¬((1<=(e[k].1:Int)/\(e[k].1:Int)<=8)\/(14<=(e[k].1:Int)/\(e[k].1:Int)<=16)\/(e[k].1:Int)=33\/(e[k].1:Int)=34\/(36<=(e[k].1:Int)/\(e[k].1:Int)<=39)))->Wp (M.aH aC e[k] (kC.drop (kC.length-(ar e[k].1).toNat)) s) fun y9=>(¬(y9.2:Int)=0->(((0:Int),(0:Int)),(k:Int),y9.2)=CR e s)/\((y9.2:Int)=0->Wp (bR (kC.take (kC.length-(ar e[k].1).toNat)) [y9.1]) fun x=>k<e.length/\ai3.wrap ((k:Int)+1)=((k+1:Nat):Int)/\∃st sk,x.length=sk.length/\jq e 0 [] []=jq (e.drop (k+1)) (k+1) st sk/\mQ s e 0 []=mQ s (e.drop (k+1)) (k+1) x/\x.length<=k+1/\(0<k+1->x≠[])/\∀t∈x,pY t):=fun h=>by
   rw[rest h];refine .some ⟨fun hc=>bad _ hc rfl,fun hc=>?_⟩;rw[if_neg (fun g=>g hc)]at ht;refine mZ.2 ⟨by rw[ajl];simp;omega,al,cu (m:=e.length) (by omega) al,_,_,?_,QW.trans hr,ht,?_,fun _=>by simp,fun t h=>?_⟩
   .simp only[ai6,ajl,ajk,List.length_nil,hl]
   .simp only[ai6,ajl,ajk,List.length_nil];omega
   .rcases ajs.1 h with h|h
    .exact Rm t (List.mem_of_mem_take h)
    .rw[ajj.1 h];exact uO hc
  simp only[ag al,w1,kQ (show kC.length-(ar e[k].1).toNat<=kC.length by omega),pL (l:=kC) (kC.length-(ar e[k].1).toNat) kC.length rfl rfl (by omega) (ai8 _),aju,W_,implies_true,forall_const,reduceCtorEq];exact⟨fun h1=>⟨fun h2=>bad 2 (by decide) (cond ⟨h1,h2⟩),fun h2=>we fun g=>g.2 h2⟩,fun h1=>we fun g=>g.1 h1⟩
 .obtain rfl:k=e.length:=by omega
  rw[List.drop_length,mQ]at ht;rw[hT,ht];have:kC≠[]:=nR (List.length_pos_iff.2 bN);obtain⟨a,l,rfl⟩:=List.exists_cons_of_ne_nil this;exact dB.2 ⟨by simp,rfl⟩
end L
end Go.Proofs.YtilaieogabgamaaGreatDoor
end
section
open _root_.Classical renaming not_not->aj8
open _root_.Go.Lib renaming compact->aj5
open _root_.Int renaming eq_ofNat_of_zero_le->ajm,toNat_natCast->aja
open _root_.Go.IntKind renaming i64->ai3
open _root_.List renaming getElem?_eq_getElem->ai5,getElem?_eq_some_iff->ai7,getElem_mem->ajc,getElem_of_mem->aji,length_append->ai6,length_cons->ajk,mem_append->ajs,mem_cons->ajq,mem_singleton->ajj,pairwise_cons->akn,take_length->aju
open _root_.Nat renaming le_refl->ai8,lt_succ_iff_lt_or_eq->ajY,zero_le->ajt
open _root_.Option renaming bind_some->ai2
namespace Go.Proofs.YtilaieogabgamaaGreatDoor
open Go Go.RowKit
set_option maxRecDepth 100000
set_option linter.unusedSimpArgs false
namespace L
inductive EB(D:Int->Int->Prop):Int->Int->Prop
 |one {a b:Int} (h:D a b):EB D a b
 |step {a b c:Int} (h:EB D a b) (g:D b c):EB D a c
def Dp(s:iQ)(a b:Int):Prop:=b∈ll s a
theorem wz{y:Int}:∀{l out:List Int},y∈l.foldl (fun o z=>ins z o) out↔y∈l\/y∈out
 |[],_=>by simp
 |x::l,out=>by
  rw[List.foldl_cons,wz (l:=l),mR,ajq];exact⟨fun h=>by rcases h with h|h|h<;>simp[h],fun h=>by rcases h with(h|h)|h<;>simp[h]⟩
theorem nN(s:iQ){out:List Int}{y:Int}:y∈stepT s out↔y∈out\/∃x∈out,Dp s x y:=by
 unfold stepT
 suffices∀(l o:List Int),y∈l.foldl (fun o x=>(ll s x).foldl (fun o y=>ins y o) o) o↔y∈o\/∃x∈l,Dp s x y from this _ _
 intro l
 induction l with
 |nil=>intro o;simp
 |cons x l ih=>
  intro o;rw[List.foldl_cons,ih,wz];unfold Dp;constructor
  .rintro((h|h)|⟨z,hz,h⟩)
   .exact .inr ⟨x,by simp,h⟩
   .exact .inl h
   .exact .inr ⟨z,by simp[hz],h⟩
  .rintro(h|⟨z,hz,h⟩)
   .exact .inl (.inr h)
   .rcases ajq.1 hz with rfl|hz
    .exact .inl (.inl h)
    .exact .inr ⟨z,hz,h⟩
theorem pc(s:iQ)(d:Int):∀n y,y∈jE s n (ll s d)->EB (Dp s) d y
 |0,y,h=> .one h
 |n+1,y,h=>by
  rcases(nN s).1 h with h|⟨x,hx,h⟩
  .exact pc s d n y h
  .exact .step (pc s d n x hx) h
theorem Ip{l m:List Int}(hl:l.Pairwise (· < ·))(hm:m.Pairwise (· < ·))(h:∀y,y∈l↔y∈m):l=m:=by
 induction l generalizing m with
 |nil=>
  cases m with
  |nil=>rfl
  |cons y m=>exact absurd ((h y).2 (by simp)) (by simp)
 |cons x l ih=>
  cases m with
  |nil=>exact absurd ((h x).1 (by simp)) (by simp)
  |cons y m=>
   obtain⟨h1,h2⟩:=akn.1 hl;obtain⟨g1,g2⟩:=akn.1 hm
   have e:x=y:=by
    rcases ajq.1 ((h x).1 (by simp))with e|e
    .exact e
    .rcases ajq.1 ((h y).2 (by simp))with e'|e'
     .exact e'.symm
     .have:=g1 x e;have:=h1 y e';omega
   subst e
   congr 1
   refine ih h2 g2 fun z=>?_
   have:=h z;rw[ajq,ajq]at this;constructor
   .intro hz
    rcases this.1 (.inr hz)with rfl|hz'
    .have:=h1 z hz;omega
    .exact hz'
   .intro hz
    rcases this.2 (.inr hz)with rfl|hz'
    .have:=g1 z hz;omega
    .exact hz'
theorem pQ{l:List Int}:∀{m:List Int},l.Nodup->(∀y,y∈l->y∈m)->l.length<=m.length:=by
 induction l with
 |nil=>intro m _ _;simp
 |cons x l ih=>
  intro m hn h;obtain⟨h1,h2⟩:=List.nodup_cons.1 hn;have hx:=h x (by simp)
  have:=ih (m:=m.erase x) h2 fun y hy=>(List.mem_erase_of_ne (fun e:y=x=>h1 (by rw[<-e];exact hy))).2 (h y (by simp[hy]))
  rw[List.length_erase_of_mem hx]at this;have:=List.length_pos_of_mem hx;simp only[ajk];omega
theorem F7{l m:List Int}(hl:l.Pairwise (· < ·))(_:m.Pairwise (· < ·))(h:∀y,y∈l->y∈m)(hx:∃y,y∈m/\y∉l):l.length<m.length:=by
 have nd:l.Nodup:=hl.imp fun h=>by omega
 obtain⟨y,hy,hn⟩:=hx;have nd2:(y::l).Nodup:=List.nodup_cons.2 ⟨hn,nd⟩
 have:(y::l).length<=m.length:=pQ nd2 fun z hz=>by
  rcases ajq.1 hz with rfl|hz
  .exact hy
  .exact h z hz
 simp only[ajk]at this;omega
theorem z7(s:iQ)(d:Int):(∀n,n<=s.2.2.2.1.length->(stepT s (jE s n (ll s d))=jE s n (ll s d)\/n<=(jE s n (ll s d)).length)):=by
 have VL:∀m,tV s.2.2.2.1.length (jE s m (ll s d)):=fun m=>by
  induction m with
  |zero=>exact mn s d
  |succ m ih=>exact pP s ih
 intro n
 induction n with
 |zero=>intro _;exact .inr (ajt _)
 |succ n ih=>
  intro hn
  rcases ih (by omega)with h|h
  .left
   show stepT s (stepT s (jE s n (ll s d)))=stepT s (jE s n (ll s d))
   rw[h,h]
  .by_cases hx:∃y,y∈stepT s (jE s n (ll s d))/\y∉jE s n (ll s d)
   .right
    have:=F7 (VL n).1 (pP s (VL n)).1 (fun y hy=>(nN s).2 (.inl hy)) hx
    show n+1<=(stepT s (jE s n (ll s d))).length
    omega
   .left
    have:stepT s (jE s n (ll s d))=jE s n (ll s d):=Ip (pP s (VL n)).1 (VL n).1 fun y=>⟨fun h=>aj8.1 fun hn=>hx ⟨y,h,hn⟩,fun h=>(nN s).2 (.inl h)⟩
    show stepT s (stepT s (jE s n (ll s d)))=stepT s (jE s n (ll s d))
    rw[this,this]
theorem uF(s:iQ)(d y:Int):y∈IQ s d↔EB (Dp s) d y:=by
 refine⟨fun h=>pc s d _ y h,fun h=>?_⟩
 have closed:∀x z,x∈IQ s d->Dp s x z->z∈IQ s d:=by
  intro x z hx hz
  rcases z7 s d s.2.2.2.1.length (ai8 _)with h|h
  .have:z∈stepT s (jE s s.2.2.2.1.length (ll s d)):=(nN s).2 (.inr ⟨x,hx,hz⟩);rw[h]at this;exact this
  .have hs:=NP s d;have R9:=(mn s x).2 z hz
   refine aj8.1 fun hn=>?_
   have:=F7 (l:=IQ s d) (m:=ins z (IQ s d)) hs.1 (Er hs.1) (fun y hy=>mR.2 (.inr hy)) ⟨z,mR.2 (.inl rfl),hn⟩;have:=(hs.ins R9).len;have:s.2.2.2.1.length<=(IQ s d).length:=h;omega
 have start:∀z,Dp s d z->z∈IQ s d:=by
  intro z hz
  show z∈jE s s.2.2.2.1.length (ll s d)
  have:∀n,z∈jE s n (ll s d):=fun n=>by
   induction n with
   |zero=>exact hz
   |succ n ih=>exact(nN s).2 (.inl ih)
  exact this _
 induction h with
 |one h=>exact start _ h
 |step _ g ih=>exact closed _ _ ih g
theorem Ct(d:Array Int)(y:Int):∀m,y∈Go.Lib.compactUpTo d m↔∃j,j<m/\d[j]! =y
 |0=>by simp[Go.Lib.compactUpTo]
 |m+1=>by
  rw[Go.Lib.compactUpTo_succ,ajs,Ct d y m];constructor
  .rintro(⟨j,hj,h⟩|h)
   .exact⟨j,by omega,h⟩
   .split at h
    .rw[ajj]at h;exact⟨m,by omega,h.symm⟩
    .cases h
  .rintro⟨j,hj,h⟩
   rcases ajY.1 hj with h1|rfl
   .exact .inl ⟨j,h1,h⟩
   .by_cases hk:Go.Lib.keeps d j=true
    .right;rw[if_pos hk,ajj];exact h.symm
    .left
     unfold Go.Lib.keeps at hk;rw[decide_eq_true_eq]at hk
     have h0:j≠0:=fun e=>hk (.inl e)
     have h1:d[j]! =d[j-1]! :=aj8.1 fun e=>hk (.inr e)
     exact⟨j-1,by omega,by rw[<-h1];exact h⟩
theorem pd(l:List Int)(y:Int):y∈aj5 l↔y∈l:=by
 unfold aj5;rw[Ct];constructor
 .rintro⟨j,hj,rfl⟩
  have:l.toArray[j]! =l[j]:=by simp[hj]
  rw[this];exact ajc hj
 .intro h;obtain⟨j,hj,rfl⟩:=aji h;exact⟨j,hj,by simp[hj]⟩
theorem yv(l:List Int)(hl:l.length<=1000000):Wp ((M.bM aC l).bind fun y1=>(M.bF aC y1).bind fun y2=>some y2) fun r=>r.length<=l.length/\∀y,y∈r↔y∈l:=by
 have e1:M.bM aC l=some (mc l):=by
  unfold M.bM ye;rw[if_pos (by omega)]
 have hs:(mc l).length=l.length:=List.length_mergeSort ..
 have e2:M.bF aC (mc l)=some (aj5 (mc l)):=by
  unfold M.bF nE;rw[if_pos (by omega)]
 rw[e1,ai2,e2];refine .some ⟨?_,fun y=>?_⟩
 .have:=nZ (mc l);omega
 .rw[pd];exact List.mem_mergeSort
theorem pe(l:List Int)(hl:l.length<=1000000):Wp (M.fL aC l) fun r=>r.length<=l.length/\∀y,y∈r↔y∈l:=yv l hl
theorem z8(l:List Int)(hl:l.length<=1000000):Wp (M.gA aC l) fun r=>r.length<=l.length/\∀y,y∈r↔y∈l:=yv l hl
def Iq(e:List Ty)(y:Int):Prop:=∃n∈e,(n.1:Int)=8/\(n.2:Int)=y
theorem EC(p:Int->Bool)(e:List Ty)(y:Int):y∈og p e↔∃n∈e,p n.1=true/\(n.2:Int)=y:=by
 unfold og
 suffices∀(e:List Ty)(l:List Int),y∈e.foldl (fun l n=>if p n.1=true then ins n.2 l else l) l↔y∈l\/∃n∈e,p n.1=true/\(n.2:Int)=y by simpa using this e []
 intro e
 induction e with
 |nil=>intro l;simp
 |cons n e ih=>
  intro l;rw[List.foldl_cons,ih];split
  .rename_i h;rw[mR];constructor
   .rintro((h1|h1)|⟨q,hq,h1⟩)
    .exact .inr ⟨n,by simp,h,h1.symm⟩
    .exact .inl h1
    .exact .inr ⟨q,by simp[hq],h1⟩
   .rintro(h1|⟨q,hq,h1,h2⟩)
    .exact .inl (.inr h1)
    .rcases ajq.1 hq with rfl|hq
     .exact .inl (.inl h2.symm)
     .exact .inr ⟨q,hq,h1,h2⟩
  .rename_i h;constructor
   .rintro(h1|⟨q,hq,h1⟩)
    .exact .inl h1
    .exact .inr ⟨q,by simp[hq],h1⟩
   .rintro(h1|⟨q,hq,h1,h2⟩)
    .exact .inl h1
    .rcases ajq.1 hq with rfl|hq
     .exact absurd h1 h
     .exact .inr ⟨q,hq,h1,h2⟩
theorem tX(e:List Ty)(y:Int):y∈og tU e↔Iq e y:=by
 rw[EC];unfold Iq tU;simp only[decide_eq_true_eq]
theorem qk(e:List Ty)(he:e.length<=100000):Wp (M.gk aC e) fun r=>r.2.1.length<=e.length/\∀y,y∈r.2.1↔Iq e y:=by
 unfold M.gk;rw[wp_bind]
 refine Wp.count (fun s=>s.1) e.length (fun k s=>(s.2.1.length<=k/\s.2.2.1.length<=k/\s.2.2.2.length<=k)/\∀y,y∈s.2.2.1↔∃j,∃h:j<e.length,j<k/\(e[j].1:Int)=8/\(e[j].2:Int)=y) (by omega) rfl ⟨by simp,fun y=>by simp⟩ fun k s hk hs hJ=>?_
 obtain⟨i,a,b,c⟩:=s;obtain⟨⟨l1,l2,l3⟩,hm⟩:=hJ;dsimp only at hs l1 l2 l3 hm;subst hs;simp only[W_,implies_true,forall_const,reduceCtorEq,aY,aO];refine⟨fun al=>?_,fun hge=>?_⟩
 .have al:k<e.length:=by omega
  have nxt:∀b':List Int,(∀y,y∈b'↔y∈b\/((e[k].1:Int)=8/\(e[k].2:Int)=y))->∀y,y∈b'↔∃j,∃h:j<e.length,j<k+1/\(e[j].1:Int)=8/\(e[j].2:Int)=y:=fun b' hb y=>by
   rw[hb,hm];constructor
   .rintro(⟨j,h,h1,h2⟩|h)
    .exact⟨j,h,by omega,h2⟩
    .exact⟨k,al,by omega,h⟩
   .rintro⟨j,h,h1,h2⟩
    rcases ajY.1 h1 with h3|rfl
    .exact .inl ⟨j,h,h3,h2⟩
    .exact .inr h2
  have same:(e[k].1:Int)≠8->∀y,y∈b↔∃j,∃h:j<e.length,j<k+1/\(e[j].1:Int)=8/\(e[j].2:Int)=y:=fun h=>nxt b fun y=>⟨.inl,fun g=>g.resolve_right fun g=>h g.1⟩
  simp only[ag al,cu (m:=e.length) (by omega) al,W_,implies_true,forall_const,reduceCtorEq]
  have HN:∀(q:List Int)(v:Int)(Q:List Int->Prop),q.length<=k->Q (q++[v])->Wp (bR q [v]) Q:=fun q v Q hq h=>mZ.2 ⟨by simp;omega,h⟩
  refine⟨fun h=>HN _ _ _ l1 ⟨al,by simp;omega,same (by rw[h];decide)⟩,fun _=>⟨fun h=>HN _ _ _ l2 ⟨al,by simp;omega,nxt _ fun y=>?_⟩,fun h8=>?_⟩⟩
  .rw[ajs,ajj];exact⟨fun g=>g.imp id fun g=>⟨h,g.symm⟩,fun g=>g.imp id fun g=>g.2.symm⟩
  .have Kk:k<e.length/\(a.length<=k+1/\b.length<=k+1/\c.length<=k+1)/\∀y,y∈b↔∃j,∃h:j<e.length,j<k+1/\(e[j].1:Int)=8/\(e[j].2:Int)=y:=⟨al,by omega,same h8⟩
   have Cc:Wp (bR c [(e[k].2:Int)]) fun x=>k<e.length/\(a.length<=k+1/\b.length<=k+1/\x.length<=k+1)/\∀y,y∈b↔∃j,∃h:j<e.length,j<k+1/\(e[j].1:Int)=8/\(e[j].2:Int)=y:=HN _ _ _ l3 ⟨al,by simp;omega,same h8⟩
   exact⟨fun _=>⟨fun _=>Cc,fun _=>Kk⟩,fun _=>⟨fun _=>⟨fun _=>Cc,fun _=>Kk⟩,fun _=>⟨fun _=>⟨fun _=>Cc,fun _=>Kk⟩,fun _=>⟨fun _=>Cc,fun _=>Kk⟩⟩⟩⟩
 .refine(pe a (by omega)).mono fun _ _=>?_
  refine(pe b (by omega)).mono fun r hr=>?_
  refine(pe c (by omega)).mono fun _ _=>?_
  refine⟨by omega,fun y=>?_⟩;rw[hr.2,hm];unfold Iq;constructor
  .rintro⟨j,h,_,h2⟩
   exact⟨_,ajc h,h2⟩
  .rintro⟨n,hn,h⟩
   obtain⟨j,hj,rfl⟩:=aji hn;exact⟨j,hj,by omega,h⟩
def ED(r:lj)(n:Nat)(y:Int):Prop:=(Iq r.2.2.2.2.2.1 y\/Iq r.2.2.2.2.2.2.1 y)/\0<=y/\y<(n:Int)
theorem F8(l o:List Int)(n:Nat)(hl:l.length<=100000)(ho:o.length<=100000):Wp (Loop (S:=Int×List Int) (X:=List Int) (fun s4=>
 (if(decide (s4.1<(l.length:Int)))=true then
 ((idx l s4.1).bind fun x6=>
 ((if(decide ((0:Int)<=x6))=true then
 some (decide (x6<(n:Int)))
 else
 some false):Option (Bool)).bind fun j7=>
 (if j7=true then
 (bR s4.2 ([x6]:List Int)).bind fun l8=>
 some l8
 else
 some s4.2):Option (List Int)).bind fun j5=>
 some (Sum.inl (ai3.wrap (s4.1+(1:Int)),j5))
 else
 some (Sum.inr s4.2))) aC ((0:Int),o)) fun r=>r.length<=o.length+l.length/\∀y,y∈r↔y∈o\/(y∈l/\0<=y/\y<(n:Int)):=by
 refine Wp.count (fun s=>s.1) l.length (fun k s=>s.2.length<=o.length+k/\∀y,y∈s.2↔y∈o\/((∃j,∃h:j<l.length,j<k/\l[j]=y)/\0<=y/\y<(n:Int))) (by omega) rfl ⟨by simp,fun y=>by simp⟩ fun k s hk hs hJ=>?_
 obtain⟨i,q⟩:=s;obtain⟨h1,hm⟩:=hJ;dsimp only at hs h1 hm;subst hs;simp only[W_,implies_true,forall_const,reduceCtorEq,aY,aO];refine⟨fun al=>?_,fun hge=>?_⟩
 .have al:k<l.length:=by omega
  simp only[ag al,cu (m:=l.length) (by omega) al,W_,implies_true,forall_const,reduceCtorEq]
  have keep:¬(0<=l[k]/\l[k]<(n:Int))->k<l.length/\q.length<=o.length+(k+1)/\∀y,y∈q↔y∈o\/((∃j,∃h:j<l.length,j<k+1/\l[j]=y)/\0<=y/\y<(n:Int)):=fun hn=>⟨al,by omega,fun y=>by
   rw[hm];refine or_congr Iff.rfl (and_congr_left fun hy=>⟨fun⟨j,h,h1,h2⟩=>⟨j,h,by omega,h2⟩,fun⟨j,h,h1,h2⟩=>?_⟩)
   rcases ajY.1 h1 with h3|rfl
   .exact⟨j,h,h3,h2⟩
   .exact absurd (h2▸hy) hn⟩
  refine⟨fun h0=>⟨fun tB=>mZ.2 ⟨by simp;omega,al,by simp;omega,fun y=>?_⟩,fun tB=>keep fun g=>tB g.2⟩,fun h0=>keep fun g=>h0 g.1⟩;rw[ajs,ajj,hm];constructor
  .rintro((h|⟨⟨j,h,h2,h3⟩,h4⟩)|rfl)
   .exact .inl h
   .exact .inr ⟨⟨j,h,by omega,h3⟩,h4⟩
   .exact .inr ⟨⟨k,al,by omega,rfl⟩,h0,tB⟩
  .rintro(h|⟨⟨j,h,h2,h3⟩,h4⟩)
   .exact .inl (.inl h)
   .rcases ajY.1 h2 with h5|rfl
    .exact .inl (.inr ⟨⟨j,h,h5,h3⟩,h4⟩)
    .exact .inr h3.symm
 .refine⟨by omega,fun y=>?_⟩;rw[hm];refine or_congr Iff.rfl (and_congr_left fun hy=>⟨fun⟨j,h,_,h2⟩=>h2▸ajc h,fun h=>?_⟩);obtain⟨j,hj,e⟩:=aji h;exact⟨j,hj,by omega,e⟩
theorem Ir(r:lj)(n:Nat)(h1:r.2.2.2.2.2.1.length<=50)(h2:r.2.2.2.2.2.2.1.length<=50):Wp (M.eH aC r (n:Int)) fun l=>l.length<=100/\∀y,y∈l↔ED r n y:=by
 unfold M.eH;rw[wp_bind]
 refine(qk _ (by omega)).mono fun a ha=>?_
 rw[wp_bind]
 refine(qk _ (by omega)).mono fun b hb=>?_
 rw[wp_bind]
 refine(F8 a.2.1 [] n (by omega) (by simp)).mono fun c hc=>?_
 have xh:=hc.1;simp only[List.length_nil]at xh
 refine(F8 b.2.1 c n (by omega) (by omega)).mono fun q hq=>⟨by omega,fun y=>?_⟩
 rw[hq.2,hc.2,ha.2,hb.2];unfold ED;constructor
 .rintro((h|h)|h)
  .cases h
  .exact⟨.inl h.1,h.2⟩
  .exact⟨.inr h.1,h.2⟩
 .rintro⟨h|h,h3⟩
  .exact .inl (.inr ⟨h,h3⟩)
  .exact .inr ⟨h,h3⟩
theorem tt(n:Nat)(y:Int):∀(l out:List Int),y∈mS n out l↔y∈out\/(y∈l/\0<=y/\y<(n:Int))
 |[],out=>by show y∈out↔_;simp
 |x::l,out=>by
  show y∈mS n (if 0<=x/\x<(n:Int)then ins x out else out) l↔_
  rw[tt n y l];split
  .rename_i h;rw[mR,ajq];constructor
   .rintro((rfl|h1)|⟨h1,h2⟩)
    .exact .inr ⟨.inl rfl,h⟩
    .exact .inl h1
    .exact .inr ⟨.inr h1,h2⟩
   .rintro(h1|⟨h1|h1,h2⟩)
    .exact .inl (.inr h1)
    .exact .inl (.inl h1)
    .exact .inr ⟨h1,h2⟩
  .rename_i h;rw[ajq];constructor
   .rintro(h1|⟨h1,h2⟩)
    .exact .inl h1
    .exact .inr ⟨.inr h1,h2⟩
   .rintro(h1|⟨h1|h1,h2⟩)
    .exact .inl h1
    .exact absurd (h1▸h2) h
    .exact .inr ⟨h1,h2⟩
theorem wA(s:iQ)(d y:Int):Dp s d y↔(0<=d/\d<(s.2.2.2.1.length:Int))/\∃r∈s.2.2.2.2,(r.2.1:Int)=d/\ED r s.2.2.2.1.length y:=by
 unfold Dp ll;split
 .rename_i hd
  suffices∀(rs:List lj)(out:List Int),y∈rs.foldl (fun out r=>if(r.2.1:Int)=d then mS s.2.2.2.1.length (mS s.2.2.2.1.length out (og tU r.2.2.2.2.2.1)) (og tU r.2.2.2.2.2.2.1)else out) out↔y∈out\/∃r∈rs,(r.2.1:Int)=d/\ED r s.2.2.2.1.length y by
   rw[this];simp[hd]
  intro rs
  induction rs with
  |nil=>intro out;simp
  |cons r rs ih=>
   intro out;rw[List.foldl_cons,ih];split
   .rename_i h;rw[tt,tt,tX,tX];unfold ED;constructor
    .rintro(((h1|h1)|h1)|⟨q,hq,h1⟩)
     .exact .inl h1
     .exact .inr ⟨r,by simp,h, .inl h1.1,h1.2⟩
     .exact .inr ⟨r,by simp,h, .inr h1.1,h1.2⟩
     .exact .inr ⟨q,by simp[hq],h1⟩
    .rintro(h1|⟨q,hq,h1,h2,h3⟩)
     .exact .inl (.inl (.inl h1))
     .rcases ajq.1 hq with rfl|hq
      .rcases h2 with h2|h2
       .exact .inl (.inl (.inr ⟨h2,h3⟩))
       .exact .inl (.inr ⟨h2,h3⟩)
      .exact .inr ⟨q,hq,h1,h2,h3⟩
   .rename_i h;constructor
    .rintro(h1|⟨q,hq,h1⟩)
     .exact .inl h1
     .exact .inr ⟨q,by simp[hq],h1⟩
    .rintro(h1|⟨q,hq,h1,h2⟩)
     .exact .inl h1
     .rcases ajq.1 hq with rfl|hq
      .exact absurd h1 h
      .exact .inr ⟨q,hq,h1,h2⟩
 .rename_i hd;simp[hd]
def Rn(s:iQ)(L:List (List Int)):Prop:=L.length=s.2.2.2.1.length/\∀d,∀h:d<L.length,L[d].length<=6000/\∀y,y∈L[d]↔Dp s (d:Int) y
theorem rW(s:iQ)(hs:mo s):Wp (M.gW aC s) (Rn s):=by
 have Nv:=hs.2.2.1;have UK:=hs.2.2.2.1;have hru:=hs.2.2.2.2.2.2;unfold M.gW;rw[wp_bind];refine vN.2 ⟨by omega,?_⟩;rw[wp_bind,aja]
 refine Wp.count (fun s=>s.1) s.2.2.2.2.length (fun k q=>q.2.length=s.2.2.2.1.length/\∀d,∀h:d<q.2.length,q.2[d].length<=100*k/\∀y,y∈q.2[d]↔∃j,∃h:j<s.2.2.2.2.length,j<k/\(s.2.2.2.2[j].2.1:Int)=(d:Int)/\ED s.2.2.2.2[j] s.2.2.2.1.length y) (by omega) rfl ⟨by simp,fun d h=>by simp⟩ fun k q hk Am hJ=>?_
 obtain⟨i,q⟩:=q;obtain⟨hl,hm⟩:=hJ;dsimp only at Am hl hm;subst Am;simp only[W_,implies_true,forall_const,reduceCtorEq,aY,aO];refine⟨fun al=>?_,fun hge=>?_⟩
 .have al:k<s.2.2.2.2.length:=by omega
  have hrk:=hru _ (ajc al);simp only[ag al,cu (m:=s.2.2.2.2.length) (by omega) al,hl,W_,implies_true,forall_const,reduceCtorEq]
  have GB:∀d,∀h:d<q.length,(¬(s.2.2.2.2[k].2.1:Int)=(d:Int))->q[d].length<=100*(k+1)/\∀y,y∈q[d]↔∃j,∃h:j<s.2.2.2.2.length,j<k+1/\(s.2.2.2.2[j].2.1:Int)=(d:Int)/\ED s.2.2.2.2[j] s.2.2.2.1.length y:=fun d h hn=>⟨by have:=(hm d h).1;omega,fun y=>by
   rw[(hm d h).2];constructor
   .rintro⟨j,h1,h2,h3⟩;exact⟨j,h1,by omega,h3⟩
   .rintro⟨j,h1,h2,h3,h4⟩
    rcases ajY.1 h2 with h5|rfl
    .exact⟨j,h1,h5,h3,h4⟩
    .exact absurd h3 hn⟩
  have dfo:=Ir s.2.2.2.2[k] s.2.2.2.1.length hrk.2.2.1 hrk.2.2.2
  obtain⟨(v:Int),hv⟩:∃v:Int,v=s.2.2.2.2[k].2.1:=⟨_,rfl⟩
  simp only[<-hv]at GB⊢;refine⟨fun h0=>⟨fun h1=>?_,fun h1=>⟨al,fun d h=>GB d (by omega) fun e=>h1 (e▸Int.ofNat_lt.2 h)⟩⟩,fun h0=>⟨al,fun d h=>GB d (by omega) fun e=>h0 (e▸Int.natCast_nonneg d)⟩⟩;obtain⟨c,rfl⟩:=ajm h0
  have hc:c<q.length:=by rw[hl];exact Int.ofNat_lt.1 h1
  simp only[ag hc,W_,implies_true,forall_const,reduceCtorEq]
  refine dfo.mono fun l9 h9=>mZ.2 ⟨by have:=(hm c hc).1;omega,?_⟩
  refine⟨al,by rw[gO];exact hl,fun d h=>?_⟩
  have hd:d<q.length:=by rw[gO]at h;exact h
  rw[uB h hd]
  by_cases e:(c:Int)=(d:Int)
  .rw[if_pos e]
   have e:c=d:=by omega
   subst e;refine⟨by rw[ai6];have:=(hm c hd).1;have:=h9.1;omega,fun y=>?_⟩;rw[ajs,(hm c hd).2,h9.2];constructor
   .rintro(⟨j,h1,h2,h3⟩|h3)
    .exact⟨j,h1,by omega,h3⟩
    .exact⟨k,al,by omega,hv.symm,h3⟩
   .rintro⟨j,h1,h2,h3,h4⟩
    rcases ajY.1 h2 with h5|rfl
    .exact .inl ⟨j,h1,h5,h3,h4⟩
    .exact .inr h4
  .rw[if_neg e];exact GB d hd e
 obtain rfl:k=s.2.2.2.2.length:=by omega
 have WI:∀d,∀h:d<q.length,q[d].length<=6000/\∀y,y∈q[d]↔Dp s (d:Int) y:=fun d h=>⟨by have:=(hm d h).1;omega,fun y=>by
  rw[(hm d h).2,wA];constructor
  .rintro⟨j,h1,_,h2,h3⟩
   exact⟨by omega,_,ajc h1,h2,h3⟩
  .rintro⟨_,r,hr,h2,h3⟩
   obtain⟨j,hj,rfl⟩:=aji hr
   exact⟨j,hj,hj,h2,h3⟩⟩
 refine Wp.count (fun s=>s.1) q.length (fun k z=>z.2.length=q.length/\∀d,∀h:d<z.2.length,z.2[d].length<=6000/\∀y,y∈z.2[d]↔Dp s (d:Int) y) (by omega) rfl ⟨rfl,WI⟩ fun k z hk Am hJ=>?_
 obtain⟨i,z⟩:=z;obtain⟨zl,zm⟩:=hJ;dsimp only at Am zl zm;subst Am;simp only[W_,implies_true,forall_const,reduceCtorEq,aY,aO];refine⟨fun al=>?_,fun hge=>⟨by rw[zl];exact hl,zm⟩⟩
 have al:k<q.length:=by omega
 have hkz:k<z.length:=by omega
 simp only[ag hkz,cu (m:=q.length) (by omega) al,W_,implies_true,forall_const,reduceCtorEq]
 refine(z8 z[k] (by have:=(zm k hkz).1;omega)).mono fun r hr=>⟨al,by rw[gO];exact zl,fun d h=>?_⟩
 have hd:d<z.length:=by rw[gO]at h;exact h
 rw[uB h hd]
 by_cases e:(k:Int)=(d:Int)
 .rw[if_pos e]
  have e:k=d:=by omega
  subst e;exact⟨by have:=(zm k hd).1;have:=hr.1;omega,fun y=>by rw[hr.2];exact(zm k hd).2 y⟩
 .rw[if_neg e];exact zm d hd
def Sn(seen:List Bool)(y:Int):Prop:=0<=y/\seen[y.toNat]? =some true
theorem Ro{seen:List Bool}{x:Int}(hx:0<=x/\x.toNat<seen.length)(y:Int):Sn (aT seen x true) y↔y=x\/Sn seen y:=by
 unfold Sn aT;rw[List.getElem?_set];by_cases e:x.toNat=y.toNat
 .rw[if_pos e,if_pos hx.2];constructor
  .rintro⟨h,_⟩;exact .inl (by omega)
  .rintro(rfl|⟨h,_⟩)
   .exact⟨hx.1,rfl⟩
   .exact⟨h,rfl⟩
 .rw[if_neg e];constructor
  .exact .inr
  .rintro(rfl|h)
   .exact absurd rfl e
   .exact h
structure RI(D:Int->Int->Prop)(d0:Int)(n:Nat)(ex:Int->Prop)(seen:List Bool)(q:List Int):Prop where
 len:seen.length=n
 qo:∀x∈q,0<=x/\x<(n:Int)/\(x=d0\/Sn seen x)
 snd:∀y,Sn seen y->EB D d0 y
 clo:∀x,(x=d0\/Sn seen x)->x∈q\/ex x\/∀y,D x y->Sn seen y
 bud:q.length+seen.count false<=n+1
theorem EE(s:iQ)(L:List (List Int))(hL:Rn s L)(d:Nat)(hd:d<s.2.2.2.1.length)(Nv:s.2.2.2.1.length<=14):Wp (M.lF aC L (d:Int)) fun r=>r.length<=1000/\∀y,y∈r↔EB (Dp s) (d:Int) y:=by
 obtain⟨hl,hL⟩:=hL
 have hD:∀a b,Dp s a b->0<=b/\b<(s.2.2.2.1.length:Int):=fun a b h=>(mn s a).2 b h
 generalize s.2.2.2.1.length=n at*;unfold M.lF;rw[wp_bind];refine vN.2 ⟨by omega,?_⟩;rw[wp_bind,aja,hl]
 refine Wp.loop (fun q=>RI (Dp s) (d:Int) n (fun _=>False) q.1 q.2) (fun q=>2*q.1.count false+q.2.length) ?_ ?_ fun q hq=>?_
 .refine⟨by simp,fun x hx=>?_,fun y hy=>?_,fun x hx=>?_,by simp;omega⟩
  .rw[ajj.1 hx];exact⟨by omega,by omega, .inl rfl⟩
  .exfalso;have:=hy.2;rw[List.getElem?_replicate]at this
   split at this<;>cases this
  .rcases hx with rfl|hx
   .exact .inl (by simp)
   .exfalso;have:=hx.2;rw[List.getElem?_replicate]at this
    split at this<;>cases this
 .simp[List.count_replicate];unfold aC;omega
 obtain⟨seen,q⟩:=q;dsimp only at hq;dsimp only
 have hcn:∀l:List Bool,l.count false<=l.length:=fun l=>List.count_le_length
 refine Wp.dec (fun h0=>?_) fun h0=>?_
 .have Ms:0<q.length:=by omega
  obtain⟨x,t,rfl⟩:=List.exists_cons_of_ne_nil (List.length_pos_iff.1 Ms);have hx:=hq.qo x (by simp);obtain⟨c,rfl⟩:=ajm hx.1
  have hc:c<L.length:=by omega
  have i0:idx ((c:Int)::t) (0:Int)=some (c:Int):=rfl
  have wP:eR ((c:Int)::t) (1:Int) (((c:Int)::t).length:Int)=some t:=by
   apply Wp.eq;refine wp_cut.2 ⟨by simp;omega,?_⟩;rw[aja,aju];rfl
  rw[i0,ai2,wP,ai2,ag hc,ai2]
  have Od:∀y,Dp s (c:Int) y->EB (Dp s) (d:Int) y:=fun y h=>by
   rcases hx.2.2 with e|e
   .exact .one (e▸h)
   .exact .step (hq.snd _ e) h
  have OT:=(hL c hc).2;have Ah:=(hL c hc).1;have hb0:=hq.bud;simp only[ajk]at hb0;generalize L[c]=l at*
  refine Wp.count (fun s=>s.1) l.length (fun k z=>RI (Dp s) (d:Int) n (fun y=>y=(c:Int)) z.2.1 z.2.2/\(∀j,j<k->∀h:j<l.length,Sn z.2.1 l[j])/\2*z.2.1.count false+z.2.2.length<=2*seen.count false+t.length) (by omega) rfl ⟨⟨hq.len,fun x hx=>hq.qo x (by simp[hx]),hq.snd,fun x hx=>?_,by dsimp only;omega⟩,fun j hj=>by omega,ai8 _⟩ fun k z hk Am hJ=>?_
  .rcases hq.clo x hx with h|h|h
   .rcases ajq.1 h with rfl|h
    .exact .inr (.inl rfl)
    .exact .inl h
   .exact h.elim
   .exact .inr (.inr h)
  obtain⟨i,sn,qu⟩:=z;obtain⟨hR,hP,hB⟩:=hJ;dsimp only at Am hR hP hB;subst Am;simp only[W_,implies_true,forall_const,reduceCtorEq,aY,aO];refine⟨fun al=>?_,fun hge=>?_⟩
  .have al:k<l.length:=by omega
   have hy:Dp s (c:Int) l[k]:=(OT _).1 (ajc al);have UO:=hD _ _ hy;simp only[ag al,cu (m:=l.length) (by omega) al,W_,implies_true,forall_const,reduceCtorEq]
   obtain⟨y,SK⟩:∃y,y=l[k]:=⟨_,rfl⟩
   simp only[<-SK]at hy UO⊢
   have NI:y.toNat<sn.length:=by rw[hR.len];omega
   refine dB.2 ⟨by rw[hR.len];omega,fun hf=>dB.2 ⟨by rw[hR.len];omega,mZ.2 ⟨?_,al,?_⟩⟩,fun ht=>⟨al,hR,cv hP fun _=>?_,hB⟩⟩
   .have:=hR.bud;simp;omega
   .have EF:=Ro (seen:=sn) (x:=y) ⟨UO.1,NI⟩
    have NU:(aT sn y true).count false+1=sn.count false:=by
     unfold aT;rw[List.count_set NI];have h1:0<sn.count false:=List.count_pos_iff.2 (hf▸ajc NI);simp[hf];omega
    refine⟨⟨by unfold aT;simp[hR.len],fun x hx=>?_,fun z hz=>?_,fun x hx=>?_,?_⟩,cv (fun j hj h=>?_) fun h=>?_,?_⟩
    .rcases ajs.1 hx with hx|hx
     .obtain⟨a1,a2,a3⟩:=hR.qo x hx;exact⟨a1,a2,a3.imp id fun g=>(EF x).2 (.inr g)⟩
     .rw[ajj.1 hx];exact⟨UO.1,UO.2, .inr ((EF y).2 (.inl rfl))⟩
    .rcases(EF z).1 hz with rfl|hz
     .exact Od _ hy
     .exact hR.snd z hz
    .have go:x=(d:Int)\/Sn sn x->x∈qu++[y]\/x=(c:Int)\/∀z,Dp s x z->Sn (aT sn y true) z:=fun g=>by
      rcases hR.clo x g with h|h|h
      .exact .inl (by simp[h])
      .exact .inr (.inl h)
      .exact .inr (.inr fun z hz=>(EF z).2 (.inr (h z hz)))
     rcases hx with hx|hx
     .exact go (.inl hx)
     .rcases(EF x).1 hx with rfl|hx
      .exact .inl (by simp)
      .exact go (.inr hx)
    .have:=hR.bud;simp;omega
    .exact(EF _).2 (.inr (hP j hj h))
    .exact(EF _).2 (.inl SK.symm)
    .simp;omega
   .rw[<-SK];exact⟨UO.1,by rw[ai5 NI,ht]⟩
  .obtain rfl:k=l.length:=by omega
   show BP _ _ _ _ (.inl _)
   refine⟨⟨hR.len,hR.qo,hR.snd,fun x hx=>?_,hR.bud⟩,?_⟩
   .rcases hR.clo x hx with h|h|h
    .exact .inl h
    .refine .inr (.inr fun y hy=>?_);rw[h]at hy;obtain⟨j,hj,e⟩:=aji ((OT y).2 hy);exact e▸hP j hj hj
    .exact .inr (.inr h)
   .show 2*sn.count false+qu.length<2*seen.count false+((c:Int)::t).length
    simp only[ajk];omega
 .have Ms:q=[]:=by
   cases q with
   |nil=>rfl
   |cons x t=>simp at h0
  subst Ms;refine .some ?_
  show Wp _ _
  have Pj:∀y,Sn seen y↔EB (Dp s) (d:Int) y:=fun y=>⟨hq.snd y,fun h=>by
   have cl:∀x,(x=(d:Int)\/Sn seen x)->∀z,Dp s x z->Sn seen z:=fun x hx=>by
    rcases hq.clo x hx with h|h|h
    .cases h
    .exact h.elim
    .exact h
   induction h with
   |one h=>exact cl _ (.inl rfl) _ h
   |step _ g ih=>exact cl _ (.inr ih) _ g⟩
  have fO:=hq.len
  refine Wp.count (fun s=>s.1) seen.length (fun k z=>z.2.length<=k/\∀y,y∈z.2↔Sn seen y/\y<(k:Int)) (by omega) rfl ⟨by simp,fun y=>⟨fun h=>(by cases h),fun h=>(by have:=h.1.1;have:=h.2;omega)⟩⟩ fun k z hk Am hJ=>?_
  obtain⟨i,o⟩:=z;obtain⟨hJ1,hJ⟩:=hJ;dsimp only at Am hJ1 hJ;subst Am;simp only[W_,implies_true,forall_const,reduceCtorEq,aY,aO];refine⟨fun al=>?_,fun hge=>⟨by omega,fun y=>?_⟩⟩
  .have al:k<seen.length:=by omega
   have CY:Sn seen (k:Int)↔seen[k]=true:=by
    unfold Sn;rw[aja,ai5 al];simp
   simp only[ag al,cu (m:=seen.length) (by omega) al,W_,implies_true,forall_const,reduceCtorEq];refine⟨fun h=>mZ.2 ⟨by simp;omega,al,by simp;omega,fun y=>?_⟩,fun h=>⟨al,by omega,fun y=>?_⟩⟩
   .rw[ajs,ajj,hJ];constructor
    .rintro(⟨h1,h2⟩|rfl)
     .exact⟨h1,by omega⟩
     .exact⟨CY.2 h,by omega⟩
    .rintro⟨h1,h2⟩
     by_cases e:y=(k:Int)
     .exact .inr e
     .exact .inl ⟨h1,by omega⟩
   .rw[hJ];refine⟨fun⟨h1,h2⟩=>⟨h1,by omega⟩,fun⟨h1,h2⟩=>⟨h1,?_⟩⟩
    have:y≠(k:Int):=fun e=>by
     rw[e,CY,h]at h1;cases h1
    omega
  .rw[hJ,<-Pj];refine⟨fun h=>h.1,fun h=>⟨h,?_⟩⟩;have:=(ai7.1 h.2).1;have:=h.1;omega
theorem Im.all(x:iQ)(hs:mo x):Im x:=fun d hd=>by
 have key:Wp (M.gm aC x (d:Int)) fun tr=>tr.length<=1000/\∀y,y∈tr↔EB (Dp x) (d:Int) y:=by
  unfold M.gm;rw[if_neg (by simp),ai2,if_neg (by simp;omega),wp_bind]
  refine(rW x hs).mono fun L hL=>?_
  rw[wp_bind]
  exact(EE x L hL d hd hs.2.2.1).mono fun r hr=> .some hr
 obtain⟨tr,e,h1,h2⟩:=key;exact⟨tr,e,h1,by rw[h2,uF]⟩
theorem NW(l:Lw)(hw:WF cn l)(mr:jt l):M.ix aC l=some (Et l):=
 Cr l hw mr (fun _ _=>wc.all _) fun x hx=>Im.all x (mr.2.2.2.2.2 x hx)
end L
end Go.Proofs.YtilaieogabgamaaGreatDoor
end
section
open _root_.List renaming length_eq_zero_iff->akb
open _root_.Option renaming bind_some->ai2
namespace Go.Proofs.YtilaieogabgamaaGreatDoor
open Go Go.RowKit
set_option maxRecDepth 100000
set_option linter.unusedSimpArgs false
namespace L
theorem Cu(l:List ByteArray)(h:l.length<=1048576):M.bY aC l=some l:=by
 unfold M.bY;rw[bD (by simp;omega),List.nil_append,ai2];split
 .rename_i h0;obtain rfl:=akb.1 (beq_true h0);exact tl
 .rfl
end L
end Go.Proofs.YtilaieogabgamaaGreatDoor
end
section
open _root_.Classical renaming not_not->aj8
open _root_.Int renaming eq_ofNat_of_zero_le->ajm,toNat_natCast->aja
open _root_.List renaming getElem?_eq_getElem->ai5,getElem_of_mem->aji
namespace Go.Proofs.YtilaieogabgamaaGreatDoor
open Go Go.RowKit
set_option maxRecDepth 100000
set_option linter.unusedSimpArgs false
namespace L
theorem Aa{t:wM}{E:List En}:(nf t E).2=0↔t.2.2.2.length<=64/\(jI t.2.1 E.length/\jI t.2.2.1 E.length)/\∀k,∀h:k<t.2.2.2.length,¬nK t.2.2.2[k] t E/\¬∃y∈t.2.2.2.take k,mP y t.2.2.2[k]:=by
 have DY:∀k e,qK t E k=some e->e.2≠0:=fun k e he=>by
  unfold qK at he;split at he
  .cases he
  split at he
  .cases he;simp
  split at he
  .cases he;simp
  .cases he
 unfold nf;by_cases h1:64<t.2.2.2.length
 .rw[if_pos h1]
  exact iff_of_false (by decide) fun g=>by omega
 rw[if_neg h1];by_cases h2:¬(jI t.2.1 E.length/\jI t.2.2.1 E.length)
 .rw[if_pos h2]
  exact iff_of_false (by decide) fun g=>h2 g.2.1
 rw[if_neg h2]
 have key:b9 (qK t E) t.2.2.2.length=none↔∀k,∀h:k<t.2.2.2.length,¬nK t.2.2.2[k] t E/\¬∃y∈t.2.2.2.take k,mP y t.2.2.2[k]:=by
  rw[bC]
  refine forall_congr' fun k=>⟨fun g h=>?_,fun g h=>?_⟩
  .have:=g h;unfold qK at this;rw[ai5 h]at this;dsimp only at this;split at this
   .cases this
   split at this
   .cases this
   .exact⟨‹_›,‹_›⟩
  .unfold qK;rw[ai5 h];dsimp only;rw[if_neg (g h).1,if_neg (g h).2]
 cases hf:b9 (qK t E) t.2.2.2.length with
 |none=>exact iff_of_true rfl ⟨by omega,aj8.1 h2,key.1 hf⟩
 |some e=>
  obtain⟨k,_,he,_⟩:=fj hf
  exact iff_of_false (DY k e he) fun g=>by rw[key.2 g.2.2]at hf;cases hf
def ln(rules:List lj):Prop:=∀i,∀h:i<rules.length,(rules[i].2.2.1:Int)= -1\/∃p,∃hp:p<i,(rules[i].2.2.1:Int)=(p:Int)/\((rules[p]'(by omega)).2.1:Int)=rules[i].2.1
theorem uG{l:Lw}{x:iQ}{k:Nat}{r:lj}:th l x k r=0↔lk r.1=true/\¬eT (x.2.2.2.2.take k) r.1/\(0<=(r.2.1:Int)/\(r.2.1:Int)<(x.2.2.2.1.length:Int))/\¬o6 x k r/\
 ¬((r.2.2.2.1:Int)<0\/9<(r.2.2.2.1:Int)\/¬VR r.2.2.2.2.1\/(r.2.2.2.2.1.1:Int)=r.2.2.2.2.1.2)/\zV x k r.2.1<8/\plain r.2.2.2.2.2.2.2/\
 (0<r.2.2.2.2.2.1.length->qM r.2.2.2.2.2.1 (ed l x) ((1:Int),(0:Int))=0)/\(match x.2.2.2.1[(r.2.1:Int).toNat]? with
   |some d=>qM r.2.2.2.2.2.2.1 (ed l x) d.2
   |none=>0)=0:=by
 unfold th;by_cases h1:lk r.1=false
 .rw[if_pos h1]
  exact iff_of_false (by decide) fun g=>by rw[h1]at g;cases g.1
 rw[if_neg h1];by_cases h2:eT (x.2.2.2.2.take k) r.1
 .rw[if_pos h2]
  exact iff_of_false (by decide) fun g=>g.2.1 h2
 rw[if_neg h2];by_cases h3:0<=(r.2.1:Int)/\(r.2.1:Int)<(x.2.2.2.1.length:Int)
 case neg=>
  rw[if_pos h3]
  exact iff_of_false (by decide) fun g=>h3 g.2.2.1
 rw[if_neg (fun g=>g h3)];by_cases h4:o6 x k r
 .rw[if_pos h4]
  exact iff_of_false (by decide) fun g=>g.2.2.2.1 h4
 rw[if_neg h4];by_cases h5:(r.2.2.2.1:Int)<0\/9<(r.2.2.2.1:Int)\/¬VR r.2.2.2.2.1\/(r.2.2.2.2.1.1:Int)=r.2.2.2.2.1.2
 .rw[if_pos h5]
  exact iff_of_false (by decide) fun g=>g.2.2.2.2.1 h5
 rw[if_neg h5];by_cases h6:8<=zV x k r.2.1
 .rw[if_pos h6]
  exact iff_of_false (by decide) fun g=>by have:=g.2.2.2.2.2.1;omega
 rw[if_neg h6];by_cases h7:plain r.2.2.2.2.2.2.2
 case neg=>
  rw[if_pos h7]
  exact iff_of_false (by decide) fun g=>h7 g.2.2.2.2.2.2.1
 rw[if_neg (fun g=>g h7)];by_cases h8:0<r.2.2.2.2.2.1.length/\qM r.2.2.2.2.2.1 (ed l x) ((1:Int),(0:Int))≠0
 .rw[if_pos h8]
  exact iff_of_false h8.2 fun g=>h8.2 (g.2.2.2.2.2.2.2.1 h8.1)
 rw[if_neg h8];exact⟨fun g=>⟨by simpa using h1,h2,h3,h4,h5,by omega,h7,fun a=>aj8.1 fun b=>h8 ⟨a,b⟩,g⟩,fun g=>g.2.2.2.2.2.2.2.2⟩
theorem Ab{l:Lw}{x:iQ}(h:∀i,∀hi:i<x.2.2.2.2.length,th l x i x.2.2.2.2[i]=0):ln x.2.2.2.2:=fun i hi=>by
 have hb:=(uG.1 (h i hi)).2.2.2.1;unfold o6 at hb;generalize x.2.2.2.2[i]=r at*;obtain⟨nm,(df:Int),(p:Int),z⟩:=r;dsimp only[ae,Row.den]at*;by_cases h1:p= -1
 .exact .inl h1
 right
 have h2:0<=p:=aj8.1 fun g=>hb ⟨h1, .inl (by omega)⟩
 have h3:p<(i:Int):=aj8.1 fun g=>hb ⟨h1, .inr (.inl (by omega))⟩
 obtain⟨q,rfl⟩:=ajm h2;have hq:q<i:=Int.ofNat_lt.1 h3;refine⟨q,hq,rfl,aj8.1 fun g=>hb ⟨h1, .inr (.inr ⟨_,?_,g⟩)⟩⟩;rw[aja];exact ai5 (by omega)
theorem Valid.abM{l:Lw}(h:Valid l)(mr:jt l):Eu l:=by
 obtain⟨a1,a2,a3,a4,a5,a6⟩:=h.scopes;obtain⟨b1,b2,b3,b4,b5,b6⟩:=mr;refine⟨fun e he=>?_,fun t ht=>?_,fun s hs r hr=>?_,by omega,by omega,by omega,fun s hs=>?_⟩
 .have:=(b4 e he).2.1;omega
 .obtain⟨k,hk,rfl⟩:=aji ht;have:=a5 k hk;unfold oy at this;rw[ai5 hk]at this;dsimp only at this;split at this
  .cases this
  split at this
  .cases this
  split at this
  case isFalse=>cases this
  rename_i h0;have:=(Aa.1 h0).1;omega
 .have:=(b6 s hs).2.2.2.2.2.2 r hr;omega
 .have h1:=(b6 s hs).2.1;have h2:=(b6 s hs).2.2.1;have h3:=(b6 s hs).2.2.2.1;omega
end L
end Go.Proofs.YtilaieogabgamaaGreatDoor
end
section
open _root_.Bool renaming false_eq_true->ajb
open _root_.Int renaming eq_ofNat_of_zero_le->ajm,toNat_natCast->aja
open _root_.Go.IntKind renaming i64->ai3
open _root_.List renaming append_assoc->ajr,append_nil->ajW,getD->ajD,getElem?_append_left->ajA,getElem?_eq_getElem->ai5,getElem?_eq_some_iff->ai7,getElem?_map->aj2,getElem_append_left->ajf,getElem_append_right->ajn,getElem_mem->ajc,getElem_of_mem->aji,length_append->ai6,length_cons->ajk,length_eq_zero_iff->akb,length_map->ajG,length_take->ajl,mem_map->akD,mem_singleton->ajj,replicate->ai9,replicate_succ->aj9,set_append_right->ajU,take_length->aju
open _root_.Nat renaming le_refl->ai8,le_trans->ajE
open _root_.Option renaming bind_some->ai2,getD_some->ajP
namespace Go.Proofs.YtilaieogabgamaaGreatDoor
open Go Go.RowKit
set_option maxRecDepth 100000
set_option linter.unusedSimpArgs false
namespace L
def uH(r:Ty)(d:Int):Prop:=VR r/\(r.1:Int)<=d/\d<(r.2:Int)
instance(r:Ty)(d:Int):Decidable (uH r d):=by unfold uH;infer_instance
theorem wB(r:Ty)(d:Int):M.bn aC r d=some (decide (uH r d)):=by
 obtain⟨(r1:Int),(r2:Int)⟩:=r;apply Wp.eq;unfold M.bn;simp only[zY,W_,implies_true,forall_const,reduceCtorEq];unfold uH;dsimp only[ae,Row.den]
 by_cases h:VR ((r1,r2):Ty)<;>simp only[h,W_,implies_true,forall_const,reduceCtorEq]
 omega
def tw:Ty:=((0:Int),(109573:Int))
def ku(rows:List Rw)(d:Int):List Rw:=(rows.filter fun x=>decide (uH x.1 d)).map fun x=>(tw,x.2)
theorem LJ{α β:Type}(l:List α)(p:α->Bool)(F:α->β){body:Int×List β->Option ((Int×List β)⊕List β)}(hl:l.length<=4294967295)
 (hb:∀k,∀h:k<l.length,∀o:List β,o.length<=k->body ((k:Int),o)=some (.inl (ai3.wrap ((k:Int)+1),if p l[k]=true then o++[F l[k]]else o)))
 (he:∀o:List β,body ((l.length:Int),o)=some (.inr o)):Loop body aC ((0:Int),[])=some ((l.filter p).map F):=by
 have Lx:l.length<aC:=by unfold aC;omega
 refine zF (fun k=>((k:Int),((l.take k).filter p).map F)) l.length _ (by simp) (fun k hk=>?_) (by rw[he,aju]) Lx
 have hle:(((l.take k).filter p).map F).length<=k:=by
  rw[ajG];exact ajE (List.length_filter_le _ _) (by simp;omega)
 rw[hb k hk _ hle,cu (m:=l.length) (by omega) hk,List.take_add_one,ai5 hk];rw[List.filter_append,List.map_append];by_cases h:p l[k]=true
 .rw[if_pos h]
  have:([l[k]]:List α).filter p=[l[k]]:=by simp[h]
  show some (Sum.inl (_,_))=some (Sum.inl (_,_++(List.filter p [l[k]]).map F))
  rw[this];rfl
 .rw[if_neg h]
  have:([l[k]]:List α).filter p=[]:=by simp[h]
  show some (Sum.inl (_,_))=some (Sum.inl (_,_++(List.filter p [l[k]]).map F))
  rw[this,List.map_nil,ajW]
theorem EG(t:wM)(d:Int)(hl:t.2.2.2.length<=1048576):M.cQ aC t d=some (t.1,t.2.1,t.2.2.1,ku t.2.2.2 d):=by
 unfold M.cQ
 have:=LJ t.2.2.2 (fun x=>decide (uH x.1 d)) (fun x:Rw=>((tw,x.2):Rw)) (body:=fun s2=>(if(decide (s2.1<(t.2.2.2.length:Int)))=true then((idx t.2.2.2 s2.1).bind fun x4=>(M.bn aC x4.1 d).bind fun y5=>(if y5=true then(M.cW aC).bind fun y6=>(bR s2.2 ([(y6,x4.2)]:List dy.den)).bind fun l7=>some l7 else some s2.2):Option (List dy.den)).bind fun j3=>some (Sum.inl (ai3.wrap (s2.1+(1:Int)),j3))else some (Sum.inr s2.2))) (by omega)
  (fun k hk o ho=>by
    have ea:M.cW aC=some tw:=rfl;simp only[ja hk,ag hk,wB,ea,ai2,if_true,bD (show o.length+[((tw,t.2.2.2[k].2):Rw)].length<=4294967296 by simp;omega)];by_cases h:uH t.2.2.2[k].1 d
    .simp only[decide_eq_true h,if_true,ai2]
    .simp only[decide_eq_false h,ajb,if_false,ai2])
  (fun o=>by simp only[eL,decide_false,ajb,if_false])
 rw[this];rfl
theorem F9:VR tw:=by decide
theorem LK{x y:Rw}{d:Int}(hx:uH x.1 d)(hy:uH y.1 d)(h:mP ((tw,x.2):Rw) ((tw,y.2):Rw)):mP x y:=by
 obtain⟨⟨(x1:Int),(x2:Int)⟩,(x3:Int),(x4:Int),(x5:Int)⟩:=x;obtain⟨⟨(y1:Int),(y2:Int)⟩,(y3:Int),(y4:Int),(y5:Int)⟩:=y;unfold mP at h⊢;unfold uH at hx hy;dsimp only[ae,Row.den]at*;exact⟨hx.1,hy.1,by omega,h.2.2.2⟩
theorem LL{x:Rw}{t:wM}{E:List En}{rows:List Rw}(h:¬nK x t E):¬nK ((tw,x.2):Rw) ((t.1,(t.2.1,(t.2.2.1,rows))):wM) E:=by
 intro g;apply h;unfold nK at g⊢
 rcases g with g|g|g
 .exact absurd F9 g
 .exact absurd (show(0:Int)=109573 from g) (by decide)
 .exact .inr (.inr g)
theorem tx{α:Type}{p:α->Bool}:∀{l:List α}{k:Nat}(h:k<(l.filter p).length),∃j,∃hj:j<l.length,(l.filter p)[k]=l[j]/\p l[j]=true/\∀i,∀hi:i<(l.filter p).length,i<k->∃m,∃hm:m<l.length,m<j/\(l.filter p)[i]=l[m]/\p l[m]=true
 |[],k,h=>absurd h (by simp)
 |a::l,k,h=>by
  by_cases ha:p a=true
  .have e:(a::l).filter p=a::l.filter p:=List.filter_cons_of_pos ha
   cases k with
   |zero=>exact⟨0,by simp,by simp[e],ha,fun i _ hi=>by omega⟩
   |succ k=>
    have hk:k<(l.filter p).length:=by rw[e]at h;simpa using h
    obtain⟨j,hj,h1,h2,h3⟩:=tx (l:=l) hk;refine⟨j+1,by simpa using hj,by simpa[e]using h1,h2,fun i hi G0=>?_⟩
    cases i with
    |zero=>exact⟨0,by simp,by omega,by simp[e],ha⟩
    |succ i=>
     obtain⟨m,hm,h4,h5,h6⟩:=h3 i (by rw[e]at hi;simpa using hi) (by omega);exact⟨m+1,by simpa using hm,by omega,by simpa[e]using h5,h6⟩
  .have e:(a::l).filter p=l.filter p:=List.filter_cons_of_neg ha
   have hk:k<(l.filter p).length:=by rw[e]at h;exact h
   obtain⟨j,hj,h1,h2,h3⟩:=tx (l:=l) hk;refine⟨j+1,by simpa using hj,by simpa[e]using h1,h2,fun i hi G0=>?_⟩;obtain⟨m,hm,h4,h5,h6⟩:=h3 i (by rw[e]at hi;exact hi) G0;exact⟨m+1,by simpa using hm,by omega,by simpa[e]using h5,h6⟩
theorem yw{rows:List Rw}{d:Int}{k:Nat}(h:k<(ku rows d).length)(h':k<(rows.filter fun x=>decide (uH x.1 d)).length):(ku rows d)[k]=((tw,(rows.filter fun x=>decide (uH x.1 d))[k].2):Rw):=List.getElem_map ..
theorem Rp{t:wM}{E:List En}(d:Int)(h:(nf t E).2=0):(nf ((t.1,(t.2.1,(t.2.2.1,ku t.2.2.2 d))):wM) E).2=0:=by
 obtain⟨h1,h2,h3⟩:=Aa.1 h;refine Aa.2 ⟨?_,h2,fun k hk=>?_⟩
 .show(ku t.2.2.2 d).length<=64
  unfold ku;rw[ajG];exact ajE (List.length_filter_le _ _) h1
 .have dO:k<(t.2.2.2.filter fun x=>decide (uH x.1 d)).length:=by
   have:k<(ku t.2.2.2 d).length:=hk;unfold ku at this
   rwa [ajG]at this
  obtain⟨j,hj,e,hp,UP⟩:=tx dO;have oi:(ku t.2.2.2 d)[k]'hk=((tw,t.2.2.2[j].2):Rw):=(yw hk dO).trans (by rw[e])
  show¬nK ((ku t.2.2.2 d)[k]'hk) _ E/\¬∃y∈(ku t.2.2.2 d).take k,mP y ((ku t.2.2.2 d)[k]'hk)
  rw[oi];refine⟨LL (h3 j hj).1,?_⟩
  rintro⟨y,hy,hc⟩
  obtain⟨i,hi,rfl⟩:=List.mem_take_iff_getElem.1 hy
  have gv:i<(t.2.2.2.filter fun x=>decide (uH x.1 d)).length:=by omega
  obtain⟨m,hm,hmj,e2,O6⟩:=UP i gv (by omega);have abN:(ku t.2.2.2 d)[i]'(by omega)=((tw,t.2.2.2[m].2):Rw):=(yw _ gv).trans (by rw[e2]);rw[abN]at hc;exact(h3 j hj).2 ⟨_,List.mem_take_iff_getElem.2 ⟨m,by omega,rfl⟩,LK (of_decide_eq_true O6) (of_decide_eq_true hp) hc⟩
def c9(d:Int)(c:List Int×List Int×List Int)(r:lj):List Int×List Int×List Int:=
 if uH r.2.2.2.2.1 d then(c.1++[(c.2.1.length:Int)],c.2.1++[(c.1.length:Int)],c.2.2++[if 0<=(r.2.2.1:Int)/\(r.2.2.1:Int)<(c.1.length:Int)then c.1.getD (r.2.2.1:Int).toNat (-1)else-1])
 else(c.1++[if 0<=(r.2.2.1:Int)/\(r.2.2.1:Int)<(c.1.length:Int)then c.1.getD (r.2.2.1:Int).toNat (-1)else-1],c.2.1,c.2.2)
def gn(d:Int)(rules:List lj):List Int×List Int×List Int:=rules.foldl (c9 d) ([],[],[])
theorem mq(d:Int)(rules:List lj):(gn d rules).1.length=rules.length/\(gn d rules).2.1.length<=rules.length/\(gn d rules).2.2.length=(gn d rules).2.1.length:=by
 unfold gn
 suffices∀(rules:List lj)(c:List Int×List Int×List Int),c.2.2.length=c.2.1.length->(rules.foldl (c9 d) c).1.length=c.1.length+rules.length/\(rules.foldl (c9 d) c).2.1.length<=c.2.1.length+rules.length/\(rules.foldl (c9 d) c).2.2.length=(rules.foldl (c9 d) c).2.1.length by simpa using this rules ([],[],[]) rfl
 intro rules
 induction rules with
 |nil=>intro c h;exact⟨rfl,ai8 _,h⟩
 |cons r rules ih=>
  intro c h;rw[List.foldl_cons,ajk]
  have h1:(c9 d c r).1.length=c.1.length+1:=by unfold c9;split<;>simp
  have h2:(c9 d c r).2.1.length<=c.2.1.length+1:=by unfold c9;split<;>simp
  have h3:(c9 d c r).2.2.length=(c9 d c r).2.1.length:=by unfold c9;split<;>simp[h]
  obtain⟨g1,g2,g3⟩:=ih _ h3;exact⟨by omega,by omega,g3⟩
theorem wC(l:List Int)(m:Nat)(v:Int):aT (l++ai9 (m+1) (0:Int)) (l.length:Int) v=(l++[v])++ai9 m (0:Int):=by
 unfold aT;rw[aja,ajU _ _ (ai8 _),Nat.sub_self,aj9,List.set_cons_zero];simp
theorem LM(l:List Int)(m:Nat)(u v:Int):aT ((l++[u])++ai9 m (0:Int)) (l.length:Int) v=(l++[v])++ai9 m (0:Int):=by
 unfold aT;rw[aja,ajr,ajU _ _ (ai8 _),Nat.sub_self];simp
theorem Ac(rules:List lj)(d:Int)(hl:rules.length<=100000):M.bQ aC rules d=some (d,(gn d rules).2.1,(gn d rules).2.2):=by
 apply Wp.eq;unfold M.bQ;rw[wp_bind];refine vN.2 ⟨by omega,?_⟩;rw[aja]
 refine Wp.count (fun s=>s.1) rules.length (fun k s=>s.2=(d,(gn d (rules.take k)).1++ai9 (rules.length-k) 0,(gn d (rules.take k)).2.1,(gn d (rules.take k)).2.2)) (by omega) rfl (by simp[gn]) fun k s hk hs hJ=>?_
 obtain⟨i,s2⟩:=s;dsimp only at hs hJ;subst hs hJ;simp only[W_,implies_true,forall_const,reduceCtorEq,aY,aO];refine⟨fun al=>?_,fun hge=>?_⟩
 .have al:k<rules.length:=by omega
  obtain⟨l1,l2,l3⟩:=mq d (rules.take k)
  have Nx:(rules.take k).length=k:=by rw[ajl];omega
  rw[Nx]at l1 l2
  have eB:gn d (rules.take (k+1))=c9 d (gn d (rules.take k)) rules[k]:=by
   unfold gn;rw[List.take_add_one,ai5 al,List.foldl_append];rfl
  obtain⟨m,hm⟩:∃m,rules.length-k=m+1:=⟨rules.length-k-1,by omega⟩
  have IF:rules.length-(k+1)=m:=by omega
  rw[eB,hm,IF];generalize gn d (rules.take k)=c at*;obtain⟨near,li,pa⟩:=c;dsimp only at l1 l2 l3⊢;subst l1;rw[ag al];refine .some ?_;generalize rules[near.length]=r at*
  have hc:M.bZ aC r d=some (decide (uH r.2.2.2.2.1 d),d):=by
   unfold M.bZ;rw[wB,ai2]
  have hw:ai3.wrap ((near.length:Int)+1)=((near.length+1:Nat):Int):=cu (m:=rules.length) (by omega) al
  have tail:∀a:Int,a=(if 0<=(r.2.2.1:Int)/\(r.2.2.1:Int)<(near.length:Int)then near.getD (r.2.2.1:Int).toNat (-1)else-1)->
   Wp (idx (near++ai9 (m+1) (0:Int)) (near.length:Int)) fun _=>Wp (M.bZ aC r d) fun x=>(x.1=true->Wp (idx (aT (near++ai9 (m+1) (0:Int)) (near.length:Int) a) (near.length:Int)) fun _=>Wp (bR li [(near.length:Int)]) fun x4=>Wp (bR pa [a]) fun x5=>near.length<rules.length/\ai3.wrap ((near.length:Int)+1)=((near.length+1:Nat):Int)/\(x.2,aT (aT (near++ai9 (m+1) (0:Int)) (near.length:Int) a) (near.length:Int) (li.length:Int),x4,x5)=(d,(c9 d (near,li,pa) r).1++ai9 m 0,(c9 d (near,li,pa) r).2.1,(c9 d (near,li,pa) r).2.2))/\
    (x.1=false->near.length<rules.length/\ai3.wrap ((near.length:Int)+1)=((near.length+1:Nat):Int)/\(x.2,aT (near++ai9 (m+1) (0:Int)) (near.length:Int) a,li,pa)=(d,(c9 d (near,li,pa) r).1++ai9 m 0,(c9 d (near,li,pa) r).2.1,(c9 d (near,li,pa) r).2.2)):=by
   intro a ha;refine dB.2 ⟨by simp;omega,?_⟩;rw[hc];refine .some ⟨fun h=>?_,fun h=>?_⟩
   .have h:uH r.2.2.2.2.1 d:=of_decide_eq_true h;refine dB.2 ⟨by rw[wC];simp;omega,mZ.2 ⟨by simp;omega,mZ.2 ⟨by simp;omega,al,hw,?_⟩⟩⟩;rw[wC,LM];unfold c9;rw[if_pos h,ha]
   .have h:¬uH r.2.2.2.2.1 d:=of_decide_eq_false h;refine⟨al,hw,?_⟩;rw[wC];unfold c9;rw[if_neg h,ha]
  obtain⟨(p:Int),hp⟩:∃p:Int,p=r.2.2.1:=⟨_,rfl⟩
  simp only[<-hp]at tail⊢;refine⟨fun h0=>⟨fun h1=>?_,fun h1=>tail _ (by rw[if_neg fun g=>h1 g.2])⟩,fun h0=>tail _ (by rw[if_neg fun g=>h0 g.1])⟩;obtain⟨c,rfl⟩:=ajm h0;have xh:c<near.length:=Int.ofNat_lt.1 h1;refine dB.2 ⟨by simp;omega,tail _ ?_⟩;rw[if_pos ⟨h0,h1⟩];simp only[aja];rw[ajf xh];simp[ajD,xh]
 .obtain rfl:k=rules.length:=by omega
  rw[aju]
theorem Is(d:Int)(rules:List lj)(r:lj):gn d (rules++[r])=c9 d (gn d rules) r:=by
 unfold gn;rw[List.foldl_append];rfl
def R4(rules:List lj)(li:List Int)(b:Nat)(df:Int)(a:Int):Prop:=a= -1\/∃j:Nat,a=(j:Int)/\j<b/\∃i,∃h:i<rules.length,li[j]? =some (i:Int)/\(rules[i].2.1:Int)=df
structure Ga(d:Int)(rules:List lj)(c:List Int×List Int×List Int):Prop where
 near:c.1.length=rules.length
 same:c.2.2.length=c.2.1.length
 nr:∀i,∀h:i<rules.length,∀h':i<c.1.length,R4 rules c.2.1 c.2.1.length rules[i].2.1 c.1[i]
 li:∀j,∀h:j<c.2.1.length,∃i,∃hi:i<rules.length,c.2.1[j]=(i:Int)/\uH rules[i].2.2.2.2.1 d/\∀h':j<c.2.2.length,R4 rules c.2.1 j rules[i].2.1 c.2.2[j]
 inc:c.2.1.Pairwise (· < ·)
theorem R4.more{rules:List lj}{li:List Int}{b b':Nat}{df a:Int}(r:lj)(l':List Int)(hb:b<=b')(h:R4 rules li b df a):R4 (rules++[r]) (li++l') b' df a:=by
 rcases h with h|⟨j,h1,h2,i,hi,h3,h4⟩
 .exact .inl h
 .refine .inr ⟨j,h1,by omega,i,by simp;omega,?_,?_⟩
  .rw[ajA (ai7.1 h3).1];exact h3
  .rw[ajf hi];exact h4
theorem ln.init{rules:List lj}{r:lj}(h:ln (rules++[r])):ln rules:=fun i hi=>by
 have:=h i (by simp;omega);rw[ajf hi]at this
 rcases this with g|⟨p,hp,g1,g2⟩
 .exact .inl g
 .refine .inr ⟨p,hp,g1,?_⟩;rw[ajf (show p<rules.length by omega)]at g2;exact g2
theorem Ga.snoc{d:Int}{rules:List lj}{r:lj}{c:List Int×List Int×List Int}(h:Ga d rules c)(hp:ln (rules++[r])):Ga d (rules++[r]) (c9 d c r):=by
 obtain⟨near,li,pa⟩:=c;obtain⟨h1,h2,h3,h4,h5⟩:=h;dsimp only at h1 h2 h3 h4 h5
 have last:(rules++[r])[rules.length]'(by simp)=r:=by simp
 have Rq:R4 rules li li.length r.2.1 (if 0<=(r.2.2.1:Int)/\(r.2.2.1:Int)<(near.length:Int)then near.getD (r.2.2.1:Int).toNat (-1)else-1):=by
  have:=hp rules.length (by simp);rw[last]at this
  rcases this with g|⟨p,rc,g1,g2⟩
  .rw[if_neg (fun q=>by rw[g]at q;exact absurd q.1 (by decide))];exact .inl rfl
  .have tB:near.length=rules.length:=h1;rw[g1,if_pos ⟨Int.natCast_nonneg p,Int.ofNat_lt.2 (by omega)⟩,aja];rw[ajf rc]at g2
   have hpn:p<near.length:=by omega
   have:=h3 p rc hpn;rw[g2]at this;simpa[ajD,hpn]using this
 have al:∀x∈li,x<(rules.length:Int):=fun x hx=>by
  obtain⟨j,hj,rfl⟩:=aji hx;obtain⟨i,hi,e,_⟩:=h4 j hj;omega
 unfold c9;dsimp only;generalize(if 0<=(r.2.2.1:Int)/\(r.2.2.1:Int)<(near.length:Int)then near.getD (r.2.2.1:Int).toNat (-1)else-1)=a at Rq⊢;by_cases cc:uH r.2.2.2.2.1 d
 .rw[if_pos cc];refine⟨by simp[h1],by simp[h2],fun i hi gv=>?_,fun j hj=>?_,?_⟩
  .dsimp only at gv⊢;by_cases e:i<rules.length
   .rw[ajf e,ajf (show i<near.length by omega)];exact(h3 i e (by omega)).more r [_] (by simp)
   .obtain rfl:i=rules.length:=by simp at hi;omega
    rw[last]
    have:(near++[(li.length:Int)])[rules.length]'gv=(li.length:Int):=by
     rw[ajn (by omega)];simp
    rw[this];exact .inr ⟨li.length,rfl,by simp,rules.length,by simp,by simp[h1],by rw[last]⟩
  .dsimp only at hj⊢;by_cases e:j<li.length
   .obtain⟨i,hi,g1,g2,g3⟩:=h4 j e;refine⟨i,by simp;omega,by rw[ajf e];exact g1,by rw[ajf hi];exact g2,fun h'=>?_⟩;rw[ajf hi,ajf (show j<pa.length by omega)];exact(g3 (by omega)).more r [_] (ai8 _)
   .obtain rfl:j=li.length:=by simp at hj;omega
    refine⟨rules.length,by simp,by rw[ajn (by omega)];simp[h1],by rw[last];exact cc,fun h'=>?_⟩;rw[last]
    have:(pa++[a])[li.length]? =some a:=by rw[<-h2];simp
    have:=(ai7.1 this).2;rw[this];exact Rq.more r [_] (ai8 _)
  .exact List.pairwise_append.2 ⟨h5,List.pairwise_singleton ..,fun x hx y hy=>by
    rw[ajj.1 hy];have:=al x hx;have tB:near.length=rules.length:=h1
    show x<(near.length:Int)
    omega⟩
 .rw[if_neg cc];refine⟨by simp[h1],h2,fun i hi gv=>?_,fun j hj=>?_,h5⟩
  .dsimp only at gv⊢;by_cases e:i<rules.length
   .rw[ajf e,ajf (show i<near.length by omega)];have:=(h3 i e (by omega)).more r [] (ai8 _)
    rwa [ajW]at this
   .obtain rfl:i=rules.length:=by simp at hi;omega
    rw[last]
    have:(near++[a])[rules.length]? =some a:=by rw[<-h1];simp
    have:=(ai7.1 this).2;rw[this];have:=Rq.more r [] (ai8 _)
    rwa [ajW]at this
  .dsimp only at hj⊢;obtain⟨i,hi,g1,g2,g3⟩:=h4 j hj;refine⟨i,by simp;omega,g1,by rw[ajf hi];exact g2,fun h'=>?_⟩;rw[ajf hi];have:=(g3 h').more r [] (ai8 _)
   rwa [ajW]at this
theorem rX(d:Int):∀(n:Nat)(rules:List lj),rules.length=n->ln rules->Ga d rules (gn d rules)
 |0,rules,hn,_=>by
  obtain rfl:=akb.1 hn;exact⟨rfl,rfl,fun i h=>absurd h (by simp),fun j h=>absurd h (by simp[gn]), .nil⟩
 |n+1,rules,hn,hp=>by
  obtain⟨rs,r,rfl⟩:∃rs r,rules=rs++[r]:=by
   have bN:rules≠[]:=fun e=>by rw[e]at hn;cases hn
   exact⟨rules.dropLast,rules.getLast bN,(List.dropLast_concat_getLast bN).symm⟩
  rw[Is];exact(rX d n rs (by simpa using hn) hp.init).snoc hp
theorem rY(l:List Ty)(h:l.length<=1048576):M.aj aC l=some l:=by
 unfold M.aj;rw[bD (by simp;omega),List.nil_append,ai2];split
 .rename_i h0;obtain rfl:=akb.1 (beq_true h0);exact tl
 .rfl
theorem ql(l:List Fd)(h:l.length<=1048576):M.aX aC l=some l:=by
 unfold M.aX;rw[bD (by simp;omega),List.nil_append,ai2];split
 .rename_i h0;obtain rfl:=akb.1 (beq_true h0);exact tl
 .rfl
def Cv(r:lj)(p:Int):lj:=(r.1,(r.2.1,(p,(r.2.2.2.1,(tw,(r.2.2.2.2.2.1,(r.2.2.2.2.2.2.1,r.2.2.2.2.2.2.2)))))))
def yx(rules:List lj)(p:Int×Int):lj:=Cv (rules[p.1.toNat]?.getD (⟨#[]⟩,((0:Int),((0:Int),((0:Int),(((0:Int),(0:Int)),([],([],⟨#[]⟩)))))))) p.2
def b8(rules:List lj)(d:Int):List lj:=((gn d rules).2.1.zip (gn d rules).2.2).map (yx rules)
theorem EH(x:iQ)(d:Int)(hs:mo x)(hp:ln x.2.2.2.2):M.cR aC x d=some (x.1,x.2.1,x.2.2.1,x.2.2.2.1,b8 x.2.2.2.2 d):=by
 have UK:=hs.2.2.2.1;have Nv:=hs.2.1;have abJ:=hs.2.2.1;have hru:=hs.2.2.2.2.2.2;unfold M.cR;rw[Ac _ _ (by omega),ai2,ql _ (by omega),ql _ (by omega)];have my:=rX d _ x.2.2.2.2 rfl hp;have hlen:=mq d x.2.2.2.2;unfold b8;generalize gn d x.2.2.2.2=c at*;obtain⟨near,li,pa⟩:=c;have mr:pa.length=li.length:=my.same;have hli:=my.li;dsimp only at hlen hli⊢
 have hz:(li.zip pa).length=li.length:=by rw[List.length_zip];omega
 have:=F5 (li.zip pa) (yx x.2.2.2.2) (body:=fun s3=>(if(decide (s3.1<(li.length:Int)))=true then(idx li s3.1).bind fun x4=>(idx x.2.2.2.2 x4).bind fun x5=>(idx pa s3.1).bind fun x6=>(M.cW aC).bind fun y7=>(M.aj aC x5.2.2.2.2.2.1).bind fun y8=>(M.aj aC x5.2.2.2.2.2.2.1).bind fun y9=>(bR s3.2 ([(x5.1,(x5.2.1,(x6,(x5.2.2.2.1,(y7,(y8,(y9,x5.2.2.2.2.2.2.2)))))))]:List aN.den)).bind fun xj=>some (Sum.inl (ai3.wrap (s3.1+(1:Int)),xj))else some (Sum.inr s3.2))) (by omega)
  (fun k hk o ho=>by
    have IP:k<li.length:=by omega
    have VM:k<pa.length:=by omega
    obtain⟨i,hi,e1,_⟩:=hli k IP;have ea:M.cW aC=some tw:=rfl;have hri:=hru _ (ajc hi);simp only[ja IP,ag IP,e1,ag hi,ag VM,ea,rY _ (show x.2.2.2.2[i].2.2.2.2.2.1.length<=1048576 by omega),rY _ (show x.2.2.2.2[i].2.2.2.2.2.2.1.length<=1048576 by omega),ai2,if_true];rw[bD (by simp;omega),ai2,List.getElem_zip,e1];unfold yx Cv
    simp only[aja,ai5 hi,ajP])
  (fun o=>by rw[hz];simp only[eL,decide_false,ajb,if_false])
 rw[this];rfl
def kw(t:wM)(d:Int):wM:=(t.1,(t.2.1,(t.2.2.1,ku t.2.2.2 d)))
def fD(x:iQ)(d:Int):iQ:=(x.1,(x.2.1,(x.2.2.1,(x.2.2.2.1,b8 x.2.2.2.2 d))))
theorem Cw(l:Lw)(d:Int)(hm:Eu l)(mr:jt l)(hp:∀x∈l.2.2,ln x.2.2.2.2):M.dl aC l d=some (l.1,l.2.1.map (kw · d),l.2.2.map (fD · d)):=by
 have h1:=hm.en';have h2:=hm.tb';have h3:=hm.sc';unfold M.dl
 have e1:Loop (S:=Int×List bq.den) (X:=List bq.den) (fun s2=>(if(decide (s2.1<(l.1.length:Int)))=true then(idx l.1 s2.1).bind fun x3=>(M.bY aC x3.2).bind fun y4=>(bR s2.2 ([(x3.1,y4)]:List bq.den)).bind fun l5=>some (Sum.inl (ai3.wrap (s2.1+(1:Int)),l5))else some (Sum.inr s2.2))) aC ((0:Int),([]:List bq.den))=some l.1:=by
  have:=F5 (l:=l.1) (F:=fun x:En=>x) (body:=fun s2=>(if(decide (s2.1<(l.1.length:Int)))=true then(idx l.1 s2.1).bind fun x3=>(M.bY aC x3.2).bind fun y4=>(bR s2.2 ([(x3.1,y4)]:List bq.den)).bind fun l5=>some (Sum.inl (ai3.wrap (s2.1+(1:Int)),l5))else some (Sum.inr s2.2))) (by omega)
   (fun k hk o ho=>by simp only[ja hk,ag hk,Cu _ (hm.en _ (ajc hk)),ai2,if_true,bD (show o.length+[l.1[k]].length<=4294967296 by simp;omega)])
   (fun o=>by simp only[eL,decide_false,ajb,if_false])
  rw[List.map_id']at this;exact this
 rw[e1,ai2]
 have e2:=Co l.2.1 (kw · d) (fun i o=>((i,l.1,o):Int×(List bq.den)×List ax.den)) (fun o=>(l.1,o)) (body:=fun s7=>(if(decide (s7.1<(l.2.1.length:Int)))=true then(idx l.2.1 s7.1).bind fun x8=>(M.cQ aC x8 d).bind fun y9=>(bR s7.2.2 ([(y9.1,(y9.2.1,(y9.2.2.1,y9.2.2.2)))]:List ax.den)).bind fun xj=>some (Sum.inl (ai3.wrap (s7.1+(1:Int)),s7.2.1,xj))else some (Sum.inr (s7.2.1,s7.2.2)))) (by omega)
  (fun k hk o ho=>by
    simp only[ja hk,ag hk,EG _ d (hm.tb _ (ajc hk)),ai2,if_true];rw[bD (by simp;omega),ai2]
    rfl)
  (fun o=>by simp only[eL,decide_false,ajb,if_false])
 rw[e2,ai2]
 have e3:=Co l.2.2 (fD · d) (fun i o=>((i,l.1,l.2.1.map (kw · d),o):Int×(List bq.den)×(List ax.den)×List az.den)) (fun o=>(l.1,l.2.1.map (kw · d),o)) (body:=fun rG=>(if(decide (rG.1<(l.2.2.length:Int)))=true then(idx l.2.2 rG.1).bind fun pU=>(M.cR aC pU d).bind fun qV=>(bR rG.2.2.2 ([(qV.1,(qV.2.1,(qV.2.2.1,(qV.2.2.2.1,qV.2.2.2.2))))]:List az.den)).bind fun TW=>some (Sum.inl (ai3.wrap (rG.1+(1:Int)),rG.2.1,rG.2.2.1,TW))else some (Sum.inr (rG.2.1,rG.2.2.1,rG.2.2.2)))) (by omega)
  (fun k hk o ho=>by
    have hx:=ajc hk;simp only[ja hk,ag hk,EH _ d (mr.2.2.2.2.2 _ hx) (hp _ hx),ai2,if_true];rw[bD (by simp;omega),ai2]
    rfl)
  (fun o=>by simp only[eL,decide_false,ajb,if_false])
 rw[e3];rfl
noncomputable def iS(l:Lw)(d:Int):Lw:=(l.1,(l.2.1.map (kw · d),l.2.2.map (fD · d)))
theorem wD{β γ:Type}{l:List (ByteArray×β)}{f:ByteArray×β->ByteArray×γ}(hf:∀x,(f x).1=x.1)(nm:ByteArray):eT (l.map f) nm↔eT l nm:=by
 unfold eT;constructor
 .rintro⟨y,hy,e⟩
  obtain⟨x,hx,rfl⟩:=akD.1 hy;exact⟨x,hx,by rw[<-hf];exact e⟩
 .rintro⟨x,hx,e⟩
  exact⟨f x,akD.2 ⟨x,hx,rfl⟩,by rw[hf];exact e⟩
theorem NX(l:Lw)(d:Int)(k:Nat)(hk:k<l.2.1.length)(h:oy l k=none):oy (iS l d) k=none:=by
 have dO:k<(l.2.1.map (kw · d)).length:=by simpa using hk
 have e:(l.2.1.map (kw · d))[k]=kw l.2.1[k] d:=List.getElem_map ..;unfold oy at h⊢;rw[ai5 hk]at h;rw[show(iS l d).2.1=l.2.1.map (kw · d)from rfl,ai5 dO,e];dsimp only at h⊢;rw[<-List.map_take];split at h
 .cases h
 split at h
 .cases h
 split at h
 case isFalse=>cases h
 rename_i h1 h2 h3;have n1:(kw l.2.1[k] d).1=l.2.1[k].1:=rfl;rw[if_neg (by rw[n1];exact h1),if_neg,if_pos (show(nf (kw l.2.1[k] d) (iS l d).1).2=0 from Rp d h3)];rw[n1]
 rintro(g|g)
 .exact h2 (.inl g)
 .exact h2 (.inr ((wD (f:=fun x:wM=>kw x d) (fun _=>rfl) _).1 g))
theorem NY{α β:Type}(l:List α)(f:α->β)(i:Int):idx (l.map f) i=(idx l i).map f:=by
 rw[LH,LH];split
 .rw[aj2]
 .rfl
theorem It(n:Ty)(l:List Ty)(s:nL)(f:wM->wM)(hf:∀t,(f t).2.1=t.2.1/\(f t).2.2.1=t.2.2.1):M.aB aC n l ((s.1,(s.2.1.map f,s.2.2)):nL)=M.aB aC n l s:=by
 have e1:M.iA aC n ((s.1,(s.2.1.map f,s.2.2)):nL)=M.iA aC n s:=rfl
 have e2:M.ba aC n ((s.1,(s.2.1.map f,s.2.2)):nL)=M.ba aC n s:=by
  unfold M.ba;simp only[ajG]
 have e3:M.bO aC n ((s.1,(s.2.1.map f,s.2.2)):nL)=M.bO aC n s:=rfl
 have e4:∀a,M.cf aC n a ((s.1,(s.2.1.map f,s.2.2)):nL)=M.cf aC n a s:=fun a=>by
  unfold M.cf;simp only[NY,Option.bind_map,Function.comp_def,fun t=>(hf t).1,fun t=>(hf t).2]
 unfold M.aB;simp only[e1,e2,e3,e4]
theorem Rr(e:List Ty)(s:nL)(f:wM->wM)(hf:∀t,(f t).2.1=t.2.1/\(f t).2.2.1=t.2.2.1):CR e ((s.1,(s.2.1.map f,s.2.2)):nL)=CR e s:=by
 have h:∀n l,FX n l ((s.1,(s.2.1.map f,s.2.2)):nL)=FX n l s:=fun n l=>by
  unfold FX;rw[It n l s f hf]
 have hr:∀(e:List Ty)(i:Nat)(kC:List Ty),mQ ((s.1,(s.2.1.map f,s.2.2)):nL) e i kC=mQ s e i kC:=by
  intro e
  induction e with
  |nil=>intro i kC;rfl
  |cons n e ih=>
   intro i kC;rw[mQ,mQ,h,ih]
 unfold CR;rw[hr]
structure Kept(rules:List lj)(d:Int)(j:Nat)(y:lj)(i:Nat):Prop where
 lt:i<rules.length
 at_:(gn d rules).2.1[j]? =some (i:Int)
 rul:∃p,y=Cv (rules[i]'lt) p/\(p= -1\/∃q:Nat,p=(q:Int)/\q<j/\∃i',∃h:i'<rules.length,(gn d rules).2.1[q]? =some (i':Int)/\(rules[i'].2.1:Int)=(rules[i]'lt).2.1)
theorem jF(rules:List lj)(d:Int):(b8 rules d).length=(gn d rules).2.1.length:=by
 have:=(mq d rules).2.2;unfold b8;rw[ajG,List.length_zip];omega
theorem kT{rules:List lj}(d:Int)(hp:ln rules){j:Nat}(h:j<(b8 rules d).length):∃i,Kept rules d j (b8 rules d)[j] i:=by
 have my:=rX d _ rules rfl hp;have hl:=jF rules d
 have hj:j<(gn d rules).2.1.length:=by omega
 have IE:j<(gn d rules).2.2.length:=by have:=my.same;omega
 obtain⟨i,hi,e,_,ha⟩:=my.li j hj
 have ez:(b8 rules d)[j]=yx rules ((gn d rules).2.1[j],(gn d rules).2.2[j]):=by
  have hz:j<((gn d rules).2.1.zip (gn d rules).2.2).length:=by rw[List.length_zip];omega
  show(((gn d rules).2.1.zip (gn d rules).2.2).map (yx rules))[j]'(by simpa using hz)=_
  rw[List.getElem_map,List.getElem_zip]
 have er:(b8 rules d)[j]=Cv rules[i] ((gn d rules).2.2[j]):=by
  rw[ez,e];unfold yx;simp only[aja,ai5 hi,ajP]
 exact⟨i,hi,by rw[ai5 hj,e],_,er,ha IE⟩
theorem Kept.OU{rules:List lj}{d:Int}(hp:ln rules){j j' i i':Nat}{y y':lj}(h:Kept rules d j y i)(h':Kept rules d j' y' i')(hj:j'<j):i'<i:=by
 have my:=(rX d _ rules rfl hp).inc;obtain⟨h1,e1⟩:=ai7.1 h.at_;obtain⟨h2,e2⟩:=ai7.1 h'.at_;have:=List.pairwise_iff_getElem.1 my j' j h2 h1 hj;rw[e1,e2]at this;omega
theorem Kept.eqs{rules:List lj}{d:Int}{j i:Nat}{y:lj}(h:Kept rules d j y i):y.1=(rules[i]'h.lt).1/\(y.2.1:Int)=(rules[i]'h.lt).2.1:=by
 obtain⟨p,e,_⟩:=h.rul;have e1:y.1=(Cv (rules[i]'h.lt) p).1:=congrArg (fun r:lj=>r.1) e;have e2:(y.2.1:Int)=(Cv (rules[i]'h.lt) p).2.1:=congrArg (fun r:lj=>(r.2.1:Int)) e;exact⟨e1,e2⟩
theorem qR{α:Type}(l:List α)(q:α->Bool):∀n,n<=l.length->(l.take n).countP q=(((List.range n).filter fun a=>((l[a]?).map q).getD false).map fun a:Nat=>(a:Int)).length
 |0,_=>by simp
 |n+1,h=>by
  have hl:n<l.length:=by omega
  rw[List.range_succ,List.filter_append,List.map_append,ai6,<-qR l q n (by omega),List.take_add_one,List.countP_append,ai5 hl]
  congr 1
  simp only[Option.toList_some,List.countP_cons,List.countP_nil,ajG];by_cases hq:q l[n]=true
  .rw[if_pos hq,List.filter_cons_of_pos (by rw[ai5 hl];exact hq)];rfl
  .rw[if_neg hq,List.filter_cons_of_neg (by rw[ai5 hl];exact hq)];rfl
theorem NZ{x:iQ}{d:Int}(hp:ln x.2.2.2.2){j i:Nat}(h:j<(b8 x.2.2.2.2 d).length)(hk:Kept x.2.2.2.2 d j (b8 x.2.2.2.2 d)[j] i)(df:Int):zV (fD x d) j df<=zV x i df:=by
 unfold zV
 show((b8 x.2.2.2.2 d).take j).countP _<=_
 rw[qR _ _ j (by omega),qR _ _ i (by have:=hk.lt;omega)];have abO:=(rX d _ x.2.2.2.2 rfl hp).inc;generalize hL:(List.range j).filter (fun a=>(((b8 x.2.2.2.2 d)[a]?).map fun r:lj=>decide ((r.2.1:Int)=df)).getD false)=L
 have hLp:L.Pairwise (· < ·):=by rw[<-hL];exact List.pairwise_lt_range.filter _
 have IR:∀a∈L,a<j/\∃h:a<(b8 x.2.2.2.2 d).length,((b8 x.2.2.2.2 d)[a].2.1:Int)=df:=fun a ha=>by
  rw[<-hL]at ha;obtain⟨h1,h2⟩:=List.mem_filter.1 ha;have hj:=List.mem_range.1 h1
  have hl:a<(b8 x.2.2.2.2 d).length:=by omega
  rw[ai5 hl]at h2;exact⟨hj,hl,of_decide_eq_true h2⟩
 have hlen:=jF x.2.2.2.2 d;rw[show(L.map fun a:Nat=>(a:Int)).length=(L.map fun a=>(gn d x.2.2.2.2).2.1.getD a 0).length by simp]
 refine pQ ?_ fun y hy=>?_
 .refine List.pairwise_map.2 (hLp.imp_of_mem fun{a b}ha hb wX=>?_);obtain⟨_,h1,_⟩:=IR a ha;obtain⟨_,h2,_⟩:=IR b hb;have:=List.pairwise_iff_getElem.1 abO a b (by omega) (by omega) wX;simp only[List.getD_eq_getElem?_getD,ai5 (show a<(gn d x.2.2.2.2).2.1.length by omega),ai5 (show b<(gn d x.2.2.2.2).2.1.length by omega),ajP];omega
 .obtain⟨a,ha,rfl⟩:=akD.1 hy;obtain⟨haj,Ps,hdf⟩:=IR a ha;obtain⟨i',dO⟩:=kT d hp Ps;have al:=hk.OU hp dO haj;have Ak:=dO.lt;rw[List.getD_eq_getElem?_getD,dO.at_,ajP];refine akD.2 ⟨i',List.mem_filter.2 ⟨List.mem_range.2 al,?_⟩,rfl⟩;rw[ai5 Ak];exact decide_eq_true (dO.eqs.2.symm.trans hdf)
theorem N0(l:Lw)(x:iQ)(d:Int):ed (iS l d) (fD x d)=((ed l x).1,((ed l x).2.1.map (kw · d),(ed l x).2.2)):=by
 unfold ed iS fD;dsimp only;rw[ajG,aj2]
 cases l.2.2[(x.2.1:Int).toNat]? with
 |none=>rfl
 |some y=>rfl
theorem Gb(l:Lw)(x:iQ)(d:Int)(e:List Ty)(t:Ty):qM e (ed (iS l d) (fD x d)) t=qM e (ed l x) t:=by
 unfold qM;rw[N0,Rr e (ed l x) (kw · d) fun _=>⟨rfl,rfl⟩]
theorem N1{l:Lw}{x:iQ}(d:Int)(h:∀i,∀hi:i<x.2.2.2.2.length,th l x i x.2.2.2.2[i]=0)(j:Nat)(hj:j<(b8 x.2.2.2.2 d).length):th (iS l d) (fD x d) j (b8 x.2.2.2.2 d)[j]=0:=by
 have hp:=Ab h;obtain⟨i,hk⟩:=kT d hp hj;have Ak:=hk.lt;obtain⟨h1,h2,h3,h4,h5,h6,h7,h8,h9⟩:=uG.1 (h i Ak);have abP:=NZ hp hj hk x.2.2.2.2[i].2.1;obtain⟨p,e,Og⟩:=hk.rul
 have Rs:∀j' i':Nat,∀h':j'<(b8 x.2.2.2.2 d).length,j'<j->Kept x.2.2.2.2 d j' (b8 x.2.2.2.2 d)[j'] i'->i'<i:=fun j' i' _ Q8 dO=>hk.OU hp dO Q8
 rw[e];refine uG.2 ⟨h1,fun g=>h2 ?_,h3,fun g=>?_,fun g=>?_,Nat.lt_of_le_of_lt abP h6,h7,fun g=>?_,?_⟩
 .obtain⟨j',IE,Q8,e'⟩:=yq.1 g;have UQ:j'<(b8 x.2.2.2.2 d).length:=IE;obtain⟨i',dO⟩:=kT d hp UQ;refine yq.2 ⟨i',dO.lt,Rs j' i' UQ Q8 dO,?_⟩;rw[<-dO.eqs.1];exact e'
 .obtain⟨g1,g2⟩:=g;have g1:p≠-1:=g1;have g2:p<0\/(j:Int)<=p\/∃y,(b8 x.2.2.2.2 d)[p.toNat]? =some y/\(y.2.1:Int)≠x.2.2.2.2[i].2.1:=g2
  rcases Og with Og|⟨q,rfl,hqj,i',gv,e1,e2⟩
  .exact g1 Og
  .rcases g2 with g2|g2|⟨y,gy,g2⟩
   .omega
   .omega
   .rw[aja]at gy;obtain⟨hq,rfl⟩:=ai7.1 gy;obtain⟨i2,CY⟩:=kT d hp hq;have e3:=CY.at_;rw[e1]at e3;have:i'=i2:=Int.ofNat_inj.1 (by simpa using e3);subst this;exact g2 (CY.eqs.2.trans e2)
 .exact absurd g (by
   rintro(g|g|g|g)
   .exact h5 (.inl g)
   .exact h5 (.inr (.inl g))
   .exact g F9
   .exact absurd (show(0:Int)=109573 from g) (by decide))
 .rw[Gb];exact h8 g
 .simp only[Gb];exact h9
theorem EB.mono{D E:Int->Int->Prop}(h:∀a b,D a b->E a b){a b:Int}(r:EB D a b):EB E a b:=by
 induction r with
 |one g=>exact .one (h _ _ g)
 |step _ g ih=>exact .step ih (h _ _ g)
theorem UR{x:iQ}(d:Int)(hp:ln x.2.2.2.2)(a b:Int)(h:Dp (fD x d) a b):Dp x a b:=by
 obtain⟨h1,r,hr,h2,h3⟩:=(wA _ _ _).1 h;have hr:r∈b8 x.2.2.2.2 d:=hr;obtain⟨j,hj,rfl⟩:=aji hr;obtain⟨i,hk⟩:=kT d hp hj;refine(wA _ _ _).2 ⟨h1,_,ajc hk.lt,hk.eqs.2.symm.trans h2,?_⟩;obtain⟨p,e,_⟩:=hk.rul;rw[e]at h3;exact h3
theorem tY{f:Nat->Option (Int×Int)}{m:Nat}(h:∀k,k<m->f k=none):b9 f m=none:=bC.2 h
theorem N2{l:Lw}(h:Valid l)(d:Int)(k:Nat)(hk:k<l.2.2.length):qO (iS l d) k=none:=by
 have kK:=h.scopes.2.2.2.2.2 k hk;obtain⟨v1,v2,v3,v4,v5,v6,v7,v8⟩:=h.scope k hk;have hp:=Ab v7
 have e:(iS l d).2.2[k]? =some (fD l.2.2[k] d):=by
  show(l.2.2.map (fD · d))[k]? =_
  rw[aj2,ai5 hk];rfl
 unfold qO at kK⊢;rw[ai5 hk]at kK;rw[e];dsimp only at kK⊢;generalize l.2.2[k]=x at*;split at kK
 .cases kK
 rename_i h1;split at kK
 .cases kK
 rename_i h2;clear kK;have n1:(fD x d).1=x.1:=rfl;rw[n1,if_neg h1,if_neg,if_neg,if_neg (show¬12<(fD x d).2.2.1.length from by show¬12<x.2.2.1.length;omega),if_neg (show¬12<(fD x d).2.2.2.1.length from by show¬12<x.2.2.2.1.length;omega)]
 .rw[Option.or_eq_none_iff,Option.or_eq_none_iff];refine⟨⟨v6,tY fun j hj=>?_⟩,tY fun c hc=>?_⟩
  .have hj:j<(b8 x.2.2.2.2 d).length:=hj;unfold Cl;rw[show(fD x d).2.2.2.2=b8 x.2.2.2.2 d from rfl,ai5 hj];dsimp only;rw[if_neg (fun g=>g (N1 d v7 j hj))]
  .unfold Es;rw[if_neg];rw[uF]
   exact fun g=>v8 c hc ((uF _ _ _).2 (g.mono (UR d hp)))
 .rintro⟨g1,g2⟩
  refine v3 ⟨g1,?_⟩
  rcases g2 with g2|g2|⟨y,gy,g2⟩
  .exact .inl g2
  .exact .inr (.inl g2)
  .have gy:(l.2.2.map (fD · d))[(x.2.1:Int).toNat]? =some y:=gy;rw[aj2]at gy;obtain⟨z,hz,rfl⟩:=Option.map_eq_some_iff.1 gy;exact .inr (.inr ⟨z,hz,g2⟩)
 .intro g;apply h2
  rcases g with g|g|g
  .exact .inl g
  .exact .inr (.inl ((wD (f:=fun x:wM=>kw x d) (fun _=>rfl) _).1 g))
  .refine .inr (.inr ?_);have g:eT ((l.2.2.map (fD · d)).take k) x.1:=g;rw[<-List.map_take]at g;exact(wD (f:=fun x:iQ=>fD x d) (fun _=>rfl) _).1 g
theorem Valid.on{l:Lw}(h:Valid l)(d:Int):Et (iS l d)=NN:=by
 obtain⟨a1,a2,a3,a4,a5,a6⟩:=h.scopes;unfold Et
 have e1:b9 (fun k=>(nM (iS l d) k).map fun e=>(k,e)) (iS l d).1.length=none:=bC.2 fun k hk=>NQ (show nM (iS l d) k=none from a4 k hk)
 have e2:b9 (fun k=>(oy (iS l d) k).map fun e=>(k,e)) (iS l d).2.1.length=none:=bC.2 fun k hk=>by
  have hk:k<(l.2.1.map (kw · d)).length:=hk
  have hk:k<l.2.1.length:=by simpa using hk
  exact NQ (NX l d k hk (a5 k hk))
 have e3:b9 (fun k=>(qO (iS l d) k).map fun e=>(k,e)) (iS l d).2.2.length=none:=bC.2 fun k hk=>by
  have hk:k<(l.2.2.map (fD · d)).length:=hk
  have hk:k<l.2.2.length:=by simpa using hk
  exact NQ (N2 h d k hk)
 rw[if_neg (show¬8<(iS l d).1.length from by show¬8<l.1.length;omega),e1];dsimp only;rw[if_neg (show¬8<(iS l d).2.1.length from by show¬8<(l.2.1.map (kw · d)).length;simp;omega),e2];dsimp only;rw[if_neg (show¬4<(iS l d).2.2.length from by show¬4<(l.2.2.map (fD · d)).length;simp;omega),e3]
theorem pf{rules:List lj}(d:Int)(hp:ln rules){y:lj}(h:y∈b8 rules d):∃r∈rules,∃p:Int,y=Cv r p/\-1<=p/\p<(rules.length:Int):=by
 obtain⟨j,hj,rfl⟩:=aji h;obtain⟨i,hk⟩:=kT d hp hj;obtain⟨p,e,Og⟩:=hk.rul;refine⟨_,ajc hk.lt,p,e,?_⟩;have h1:=jF rules d;have h2:=(mq d rules).2.1
 rcases Og with rfl|⟨q,rfl,hq,_⟩<;>omega
theorem mo.on{x:iQ}(h:mo x)(d:Int)(hp:ln x.2.2.2.2):mo (fD x d):=by
 obtain⟨h1,h2,h3,h4,h5,h6,h7⟩:=h;refine⟨h1,h2,h3,?_,h5,h6,fun r hr=>?_⟩
 .show(b8 x.2.2.2.2 d).length<=60
  have g1:=jF x.2.2.2.2 d;have g2:=(mq d x.2.2.2.2).2.1;omega
 .obtain⟨r',oz,p,rfl,_⟩:=pf d hp hr;exact h7 r' oz
theorem jt.on{l:Lw}(h:jt l)(d:Int)(hp:∀x∈l.2.2,ln x.2.2.2.2):jt (iS l d):=by
 obtain⟨h1,h2,h3,h4,h5,h6⟩:=h;refine⟨h1,?_,?_,h4,fun t ht=>?_,fun s hs=>?_⟩
 .show(l.2.1.map (kw · d)).length<=9
  rw[ajG];exact h2
 .show(l.2.2.map (fD · d)).length<=5
  rw[ajG];exact h3
 .obtain⟨t',ET,rfl⟩:=akD.1 ht;exact h5 t' ET
 .obtain⟨s',Am,rfl⟩:=akD.1 hs;exact(h6 s' Am).on d (hp s' Am)
end L
end Go.Proofs.YtilaieogabgamaaGreatDoor
end
section
open _root_.List.cons renaming injEq->aka
open _root_.List renaming length_eq_one_iff->akM,length_map->ajG,mem_singleton->ajj
open _root_.Option renaming bind_some->ai2
namespace Go.Proofs.YtilaieogabgamaaGreatDoor
open Go Go.RowKit
set_option maxRecDepth 100000
set_option linter.unusedSimpArgs false
namespace L
noncomputable def qm:List az.den:=(M.lK aC ([((3:Int),(100:Int)),((3:Int),(200:Int)),((11:Int),(0:Int))]:List aa.den)).getD []
noncomputable def pg:Lw:=(([]:List bq.den),(([]:List ax.den),qm))
theorem N3:M.lK aC ([((3:Int),(100:Int)),((3:Int),(200:Int)),((11:Int),(0:Int))]:List aa.den)=some qm:=by kernel_rfl
theorem EI:M.dl aC pg 0=some (pg.1,pg.2.1.map (kw · 0),pg.2.2.map (fD · 0)):=by
 have e1:(qm.map fun x=>decide (x.1.size<=80/\x.2.2.1.length=1/\x.2.2.2.1.length=1/\x.2.2.2.2.length=1))=[true]:=by kernel_rfl
 have e2:(qm.map fun x=>x.2.2.1.map fun f=>decide (f.1.size<=80))=[[true]]:=by kernel_rfl
 have e3:(qm.map fun x=>x.2.2.2.1.map fun f=>decide (f.1.size<=80))=[[true]]:=by kernel_rfl
 have e4:(qm.map fun x=>x.2.2.2.2.map fun r=>decide (r.1.size<=80/\r.2.2.2.2.2.2.2.size<=80/\r.2.2.2.2.2.1.length<=50/\r.2.2.2.2.2.2.1.length<=50/\(r.2.2.1:Int)= -1))=[[true]]:=by kernel_rfl
 obtain⟨x,hx⟩:∃x,qm=[x]:=by
  have:=congrArg List.length e1;rw[ajG]at this;exact akM.1 this
 have hL:pg=(([]:List bq.den),(([]:List ax.den),[x])):=by unfold pg;rw[hx]
 rw[hx]at e1 e2 e3 e4;simp only[List.map_cons,List.map_nil,aka,and_true,decide_eq_true_eq]at e1 e2 e3 e4;obtain⟨a1,a2,a3,a4⟩:=e1;obtain⟨f,hf⟩:=akM.1 a2;obtain⟨g,hg⟩:=akM.1 a3;obtain⟨r,hr⟩:=akM.1 a4;rw[hf]at e2;rw[hg]at e3;rw[hr]at e4;simp only[List.map_cons,List.map_nil,aka,and_true,decide_eq_true_eq]at e2 e3 e4;obtain⟨b1,b2,b3,b4,b5⟩:=e4
 have hp:∀y∈pg.2.2,ln y.2.2.2.2:=fun y hy=>by
  rw[hL]at hy;rw[ajj.1 hy];intro i hi;rw[hr]at hi
  have e:i=0:=by simp at hi;omega
  subst e
  left
  simp only[hr,List.getElem_cons_zero];exact b5
 refine Cw pg 0 ?_ ?_ hp
 .rw[hL];refine⟨fun e he=>(by cases he),fun e he=>(by cases he),fun s hs r' oz=>?_,by simp,by simp,by simp,fun s hs=>?_⟩
  .rw[ajj.1 hs,hr]at oz;rw[ajj.1 oz];exact⟨by omega,by omega⟩
  .rw[ajj.1 hs];exact⟨by omega,by omega,by omega⟩
 .rw[hL];refine⟨by simp,by simp,by simp,fun e he=>(by cases he),fun e he=>(by cases he),fun s hs=>?_⟩;rw[ajj.1 hs];refine⟨a1,by omega,by omega,by omega,fun y hy=>?_,fun y hy=>?_,fun y hy=>?_⟩
  .rw[hf]at hy;rw[ajj.1 hy];exact e2
  .rw[hg]at hy;rw[ajj.1 hy];exact e3
  .rw[hr]at hy;rw[ajj.1 hy];exact⟨b1,b2,b3,b4⟩
noncomputable def Cx:List lj×List Int×List (List Ty)×List (List Ty):=((fD (qm.headD (⟨#[]⟩,((0:Int),([],([],[]))))) 0).2.2.2.2,[0],[[]],[[((3:Int),(300:Int))]])
theorem wE:M.bV aC pg 0 0=some Cx:=by
 unfold M.bV;rw[EI]
 show(_:Option (List lj×List Int×List (List Ty)×List (List Ty)))=_
 kernel_rfl
theorem Ad:M.dZ aC pg 0 0=some (qm.headD (⟨#[]⟩,((0:Int),([],([],[])))),(Cx.2.1,(Cx.1,(Cx.2.2.1,Cx.2.2.2))),[0]):=by
 unfold M.dZ;rw[wE]
 kernel_rfl
theorem N4:M.jD aC=some true:=by
 unfold M.jD;rw[N3,ai2];have e:(([]:List bq.den),(([]:List ax.den),qm))=pg:=rfl;rw[e];unfold M.bL M.n7;rw[wE,Ad]
 show(_:Option Bool)=_
 kernel_rfl
end L
end Go.Proofs.YtilaieogabgamaaGreatDoor
end
section
open _root_.Int renaming le_refl->aki,tdiv->ajo,tdiv_eq_ediv_of_nonneg->aj1,toNat_natCast->aja
open _root_.Go.IntKind renaming i64->ai3
open _root_.List renaming getElem?_append_left->ajA,getElem?_take->ajF,getElem_mem->ajc,getElem_of_mem->aji,length_take->ajl,take_length->aju
open _root_.Nat renaming le_refl->ai8,zero_le->ajt
open _root_.Option renaming bind_some->ai2
namespace Go.Proofs.YtilaieogabgamaaGreatDoor
open Go Go.RowKit
set_option maxRecDepth 100000
set_option linter.unusedSimpArgs false
namespace L
def jb(l:List Int)(i:Nat):Int:=l.getD i 0
def par(i:Nat):Nat:=(i-1)/2
def qS(l:List Int)(n:Nat):Prop:=∀k,0<k->k<n->jb l (par k)<=jb l k
def swp(l:List Int)(i j:Nat):List Int:=(l.set i (jb l j)).set j (jb l i)
theorem ph{l:List Int}{i:Nat}(h:i<l.length):jb l i=l[i]:=by unfold jb;simp[h]
theorem Gc(l:List Int)(i k:Nat)(v:Int)(h:i<l.length):jb (l.set i v) k=if k=i then v else jb l k:=by
 unfold jb;rw[List.getD_eq_getElem?_getD,List.getD_eq_getElem?_getD,List.getElem?_set];by_cases e:k=i
 .rw[if_pos e.symm,if_pos h,if_pos e];rfl
 .rw[if_neg (fun g=>e g.symm),if_neg e]
theorem pR(l:List Int)(i j:Nat):(swp l i j).length=l.length:=by unfold swp;simp
theorem ng(l:List Int)(i j k:Nat)(hi:i<l.length)(hj:j<l.length):jb (swp l i j) k=if k=j then jb l i else if k=i then jb l j else jb l k:=by
 unfold swp;rw[Gc _ _ _ _ (by simpa using hj),Gc _ _ _ _ hi]
theorem wF(l:List Int)(i j:Nat)(hi:i<l.length)(hj:j<l.length):(swp l i j).Perm l:=by
 rw[List.perm_iff_count];intro x;unfold swp;rw[List.count_set (by simpa using hj),List.count_set hi,ph hi,ph hj,List.getElem_set]
 have h1:(if(l[i]==x)=true then 1 else 0)<=l.count x:=by
  split
  .rename_i h;exact List.count_pos_iff.2 (by rw[beq_iff_eq]at h;rw[<-h];exact ajc hi)
  .exact ajt _
 by_cases e:i=j
 .subst e;simp only[if_true];omega
 .rw[if_neg e];omega
theorem swap_eq(l:List Int)(i j:Nat)(hi:i<l.length)(hj:j<l.length):M.cF aC (i:Int) (j:Int) l=some (swp l i j):=by
 unfold M.cF;simp only[ag hi,ag hj,ai2];rw[ag (show j<(aT l (i:Int) l[j]).length by unfold aT;simpa using hj),ai2];unfold swp aT;rw[ph hi,ph hj,aja,aja]
theorem Ae(l:List Int)(i j:Nat)(hi:i<l.length)(hj:j<l.length):M.de aC l (i:Int) (j:Int)=some (decide (jb l i<jb l j)):=by
 unfold M.de;rw[ag hi,ag hj,ph hi,ph hj];rfl
def Rt(l:List Int)(j:Nat):Prop:=(∀k,0<k->k<l.length->k≠j->jb l (par k)<=jb l k)/\(0<j->∀k,0<k->k<l.length->par k=j->jb l (par j)<=jb l k)
theorem kU{k:Nat}(h:0<k):par k<k:=by unfold par;omega
theorem Rt.done{l:List Int}{i:Nat}(h:Rt l i)(hi:i=0\/jb l (par i)<=jb l i):qS l l.length:=fun k h0 hk=>by
 by_cases e:k=i
 .subst e
  rcases hi with hi|hi
  .omega
  .exact hi
 .exact h.1 k h0 hk e
theorem Rt.step{l:List Int}{i:Nat}(h:Rt l i)(h0:0<i)(hi:i<l.length)(al:jb l i<jb l (par i)):Rt (swp l (par i) i) (par i):=by
 have hp:=kU h0
 have rc:par i<l.length:=by omega
 obtain⟨h1,h2⟩:=h;have h2:=h2 h0;refine⟨fun k k0 hk bN=>?_,fun p0 k k0 hk sL=>?_⟩
 .rw[pR]at hk;rw[ng _ _ _ _ rc hi,ng _ _ _ _ rc hi];have sL:=kU k0;by_cases e:k=i
  .subst e;rw[if_neg (by omega),if_pos rfl,if_pos rfl];omega
  .rw[if_neg e,if_neg bN];by_cases e2:par k=i
   .rw[if_pos e2];exact h2 k k0 hk e2
   .rw[if_neg e2];by_cases e3:par k=par i
    .rw[if_pos e3];have:=h1 k k0 hk e;rw[e3]at this;omega
    .rw[if_neg e3];exact h1 k k0 hk e
 .rw[pR]at hk;rw[ng _ _ _ _ rc hi,ng _ _ _ _ rc hi];have Og:=kU p0;have WM:=h1 (par i) p0 rc (by omega);rw[if_neg (by omega),if_neg (by omega)];by_cases e:k=i
  .subst e;rw[if_pos rfl];exact WM
  .have VM:k≠par i:=fun e2=>by
    rw[e2]at sL;omega
   rw[if_neg e,if_neg VM];have:=h1 k k0 hk e;rw[sL]at this;omega
theorem Ru{i:Nat}(h0:0<i)(hi:i<=1000000):ai3.wrap (ajo (ai3.wrap ((i:Int)-(1:Int))) (2:Int))=((par i:Nat):Int):=by
 rw[aV (n:=(i:Int)-1) (by omega) (by omega),aj1 (by omega)];unfold par;rw[aV (by omega) (by omega)];omega
theorem US(l:List Int)(j:Nat)(hj:j<l.length)(hl:l.length<=1000000)(hU:Rt l j):Wp (M.fg aC (j:Int) l) fun r=>r.Perm l/\qS r r.length:=by
 unfold M.fg
 refine Wp.loop (fun s=>∃i:Nat,s.1=(i:Int)/\i<s.2.length/\s.2.Perm l/\Rt s.2 i) (fun s=>s.1.toNat) ⟨j,rfl,hj, .refl l,hU⟩ (by show(j:Int).toNat<aC;unfold aC;omega) fun s hs=>?_
 obtain⟨c,q⟩:=s;obtain⟨i,hc,hi,hp,hu⟩:=hs;dsimp only at hc hi hp hu;subst hc;have hlen:=hp.length_eq;dsimp only;by_cases h0:i=0
 .subst h0
  have e:ai3.wrap (ajo (ai3.wrap (((0:Nat):Int)-(1:Int))) (2:Int))=((0:Nat):Int):=by decide
  rw[e,if_pos (decide_eq_true rfl),ai2,if_pos rfl];exact .some ⟨hp,hu.done (.inl rfl)⟩
 .have rc:=kU (show 0<i by omega);rw[Ru (by omega) (by omega),if_neg (by rw[decide_eq_true_eq];omega),Ae _ _ _ hi (by omega),ai2,ai2];by_cases al:jb q i<jb q (par i)
  .rw[if_neg (by simpa using al),swap_eq _ _ _ (by omega) hi,ai2];refine .some ⟨⟨par i,rfl,by show par i<(swp q (par i) i).length;rw[pR];omega,(wF q _ _ (by omega) hi).trans hp,hu.step (by omega) hi al⟩,?_⟩
   show((par i:Nat):Int).toNat<((i:Nat):Int).toNat
   omega
  .rw[if_pos (by simpa using al)];exact .some ⟨hp,hu.done (.inr (by omega))⟩
def OV(l:List Int)(i n:Nat):Prop:=(∀k,0<k->k<n->par k≠i->jb l (par k)<=jb l k)/\(0<i->∀k,0<k->k<n->par k=i->jb l (par i)<=jb l k)
theorem OV.done{l:List Int}{i n:Nat}(h:OV l i n)(hi:∀k,0<k->k<n->par k=i->jb l i<=jb l k):qS l n:=fun k h0 hk=>by
 by_cases e:par k=i
 .rw[e];exact hi k h0 hk e
 .exact h.1 k h0 hk e
theorem OV.step{l:List Int}{i j n:Nat}(h:OV l i n)(hj0:0<j)(hjn:j<n)(hn:n<=l.length)(UT:par j=i)(al:jb l j<jb l i)(EJ:∀k,0<k->k<n->par k=i->jb l j<=jb l k):OV (swp l i j) j n:=by
 have hp:=kU hj0
 have Ak:i<l.length:=by omega
 have Ai:j<l.length:=by omega
 obtain⟨h1,h2⟩:=h;refine⟨fun k k0 hk bN=>?_,fun _ k k0 hk sL=>?_⟩
 .rw[ng _ _ _ _ Ak Ai,ng _ _ _ _ Ak Ai,if_neg bN];by_cases e:k=j
  .subst e;rw[if_pos UT,if_pos rfl];omega
  .rw[if_neg e];by_cases e2:k=i
   .subst e2;have sL:=kU k0;rw[if_neg (by omega),if_pos rfl];exact h2 k0 j hj0 hjn UT
   .rw[if_neg e2];by_cases e3:par k=i
    .rw[if_pos e3];exact EJ k k0 hk e3
    .rw[if_neg e3];exact h1 k k0 hk e3
 .have VM:=kU k0;rw[ng _ _ _ _ Ak Ai,ng _ _ _ _ Ak Ai,UT,if_neg (by omega),if_pos rfl,if_neg (by omega),if_neg (by omega)];have:=h1 k k0 hk (by omega);rw[sL]at this;exact this
theorem N5(l:List Int)(n:Nat)(hn:n<=l.length)(hl:l.length<=1000000)(hD:OV l 0 n):Wp (M.ee aC (0:Int) (n:Int) l) fun r=>r.2.Perm l/\qS r.2 n/\∀k,n<=k->jb r.2 k=jb l k:=by
 unfold M.ee;rw[wp_bind]
 refine(?_:Wp _ fun r=>r.2.Perm l/\qS r.2 n/\∀k,n<=k->jb r.2 k=jb l k).mono fun r hr=> .some hr
 refine Wp.loop (fun s=>∃i:Nat,s.1=(i:Int)/\i<=n/\s.2.Perm l/\OV s.2 i n/\∀k,n<=k->jb s.2 k=jb l k) (fun s=>n-s.1.toNat) ⟨0,rfl,ajt _, .refl l,hD,fun _ _=>rfl⟩ (by show n-_<aC;unfold aC;omega) fun s hs=>?_
 obtain⟨c,q⟩:=s;obtain⟨i,hc,hi,hp,hu,hk⟩:=hs;dsimp only at hc hi hp hu hk;subst hc;have hlen:=hp.length_eq;dsimp only
 have e1:ai3.wrap (ai3.wrap ((2:Int)*(i:Int))+(1:Int))=((2*i+1:Nat):Int):=by
  rw[aV (n:=(2:Int)*(i:Int)) (by omega) (by omega),aV (by omega) (by omega)];omega
 have e2:ai3.wrap (((2*i+1:Nat):Int)+(1:Int))=((2*i+2:Nat):Int):=by
  rw[aV (by omega) (by omega)];omega
 rw[e1,e2];by_cases h1:n<=2*i+1
 .rw[if_pos (by rw[decide_eq_true_eq];omega),ai2,if_pos rfl];exact .some ⟨hp,hu.done fun k k0 zc sL=>by unfold par at sL;omega,hk⟩
 rw[if_neg (by rw[decide_eq_true_eq];omega),ai2,if_neg (by rw[decide_eq_true_eq];omega)]
 have key:∀j:Nat,0<j->j<n->par j=i->(∀k,0<k->k<n->par k=i->jb q j<=jb q k)->Wp ((M.de aC q (j:Int) (i:Int)).bind fun y7=>
  (if(!y7)=true then
  some (Sum.inr ((i:Int),q))
  else
  (M.cF aC (i:Int) (j:Int) q).bind fun y8=>
  some (Sum.inl ((j:Int),y8)))) (BP (fun s:Int×List Int=>∃i:Nat,s.1=(i:Int)/\i<=n/\s.2.Perm l/\OV s.2 i n/\∀k,n<=k->jb s.2 k=jb l k) (fun s=>n-s.1.toNat) ((i:Int),q) fun r:Int×List Int=>r.2.Perm l/\qS r.2 n/\∀k,n<=k->jb r.2 k=jb l k):=fun j j0 hj UT EJ=>by
  have:=kU j0;rw[Ae _ _ _ (by omega) (by omega),ai2];by_cases al:jb q j<jb q i
  .rw[if_neg (by simpa using al),swap_eq _ _ _ (by omega) (by omega),ai2];refine .some ⟨⟨j,rfl,by omega,(wF q _ _ (by omega) (by omega)).trans hp,hu.step j0 hj (by omega) UT al EJ,fun k zc=>?_⟩,?_⟩
   .show jb (swp q i j) k=jb l k
    rw[ng _ _ _ _ (by omega) (by omega),if_neg (by omega),if_neg (by omega)];exact hk k zc
   .show n-((j:Nat):Int).toNat<n-((i:Nat):Int).toNat
    omega
  .rw[if_pos (by simpa using al)];exact .some ⟨hp,hu.done fun k k0 zc sL=>by have:=EJ k k0 zc sL;omega,hk⟩
 have kids:∀k,0<k->k<n->par k=i->k=2*i+1\/k=2*i+2:=fun k k0 _ sL=>by unfold par at sL;omega
 by_cases h2:2*i+2<n
 .rw[if_pos (by rw[decide_eq_true_eq];omega),Ae _ _ _ (by omega) (by omega),ai2,ai2];by_cases al:jb q (2*i+2)<jb q (2*i+1)
  .rw[if_pos (by simpa using al),ai2]
   exact key _ (by omega) h2 (by unfold par;omega) fun k k0 zc sL=>by rcases kids k k0 zc sL with rfl|rfl<;>omega
  .rw[if_neg (by simpa using al),ai2]
   exact key _ (by omega) (by omega) (by unfold par;omega) fun k k0 zc sL=>by rcases kids k k0 zc sL with rfl|rfl<;>omega
 .rw[if_neg (by rw[decide_eq_true_eq];omega),ai2,if_neg (by decide),ai2]
  exact key _ (by omega) (by omega) (by unfold par;omega) fun k k0 zc sL=>by
   rcases kids k k0 zc sL with rfl|rfl
   .exact aki _
   .omega
theorem Gd(x:Int)(l:List Int)(hl:l.length<=999999)(hH:qS l l.length):Wp (M.cK aC x l) fun r=>r.Perm (x::l)/\qS r r.length:=by
 unfold M.cK M.gY M.dz;rw[bD (by simp;omega)];simp only[ai2]
 have e:ai3.wrap (((l++[x]).length:Int)-(1:Int))=((l.length:Nat):Int):=by
  rw[aV (by simp) (by simp;omega)];simp
 rw[e,wp_bind]
 have GB:∀k,k<l.length->jb (l++[x]) k=jb l k:=fun k hk=>by unfold jb;simp[ajA hk]
 refine(US (l++[x]) l.length (by simp) (by simp;omega) ⟨fun k k0 hk bN=>?_,fun h0 k k0 hk sL=>?_⟩).mono fun r hr=> .some ⟨hr.1.trans (List.perm_append_singleton x l),hr.2⟩
 .have dO:k<l.length:=by simp at hk;omega
  have:=kU k0;rw[GB _ dO,GB _ (by omega)];exact hH k k0 dO
 .have:=kU k0;simp at hk;omega
theorem qS.min{l:List Int}{n:Nat}(h:qS l n):∀k,k<n->jb l 0<=jb l k:=fun k=>by
 induction k using Nat.strongRecOn with
 |_ k ih=>
  intro hk;by_cases h0:k=0
  .subst h0;exact aki _
  .have hp:=kU (show 0<k by omega);have:=ih (par k) hp (by omega);have:=h k (by omega) hk;omega
theorem Rv(l:List Int)(h0:0<l.length)(hl:l.length<=1000000)(hH:qS l l.length):Wp (M.eN aC l) fun r=>l.Perm (r.1::r.2)/\qS r.2 r.2.length/\∀y∈r.2,r.1<=y:=by
 unfold M.eN M.dz
 obtain⟨n,hn⟩:∃n,l.length=n+1:=⟨l.length-1,by omega⟩
 have e:ai3.wrap ((l.length:Int)-(1:Int))=((n:Nat):Int):=by rw[aV (by omega) (by omega)];omega
 rw[ai2,e];have sw:=swap_eq l 0 n (by omega) (by omega);rw[show((0:Nat):Int)=(0:Int)from rfl]at sw;rw[sw,ai2,wp_bind]
 have hs:=fun k=>ng l 0 n k (by omega) (by omega)
 refine(N5 (swp l 0 n) n (by rw[pR];omega) (by rw[pR];omega) ⟨fun k k0 hk bN=>?_,fun h=>by omega⟩).mono fun r hr=>?_
 .have:=kU k0;rw[hs,hs,if_neg (by omega),if_neg bN,if_neg (by omega),if_neg (by omega)];exact hH k k0 (by omega)
 .obtain⟨b,q⟩:=r;obtain⟨h1,h2,h3⟩:=hr;dsimp only at h1 h2 h3⊢
  have hq:q.length=n+1:=by rw[h1.length_eq,pR];exact hn
  have e2:ai3.wrap ((q.length:Int)-(1:Int))=((n:Nat):Int):=by rw[aV (by omega) (by omega)];omega
  have hqn:q[n]'(by omega)=jb l 0:=by
   rw[<-ph (l:=q) (by omega),h3 n (ai8 _),hs];by_cases e0:n=0
   .rw[if_pos rfl]
   .rw[if_pos rfl]
  unfold M.kO;rw[e2,ag (by omega),ai2,kQ (by omega),ai2,ai2]
  have OW:l.Perm (q[n]'(by omega)::q.take n):=by
   have e3:q=q.take n++[q[n]'(by omega)]:=by
    rw[List.take_append_getElem (by omega),<-hq,aju]
   refine((wF l 0 n (by omega) (by omega)).symm.trans h1.symm).trans ?_;have:(q.take n++[q[n]'(by omega)]).Perm (q[n]'(by omega)::q.take n):=List.perm_append_singleton _ _;rw[<-e3]at this;exact this
  refine .some ⟨OW,fun k k0 hk=>?_,fun y hy=>?_⟩
  .have ht:(q.take n).length=n:=by rw[ajl];omega
   have hk:k<n:=by rw[<-ht];exact hk
   have sL:=kU k0
   have tk:∀i,i<n->jb (q.take n) i=jb q i:=fun i hi=>by unfold jb;simp[ajF,hi]
   show jb (q.take n) (par k)<=jb (q.take n) k
   rw[tk _ hk,tk _ (by omega)];exact h2 k k0 hk
  .show q[n]'(by omega)<=y
   rw[hqn];have:y∈l:=OW.symm.subset (List.mem_cons_of_mem _ hy);obtain⟨k,hk,rfl⟩:=aji this;rw[<-ph hk];exact hH.min k hk
end L
end Go.Proofs.YtilaieogabgamaaGreatDoor
end
