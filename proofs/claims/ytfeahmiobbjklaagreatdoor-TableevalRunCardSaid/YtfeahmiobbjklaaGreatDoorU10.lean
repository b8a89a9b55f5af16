/- Joined texts: RV RW TA TB TC TD TE TF TG TH TJ TT TU TV TW. -/
import Derived.Test.YtfeahmiobbjklaaGreatDoorU9
import Derived.Test.YtfeahmiobbjklaaGreatDoorU1
set_option linter.defProp false
open _root_.Bool renaming false->ag,true->af,false_eq_true->aqT,not_true->arA,eq_iff_iff->art
open _root_.Option renaming none->ae,some->aa,bind_some->aqN
open _root_.Int renaming eq_ofNat_of_zero_le->aqY,tdiv->aq1,tmod->aq3,toNat_natCast->aqX,le_refl->arT
open _root_.Go.IntKind renaming i64->aqO,u64->aqQ,bits->asm
open _root_.List renaming drop_eq_getElem_cons->aqZ,getElem_append_left->arE,getElem_append_right->arJ,getElem_mem->aqS,replicate->aqW,getElem?_eq_getElem->aqR,getElem?_eq_some_iff->aq9,getElem_of_mem->aq6,mem_append->arf,mem_cons->arx,pairwise_cons->arb,filter_eq_self->asq,mem_filter->arK,range->aq0,mem_singleton->ari,take_append_getElem->ara,append_assoc->arQ
open _root_.Nat renaming le_refl->aqU,eq_of_testBit_eq->ar7,lt_of_lt_of_le->arh,mul_comm->arm,mul_le_mul_right->aq4,le_trans->ark
open _root_.Go.Lib renaming compact->arP
open _root_.Sum renaming inr->arM
open _root_.BitVec renaming ofInt->arH
open _root_.Go.Proofs renaming ltOf->arz
open _root_.Classical renaming propDecidable->aro
namespace Go.Proofs.YtfeahmiobbjklaaGreatDoor
open Go Go.RowKit
set_option maxRecDepth 100000
set_option linter.unusedSimpArgs false
set_option linter.unusedVariables false
set_option linter.defProp false
namespace L
def Rq(op:Int):M.fX aK op=aa (ar op):=by
 apply Wp.eq;unfold M.fX ar;simp only[W_,aq,au,reduceCtorEq];omega
def Rr(op:Int):M.iI aK op=aa (decide ((1<=op/\op<=8)\/(14<=op/\op<=16)\/op=33\/op=34\/(36<=op/\op<=39))):=by
 apply Wp.eq;unfold M.iI;simp only[W_,aq,au,reduceCtorEq];omega
def b7(k:Int):M.gv aK k=aa (decide (k=2\/k=3\/k=4)):=by
 apply Wp.eq;unfold M.gv;simp only[W_,aq,au,reduceCtorEq];omega
def bx(k:Int):M.kN aK k=aa (decide (0<=k/\k<=5)):=by
 apply Wp.eq;unfold M.kN;simp only[W_,aq,au,reduceCtorEq];omega
def cC(m k:Int)(s:vL):M.eF aK m k s=aa (if Ek m (k,(0:Int)) s.1 then((k,(0:Int)),(0:Int))else(((0:Int),(0:Int)),(3:Int))):=by
 apply Wp.eq;unfold M.eF;simp only[zq,W_,aq,au,reduceCtorEq]
 grind [Ek]
noncomputable def pN(n:Ty)(l:List Ty)(s:vL):Option (Ty×Int):=
 if(n.2:Int)≠0/\¬((1<=(n.1:Int)/\(n.1:Int)<=8)\/(14<=(n.1:Int)/\(n.1:Int)<=16)\/(n.1:Int)=33\/(n.1:Int)=34\/(36<=(n.1:Int)/\(n.1:Int)<=39))then aa (((0:Int),(0:Int)),2)else M.br aK n l s
def uV(t:Ty):Prop:=1<=(t.1:Int)/\(t.1:Int)<=5->(t.2:Int)=0
theorem Yi(op m:Int)(a b:Ty)(s:vL)(h2:ar op=2)(ha:uV a)(_:uV b):pN (op,m) [a,b] s=M.bk aK (op,m) [a,b] s:=by
 have hr:=Av (op,m) s
 have hR:GL op m s↔(14<=op/\op<=16->0<=m/\m<=5):=by
  unfold ar at h2;unfold GL;exact(by grind)
 have mR:op=11\/op=12\/op=13\/op=14\/op=15\/op=16\/op=17\/op=18\/op=19\/op=20\/op=21\/op=22\/op=23\/op=24\/op=27\/op=28\/op=29\/op=30:=by unfold ar at h2;omega
 obtain⟨(a1:Int),(a2:Int)⟩:=a;obtain⟨(b1:Int),(b2:Int)⟩:=b;simp only[uV]at ha
 rcases mR with rfl|rfl|rfl|rfl|rfl|rfl|rfl|rfl|rfl|rfl|rfl|rfl|rfl|rfl|rfl|rfl|rfl|rfl
 all_goals
  unfold pN M.br M.fj M.om M.bk M.bN M.iA M.lv;simp[aW,bf,aT,bB,b7,bx,bS,hr,hR,idx,NS]
  grind
def Rt(op m:Int)(a b c:Ty)(s:vL)(h3:ar op=3):pN (op,m) [a,b,c] s=M.bk aK (op,m) [a,b,c] s:=by
 have mR:op=26:=by unfold ar at h3;omega
 subst mR;have hr:=Av ((26:Int),m) s
 have hR:GL 26 m s:=by unfold GL;omega
 obtain⟨(a1:Int),(a2:Int)⟩:=a;obtain⟨(b1:Int),(b2:Int)⟩:=b;obtain⟨(c1:Int),(c2:Int)⟩:=c;unfold pN M.br M.fj M.bk M.bN;simp[aW,bf,aT,bB,b7,bx,bS,hr,hR,idx,NS]
 grind
theorem Yj(op m:Int)(a:Ty)(s:vL)(hm:m<=9223372036854775807)(h1:ar op=1)(ha:uV a):pN (op,m) [a] s=M.bk aK (op,m) [a] s:=by
 have hr:=Av (op,m) s
 have hR:GL op m s↔(op=34->0<=m/\aq3 m 8<=5):=by
  unfold ar at h1;unfold GL;exact⟨λh=>h.2.2.1,λh=>⟨λ_=>by omega,λ_=>by omega,h,λ_=>by omega⟩⟩
 have hd:0<=m->0<=aqO.wrap (aq1 m 8):=λh=>Lu h hm (by omega)
 have ht:0<=m->0<=aq3 m 8:=λh=>Int.tmod_nonneg _ h
 have mR:op=10\/op=25\/op=31\/op=32\/op=33\/op=34:=by unfold ar at h1;omega
 obtain⟨(a1:Int),(a2:Int)⟩:=a;simp only[uV]at ha
 rcases mR with rfl|rfl|rfl|rfl|rfl|rfl
 .unfold pN M.br M.fj M.bk M.bN M.dJ;simp[aW,bf,aT,bB,b7,bx,bS,hr,hR,idx,NS]
  grind
 .unfold pN M.br M.fj M.bk M.bN M.dJ;simp[aW,bf,aT,bB,b7,bx,bS,hr,hR,idx,NS]
  grind
 .unfold pN M.br M.fj M.bk M.bN M.dJ;simp[aW,bf,aT,bB,b7,bx,bS,hr,hR,idx,NS]
  grind
 .unfold pN M.br M.fj M.bk M.bN M.dJ;simp[aW,bf,aT,bB,b7,bx,bS,hr,hR,idx,NS]
  grind
 .have i0:idx [((a1,a2):Ty)] 0=aa (a1,a2):=rfl;unfold pN M.br M.np M.bk M.bN M.dJ;by_cases h:0<=m/\m<(s.2.1.length:Int)
  .obtain⟨k,rfl⟩:=aqY h.1
   have hk:k<s.2.1.length:=by omega
   simp[aW,bf,aT,bB,bS,hr,hR,NS,sd,cA,i0,aC hk,hk,show¬((s.2.1.length:Int)<=(k:Int)) by omega,show¬((k:Int)<0) by omega];generalize s.2.1[k]=t
   by_cases c1:qd t.2.1 s.1.length<;>by_cases c2:qd t.2.2.1 s.1.length<;>by_cases c3:((a1,a2):Ty)=t.2.1<;>simp[c1,c2,c3]
  .simp[aW,bf,aT,bB,bS,hr,hR,NS,sd,cA,i0];by_cases WI:m<0
   .simp[WI,show¬0<=m by omega]
   .simp[WI,show 0<=m by omega,show(s.2.1.length:Int)<=m by omega,show¬m<(s.2.1.length:Int) by omega]
 .have i0:idx [((a1,a2):Ty)] 0=aa (a1,a2):=rfl;unfold pN M.br M.np M.bk M.bN M.dJ;simp only[hr,hR];by_cases h:0<=m/\aq3 m 8<=5
  .have hd:=hd h.1;have ht:=ht h.1;generalize aqO.wrap (aq1 m 8)=j at*;generalize aq3 m 8=q at*;by_cases h':j<(s.2.1.length:Int)
   .obtain⟨k,rfl⟩:=aqY hd
    have hk:k<s.2.1.length:=by omega
    simp[aW,bf,aT,bB,bx,bS,h,ht,NS,sd,cA,i0,aC hk,hk,show¬(m<0) by omega,show¬((s.2.1.length:Int)<=(k:Int)) by omega,show¬((k:Int)<0) by omega];generalize s.2.1[k]=t;obtain⟨nm,⟨(k1:Int),(k2:Int)⟩,⟨(v1:Int),(v2:Int)⟩,rs⟩:=t;generalize s.1.length=ne;by_cases R:a1=3/\k1=3/\k2=0/\v1=4/\v2=0
    .obtain⟨rfl,rfl,rfl,rfl,rfl⟩:=R;obtain rfl:a2=0:=ha ⟨by decide,by decide⟩
     have v3:qd (((3:Int),(0:Int)):Ty) ne:=by simp[qd]
     have v4:qd (((4:Int),(0:Int)):Ty) ne:=by simp[qd]
     simp[v3,v4]
    .have hR2:(((if a1=3 then if((k1,k2):Int×Int)=(3,0)then aa (decide (((v1,v2):Int×Int)=(4,0)),a1,a2)else aa (ag,a1,a2)else aa (ag,a1,a2)):Option (Bool×Int×Int)))=aa (ag,a1,a2):=by
      by_cases q1:a1=3<;>by_cases q2:k1=3<;>by_cases q3:k2=0<;>by_cases q4:v1=4<;>by_cases q5:v2=0<;>simp[q1,q2,q3,q4,q5]<;>exact absurd ⟨q1,q2,q3,q4,q5⟩ R
     rw[hR2];by_cases c1:qd ((k1,k2):Ty) ne
     .by_cases c2:qd ((v1,v2):Ty) ne
      .by_cases e:((a1,a2):Ty)=(k1,k2)
       .injection e with e1 e2
        subst e1 e2;have c1':=c1;have Z3:=c2;simp only[qd]at c1' Z3;dsimp only[az,Row.den]at c1' Z3;by_cases f:a1=3
        .have g:¬v1=4:=λg=>R (by omega)
         subst f
         obtain rfl:a2=0:=by omega
         simp[c1,c2,g]
        .simp[c1,c2,f]
       .simp[c1,c2,e]
      .simp[c1,c2]
     .simp[c1]
   .simp[aW,bf,aT,bB,bx,bS,h,ht,NS,sd,cA,i0,show¬(m<0) by omega,show(s.2.1.length:Int)<=j by omega,show¬j<0 by omega]
  .simp[aW,bf,aT,bB,bx,bS,NS,sd,cA,i0];by_cases WI:m<0
   .simp[WI,show¬0<=m by omega]
   .have h5:5<aq3 m 8:=by omega
    simp[WI,h5,show¬aq3 m 8<=5 by omega]
def bD(m:Int)(ls:List Ty)(s:vL):M.ie aK m ls s=if 0<=m/\m<(ls.length:Int)then(match ls[m.toNat]? with
 |some t=>if qd t s.1.length then aa (t,(0:Int))else aa (((0:Int),(0:Int)),(8:Int))
 |none=>ae)else aa (((0:Int),(0:Int)),(6:Int)):=by
 grind [M.ie,aC,sd]
def zero_eq(op m:Int)(s:vL)(hm:m<=9223372036854775807)(h0:ar op=0):pN (op,m) [] s=M.bk aK (op,m) [] s:=by
 have hr:=Av (op,m) s
 have hR:GL op m s↔(1<=op/\op<=5->Ek m (op,(0:Int)) s.1)/\(op=6->0<=m):=by
  unfold ar at h0;unfold GL;exact(by grind)
 have hd:0<=m->0<=aqO.wrap (aq1 m 16):=λh=>Lu h hm (by omega)
 have mR:op=1\/op=2\/op=3\/op=4\/op=5\/op=6\/op=7\/op=8\/op=9\/op=35\/op=36\/op=37\/op=38\/op=39:=by unfold ar at h0;omega
 have v:∀k:Int,1<=k->k<=5->qd ((k,(0:Int)):Ty) s.1.length:=λk h1 h2=> .inl ⟨h1,h2,rfl⟩
 rcases mR with rfl|rfl|rfl|rfl|rfl|rfl|rfl|rfl|rfl|rfl|rfl|rfl|rfl|rfl
 .unfold pN M.br M.bW M.cE M.bk M.bN M.cK;have v:=v 1 (by decide) (by decide)
  by_cases h:Ek m ((1:Int),(0:Int)) s.1<;>simp[aW,bf,aT,bB,b7,bx,cC,bD,bS,hr,hR,cA,h,v]
 .unfold pN M.br M.bW M.cE M.bk M.bN M.cK;have v:=v 2 (by decide) (by decide)
  by_cases h:Ek m ((2:Int),(0:Int)) s.1<;>simp[aW,bf,aT,bB,b7,bx,cC,bD,bS,hr,hR,cA,h,v]
 .unfold pN M.br M.bW M.cE M.bk M.bN M.cK;have v:=v 3 (by decide) (by decide)
  by_cases h:Ek m ((3:Int),(0:Int)) s.1<;>simp[aW,bf,aT,bB,b7,bx,cC,bD,bS,hr,hR,cA,h,v]
 .unfold pN M.br M.bW M.cE M.bk M.bN M.cK;have v:=v 4 (by decide) (by decide)
  by_cases h:Ek m ((4:Int),(0:Int)) s.1<;>simp[aW,bf,aT,bB,b7,bx,cC,bD,bS,hr,hR,cA,h,v]
 .unfold pN M.br M.bW M.cE M.bk M.bN M.cK;have v:=v 5 (by decide) (by decide)
  by_cases h:Ek m ((5:Int),(0:Int)) s.1<;>simp[aW,bf,aT,bB,b7,bx,cC,bD,bS,hr,hR,cA,h,v]
 .unfold pN M.br M.bW M.cE M.bk M.bN M.cK;by_cases h:m<0
  .simp[aW,bf,aT,bB,b7,bx,cC,bD,bS,hr,hR,cA,h]
  .have hd:=hd (by omega)
   have h':0<=m:=by omega
   generalize aqO.wrap (aq1 m 16)=j at*;generalize aq3 m 16=q at*;by_cases hj:j<(s.1.length:Int)
   .obtain⟨k,rfl⟩:=aqY hd
    have hk:k<s.1.length:=by omega
    have v6:qd (((6:Int),(k:Int)):Ty) s.1.length:= .inr (by grind);by_cases hq:q<(s.1[k].2.length:Int)
    .simp[aW,bf,aT,bB,b7,bx,cC,bD,bS,hr,hR,cA,h,h',hk,aC hk,v6,hq,show¬(s.1.length:Int)<=(k:Int) by omega,show¬(s.1[k].2.length:Int)<=q by omega]
    .simp[aW,bf,aT,bB,b7,bx,cC,bD,bS,hr,hR,cA,h,h',hk,aC hk,v6,hq,show¬(s.1.length:Int)<=(k:Int) by omega,show(s.1[k].2.length:Int)<=q by omega]
   .simp[aW,bf,aT,bB,b7,bx,cC,bD,bS,hr,hR,cA,h,h',hj,show(s.1.length:Int)<=j by omega]
 .unfold pN M.br M.bW M.cE M.bk M.bN M.cK;by_cases h:0<=m/\m<(s.2.2.1.length:Int)
  .obtain⟨k,rfl⟩:=aqY h.1
   have hk:k<s.2.2.1.length:=by omega
   by_cases hv:qd s.2.2.1[k] s.1.length<;>simp[aW,bf,aT,bB,b7,bx,cC,bD,bS,hr,hR,cA,hk,aC hk,hv]
  .by_cases h0:0<=m
   .have h1:¬m<(s.2.2.1.length:Int):=λg=>h ⟨h0,g⟩
    simp[aW,bf,aT,bB,b7,bx,cC,bD,bS,hr,hR,cA,h0,h1]
   .simp[aW,bf,aT,bB,b7,bx,cC,bD,bS,hr,hR,cA,h0]
 .unfold pN M.br M.bW M.cE M.bk M.bN M.cK;by_cases h:0<=m/\m<(s.2.2.2.1.length:Int)
  .obtain⟨k,rfl⟩:=aqY h.1
   have hk:k<s.2.2.2.1.length:=by omega
   by_cases hv:qd s.2.2.2.1[k] s.1.length<;>simp[aW,bf,aT,bB,b7,bx,cC,bD,bS,hr,hR,cA,hk,aC hk,hv]
  .by_cases h0:0<=m
   .have h1:¬m<(s.2.2.2.1.length:Int):=λg=>h ⟨h0,g⟩
    simp[aW,bf,aT,bB,b7,bx,cC,bD,bS,hr,hR,cA,h0,h1]
   .simp[aW,bf,aT,bB,b7,bx,cC,bD,bS,hr,hR,cA,h0]
 .unfold pN M.br M.bW M.cE M.bk M.bN M.cK;have v:=v 5 (by decide) (by decide);by_cases h:m=0
  .subst h;simp[aW,bf,aT,bB,b7,bx,cC,bD,bS,hr,hR,cA,v]
  grind [aW]
 .unfold pN M.br M.bW M.cE M.bk M.bN M.cK;have v:=v 2 (by decide) (by decide);by_cases h:m=0
  .subst h;cases hs:s.2.2.2.2.2<;>simp[aW,bf,aT,bB,b7,bx,cC,bD,bS,hr,hR,cA,v,hs]
  grind [aW]
 .unfold pN M.br M.bW M.cE M.bk M.bN M.cK;cases hs:s.2.2.2.2.2
  .simp[aW,bf,aT,bB,b7,bx,cC,bD,bS,hr,hR,cA,hs]
  by_cases h:0<=m/\m<(s.2.2.2.2.1.length:Int)
  .obtain⟨k,rfl⟩:=aqY h.1
   have hk:k<s.2.2.2.2.1.length:=by omega
   by_cases hv:qd s.2.2.2.2.1[k] s.1.length
   .simp[aW,bf,aT,bB,b7,bx,cC,bD,bS,hr,hR,cA,hk,aC hk,hv,hs]
    grind
   .simp[aW,bf,aT,bB,b7,bx,cC,bD,bS,hr,hR,cA,hk,aC hk,hv,hs]
  .by_cases h0:0<=m
   .have h1:¬m<(s.2.2.2.2.1.length:Int):=λg=>h ⟨h0,g⟩
    simp[aW,bf,aT,bB,b7,bx,cC,bD,bS,hr,hR,cA,h0,h1,hs]
   .simp[aW,bf,aT,bB,b7,bx,cC,bD,bS,hr,hR,cA,h0,hs]
 .unfold pN M.br M.bW M.cE M.bk M.bN M.cK;cases hs:s.2.2.2.2.2
  .simp[aW,bf,aT,bB,b7,bx,cC,bD,bS,hr,hR,cA,hs]
  by_cases h:0<=m/\m<(s.2.2.2.2.1.length:Int)
  .obtain⟨k,rfl⟩:=aqY h.1
   have hk:k<s.2.2.2.2.1.length:=by omega
   by_cases hv:qd s.2.2.2.2.1[k] s.1.length
   .simp[aW,bf,aT,bB,b7,bx,cC,bD,bS,hr,hR,cA,hk,aC hk,hv,hs]
    grind
   .simp[aW,bf,aT,bB,b7,bx,cC,bD,bS,hr,hR,cA,hk,aC hk,hv,hs]
  .by_cases h0:0<=m
   .have h1:¬m<(s.2.2.2.2.1.length:Int):=λg=>h ⟨h0,g⟩
    simp[aW,bf,aT,bB,b7,bx,cC,bD,bS,hr,hR,cA,h0,h1,hs]
   .simp[aW,bf,aT,bB,b7,bx,cC,bD,bS,hr,hR,cA,h0,hs]
 .unfold pN M.br M.bW M.cE M.bk M.bN M.cK;cases hs:s.2.2.2.2.2
  .simp[aW,bf,aT,bB,b7,bx,cC,bD,bS,hr,hR,cA,hs]
  by_cases h:0<=m/\m<(s.2.2.2.2.1.length:Int)
  .obtain⟨k,rfl⟩:=aqY h.1
   have hk:k<s.2.2.2.2.1.length:=by omega
   by_cases hv:qd s.2.2.2.2.1[k] s.1.length
   .simp[aW,bf,aT,bB,b7,bx,cC,bD,bS,hr,hR,cA,hk,aC hk,hv,hs]
    grind
   .simp[aW,bf,aT,bB,b7,bx,cC,bD,bS,hr,hR,cA,hk,aC hk,hv,hs]
  .by_cases h0:0<=m
   .have h1:¬m<(s.2.2.2.2.1.length:Int):=λg=>h ⟨h0,g⟩
    simp[aW,bf,aT,bB,b7,bx,cC,bD,bS,hr,hR,cA,h0,h1,hs]
   .simp[aW,bf,aT,bB,b7,bx,cC,bD,bS,hr,hR,cA,h0,hs]
 .unfold pN M.br M.bW M.cE M.bk M.bN M.cK;cases hs:s.2.2.2.2.2
  .simp[aW,bf,aT,bB,b7,bx,cC,bD,bS,hr,hR,cA,hs]
  by_cases h:0<=m/\m<(s.2.2.2.2.1.length:Int)
  .obtain⟨k,rfl⟩:=aqY h.1
   have hk:k<s.2.2.2.2.1.length:=by omega
   by_cases hv:qd s.2.2.2.2.1[k] s.1.length
   .simp[aW,bf,aT,bB,b7,bx,cC,bD,bS,hr,hR,cA,hk,aC hk,hv,hs];generalize s.2.2.2.2.1[k]=t at*
    grind
   .simp[aW,bf,aT,bB,b7,bx,cC,bD,bS,hr,hR,cA,hk,aC hk,hv,hs]
  .by_cases h0:0<=m
   .have h1:¬m<(s.2.2.2.2.1.length:Int):=λg=>h ⟨h0,g⟩
    simp[aW,bf,aT,bB,b7,bx,cC,bD,bS,hr,hR,cA,h0,h1,hs]
   .simp[aW,bf,aT,bB,b7,bx,cC,bD,bS,hr,hR,cA,h0,hs]
def abB(n:Ty)(l:List Ty)(s:vL)(hw:WF aA n)(hl:(l.length:Int)=ar n.1)(hN:∀t∈l,uV t):pN n l s=aa (Re n l s):=by
 rw[<-JQ hw hl];obtain⟨(op:Int),(m:Int)⟩:=n;have hm:m<=9223372036854775807:=hw.2.2;have h3:=qJ op;dsimp only at hl
 match l,hl with
 |[],hl=>exact zero_eq op m s hm hl.symm
 |[a],hl=>grind [Yj]
 |[a,b],hl=>grind [Yi]
 |[a,b,c],hl=>exact Rt op m a b c s hl.symm
 |a::b::c::d::l,hl=>grind
def qd.nrm{t:Ty}{n:Nat}(h:qd t n):uV t:=λh'=>by
 obtain⟨(k:Int),(e:Int)⟩:=t
 rcases h with h|h
 all_goals grind
def Pc{α:Type}(m:Option α)(Q:α->Prop):Prop:=∀r,m=aa r->Q r
theorem lE{α:Type}{x:α}{Q:α->Prop}:Pc (aa x) Q↔Q x:=⟨λh=>h x rfl,λh r e=>by grind⟩
theorem iC{α β:Type}{m:Option α}{k:α->Option β}{Q:β->Prop}:Pc (m.bind k) Q↔Pc m λx=>Pc (k x) Q:=by
 constructor
 .intro h x hx r hr;exact h r (by grind)
 .intro h r hr;obtain⟨x,hx,hr⟩:=Option.bind_eq_some_iff.1 hr;exact h x hx r hr
def px{α:Type}{c:Prop}[Decidable c]{a b:Option α}{Q:α->Prop}:Pc (if c then a else b) Q↔(c->Pc a Q)/\(¬c->Pc b Q):=by
 grind
theorem Pc.of{α:Type}{m:Option α}{Q:α->Prop}(h:∀x,Q x):Pc m Q:=λx _=>h x
theorem uV.kind(k:Int):uV ((k,(0:Int)):Ty):=λ_=>rfl
theorem Ru(n:Ty)(s:vL):Pc (M.cK aK n s) λr=>r.2=af->uV r.1:=by
 have ho:∀k,M.iN aK k=aa (decide (k=2\/k=3\/k=4\/k=5)):=aT;unfold M.cK;rw[iC]
 refine Pc.of λj=>?_
 simp only[cA,ho,aqN];by_cases hv:qd j s.1.length
 .simp only[iC,px,lE];simp[hv.nrm]
 .simp[hv,iC,px,lE]
theorem JX(n a:Ty)(s:vL)(ha:uV a):Pc (M.dJ aK n a s) λr=>r.2=af->uV r.1:=by
 unfold M.dJ;simp only[bB,bf,cA,aqN,iC,px,lE];refine⟨λ_ _=>ha,λ_=>⟨λ_ _=>ha,λ_=>?_⟩⟩
 have h33:Pc (idx s.2.1 n.2) λx=>(decide (qd x.2.1 s.1.length)=af->(decide (qd x.2.2.1 s.1.length)=af->mD aA a x.2.1=af->uV x.2.2.1)/\(¬decide (qd x.2.2.1 s.1.length)=af->ag=af->uV x.2.2.1))/\(¬decide (qd x.2.1 s.1.length)=af->ag=af->uV x.2.2.1):=Pc.of λx=>⟨λ_=>⟨λh _=>(al h:qd x.2.2.1 s.1.length).nrm,λ_ h=>(by cases h)⟩,λ_ h=>(by cases h)⟩
 have UM:Pc (idx s.2.1 (aqO.wrap (aq1 n.2 8))) λx=>(decide ((a.1:Int)=3)=af->(mD aA x.2.1 ((3:Int),(0:Int))=af->mD aA x.2.2.1 ((4:Int),(0:Int))=af->uV a)/\(¬mD aA x.2.1 ((3:Int),(0:Int))=af->ag=af->uV a))/\(¬decide ((a.1:Int)=3)=af->ag=af->uV a):=Pc.of (by grind)
 grind [uV.kind]
theorem JY(op:Int)(a b:Ty)(ha:uV a):Pc (M.iA aK op a b) λr=>r.2=af->uV r.1:=by
 have hk:∀k:Int,uV ((k,(0:Int)):Ty):=uV.kind;unfold M.iA M.lv;simp only[bB,bf,aT,aqN,iC,px,lE];simp[ha,hk]
def UO(n:Ty)(l:List Ty)(s:vL)(hw:WF aA n)(hl:(l.length:Int)=ar n.1)(hN:∀t∈l,uV t)(h0:(Re n l s).2=0):uV (Re n l s).1:=by
 have Bq:∀i,Pc (idx l i) uV:=λi x hx=>by
  grind [idx]
 have key:Pc (M.bk aK n l s) λr=>r.2=0->uV r.1:=by
  unfold M.bk;rw[iC]
  refine Pc.of λj1=>?_
  rw[px];refine⟨λ_=>lE.2 λh=>(by cases h),λ_=>?_⟩;rw[iC]
  refine Pc.of λy3=>?_
  rw[px];refine⟨λ_=>lE.2 λh=>(by cases h),λ_=>?_⟩;rw[iC]
  refine Pc.of λy4=>?_
  rw[px];refine⟨λ_=>lE.2 λh=>(by cases h),λ_=>?_⟩;rw[iC]
  have fin:∀{m:Option (Bool×Ty)},Pc m (λj=>j.1=af->uV j.2)->Pc m λj5=>Pc (if(!j5.1)=af then aa (((0:Int),(0:Int)),(8:Int))else aa (j5.2,(0:Int))) λr:Ty×Int=>r.2=0->uV r.1:=λ{m}h j hj=>by
   have:=h j hj;refine px.2 ⟨λ_=>lE.2 λh=>(by cases h),λh=>lE.2 λ_=>this (by simpa using h)⟩
  refine fin ?_;rw[px];refine⟨λ_=>?_,λ_=>?_⟩
  .grind [iC,lE,Ru]
  rw[px];refine⟨λ_=>?_,λ_=>?_⟩
  .rw[iC]
   refine λa ha=>iC.2 ?_
   grind [lE,JX]
  rw[px];refine⟨λ_=>?_,λ_=>?_⟩
  .rw[iC]
   refine λa ha=>iC.2 λb _=>iC.2 ?_
   grind [lE,JY]
  .rw[iC]
   refine λa ha=>?_
   have ha:=Bq _ a ha;simp only[iC,px,lE]
   grind [Pc.of]
 exact key _ (JQ hw hl) h0
def Eu(st:List Nat)(m:Nat)(v:Nat):bH (dc st++aqW (m+1) (0:Int)) (st.length:Int) (v:Int)=dc (st++[v])++aqW m (0:Int):=by
 grind [bH]
def xK(st:List Nat)(m:Nat)(u v:Nat):bH (dc (st++[u])++aqW m (0:Int)) (st.length:Int) (v:Int)=dc (st++[v])++aqW m (0:Int):=by
 unfold bH
 simp_all
def AG(e:List Ty):M.gI aK e=aa (o9 e):=by
 apply Wp.eq;unfold M.gI o9
 refine Wp.dec (λh=> .some ?_) λh1=>?_
 .grind
 rw[ai (show¬48<e.length by omega)]
 refine Wp.dec (λh=> .some ?_) λh2=>?_
 .grind
 rw[ai (show¬e.length=0 by omega)]
 have QJ:qh (e.length:Int) (0:Int)=aa (aqW e.length 0):=by
  unfold qh;rw[aj (by omega),aqX]
 rw[QJ];simp only[aqN];refine Wp.join (Wp.loop (λs:Int×List Int×List Int=>∃st sk:List Nat,s=((st.length:Int),dc st++aqW (e.length-st.length) 0,dc sk)/\st.length<=e.length/\sk.length<=12/\iQ (e.drop st.length) st.length st sk=iQ e 0 [] []) (λs=>(e.length-s.1).toNat) ⟨[],[],by simp,by simp,by simp,by simp⟩ (by simp only;unfold aK;omega) ?_)
 rintro _ ⟨st,sk,rfl,jJ,hsk,bP⟩
 simp only
 refine Wp.dec (λhk=>?_) λhk=> .some ?_
 case refine_2=>
  have hd:e.drop st.length=[]:=List.drop_of_length_le (by omega);rw[hd]at bP;rw[<-bP]
  have h0:e.length-st.length=0:=by omega
  rw[h0];simp only[iQ,List.replicate_zero,List.append_nil]
  show Wp _ _
  refine Wp.dec (λh=> .some ?_) λh=> .some ?_
  all_goals grind
 have jn:st.length<e.length:=by omega
 have hd:e.drop st.length=e[st.length]::e.drop (st.length+1):=aqZ jn
 obtain⟨m,hm⟩:∃m,e.length-st.length=m+1:=⟨e.length-st.length-1,by omega⟩
 rw[hd]at bP;rw[aC jn,hm];simp only[aqN,Rq];generalize mR:(e[st.length].1:Int)=op;rw[iQ]at bP;rw[mR]at bP;have Rv:=qJ op
 refine Wp.dec (λh=> .some ?_) λN2=>?_
 .rw[aj h]at bP
  show _=_
  rw[<-bP]
 rw[ai N2]at bP
 refine Wp.dec (λh=> .some ?_) λhlen=>?_
 .rw[aj (by simpa using h)]at bP
  show _=_
  rw[<-bP]
 have hlen:¬(sk.length:Int)<ar op:=by simpa using hlen
 rw[ai hlen]at bP
 obtain⟨a,ha⟩:∃a:Nat,ar op=a:=⟨(ar op).toNat,by omega⟩
 rw[ha]at bP N2 hlen Rv⊢
 have ah3:a<=sk.length:=by omega
 have e6:idx (dc st++aqW (m+1) (0:Int)) (st.length:Int)=aa 0:=by
  rw[aC (by simp)];rw[arJ (by simp)];simp
 rw[e6]
 have hw:aqO.wrap (((dc sk).length:Int)-(a:Int))=((sk.length-a:Nat):Int):=by
  rw[List.length_map,aE (by omega) (by omega)];omega
 have hs:xH (a:Int) st.length sk=(if a=0 then st.length else sk.getD (sk.length-a) 0):=by
  unfold xH;by_cases h0:a=0
  .subst h0;simp
  .grind
 simp only[aqN,Eu,hw];refine Wp.seq (· =dc (st++[xH (a:Int) st.length sk])++aqW m (0:Int)) ?_ ?_
 .refine Wp.dec (λh=>?_) λh=>?_
  .have aF:sk.length-a<(dc sk).length:=by simp;omega
   rw[aC aF]
   have e9:idx (dc (st++[st.length])++aqW m (0:Int)) (st.length:Int)=aa (st.length:Int):=by
    rw[aC (by simp)];rw[arE (by simp)];simp
   simp only[aqN,e9,List.getElem_map,xK];refine .some ?_
   grind
  .refine .some ?_
   grind
 .rintro _ rfl
  generalize xH (a:Int) st.length sk=s at bP⊢
  have IC:iE (dc sk) (0:Int) ((sk.length-a:Nat):Int)=aa (dc (sk.take (sk.length-a))):=by
   rw[pU (by simp)];simp
  have e11:idx (dc (st++[s])++aqW m (0:Int)) (st.length:Int)=aa (s:Int):=by
   rw[aC (by simp)];rw[arE (by simp)];simp
  have Yk:cD (dc (sk.take (sk.length-a))) [(s:Int)]=aa (dc (sk.take (sk.length-a)++[s])):=by
   rw[eZ (by simp;omega)];simp
  rw[IC];simp only[aqN,e11,Yk]
  have hl:(dc (sk.take (sk.length-a)++[s])).length=sk.length-a+1:=by simp
  rw[hl];rw[aqX]at bP
  refine Wp.dec (λh=> .some ?_) λh=> .some ?_
  .rw[aj (by omega)]at bP
   show _=_
   rw[<-bP]
  .rw[ai (by omega)]at bP;rw[aR (by omega)];refine⟨⟨st++[s],sk.take (sk.length-a)++[s],?_,by simp;omega,by simp;omega,?_⟩,by grind⟩
   all_goals grind
def GV.all(s:vL):GV s:=λe hw=>by
 apply Wp.eq;unfold M.qy;simp only[AG,Rq,Rr,W_,aq,au,reduceCtorEq];refine⟨λh=>by unfold NT;rw[aj h],λh0=>?_⟩;obtain⟨h48,eG,dK,Rf,Ix⟩:=Lx h0
 have hT:NT e s=match p8 s e 0 []with
  | .inl (i,c)=>(((0:Int),(0:Int)),(i:Int),c)
  | .inr oT=>(oT.headD ((0:Int),(0:Int)),0,0):=by unfold NT;rw[ai (by omega)]<;>cases p8 s e 0 []<;>rfl
 refine Wp.count (λs=>s.1) e.length (λk q=>∃st sk,q.2.length=sk.length/\iQ e 0 [] []=iQ (e.drop k) k st sk/\p8 s e 0 []=p8 s (e.drop k) k q.2/\q.2.length<=k/\(0<k->q.2≠[])/\∀t∈q.2,uV t) (by omega) rfl (by grind) λk q hk hs hJ=>?_
 obtain⟨i,oT⟩:=q;obtain⟨st,sk,hl,hr,ht,TR,qe,ah5⟩:=hJ;dsimp only at hs hl ht TR qe ah5;subst hs;simp only[W_,aq,au,reduceCtorEq,aQ,aO];refine⟨λaF=>?_,λhge=>?_⟩
 .have aF:k<e.length:=by omega
  rw[aqZ aF,iQ]at hr;rw[aqZ aF,p8]at ht;rw[Ix]at hr;have ha3:=qJ e[k].1;split at hr
  .cases hr
  split at hr
  .cases hr
  split at hr
  .cases hr
  rename_i ha0 ha1 ha2
  have w1:aqO.wrap ((oT.length:Int)-ar e[k].1)=((oT.length-(ar e[k].1).toNat:Nat):Int):=by rw[aE (by omega) (by omega)];omega
  have hd:((oT.drop (oT.length-(ar e[k].1).toNat)).length:Int)=ar e[k].1:=by rw[List.length_drop];omega
  have hwk:=hw _ (aqS aF)
  have Zq:∀t∈oT.drop (oT.length-(ar e[k].1).toNat),uV t:=(by grind)
  have hp:=abB e[k] _ s hwk hd Zq;have Fh:=UO e[k] _ s hwk hd Zq
  have bad:∀c:Int,c≠0->(Re e[k] (oT.drop (oT.length-(ar e[k].1).toNat)) s).2=c->(((0:Int),(0:Int)),(k:Int),c)=NT e s:=(by grind)
  have rest:¬((e[k].2:Int)≠0/\¬((1<=(e[k].1:Int)/\(e[k].1:Int)<=8)\/(14<=(e[k].1:Int)/\(e[k].1:Int)<=16)\/(e[k].1:Int)=33\/(e[k].1:Int)=34\/(36<=(e[k].1:Int)/\(e[k].1:Int)<=39)))->M.br aK e[k] (oT.drop (oT.length-(ar e[k].1).toNat)) s=aa (Re e[k] (oT.drop (oT.length-(ar e[k].1).toNat)) s):=λh=>by
   rw[<-hp];exact(ai h).symm
  have cond:((e[k].2:Int)≠0/\¬((1<=(e[k].1:Int)/\(e[k].1:Int)<=8)\/(14<=(e[k].1:Int)/\(e[k].1:Int)<=16)\/(e[k].1:Int)=33\/(e[k].1:Int)=34\/(36<=(e[k].1:Int)/\(e[k].1:Int)<=39)))->(Re e[k] (oT.drop (oT.length-(ar e[k].1).toNat)) s).2=2:=λh=>by
   have:aa (Re e[k] (oT.drop (oT.length-(ar e[k].1).toNat)) s)=aa (((0:Int),(0:Int)),(2:Int)):=by
    rw[<-hp];exact aj h
   grind
  have good:¬((e[k].2:Int)≠0/\¬((1<=(e[k].1:Int)/\(e[k].1:Int)<=8)\/(14<=(e[k].1:Int)/\(e[k].1:Int)<=16)\/(e[k].1:Int)=33\/(e[k].1:Int)=34\/(36<=(e[k].1:Int)/\(e[k].1:Int)<=39)))->Wp (M.br aK e[k] (oT.drop (oT.length-(ar e[k].1).toNat)) s) λy9=>(¬(y9.2:Int)=0->(((0:Int),(0:Int)),(k:Int),y9.2)=NT e s)/\((y9.2:Int)=0->Wp (cD (oT.take (oT.length-(ar e[k].1).toNat)) [y9.1]) λx=>k<e.length/\aqO.wrap ((k:Int)+1)=((k+1:Nat):Int)/\∃st sk,x.length=sk.length/\iQ e 0 [] []=iQ (e.drop (k+1)) (k+1) st sk/\p8 s e 0 []=p8 s (e.drop (k+1)) (k+1) x/\x.length<=k+1/\(0<k+1->x≠[])/\∀t∈x,uV t):=λh=>by
   rw[rest h];refine .some ⟨λhc=>bad _ hc rfl,λhc=>?_⟩;rw[ai (λg=>g hc)]at ht;refine nO.2 ⟨by grind,aF,bQ (m:=e.length) (by omega) aF,_,_,?_,Ix.trans hr,ht,?_,λ_=>by simp,λt h=>?_⟩
   .grind
   all_goals grind
  simp only[aC aF,w1,pU (show oT.length-(ar e[k].1).toNat<=oT.length by omega),zn (l:=oT) (oT.length-(ar e[k].1).toNat) oT.length rfl rfl (by omega) (aqU _),List.take_length,W_,aq,au,reduceCtorEq];exact⟨λh1=>⟨λh2=>bad 2 (by decide) (cond ⟨h1,h2⟩),λh2=>good λg=>g.2 h2⟩,λh1=>good λg=>g.1 h1⟩
 .obtain rfl:k=e.length:=by omega
  rw[List.drop_length,p8]at ht;rw[hT,ht];have:oT≠[]:=qe (List.length_pos_iff.2 eG);obtain⟨a,l,rfl⟩:=List.exists_cons_of_ne_nil this;exact fo.2 ⟨by simp,rfl⟩
end L
namespace L
inductive O2(D:Int->Int->Prop):Int->Int->Prop
 |one {a b:Int} (h:D a b):O2 D a b
 |step {a b c:Int} (h:O2 D a b) (g:D b c):O2 D a c
def Dp(s:jm)(a b:Int):Prop:=b∈lQ s a
def AH{y:Int}:∀{l out:List Int},y∈l.foldl (λo z=>ins z o) out↔y∈l\/y∈out
 |[],_=>by simp
 |x::l,out=>by
  rw[List.foldl_cons,AH (l:=l),qK,arx]
  grind
def rF(s:jm){out:List Int}{y:Int}:y∈stepT s out↔y∈out\/∃x∈out,Dp s x y:=by
 unfold stepT
 suffices∀(l o:List Int),y∈l.foldl (λo x=>(lQ s x).foldl (λo y=>ins y o) o) o↔y∈o\/∃x∈l,Dp s x y from this _ _
 intro l
 induction l with
 |nil=>intro o;simp
 |cons x l ih=>
  intro o;rw[List.foldl_cons,ih,AH];unfold Dp
  grind
def tx(s:jm)(d:Int):∀n y,y∈nR s n (lQ s d)->O2 (Dp s) d y
 |0,y,h=> .one h
 |n+1,y,h=>by
  rcases(rF s).1 h with h|⟨x,hx,h⟩
  .exact tx s d n y h
  .exact .step (tx s d n x hx) h
def N3{l m:List Int}(hl:l.Pairwise (· < ·))(hm:m.Pairwise (· < ·))(h:∀y,y∈l↔y∈m):l=m:=by
 induction l generalizing m with
 |nil=>
  cases m with
  |nil=>rfl
  |cons y m=>exact absurd ((h y).2 (by simp)) (by simp)
 |cons x l ih=>
  cases m with
  |nil=>grind
  |cons y m=>
   obtain⟨h1,h2⟩:=arb.1 hl;obtain⟨g1,g2⟩:=arb.1 hm
   have e:x=y:=by
    rcases arx.1 ((h x).1 (by simp))with e|e
    .exact e
    .rcases arx.1 ((h y).2 (by simp))with e'|e'
     all_goals grind
   grind
def xL{l:List Int}:∀{m:List Int},l.Nodup->(∀y,y∈l->y∈m)->l.length<=m.length:=by
 induction l with
 |nil=>grind
 |cons x l ih=>
  intro m hn h;obtain⟨h1,h2⟩:=List.nodup_cons.1 hn;have hx:=h x (by simp)
  have:=ih (m:=m.erase x) h2 λy hy=>(List.mem_erase_of_ne (λe:y=x=>h1 (by rw[<-e];exact hy))).2 (h y (by simp[hy]))
  rw[List.length_erase_of_mem hx]at this;have:=List.length_pos_of_mem hx;simp only[List.length_cons];omega
def LF{l m:List Int}(hl:l.Pairwise (· < ·))(_:m.Pairwise (· < ·))(h:∀y,y∈l->y∈m)(hx:∃y,y∈m/\y∉l):l.length<m.length:=by
 have nd:l.Nodup:=hl.imp λh=>by omega
 obtain⟨y,hy,hn⟩:=hx;have nd2:(y::l).Nodup:=List.nodup_cons.2 ⟨hn,nd⟩;have:(y::l).length<=m.length:=xL nd2 (by grind)
 grind
def Ev(s:jm)(d:Int):(∀n,n<=s.2.2.2.1.length->(stepT s (nR s n (lQ s d))=nR s n (lQ s d)\/n<=(nR s n (lQ s d)).length)):=by
 have srt:∀m,uH s.2.2.2.1.length (nR s m (lQ s d)):=λm=>by
  induction m with
  |zero=>exact kW s d
  |succ m ih=>exact uo s ih
 intro n
 induction n with
 |zero=>grind
 |succ n ih=>
  intro hn
  rcases ih (by omega)with h|h
  .grind [nR]
  .by_cases hx:∃y,y∈stepT s (nR s n (lQ s d))/\y∉nR s n (lQ s d)
   .right
    have:=LF (srt n).1 (uo s (srt n)).1 (λy hy=>(rF s).2 (.inl hy)) hx
    grind [nR]
   .left
    have:stepT s (nR s n (lQ s d))=nR s n (lQ s d):=N3 (uo s (srt n)).1 (srt n).1 λy=>⟨(by grind),λh=>(rF s).2 (.inl h)⟩
    grind [nR]
theorem LG(s:jm)(d y:Int):y∈El s d↔O2 (Dp s) d y:=by
 refine⟨λh=>tx s d _ y h,λh=>?_⟩
 have closed:∀x z,x∈El s d->Dp s x z->z∈El s d:=by
  intro x z hx hz
  rcases Ev s d s.2.2.2.1.length (aqU _)with h|h
  .have:z∈stepT s (nR s s.2.2.2.1.length (lQ s d)):=(rF s).2 (.inr ⟨x,hx,hz⟩);rw[h]at this;exact this
  .have hs:=LD s d;have Zx:=(kW s x).2 z hz
   refine Classical.not_not.1 λhn=>?_
   have:=LF (l:=El s d) (m:=ins z (El s d)) hs.1 (JR hs.1) (λy hy=>qK.2 (.inr hy)) ⟨z,qK.2 (.inl rfl),hn⟩;have:=(hs.ins Zx).len
   grind [El]
 have start:∀z,Dp s d z->z∈El s d:=by
  intro z hz
  show z∈nR s s.2.2.2.1.length (lQ s d)
  have:∀n,z∈nR s n (lQ s d):=λn=>by
   induction n with
   |zero=>exact hz
   |succ n ih=>exact(rF s).2 (.inl ih)
  exact this _
 induction h<;>grind
def GX(d:Array Int)(y:Int):∀m,y∈Go.Lib.compactUpTo d m↔∃j,j<m/\d[j]! =y
 |0=>by simp[Go.Lib.compactUpTo]
 |m+1=>by
  rw[Go.Lib.compactUpTo_succ,arf,GX d y m];constructor
  .grind
  .rintro⟨j,hj,h⟩
   rcases Nat.lt_succ_iff_lt_or_eq.1 hj with h1|rfl
   .grind
   .by_cases hk:Go.Lib.keeps d j=af
    .grind
    .left
     unfold Go.Lib.keeps at hk
     grind
theorem GY(l:List Int)(y:Int):y∈arP l↔y∈l:=by
 unfold arP;rw[GX];constructor
 .grind
 .intro h;obtain⟨j,hj,rfl⟩:=aq6 h;exact⟨j,hj,by simp[hj]⟩
def CZ(l:List Int)(hl:l.length<=1000000):Wp ((M.eW aK l).bind λy1=>(M.dF aK y1).bind λy2=>aa y2) λr=>r.length<=l.length/\∀y,y∈r↔y∈l:=by
 have e1:M.eW aK l=aa (uR l):=by
  unfold M.eW GB;rw[aj (by omega)]
 have hs:(uR l).length=l.length:=List.length_mergeSort ..
 have e2:M.dF aK (uR l)=aa (arP (uR l)):=by
  unfold M.dF th;rw[aj (by omega)]
 rw[e1,aqN,e2];refine .some ⟨?_,λy=>?_⟩
 all_goals grind [Aq,uR,GY,List.mem_mergeSort]
def tA(l:List Int)(hl:l.length<=1000000):Wp (M.iZ aK l) λr=>r.length<=l.length/\∀y,y∈r↔y∈l:=CZ l hl
def Ew(l:List Int)(hl:l.length<=1000000):Wp (M.kg aK l) λr=>r.length<=l.length/\∀y,y∈r↔y∈l:=CZ l hl
def N4(e:List Ty)(y:Int):Prop:=∃n∈e,(n.1:Int)=8/\(n.2:Int)=y
theorem JZ(p:Int->Bool)(e:List Ty)(y:Int):y∈iO p e↔∃n∈e,p n.1=af/\(n.2:Int)=y:=by
 unfold iO
 suffices∀(e:List Ty)(l:List Int),y∈e.foldl (λl n=>if p n.1=af then ins n.2 l else l) l↔y∈l\/∃n∈e,p n.1=af/\(n.2:Int)=y by grind
 intro e
 induction e with
 |nil=>intro l;simp
 |cons n e ih=>
  grind [qK]
theorem GZ(e:List Ty)(y:Int):y∈iO lJ e↔N4 e y:=by
 grind [JZ,N4,lJ]
def uW(e:List Ty)(he:e.length<=100000):Wp (M.jN aK e) λr=>r.2.1.length<=e.length/\∀y,y∈r.2.1↔N4 e y:=by
 unfold M.jN;rw[wp_bind]
 refine Wp.count (λs=>s.1) e.length (λk s=>(s.2.1.length<=k/\s.2.2.1.length<=k/\s.2.2.2.length<=k)/\∀y,y∈s.2.2.1↔∃j,∃h:j<e.length,j<k/\(e[j].1:Int)=8/\(e[j].2:Int)=y) (by omega) rfl ⟨by simp,λy=>by simp⟩ λk s hk hs hJ=>?_
 obtain⟨i,a,b,c⟩:=s;obtain⟨⟨l1,l2,l3⟩,hm⟩:=hJ;dsimp only at hs l1 l2 l3 hm;subst hs;simp only[W_,aq,au,reduceCtorEq,aQ,aO];refine⟨λaF=>?_,λhge=>?_⟩
 .have aF:k<e.length:=by omega
  have nxt:∀b':List Int,(∀y,y∈b'↔y∈b\/((e[k].1:Int)=8/\(e[k].2:Int)=y))->∀y,y∈b'↔∃j,∃h:j<e.length,j<k+1/\(e[j].1:Int)=8/\(e[j].2:Int)=y:=(by grind)
  have same:(e[k].1:Int)≠8->∀y,y∈b↔∃j,∃h:j<e.length,j<k+1/\(e[j].1:Int)=8/\(e[j].2:Int)=y:=(by grind)
  simp only[aC aF,bQ (m:=e.length) (by omega) aF,W_,aq,au,reduceCtorEq]
  have wY:∀(q:List Int)(v:Int)(Q:List Int->Prop),q.length<=k->Q (q++[v])->Wp (cD q [v]) Q:=λq v Q hq h=>nO.2 ⟨by simp;omega,h⟩
  grind
 .refine(tA a (by omega)).mono λ_ _=>?_
  refine(tA b (by omega)).mono λr hr=>?_
  refine(tA c (by omega)).mono λ_ _=>?_
  grind [N4,aq6]
def J0(r:kr)(n:Nat)(y:Int):Prop:=(N4 r.2.2.2.2.2.1 y\/N4 r.2.2.2.2.2.2.1 y)/\0<=y/\y<(n:Int)
def LH(l o:List Int)(n:Nat)(hl:l.length<=100000)(ho:o.length<=100000):Wp (Loop (S:=Int×List Int) (X:=List Int) (λs4=>
 (if(decide (s4.1<(l.length:Int)))=af then
 ((idx l s4.1).bind λx6=>
 ((if(decide ((0:Int)<=x6))=af then
 some (decide (x6<(n:Int)))
 else
 some ag):Option (Bool)).bind λj7=>
 (if j7=af then
 (cD s4.2 ([x6]:List Int)).bind λl8=>
 some l8
 else
 some s4.2):Option (List Int)).bind λj5=>
 some (Sum.inl (aqO.wrap (s4.1+(1:Int)),j5))
 else
 some (arM s4.2))) aK ((0:Int),o)) λr=>r.length<=o.length+l.length/\∀y,y∈r↔y∈o\/(y∈l/\0<=y/\y<(n:Int)):=by
 refine Wp.count (λs=>s.1) l.length (λk s=>s.2.length<=o.length+k/\∀y,y∈s.2↔y∈o\/((∃j,∃h:j<l.length,j<k/\l[j]=y)/\0<=y/\y<(n:Int))) (by omega) rfl ⟨by simp,λy=>by simp⟩ λk s hk hs hJ=>?_
 obtain⟨i,q⟩:=s;obtain⟨h1,hm⟩:=hJ;dsimp only at hs h1 hm;subst hs;simp only[W_,aq,au,reduceCtorEq,aQ,aO];refine⟨λaF=>?_,λhge=>?_⟩
 .have aF:k<l.length:=by omega
  simp only[aC aF,bQ (m:=l.length) (by omega) aF,W_,aq,au,reduceCtorEq]
  grind [nO]
 .refine⟨by omega,λy=>?_⟩;rw[hm];refine or_congr Iff.rfl (and_congr_left λhy=>⟨(by grind),λh=>?_⟩)
  grind [aq6]
def N5(r:kr)(n:Nat)(h1:r.2.2.2.2.2.1.length<=50)(h2:r.2.2.2.2.2.2.1.length<=50):Wp (M.gO aK r (n:Int)) λl=>l.length<=100/\∀y,y∈l↔J0 r n y:=by
 unfold M.gO;rw[wp_bind]
 refine(uW _ (by omega)).mono λa ha=>?_
 rw[wp_bind]
 refine(uW _ (by omega)).mono λb hb=>?_
 rw[wp_bind]
 refine(LH a.2.1 [] n (by omega) (by simp)).mono λc hc=>?_
 have Ln:=hc.1;simp only[List.length_nil]at Ln
 refine(LH b.2.1 c n (by omega) (by omega)).mono λq hq=>⟨by omega,λy=>?_⟩
 grind [J0]
theorem C0(n:Nat)(y:Int):∀(l out:List Int),y∈pb n out l↔y∈out\/(y∈l/\0<=y/\y<(n:Int))
 |[],out=>by show y∈out↔_;simp
 |x::l,out=>by
  show y∈pb n (if 0<=x/\x<(n:Int)then ins x out else out) l↔_
  rw[C0 n y l]
  grind [qK]
def Rx(s:jm)(d y:Int):Dp s d y↔(0<=d/\d<(s.2.2.2.1.length:Int))/\∃r∈s.2.2.2.2,(r.2.1:Int)=d/\J0 r s.2.2.2.1.length y:=by
 unfold Dp lQ;split
 .rename_i hd
  suffices∀(rs:List kr)(out:List Int),y∈rs.foldl (λout r=>if(r.2.1:Int)=d then pb s.2.2.2.1.length (pb s.2.2.2.1.length out (iO lJ r.2.2.2.2.2.1)) (iO lJ r.2.2.2.2.2.2.1)else out) out↔y∈out\/∃r∈rs,(r.2.1:Int)=d/\J0 r s.2.2.2.1.length y by
   grind
  intro rs
  induction rs with
  |nil=>intro out;simp
  |cons r rs ih=>
   intro out;rw[List.foldl_cons,ih]
   grind [C0,GZ,J0]
 grind
def Yl(s:jm)(L:List (List Int)):Prop:=L.length=s.2.2.2.1.length/\∀d,∀h:d<L.length,L[d].length<=6000/\∀y,y∈L[d]↔Dp s (d:Int) y
theorem wB(s:jm)(hs:ow s):Wp (M.kO aK s) (Yl s):=by
 have Fb:=hs.2.2.1;have Zn:=hs.2.2.2.1;have hru:=hs.2.2.2.2.2.2;unfold M.kO;rw[wp_bind];refine p7.2 ⟨by omega,?_⟩;rw[wp_bind,aqX]
 refine Wp.count (λs=>s.1) s.2.2.2.2.length (λk q=>q.2.length=s.2.2.2.1.length/\∀d,∀h:d<q.2.length,q.2[d].length<=100*k/\∀y,y∈q.2[d]↔∃j,∃h:j<s.2.2.2.2.length,j<k/\(s.2.2.2.2[j].2.1:Int)=(d:Int)/\J0 s.2.2.2.2[j] s.2.2.2.1.length y) (by omega) rfl ⟨by simp,λd h=>by simp⟩ λk q hk vo hJ=>?_
 obtain⟨i,q⟩:=q;obtain⟨hl,hm⟩:=hJ;dsimp only at vo hl hm;subst vo;simp only[W_,aq,au,reduceCtorEq,aQ,aO];refine⟨λaF=>?_,λhge=>?_⟩
 .have aF:k<s.2.2.2.2.length:=by omega
  have hrk:=hru _ (aqS aF);simp only[aC aF,bQ (m:=s.2.2.2.2.length) (by omega) aF,hl,W_,aq,au,reduceCtorEq]
  have S9:∀d,∀h:d<q.length,(¬(s.2.2.2.2[k].2.1:Int)=(d:Int))->q[d].length<=100*(k+1)/\∀y,y∈q[d]↔∃j,∃h:j<s.2.2.2.2.length,j<k+1/\(s.2.2.2.2[j].2.1:Int)=(d:Int)/\J0 s.2.2.2.2[j] s.2.2.2.1.length y:=(by grind)
  have dfo:=N5 s.2.2.2.2[k] s.2.2.2.1.length hrk.2.2.1 hrk.2.2.2
  obtain⟨(v:Int),hv⟩:∃v:Int,v=s.2.2.2.2[k].2.1:=⟨_,rfl⟩
  simp only[<-hv]at S9⊢;refine⟨λh0=>⟨λh1=>?_,λh1=>⟨aF,λd h=>S9 d (by omega) λe=>h1 (e▸Int.ofNat_lt.2 h)⟩⟩,λh0=>⟨aF,λd h=>S9 d (by omega) (by grind)⟩⟩;obtain⟨c,rfl⟩:=aqY h0
  have hc:c<q.length:=by rw[hl];exact Int.ofNat_lt.1 h1
  simp only[aC hc,W_,aq,au,reduceCtorEq]
  refine dfo.mono λl9 h9=>nO.2 ⟨by grind,?_⟩
  refine⟨aF,by rw[kE];exact hl,λd h=>?_⟩
  have hd:d<q.length:=by rw[kE]at h;exact h
  rw[zc h hd]
  by_cases e:(c:Int)=(d:Int)
  .rw[aj e]
   have e:c=d:=by omega
   subst e;refine⟨by grind,λy=>?_⟩;rw[arf,(hm c hd).2,h9.2];constructor
   .rintro(⟨j,h1,h2,h3⟩|h3)
    .grind
    grind
   grind
  .rw[ai e];exact S9 d hd e
 obtain rfl:k=s.2.2.2.2.length:=by omega
 have hm2:∀d,∀h:d<q.length,q[d].length<=6000/\∀y,y∈q[d]↔Dp s (d:Int) y:=λd h=>⟨by grind,λy=>by
  rw[(hm d h).2,Rx];constructor
  .grind
  grind [aq6]⟩
 refine Wp.count (λs=>s.1) q.length (λk z=>z.2.length=q.length/\∀d,∀h:d<z.2.length,z.2[d].length<=6000/\∀y,y∈z.2[d]↔Dp s (d:Int) y) (by omega) rfl ⟨rfl,hm2⟩ λk z hk vo hJ=>?_
 obtain⟨i,z⟩:=z;obtain⟨zl,zm⟩:=hJ;dsimp only at vo zl zm;subst vo;simp only[W_,aq,au,reduceCtorEq,aQ,aO];refine⟨λaF=>?_,λhge=>⟨by grind,zm⟩⟩
 have aF:k<q.length:=by omega
 have hkz:k<z.length:=by omega
 simp only[aC hkz,bQ (m:=q.length) (by omega) aF,W_,aq,au,reduceCtorEq]
 refine(Ew z[k] (by grind)).mono λr hr=>⟨aF,by rw[kE];exact zl,λd h=>?_⟩
 have hd:d<z.length:=by rw[kE]at h;exact h
 rw[zc h hd]
 by_cases e:(k:Int)=(d:Int)
 .grind
 grind
def Sn(seen:List Bool)(y:Int):Prop:=0<=y/\seen[y.toNat]? =aa af
def Ym{seen:List Bool}{x:Int}(hx:0<=x/\x.toNat<seen.length)(y:Int):Sn (bH seen x af) y↔y=x\/Sn seen y:=by
 grind [Sn,bH]
structure RI(D:Int->Int->Prop)(d0:Int)(n:Nat)(ex:Int->Prop)(seen:List Bool)(q:List Int):Prop where
 len:seen.length=n
 qo:∀x∈q,0<=x/\x<(n:Int)/\(x=d0\/Sn seen x)
 snd:∀y,Sn seen y->O2 D d0 y
 clo:∀x,(x=d0\/Sn seen x)->x∈q\/ex x\/∀y,D x y->Sn seen y
 bud:q.length+seen.count ag<=n+1
def J1(s:jm)(L:List (List Int))(hL:Yl s L)(d:Nat)(hd:d<s.2.2.2.1.length)(Fb:s.2.2.2.1.length<=14):Wp (M.pF aK L (d:Int)) λr=>r.length<=1000/\∀y,y∈r↔O2 (Dp s) (d:Int) y:=by
 obtain⟨hl,hL⟩:=hL
 have hD:∀a b,Dp s a b->0<=b/\b<(s.2.2.2.1.length:Int):=λa b h=>(kW s a).2 b h
 generalize s.2.2.2.1.length=n at*;unfold M.pF;rw[wp_bind];refine p7.2 ⟨by omega,?_⟩;rw[wp_bind,aqX,hl]
 refine Wp.loop (λq=>RI (Dp s) (d:Int) n (λ_=>False) q.1 q.2) (λq=>2*q.1.count ag+q.2.length) ?_ ?_ λq hq=>?_
 .refine⟨by simp,λx hx=>?_,λy hy=>?_,λx hx=>?_,by simp;omega⟩
  .grind
  .exfalso;have:=hy.2
   grind
  .rcases hx with rfl|hx
   .grind
   .exfalso;have:=hx.2
    grind
 .grind [aK]
 obtain⟨seen,q⟩:=q;dsimp only at hq;dsimp only
 have hcn:∀l:List Bool,l.count ag<=l.length:=λl=>List.count_le_length
 refine Wp.dec (λh0=>?_) λh0=>?_
 .have ZK:0<q.length:=by omega
  obtain⟨x,t,rfl⟩:=List.exists_cons_of_ne_nil (List.length_pos_iff.1 ZK);have hx:=hq.qo x (by simp);obtain⟨c,rfl⟩:=aqY hx.1
  have hc:c<L.length:=by omega
  have i0:idx ((c:Int)::t) (0:Int)=aa (c:Int):=rfl
  have IC:iE ((c:Int)::t) (1:Int) (((c:Int)::t).length:Int)=aa t:=by
   apply Wp.eq;refine wp_cut.2 ⟨by simp;omega,?_⟩;rw[aqX,List.take_length];rfl
  rw[i0,aqN,IC,aqN,aC hc,aqN]
  have VN:∀y,Dp s (c:Int) y->O2 (Dp s) (d:Int) y:=λy h=>by
   rcases hx.2.2 with e|e
   .exact .one (e▸h)
   .exact .step (hq.snd _ e) h
  have abC:=(hL c hc).2;have WL:=(hL c hc).1;have Ry:=hq.bud;simp only[List.length_cons]at Ry;generalize L[c]=l at*
  refine Wp.count (λs=>s.1) l.length (λk z=>RI (Dp s) (d:Int) n (λy=>y=(c:Int)) z.2.1 z.2.2/\(∀j,j<k->∀h:j<l.length,Sn z.2.1 l[j])/\2*z.2.1.count ag+z.2.2.length<=2*seen.count ag+t.length) (by omega) rfl ⟨⟨hq.len,λx hx=>hq.qo x (by simp[hx]),hq.snd,λx hx=>?_,by grind⟩,λj hj=>by omega,aqU _⟩ λk z hk vo hJ=>?_
  .rcases hq.clo x hx with h|h|h
   all_goals grind
  obtain⟨i,sn,qu⟩:=z;obtain⟨hR,hP,hB⟩:=hJ;dsimp only at vo hR hP hB;subst vo;simp only[W_,aq,au,reduceCtorEq,aQ,aO];refine⟨λaF=>?_,λhge=>?_⟩
  .have aF:k<l.length:=by omega
   have hy:Dp s (c:Int) l[k]:=(abC _).1 (aqS aF);have hyr:=hD _ _ hy;simp only[aC aF,bQ (m:=l.length) (by omega) aF,W_,aq,au,reduceCtorEq]
   obtain⟨y,hye⟩:∃y,y=l[k]:=⟨_,rfl⟩
   simp only[<-hye]at hy hyr⊢
   have hyl:y.toNat<sn.length:=by rw[hR.len];omega
   refine fo.2 ⟨by rw[hR.len];omega,λhf=>fo.2 ⟨by grind,nO.2 ⟨?_,aF,?_⟩⟩,λht=>⟨aF,hR,dZ hP λ_=>?_,hB⟩⟩
   .grind
   .have BP:=Ym (seen:=sn) (x:=y) ⟨hyr.1,hyl⟩
    have UN:(bH sn y af).count ag+1=sn.count ag:=by
     unfold bH;rw[List.count_set hyl]
     have h1:0<sn.count ag:=(by grind)
     simp[hf];omega
    refine⟨⟨by unfold bH;simp[hR.len],λx hx=>?_,λz hz=>?_,λx hx=>?_,?_⟩,dZ (λj hj h=>?_) λh=>?_,?_⟩
    .rcases arf.1 hx with hx|hx
     .obtain⟨a1,a2,a3⟩:=hR.qo x hx
      grind
     grind
    .rcases(BP z).1 hz with rfl|hz
     .exact VN _ hy
     .exact hR.snd z hz
    .have go:x=(d:Int)\/Sn sn x->x∈qu++[y]\/x=(c:Int)\/∀z,Dp s x z->Sn (bH sn y af) z:=λg=>by
      rcases hR.clo x g with h|h|h
      all_goals grind
     grind
    .have:=hR.bud;simp;omega
    all_goals grind
   .rw[<-hye];exact⟨hyr.1,by grind⟩
  .obtain rfl:k=l.length:=by omega
   show CQ _ _ _ _ (.inl _)
   refine⟨⟨hR.len,hR.qo,hR.snd,λx hx=>?_,hR.bud⟩,?_⟩
   .rcases hR.clo x hx with h|h|h
    all_goals grind [aq6]
   grind
 .have ZK:q=[]:=by
   cases q with
   |nil=>rfl
   |cons x t=>simp at h0
  subst ZK;refine .some ?_
  show Wp _ _
  have Y9:∀y,Sn seen y↔O2 (Dp s) (d:Int) y:=λy=>⟨hq.snd y,λh=>by
   have cl:∀x,(x=(d:Int)\/Sn seen x)->∀z,Dp s x z->Sn seen z:=λx hx=>by
    rcases hq.clo x hx with h|h|h
    all_goals grind
   induction h<;>grind⟩
  have jL:=hq.len
  refine Wp.count (λs=>s.1) seen.length (λk z=>z.2.length<=k/\∀y,y∈z.2↔Sn seen y/\y<(k:Int)) (by omega) rfl ⟨by simp,λy=>⟨λh=>(by cases h),λh=>(by have:=h.1.1;grind)⟩⟩ λk z hk vo hJ=>?_
  obtain⟨i,o⟩:=z;obtain⟨hJ1,hJ⟩:=hJ;dsimp only at vo hJ1 hJ;subst vo;simp only[W_,aq,au,reduceCtorEq,aQ,aO];refine⟨λaF=>?_,λhge=>⟨by omega,λy=>?_⟩⟩
  .have aF:k<seen.length:=by omega
   have VK:Sn seen (k:Int)↔seen[k]=af:=by
    unfold Sn;rw[aqX,aqR aF];simp
   simp only[aC aF,bQ (m:=seen.length) (by omega) aF,W_,aq,au,reduceCtorEq]
   grind [nO]
  .rw[hJ,<-Y9];refine⟨λh=>h.1,λh=>⟨h,?_⟩⟩;have:=(aq9.1 h.2).1
   grind
def N0.all(x:jm)(hs:ow x):N0 x:=λd hd=>by
 have key:Wp (M.jO aK x (d:Int)) λtr=>tr.length<=1000/\∀y,y∈tr↔O2 (Dp x) (d:Int) y:=by
  unfold M.jO;rw[ai (by simp),aqN,ai (by simp;omega),wp_bind]
  refine(wB x hs).mono λL hL=>?_
  rw[wp_bind]
  exact(J1 x L hL d hd hs.2.2.1).mono λr hr=> .some hr
 obtain⟨tr,e,h1,h2⟩:=key
 grind [LG]
def wC(l:Lw)(hw:WF cz l)(gk:fZ l):M.iu aK l=aa (vu l):=
 GW l hw gk (λ_ _=>GV.all _) λx hx=>N0.all x (gk.2.2.2.2.2 x hx)
end L
namespace L
def iR(a b:Nat):Nat:=a ^^^(a&&& b)
theorem dT(a b i:Nat):(iR a b).testBit i=(a.testBit i&& !b.testBit i):=by
 grind [iR]
def C1{a:Nat}(h:a<9223372036854775808):(arH 64 (a:Int)).toNat=a:=by
 grind
theorem wrap_i64{x:Nat}(h:x<9223372036854775808):aqO.wrap (x:Int)=(x:Int):=Ar (by omega)
theorem N6{a b:Nat}(ha:a<9223372036854775808)(hb:b<9223372036854775808):aL .and .i64 (a:Int) (b:Int)=((a&&& b:Nat):Int):=by
 show aqO.wrap ((arH 64 (a:Int)&&& arH 64 (b:Int)).toNat:Int)=_
 grind [wrap_i64,Nat.and_le_left]
def abD{a b:Nat}(ha:a<9223372036854775808)(hb:b<9223372036854775808):aL .xor .i64 (a:Int) (b:Int)=((a ^^^ b:Nat):Int):=by
 show aqO.wrap ((arH 64 (a:Int)^^^ arH 64 (b:Int)).toNat:Int)=_
 have h:a ^^^ b<2 ^ 63:=Nat.xor_lt_two_pow (by omega) (by omega)
 grind [wrap_i64]
def N7{a b:Nat}(ha:a<9223372036854775808)(hb:b<9223372036854775808):aL .andNot .i64 (a:Int) (b:Int)=((iR a b:Nat):Int):=by
 show aqO.wrap ((arH 64 (a:Int)&&& ~~~arH 64 (b:Int)).toNat:Int)=_
 have h:(arH 64 (a:Int)&&& ~~~arH 64 (b:Int)).toNat=iR a b:=by
  apply ar7;intro i;rw[dT,BitVec.testBit_toNat,BitVec.getLsbD_and,BitVec.getLsbD_not,<-BitVec.testBit_toNat,<-BitVec.testBit_toNat,C1 ha,C1 hb];by_cases hi:i<64
  .simp[hi]
  .have:a.testBit i=ag:=Nat.testBit_lt_two_pow (arh ha (by have:=Nat.pow_le_pow_right (n:=2) (by omega) (show 63<=i by omega);omega));simp[hi,this]
 have hl:iR a b<=a:=by
  apply Nat.le_of_testBit;intro i;rw[dT]
  cases a.testBit i<;>simp
 rw[h,wrap_i64 (by omega)]
def J2(a b:Nat):iR a b<=a:=by
 apply Nat.le_of_testBit
 grind [dT]
noncomputable def nS(a:Int):Int:=(M.ke 0 (aqQ.wrap a)).getD 0
def Ey(N:Nat)(a:Int):M.dL N (aqQ.wrap a)=aa (nS a):=by
 unfold M.dL nS;rfl
def Yn(a b:Int):Int:=if a<b then-1 else if b<a then 1 else 0
def vy(N:Nat)(a b:Int):M.cmp_Compare_int N a b=aa (Yn a b):=by
 grind [M.cmp_Compare_int,M.cmp_isNaN_int,Yn]
def or_eq(a b c:Int):M.rY aK [a,b,c]=aa (if a≠0 then a else if b≠0 then b else c):=by
 unfold M.rY;refine Wp.eq ?_
 refine Wp.count (λs=>s) 3 (λk _=>(1<=k->a=0)/\(2<=k->b=0)/\(3<=k->c=0)) (by omega) rfl ⟨by omega,by omega,by omega⟩ λk s hk hs hJ=>?_
 subst hs
 match k,hk with
 |0,_=>
  refine .dec (λ_=> .bind (.idx 0 rfl (show 0<3 by omega) ?_)) (by grind);refine .kq (λh=> .some ?_) (λh=> .some ?_)
  .show a=_
   grind
  .exact⟨by omega,by decide,λ_=>h,by omega,by omega⟩
 |1,_=>
  refine .dec (λ_=> .bind (.idx 1 rfl (show 1<3 by omega) ?_)) (by grind);have h0:=hJ.1 (by omega);refine .kq (λh=> .some ?_) (λh=> .some ?_)
  .show b=_
   grind
  .exact⟨by omega,by decide,λ_=>h0,λ_=>h,by omega⟩
 |2,_=>
  refine .dec (λ_=> .bind (.idx 2 rfl (show 2<3 by omega) ?_)) (by grind);have h0:=hJ.1 (by omega);have h1:=hJ.2.1 (by omega);refine .kq (λh=> .some ?_) (λh=> .some ?_)
  .show c=_
   grind
  .exact⟨by omega,by decide,λ_=>h0,λ_=>h1,λ_=>h⟩
 |3,_=>
  have h0:=hJ.1 (by omega);have h1:=hJ.2.1 (by omega);have h2:=hJ.2.2 (by omega);refine .dec (λh=>absurd h (by simp)) (λ_=> .some ?_)
  show(0:Int)=_
  grind
def Yo(a b c d:Int)(f g:Int):Int:=if f<g then-1 else if g<f then 1 else if a<c then-1 else if c<a then 1 else if b<d then-1 else if d<b then 1 else 0
theorem cmp_eq(a b c d:Int):M.dR aK (a,b) (c,d)=aa (Yo a b c d (nS a) (nS c)):=by
 unfold M.dR;rw[Ey,aqN,Ey,aqN,vy,aqN,vy,aqN,vy,aqN,or_eq,aqN]
 grind [Yn,Yo]
def vM(x y:Int×Int):Prop:=nS x.1<nS y.1\/nS x.1=nS y.1/\(x.1<y.1\/x.1=y.1/\x.2<y.2)
def Ez(x y:Int×Int):arz (sN λa b c d=>M.dR aK (a,b) (c,d)) x y=af↔vM x y:=by
 unfold arz sN
 grind [cmp_eq,Yo,vM]
theorem vz(x y:Int×Int):arz (sN λa b c d=>M.dR aK (a,b) (c,d)) x y=ag↔¬vM x y:=by
 rw[<-Ez];simp
def abE:QS λa b c d=>M.dR aK (a,b) (c,d) where
 all a b c d:=⟨_,cmp_eq a b c d⟩
 swo:=⟨λx=>by rw[vz];unfold vM;omega,λx y z h1 h2=>by rw[Ez]at*;unfold vM at*;omega,λx y z h1 h2=>by rw[vz]at*;unfold vM at*;omega⟩
 tot x y h1 h2:=by
  grind [vz,vM]
end L
namespace L
def jH{x m b:Nat}:x&&& m=b↔∀i,(x.testBit i&&m.testBit i)=b.testBit i:=by
 constructor
 .grind
 .intro h;apply ar7;grind
theorem km{b m:Nat}:b&&& m=b↔∀i,b.testBit i=af->m.testBit i=af:=by
 rw[jH]
 grind
def zr(j i:Nat):(2 ^ j).testBit i=decide (j=i):=Nat.testBit_two_pow
theorem EA{m n:Nat}(h:m<2 ^ n){i:Nat}(hi:m.testBit i=af):i<n:=by
 refine Classical.byContradiction λg=>?_
 grind [Nat.testBit_lt_two_pow,arh,Nat.pow_le_pow_right]
def tB(n:Nat)(S:Nat->Prop)(m b:Nat):Prop:=m<2 ^ n/\b&&& m=b/\∀x,x<2 ^ n->x&&& m=b->S x
def tB.lt{n:Nat}{S:Nat->Prop}{m b:Nat}(h:tB n S m b):b<2 ^ n:=Nat.lt_of_le_of_lt (by rw[<-h.2.1];exact Nat.and_le_right) h.1
def tB.merge{n:Nat}{S:Nat->Prop}{m b j:Nat}(h:tB n S m b)(g:tB n S m (b ^^^ 2 ^ j))(_hj:m.testBit j=af):tB n S (iR m (2 ^ j)) (iR b (2 ^ j)):=by
 refine⟨Nat.lt_of_le_of_lt (J2 _ _) h.1,?_,λx hx hm=>?_⟩
 .rw[km];intro i;rw[dT,dT];have:=km.1 h.2.1 i
  grind
 .have hm:=jH.1 hm;by_cases TB:x.testBit j=b.testBit j
  .refine h.2.2 x hx (jH.2 λi=>?_)
   grind [dT]
  .refine g.2.2 x hx (jH.2 λi=>?_)
   grind [dT]
def tB.wider{n:Nat}{S:Nat->Prop}{m b j:Nat}(h:tB n S m b)(hj:m.testBit j=ag)(hn:j<n):tB n S (m|||2 ^ j) b/\tB n S (m|||2 ^ j) (b ^^^ 2 ^ j):=by
 have aF:m|||2 ^ j<2 ^ n:=Nat.or_lt_two_pow h.1 (Nat.pow_lt_pow_right (by omega) hn)
 have hb:b.testBit j=ag:=by
  cases e:b.testBit j with
  |false=>rfl
  |true=>rw[km.1 h.2.1 j e]at hj;cases hj
 refine⟨⟨aF,?_,λx hx hm=>h.2.2 x hx (jH.2 λi=>?_)⟩,⟨aF,?_,λx hx hm=>h.2.2 x hx (jH.2 λi=>?_)⟩⟩
 .rw[km];intro i hi;rw[Nat.testBit_or,km.1 h.2.1 i hi];rfl
 .grind
 .rw[km];intro i hi;rw[Nat.testBit_xor,zr]at hi;rw[Nat.testBit_or,zr];by_cases e:j=i
  .simp[e]
  .have:b.testBit i=af:=by simpa[e]using hi
   rw[km.1 h.2.1 i this];rfl
 .have:=jH.1 hm i
  grind
def Yp{m j:Nat}(h:m.testBit j=ag):iR (m|||2 ^ j) (2 ^ j)=m:=by
 apply ar7;grind [dT]
def AI{b j:Nat}(h:b.testBit j=ag):iR b (2 ^ j)=b:=by
 apply ar7;grind [dT]
def UP(b j:Nat):iR (b ^^^ 2 ^ j) (2 ^ j)=iR b (2 ^ j):=by
 apply ar7;grind [dT]
def UQ(b j:Nat):b ^^^ 2 ^ j ^^^ 2 ^ j=b:=by grind
def J3{n:Nat}{S:Nat->Prop}{In:Nat->Nat->Prop}(h0:∀x,x<2 ^ n->S x->In (2 ^ n-1) x)
 (hc:∀m b j,j<n->m.testBit j=af->In m b->In m (b ^^^ 2 ^ j)->In (iR m (2 ^ j)) (iR b (2 ^ j))):∀k m b,2 ^ n-m=k->tB n S m b->In m b:=by
 intro k
 induction k using Nat.strongRecOn with
 |_ k ih=>
  intro m b hk h;by_cases hf:∃j,j<n/\m.testBit j=ag
  .obtain⟨j,hj,hm⟩:=hf;obtain⟨h1,h2⟩:=h.wider hm hj
   have hgt:m<m|||2 ^ j:=by
    refine Nat.lt_of_le_of_ne Nat.left_le_or λe=>?_
    have:(m|||2 ^ j).testBit j=af:=by rw[Nat.testBit_or,zr];simp
    rw[<-e,hm]at this;cases this
   have aF:=h1.1;have:=hc (m|||2 ^ j) b j hj (by grind) (ih _ (by omega) _ _ rfl h1) (ih _ (by omega) _ _ rfl h2)
   have hb:b.testBit j=ag:=by
    cases e:b.testBit j with
    |false=>rfl
    |true=>rw[km.1 h.2.1 j e]at hm;cases hm
   rwa [Yp hm,AI hb]at this
  .have hm:m=2 ^ n-1:=by
    apply ar7;intro i;rw[Nat.testBit_two_pow_sub_one];by_cases hi:i<n
    .grind
    .cases e:m.testBit i with
     |true=>exact absurd (EA h.1 e) hi
     |false=>simp[hi]
   subst hm;exact h0 b h.lt (h.2.2 b h.lt h.2.1)
def tB.full{n:Nat}{S:Nat->Prop}{x:Nat}(hx:x<2 ^ n)(hS:S x):tB n S (2 ^ n-1) x:=by
 have hp:0<2 ^ n:=Nat.two_pow_pos n;refine⟨by omega,?_,λy hy he=>?_⟩
 all_goals grind [km,EA]
end L
namespace L
abbrev PS:Type:=List (aA.den×Bool)
def In(l:PS)(p:Int×Int):Prop:=(cy aA l p).getD ag=af
def EB(a b:Int×Int):Prop:=a.1<b.1\/a.1=b.1/\a.2<b.2
structure nT(l:PS):Prop where
 tr:∀e∈l,e.2=af
 srt:l.Pairwise λe f=>EB e.1 f.1
def EB.trans{a b c:Int×Int}(h:EB a b)(g:EB b c):EB a c:=by unfold EB at*;omega
theorem EB.total{a b:Int×Int}(h:¬EB a b)(g:b≠a):EB b a:=by
 grind [EB]
theorem ox(a b:Int×Int):gf aA a b=af↔a=b:=by
 show decide ((a.1:Int)=b.1/\(a.2:Int)=b.2)=af↔_
 grind
theorem pf(a b:Int×Int):gf aA a b=ag↔a≠b:=by grind [ox]
def C2(a b:Int×Int):Qa aA a b=af↔EB a b:=by
 show decide ((a.1:Int)<b.1\/((a.1:Int)=b.1/\(a.2:Int)<b.2))=af↔_
 rw[aw];rfl
def nU:{l:PS}->{p:Int×Int}->(∀e∈l,e.2=af)->(In l p↔(p,af)∈l)
 |[],p,_=>by simp[In,cy]
 |q::l,p,h=>by
  have ih:=nU (l:=l) (p:=p) λe he=>h e (List.mem_cons_of_mem _ he)
  have hq:=h q List.mem_cons_self;unfold In cy;by_cases e:gf aA q.1 p=af
  .rw[aj e];have e':=(ox _ _).1 e;have:q=(p,af):=Prod.ext e' hq;simp[this]
  .rw[ai e]
   have e':q.1≠p:=λg=>e ((ox _ _).2 g)
   refine ih.trans ⟨λg=>List.mem_cons_of_mem _ g,λg=>?_⟩
   rcases arx.1 g with g|g
   .exact absurd (by rw[<-g]) e'
   .exact g
theorem nT.nil:nT []:=⟨λe h=>by simp at h, .nil⟩
theorem AJ{l:PS}{p:Int×Int}{v:Bool}{e:(Int×Int)×Bool}:e∈FL aA l p v↔e=(p,v)\/e∈l:=by grind [uc]
def G0{p:Int×Int}{v:Bool}:{l:PS}->l.Pairwise (λe f=>EB e.1 f.1)->(∀e∈l,e.1≠p)->(FL aA l p v).Pairwise λe f=>EB e.1 f.1
 |[],_,_=>by simp[FL]
 |q::l,h,hn=>by
  obtain⟨h1,h2⟩:=arb.1 h;unfold FL;by_cases hk:Qa aA p q.1=af
  .rw[aj hk];have hk:=(C2 _ _).1 hk;refine arb.2 ⟨λe he=>?_,h⟩
   rcases arx.1 he with rfl|he
   .exact hk
   .exact hk.trans (h1 e he)
  .rw[ai hk]
   have hk:¬EB p q.1:=λg=>hk ((C2 _ _).2 g)
   refine arb.2 ⟨λe he=>?_,G0 h2 (by grind)⟩
   grind [AJ,EB.total]
def nT.put{l:PS}(h:nT l)(p:Int×Int):nT (uG aA l p af):=by
 refine⟨λe he=>?_,G0 (h.srt.filter _) λe he=>?_⟩
 .rcases AJ.1 he with rfl|he
  .rfl
  .exact h.tr e (arK.1 he).1
 grind [pf]
def EC{l:PS}(h:nT l){p q:Int×Int}:In (uG aA l p af) q↔q=p\/In l q:=by
 rw[nU (h.put p).tr,nU h.tr]
 grind [uG,AJ,pf]
def UR{l:PS}(h:nT l){p:Int×Int}(hn:¬In l p):(uG aA l p af).length=l.length+1:=by
 unfold uG;refine(uc (K:=aA) p af _).length_eq.trans ?_;rw[List.length_cons,asq.2];intro e he;rw[Bool.not_eq_true',pf];intro g;refine hn ((nU h.tr).2 ?_);have:e=(p,af):=Prod.ext g (h.tr e he)
 grind
def nT.ext{l m:PS}(h:nT l)(g:nT m)(e:∀p,In l p↔In m p):l=m:=by
 have M6:∀{l:PS},nT l->l.Nodup:=λh=>h.srt.imp λg e=>by
  subst e;unfold EB at g;omega
 have hm:∀a:aA.den×Bool,a∈l↔a∈m:=λa=>by
  constructor
  .intro ha;have:a=(a.1,af):=Prod.ext rfl (h.tr a ha);rw[this]at ha⊢;exact(nU g.tr).1 ((e _).1 ((nU h.tr).2 ha))
  .intro ha;have:a=(a.1,af):=Prod.ext rfl (g.tr a ha);rw[this]at ha⊢;exact(nU h.tr).1 ((e _).2 ((nU g.tr).2 ha))
 refine List.Perm.eq_of_pairwise (le:=λe f:aA.den×Bool=>EB e.1 f.1) (λa b _ _ h1 h2=>?_) h.srt g.srt (by grind);unfold EB at h1 h2;omega
def ur{α:Type}:∀{A B:List α},A.Nodup->(∀x∈A,x∈B)->A.length<=B.length
 |[],_,_,_=>Nat.zero_le _
 |a::A,B,h,hs=>by
  obtain⟨h1,h2⟩:=List.nodup_cons.1 h;obtain⟨s,t,rfl⟩:=List.append_of_mem (hs a List.mem_cons_self);have:=ur (A:=A) (B:=s++t) h2 (by grind)
  grind
theorem nT.len{l:PS}(h:nT l)(k:Nat)(hk:∀p,In l p->∃m b:Nat,p=((m:Int),(b:Int))/\m<k/\b<k):l.length<=k*k:=by
 have:=ur (A:=l.map λe=>(e.1.1*k+e.1.2:Int)) (B:=(aq0 (k*k)).map λx:Nat=>(x:Int)) ?_ λx hx=>?_
 .grind
 .rw[List.Nodup,List.pairwise_map];refine List.Pairwise.imp_of_mem (λ{e f}he hf aF=>?_) h.srt
  have key:∀{e:aA.den×Bool},e∈l->In l e.1:=λ{e}he=>(nU h.tr).2 (by rw[show(e.1,af)=e from Prod.ext rfl (h.tr e he).symm];exact he)
  obtain⟨m,b,e1,h1,h2⟩:=hk _ (key he);obtain⟨m',b',e2,h3,h4⟩:=hk _ (key hf);rw[e1,e2]at aF⊢;dsimp only[EB]at aF⊢;intro g
  have g:m*k+b=m'*k+b':=by exact_mod_cast g
  have h5:(m*k+b)/k=m:=by rw[arm,Nat.mul_add_div (by omega),Nat.div_eq_of_lt h2,Nat.add_zero]
  have h6:(m'*k+b')/k=m':=by rw[arm,Nat.mul_add_div (by omega),Nat.div_eq_of_lt h4,Nat.add_zero]
  grind
 .obtain⟨e,he,rfl⟩:=List.mem_map.1 hx;have:In l e.1:=(nU h.tr).2 (by rw[show(e.1,af)=e from Prod.ext rfl (h.tr e he).symm];exact he);obtain⟨m,b,e1,h1,h2⟩:=hk _ this;rw[e1];refine List.mem_map.2 ⟨m*k+b,List.mem_range.2 ?_,by simp⟩;have:=aq4 k (show m+1<=k by omega)
  grind
def G1{α A R:Type}{l0:List (aA.den×α)}{fin:List (aA.den×α)×List (aA.den×α)×A->Option R}{step:List (aA.den×α)×List (aA.den×α)×A->(aA.den×α)->Option A}(I:List (aA.den×α)->A->Prop){Res:R->Prop}(hu:∀r r',Res r->Res r'->r=r')
 (fC:∀left acc x,x∈left->I left acc->Wp (step (l0,left,acc) x) (I (pY aA left x.1)))(My:∀acc,I [] acc->Wp (fin (l0,[],acc)) Res):
 ∀(n N:Nat)left acc,left.length<=n->n<N->I left acc->Wp (uQ (λs k2=>if s.2.1.isEmpty=af then fin s else TS (λp=>p∈s.2.1) λx=>(step s x).bind λa=>k2 (s.1,pY aA s.2.1 x.1,a)) N (l0,left,acc)) Res:=by
 intro n
 induction n with
 |zero=>
  intro N left acc hl hN hi;obtain⟨N,rfl⟩:=Nat.exists_eq_succ_of_ne_zero (show N≠0 by omega)
  grind [uQ]
 |succ n ih=>
  intro N left acc hl hN hi;obtain⟨N,rfl⟩:=Nat.exists_eq_succ_of_ne_zero (show N≠0 by omega)
  by_cases he:left=[]
  .grind
  .have za:¬left.isEmpty=af:=by simpa using he
   have key:∀x,x∈left->∃a r,step (l0,left,acc) x=aa a/\uQ (λs k2=>if s.2.1.isEmpty=af then fin s else TS (λp=>p∈s.2.1) λx=>(step s x).bind λa=>k2 (s.1,pY aA s.2.1 x.1,a)) N (l0,pY aA left x.1,a)=aa r/\Res r:=λx hx=>by
    obtain⟨a,ha,mO⟩:=fC left acc x hx hi
    have:(pY aA left x.1).length<left.length:=by
     unfold pY;refine List.length_filter_lt_length_iff_exists.2 ⟨x,hx,?_⟩;rw[(ox _ _).2 rfl];simp
    obtain⟨r,hr,h⟩:=ih N (pY aA left x.1) a (by omega) (by omega) mO
    grind
   obtain⟨x0,hx0⟩:=List.exists_mem_of_ne_nil _ he;obtain⟨_,r0,_,_,h0⟩:=key x0 hx0;refine⟨r0,?_,h0⟩;unfold uQ;refine(ai za).trans (W1 ⟨x0,hx0⟩ λx hx=>?_)
   grind
end L
namespace L
def se{j:Nat}(h:j<62):uF .i64 (1:Int) (j:Int)=aa ((2 ^ j:Nat):Int):=by
 unfold uF;rw[ai (by omega)];unfold w7
 have h1:min (j:Int).toNat aqO.bits=j:=by simp[asm];omega
 have h2:2 ^ j<2 ^ 62:=Nat.pow_lt_pow_right (by omega) h
 grind [wrap_i64]
def Rz:∀j,j<8->nS ((2 ^ j:Nat):Int)=1:=by
 intro j hj
 have h:((aq0 8).all λj=>decide (nS ((2 ^ j:Nat):Int)=1))=af:=by kernel_rfl
 grind
abbrev pI(m b:Nat):Int×Int:=((m:Int),(b:Int))
def vA{m b m' b':Nat}(h:pI m b=pI m' b'):m=m'/\b=b':=by
 grind
def ED(b j:Nat):b ^^^(b ^^^ 2 ^ j)=2 ^ j:=by grind
def vB{n:Nat}(h:n<=8):2 ^ n<=256:=Nat.pow_le_pow_right (n:=2) (by omega) h
def US{b j:Nat}(hb:b<256)(hj:j<8):b ^^^ 2 ^ j<256:=Nat.xor_lt_two_pow (n:=8) hb (by have:=Nat.pow_lt_pow_right (a:=2) (by omega) hj;omega)
def EE{j:Nat}(hj:j<8):2 ^ j<256:=Nat.pow_lt_pow_right (a:=2) (by omega) hj
def RA{m b j:Nat}(hm:m<256)(hb:b<256)(hj:j<8)(Tg:m.testBit j=af):M.oG aK (pI m b) (pI m (b ^^^ 2 ^ j))=aa (pI (iR m (2 ^ j)) (iR b (2 ^ j)),af):=by
 have h2:=EE hj
 have hx:aL .xor .i64 (b:Int) ((b ^^^ 2 ^ j:Nat):Int)=((2 ^ j:Nat):Int):=by rw[abD (by omega) (by have:=US hb hj;omega),ED]
 have ha:aL .and .i64 ((2 ^ j:Nat):Int) (m:Int)≠0:=by
  rw[N6 (by omega) (by omega)];intro h
  have h:2 ^ j&&& m=0:=by exact_mod_cast h
  have:=av (λx=>x.testBit j) h;simp only[Nat.testBit_and,zr,Tg,Nat.zero_testBit]at this;simp at this
 have ho:M.dL aK (aqQ.wrap ((2 ^ j:Nat):Int))=aa 1:=by rw[Ey,Rz j hj]
 have h0:decide (aL .and .i64 ((2 ^ j:Nat):Int) (m:Int)=0)=ag:=ao ha;unfold M.oG;simp only[hx,ho,h0,aqN,decide_true,arA,aqT,if_false,N7 (show m<9223372036854775808 by omega) (show 2 ^ j<9223372036854775808 by omega),N7 (show b<9223372036854775808 by omega) (show 2 ^ j<9223372036854775808 by omega)]
structure rG(n:Nat)(S:Nat->Prop)(l:PS):Prop where
 ok:nT l
 imp:∀p,In l p->∃m b:Nat,p=pI m b/\tB n S m b
 base:∀x,x<2 ^ n->S x->In l (pI (2 ^ n-1) x)
theorem rG.len{n:Nat}{S:Nat->Prop}{l:PS}(h:rG n S l)(hn:n<=8):l.length<=65536:=by
 have:=h.ok.len (2 ^ n) λp hp=>by
  obtain⟨m,b,e,hi⟩:=h.imp p hp;exact⟨m,b,e,hi.1,hi.lt⟩
 have h8:=vB hn;exact ark this (ark (Nat.mul_le_mul h8 h8) (by omega))
def Cl(n:Nat)(l:PS)(abH:List (Int×Int)):Prop:=
 ∀m b j:Nat,j<n->m.testBit j=af->In l (pI m b)->In l (pI m (b ^^^ 2 ^ j))->pI m b∉abH->pI m (b ^^^ 2 ^ j)∉abH->In l (pI (iR m (2 ^ j)) (iR b (2 ^ j)))
def J4(n:Nat)(S:Nat->Prop)(l:PS):Prop:=nT l/\∀p,In l p↔∃m b:Nat,p=pI m b/\tB n S m b
def J4.J5{n:Nat}{S:Nat->Prop}{l l':PS}(h:J4 n S l)(g:J4 n S l'):l=l':=h.1.ext g.1 λp=>(h.2 p).trans (g.2 p).symm
def rG.done{n:Nat}{S:Nat->Prop}{l:PS}(h:rG n S l)(hc:Cl n l []):J4 n S l:=
 ⟨h.ok,λp=>⟨h.imp p,λ⟨m,b,e,hi⟩=>by
   rw[e]
   exact J3 (In:=λm b=>In l (pI m b)) h.base (λm b j hj hm h1 h2=>hc m b j hj hm h1 h2 (by simp) (by simp)) _ m b rfl hi⟩⟩
def rG.put{n:Nat}{S:Nat->Prop}{l:PS}(h:rG n S l){m b:Nat}(hi:tB n S m b):rG n S (uG aA l (pI m b) af):=
 ⟨h.ok.put _,λp hp=>by
   rcases(EC h.ok).1 hp with rfl|hp
   .grind
   .exact h.imp p hp,λx hx hS=>(EC h.ok).2 (.inr (h.base x hx hS))⟩
structure BQ(n:Nat)(S:Nat->Prop)(L0:Nat)(yM rest:List (Int×Int))(m b:Nat)(j:Nat)(l:PS)(nx:List (Int×Int)):Prop where
 good:rG n S l
 levs:∀p∈yM,In l p
 nxt:∀p∈nx,In l p
 len:l.length=L0+nx.length
 cl:Cl n l (pI m b::rest++nx)
 bits:∀i,i<j->m.testBit i=af->In l (pI m (b ^^^ 2 ^ i))->pI m (b ^^^ 2 ^ i)∉nx->In l (pI (iR m (2 ^ i)) (iR b (2 ^ i)))
def BQ.same{n:Nat}{S:Nat->Prop}{L0:Nat}{yM rest:List (Int×Int)}{m b j:Nat}{l:PS}{nx:List (Int×Int)}(h:BQ n S L0 yM rest m b j l nx)(hb:m.testBit j=af->In l (pI m (b ^^^ 2 ^ j))->In l (pI (iR m (2 ^ j)) (iR b (2 ^ j)))):
 BQ n S L0 yM rest m b (j+1) l nx:=
 ⟨h.good,h.levs,h.nxt,h.len,h.cl,λi hi hm h1 h2=>by
   rcases Nat.lt_succ_iff_lt_or_eq.1 hi with hi|rfl
   .exact h.bits i hi hm h1 h2
   grind⟩
def BQ.add{n:Nat}{S:Nat->Prop}{L0:Nat}{yM rest:List (Int×Int)}{m b j:Nat}{l:PS}{nx:List (Int×Int)}(h:BQ n S L0 yM rest m b j l nx)(hi:tB n S (iR m (2 ^ j)) (iR b (2 ^ j)))(hn:¬In l (pI (iR m (2 ^ j)) (iR b (2 ^ j)))):
 BQ n S L0 yM rest m b (j+1) (uG aA l (pI (iR m (2 ^ j)) (iR b (2 ^ j))) af) (nx++[pI (iR m (2 ^ j)) (iR b (2 ^ j))]):=by
 have hp:∀q,In (uG aA l (pI (iR m (2 ^ j)) (iR b (2 ^ j))) af) q↔q=pI (iR m (2 ^ j)) (iR b (2 ^ j))\/In l q:=λq=>EC h.good.ok
 refine⟨h.good.put hi,λp Iu=>(hp p).2 (.inr (h.levs p Iu)),λp Iu=>(hp p).2 ?_,by rw[UR h.good.ok hn,h.len];simp;omega,λm' b' i mO hm h1 h2 h3 h4=>(hp _).2 ?_,λi mO hm h1 h2=>(hp _).2 ?_⟩
 .rcases arf.1 Iu with h'|h'
  .exact .inr (h.nxt p h')
  grind
 .simp only[List.cons_append,arx,arf,List.not_mem_nil,or_false,not_or]at h3 h4
  rcases(hp _).1 h1 with e|h1
  .grind
  .rcases(hp _).1 h2 with e|h2
   .grind
   .exact .inr (h.cl m' b' i mO hm h1 h2 (by simp only[List.cons_append,arx,arf,not_or];exact⟨h3.1,h3.2.1,h3.2.2.1⟩) (by grind))
 .simp only[arf,ari,not_or]at h2
  rcases Nat.lt_succ_iff_lt_or_eq.1 mO with mO|rfl
  .rcases(hp _).1 h1 with e|h1
   .grind
   .exact .inr (h.bits i mO hm h1 h2.1)
  grind
def BQ.out{n:Nat}{S:Nat->Prop}{L0:Nat}{yM rest:List (Int×Int)}{m b:Nat}{l:PS}{nx:List (Int×Int)}(h:BQ n S L0 yM rest m b n l nx):Cl n l (rest++nx):=by
 intro m' b' i hi hm h1 h2 h3 h4
 have h3':=h3;have h4':=h4
 simp only[arf,not_or]at h3 h4;by_cases e1:pI m' b'=pI m b
 .obtain⟨rfl,rfl⟩:=vA e1;exact h.bits i hi hm h2 h4.2
 .by_cases e2:pI m' (b' ^^^ 2 ^ i)=pI m b
  .obtain⟨rfl,e3⟩:=vA e2
   have e4:b'=b ^^^ 2 ^ i:=by rw[<-e3,UQ]
   subst e4;rw[UP];exact h.bits i hi hm h1 h3.2
  .exact h.cl m' b' i hi hm h1 h2 (by simp only[List.cons_append,arx,not_or];exact⟨e1,h3'⟩) (by grind)
def UT{n:Nat}{S:Nat->Prop}{m b j:Nat}(h:tB n S m b)(g:tB n S m (b ^^^ 2 ^ j)):m.testBit j=af:=by
 cases hb:b.testBit j with
 |true=>exact km.1 h.2.1 j hb
 |false=>exact km.1 g.2.1 j (by grind)
def ah7(n:Nat)(hn:n<=8)(S:Nat->Prop)(l0:PS)(h0:nT l0)(hIn:∀p,In l0 p↔∃x,x<2 ^ n/\S x/\p=pI (2 ^ n-1) x):Wp (M.iy aK (n:Int) l0) (J4 n S):=by
 have h8:=vB hn
 have hg0:rG n S l0:=⟨h0,λp hp=>by
  obtain⟨x,hx,hS,e⟩:=(hIn p).1 hp
  exact⟨_,x,e, .full hx hS⟩,(by grind)⟩
 have hl0:=hg0.len hn;unfold M.iy;refine G1 (λleft acc=>(∀e∈left,e∈l0)/\(∀p∈acc,In l0 p)/\(∀p,In l0 p->p∈acc\/∃e∈left,e.1=p)/\acc.length+left.length<=l0.length) (λr r' h g=>h.J5 g) (λleft acc x hx hI=>?_) (λacc hI=>?_) l0.length aK l0 [] (aqU _) (by unfold aK;omega) ⟨λe he=>he,λp hp=>by simp at hp,λp hp=> .inr ⟨(p,af),(nU h0.tr).1 hp,rfl⟩,by simp⟩
 .obtain⟨h1,h2,h3,h4⟩:=hI
  have hlen:(pY aA left x.1).length<left.length:=by
   unfold pY;refine List.length_filter_lt_length_iff_exists.2 ⟨x,hx,?_⟩;rw[(ox _ _).2 rfl];simp
  have sL:∀e,e∈pY aA left x.1↔e∈left/\e.1≠x.1:=λe=>by
   grind [pY,pf]
  have hx0:In l0 x.1:=(nU h0.tr).2 (by rw[show(x.1,af)=x from Prod.ext rfl (h0.tr x (h1 x hx)).symm];exact h1 x hx)
  grind [Wp.wY]
 .obtain⟨-,h2,h3,h4⟩:=hI
  refine Wp.loop (λs=>rG n S s.1/\(∀p∈s.2,In s.1 p)/\Cl n s.1 s.2/\s.2.length<=s.1.length) (λs=>2*(65536-s.1.length)+(if s.2=[]then 0 else 1)) ⟨hg0,h2,λm b j _ _ hm _ hn _=>absurd ?_ hn,by simpa using h4⟩ (by grind [aK]) λs hs=>?_
  .grind
  .obtain⟨l,yM⟩:=s;obtain⟨hg,ah8,Ln,hle⟩:=hs;dsimp only at hg ah8 Ln hle⊢;have WL:=hg.len hn;refine .dec (λeG=>?_) (λhe=> .some ?_)
   .have M3:yM≠[]:=λe=>by grind
    refine Wp.seq (λj=>rG n S j.1/\(∀p∈j.2,In j.1 p)/\Cl n j.1 j.2/\j.1.length=l.length+j.2.length) ?_ λj hj=> .some ⟨(by grind),?_⟩
    .refine Wp.count (λs=>s.1) yM.length (λk s=>rG n S s.2.1/\(∀p∈yM,In s.2.1 p)/\(∀p∈s.2.2,In s.2.1 p)/\s.2.1.length=l.length+s.2.2.length/\Cl n s.2.1 (yM.drop k++s.2.2)) (by omega) rfl (by grind) λk s hk hs hJ=>?_
     obtain⟨i,l1,nx⟩:=s;obtain⟨g1,g2,g3,g4,g5⟩:=hJ;dsimp only at hs g1 g2 g3 g4 g5⊢;subst hs;refine .dec (λaF=>?_) (λhge=> .some ?_)
     .have aF:k<yM.length:=by omega
      refine Wp.seq (λj=>rG n S j.1/\(∀p∈yM,In j.1 p)/\(∀p∈j.2,In j.1 p)/\j.1.length=l.length+j.2.length/\Cl n j.1 (yM.drop (k+1)++j.2)) (.bind (.idx k rfl aF ?_)) λj hj=> .some ⟨aF,aR (by omega),hj⟩
      obtain⟨m,b,hp,hi⟩:=g1.imp _ (g2 yM[k] (aqS aF));rw[aqZ aF]at g5;rw[hp]at g5⊢;have hm:=hi.1;have hb:=hi.lt
      refine Wp.count (λs=>s.1) n (λj s=>BQ n S l.length yM (yM.drop (k+1)) m b j s.2.1 s.2.2) (by omega) rfl ⟨g1,g2,g3,g4,g5,λi hi=>absurd hi (by omega)⟩ λj s hj hs hB=>?_
      obtain⟨jj,l2,ny⟩:=s;dsimp only at hs hB⊢;subst hs;refine .dec (λXi=>?_) (λhge=> .some ?_)
      .have hj8:j<8:=by omega
       have hx:aL .xor .i64 (b:Int) ((2 ^ j:Nat):Int)=((b ^^^ 2 ^ j:Nat):Int):=abD (by omega) (by have:=EE hj8;omega)
       refine Wp.seq (λq=>BQ n S l.length yM (yM.drop (k+1)) m b (j+1) q.1 q.2) (.be (se (by omega)) ?_) λq hq=> .some ⟨by omega,aR (by omega),hq⟩
       rw[hx];refine .ite (λDz=> .some (hB.same λ_ h=>?_)) (λah9=>?_)
       .rw[show(cy aA l2 (pI m (b ^^^ 2 ^ j))).getD ag=af from h]at Dz;cases Dz
       .have dC:In l2 (pI m (b ^^^ 2 ^ j)):=by simpa[In]using ah9
        obtain⟨m',b',e,mO⟩:=hB.good.imp _ dC;obtain⟨rfl,rfl⟩:=vA e;have Tg:=UT hi mO;have him:=hi.merge mO Tg;refine .be (RA (by omega) (by omega) hj8 Tg) ?_;by_cases Bu:In l2 (pI (iR m (2 ^ j)) (iR b (2 ^ j)))
        .have e:(cy aA l2 (pI (iR m (2 ^ j)) (iR b (2 ^ j)))).getD ag=af:=Bu;simp only[if_true,e,arA,aqN,aqT,if_false];exact .some (hB.same λ_ _=>Bu)
        .have e:(cy aA l2 (pI (iR m (2 ^ j)) (iR b (2 ^ j)))).getD ag=ag:=by simpa[In]using Bu
         simp only[if_true,e,Bool.not_false,aqN];have abJ:=hB.good.len hn;refine .bind (.wY (by have:=hB.len;simp;omega) (.some (hB.add him Bu)))
      .have:j=n:=by omega
       subst this;exact⟨hB.good,hB.levs,hB.nxt,hB.len,hB.out⟩
     .have:k=yM.length:=by omega
      subst this;rw[List.drop_length]at g5;exact⟨g1,g3,g5,g4⟩
    .have h5:=hj.1.len hn;have h6:=hj.2.2.2
     show 2*(65536-j.1.length)+(if j.2=[]then 0 else 1)<2*(65536-l.length)+(if yM=[]then 0 else 1)
     rw[ai M3]
     grind [List.length_pos_iff]
   .have:yM=[]:=(by simp_all)
    subst this;exact hg.done Ln
end L
namespace L
def Iy(n:Nat)(S:Nat->Prop)(m b:Nat):Prop:=tB n S m b/\∀j,j<n->m.testBit j=af->¬tB n S (iR m (2 ^ j)) (iR b (2 ^ j))
theorem vM.irrefl(x:Int×Int):¬vM x x:=by unfold vM;omega
theorem vM.total{x y:Int×Int}(h:¬vM y x)(g:x≠y):vM x y:=by
 grind [vM]
def yl{l m:List (Int×Int)}(h:l.Pairwise vM)(g:m.Pairwise vM)(e:∀p,p∈l↔p∈m):l=m:=by
 have M6:∀{l:List (Int×Int)},l.Pairwise vM->l.Nodup:=λh=>h.imp λg e=>by subst e;exact vM.irrefl _ g
 grind [vM,List.Perm.eq_of_pairwise]
def RC{l:List aA.den}(hl:l.length<4611686018427387904)(hn:l.Nodup):Wp (M.bA aK l) λr=>r.Pairwise vM/\∀p,p∈r↔p∈l:=by
 unfold M.bA CP;rw[aj ⟨abE,hl⟩];refine .some ?_;generalize hg:arz (sN λa b c d=>M.dR aK (a,b) (c,d))=lt
 have aF:∀x y:Int×Int,lt x y=af↔vM x y:=λx y=>by rw[<-hg];exact Ez x y
 have hlf:∀x y:Int×Int,(!lt x y)=af↔¬vM x y:=λx y=>by grind
 have hp:=List.pairwise_mergeSort (le:=λx y:Int×Int=> !lt y x) (λa b c h1 h2=>by
  grind [vM]) (λa b=>by
  grind [vM]) l
 have hm:∀p,p∈l.mergeSort (λx y:Int×Int=> !lt y x)↔p∈l:=λp=>List.mem_mergeSort
 refine⟨?_,hm⟩;have PI:(l.mergeSort (λx y:Int×Int=> !lt y x)).Nodup:=(List.mergeSort_perm l _).symm.nodup hn
 exact(hp.and PI).imp λ⟨h1,h2⟩=>vM.total ((hlf _ _).1 h1) h2
def RD(n:Nat)(S:Nat->Prop)(l:PS)(r:PS×List aA.den):Prop:=r.1=l/\r.2.Pairwise vM/\∀p,p∈r.2↔∃m b:Nat,p=pI m b/\Iy n S m b
def RD.J5{n:Nat}{S:Nat->Prop}{l:PS}{r r':PS×List aA.den}(h:RD n S l r)(g:RD n S l r'):r=r':=
 Prod.ext (h.1.trans g.1.symm) (yl h.2.1 g.2.1 λp=>(h.2.2 p).trans (g.2.2 p).symm)
def LI{m j:Nat}(h:m.testBit j=af):iR m (2 ^ j)≠m:=λe=>by
 grind [dT]
def N8(n:Nat)(hn:n<=8)(S:Nat->Prop)(l:PS)(h:J4 n S l):Wp (M.ki aK (n:Int) l) (RD n S l):=by
 have h8:=vB hn
 have hlen:l.length<=65536:=by
  have:=h.1.len (2 ^ n) λp hp=>by
   obtain⟨m,b,e,hi⟩:=(h.2 p).1 hp;exact⟨m,b,e,hi.1,hi.lt⟩
  exact ark this (ark (Nat.mul_le_mul h8 h8) (by omega))
 unfold M.ki
 refine G1 (λleft acc=>(∀e∈left,e∈l)/\acc.Nodup/\(∀p∈acc,∃m b:Nat,p=pI m b/\Iy n S m b)/\(∀m b:Nat,Iy n S m b->pI m b∈acc\/∃e∈left,e.1=pI m b)/\(∀p∈acc,∀e∈left,e.1≠p)/\acc.length+left.length<=l.length)
  (λr r' h g=>h.J5 g) (λleft acc x hx hI=>?_) (λacc hI=>?_) l.length aK l [] (aqU _) (by unfold aK;omega) ⟨λe he=>he,List.nodup_nil,λp hp=>by simp at hp,λm b hp=> .inr ⟨(pI m b,af),(nU h.1.tr).1 ((h.2 _).2 ⟨m,b,rfl,hp.1⟩),rfl⟩,λp hp=>by simp at hp,by simp⟩
 .obtain⟨h1,h2,h3,h4,h5,h6⟩:=hI
  have abJ:(pY aA left x.1).length<left.length:=by
   unfold pY;refine List.length_filter_lt_length_iff_exists.2 ⟨x,hx,?_⟩;rw[(ox _ _).2 rfl];simp
  have sL:∀e,e∈pY aA left x.1↔e∈left/\e.1≠x.1:=λe=>by
   unfold pY;rw[arK,Bool.not_eq_true',pf]
  have hx0:In l x.1:=(nU h.1.tr).2 (by rw[show(x.1,af)=x from Prod.ext rfl (h.1.tr x (h1 x hx)).symm];exact h1 x hx);obtain⟨m,b,hp,hi⟩:=(h.2 _).1 hx0;have hm:=hi.1;have hb:=hi.lt
  refine Wp.seq (λj=>j=af↔Iy n S m b) ?_ λj hj=>?_
  .refine Wp.count (λs=>s.2) n (λj s=>s.1=af↔∀i,i<j->m.testBit i=af->¬tB n S (iR m (2 ^ i)) (iR b (2 ^ i))) (by omega) rfl ⟨λ_ i hi=>absurd hi (by omega),λ_=>rfl⟩ λj s hj hs hJ=>?_
   obtain⟨v,jj⟩:=s;dsimp only at hs hJ⊢;subst hs;refine .dec (λaF=>?_) (λhge=> .some ?_)
   .have hj8:j<8:=by omega
    have h2j:=EE hj8
    refine Wp.seq (λq=>q=af↔∀i,i<j+1->m.testBit i=af->¬tB n S (iR m (2 ^ i)) (iR b (2 ^ i))) (.be (se (by omega)) (.be (se (by omega)) ?_)) λq hq=> .some ⟨by omega,aR (by omega),hq⟩
    have e1:aL .andNot .i64 x.1.1 ((2 ^ j:Nat):Int)=(iR m (2 ^ j):Nat):=by rw[hp];exact N7 (by omega) (by omega)
    have e2:aL .andNot .i64 x.1.2 ((2 ^ j:Nat):Int)=(iR b (2 ^ j):Nat):=by rw[hp];exact N7 (by omega) (by omega)
    rw[e1,e2,hp];have e3:(cy aA l (pI (iR m (2 ^ j)) (iR b (2 ^ j)))).getD ag=af↔tB n S (iR m (2 ^ j)) (iR b (2 ^ j)):=(h.2 _).trans ⟨λ⟨m',b',e,mO⟩=>by obtain⟨rfl,rfl⟩:=vA e;exact mO,λmO=>⟨_,_,rfl,mO⟩⟩
    have step:∀t:Bool,(t=af↔(m.testBit j=af/\tB n S (iR m (2 ^ j)) (iR b (2 ^ j))))->Wp (if t=af then aa ag else aa v) λq=>q=af↔∀i,i<j+1->m.testBit i=af->¬tB n S (iR m (2 ^ i)) (iR b (2 ^ i)):=λt ht=>by
     refine .ite (λh1=> .some ⟨λh2=>by(cases h2),λh2=>absurd (ht.1 h1).2 (h2 j (by omega) (ht.1 h1).1)⟩) (λh1=> .some (hJ.trans ⟨λh2 i mO=>?_,λh2 i mO=>h2 i (by omega)⟩))
     rcases Nat.lt_succ_iff_lt_or_eq.1 mO with mO|rfl
     .exact h2 i mO
     .exact λh3 h4=>h1 (ht.2 ⟨h3,h4⟩)
    by_cases Tg:m.testBit j=af
    .have e4:mD aA (pI (iR m (2 ^ j)) (iR b (2 ^ j))) (pI m b)=ag:=q8.2 λe=>LI Tg (vA e).1
     refine Wp.seq (λt=>t=af↔(m.testBit j=af/\tB n S (iR m (2 ^ j)) (iR b (2 ^ j)))) ?_ step;rw[show mD aA (((iR m (2 ^ j):Nat):Int),((iR b (2 ^ j):Nat):Int)) (pI m b)=ag from e4];exact .some ⟨λh=>⟨Tg,e3.1 h⟩,λh=>e3.2 h.2⟩
    .have aia:m.testBit j=ag:=by simpa using Tg
     have hbj:b.testBit j=ag:=by
      cases e:b.testBit j with
      |false=>rfl
      |true=>exact absurd (km.1 hi.2.1 j e) Tg
     have e4:mD aA (pI (iR m (2 ^ j)) (iR b (2 ^ j))) (pI m b)=af:=vR.2 (by rw[AI aia,AI hbj]);refine Wp.seq (λt=>t=af↔(m.testBit j=af/\tB n S (iR m (2 ^ j)) (iR b (2 ^ j)))) ?_ step;rw[show mD aA (((iR m (2 ^ j):Nat):Int),((iR b (2 ^ j):Nat):Int)) (pI m b)=af from e4];exact .some ⟨λh=>(by cases h),λh=>absurd h.1 Tg⟩
   .have:j=n:=by omega
    subst this;exact hJ.trans ⟨λh=>⟨hi,h⟩,λh=>h.2⟩
  .have Wb:∀EF:List aA.den,(∀p,p∈EF↔p∈acc\/p=x.1/\j=af)->EF.Nodup->EF.length<=acc.length+1->(∀e∈pY aA left x.1,e∈l)/\EF.Nodup/\(∀p∈EF,∃m b:Nat,p=pI m b/\Iy n S m b)/\(∀m b:Nat,Iy n S m b->pI m b∈EF\/∃e∈pY aA left x.1,e.1=pI m b)/\(∀p∈EF,∀e∈pY aA left x.1,e.1≠p)/\EF.length+(pY aA left x.1).length<=l.length:=λEF hc M6 hl=>by
    refine⟨λe he=>h1 e ((sL e).1 he).1,M6,λp Iu=>?_,λm' b' Iu=>?_,λp Iu e he=>?_,by omega⟩
    .rcases(hc p).1 Iu with Iu|⟨rfl,O1⟩
     .exact h3 p Iu
     .exact⟨m,b,hp,hj.1 O1⟩
    .rcases h4 m' b' Iu with g|⟨e,he,g⟩
     .exact .inl ((hc _).2 (.inl g))
     .by_cases g2:e.1=x.1
      .refine .inl ((hc _).2 (.inr ⟨g.symm.trans g2,hj.2 ?_⟩));obtain⟨rfl,rfl⟩:=vA (g.symm.trans (g2.trans hp));exact Iu
      .exact .inr ⟨e,(sL e).2 ⟨he,g2⟩,g⟩
    .obtain⟨he1,QH⟩:=(sL e).1 he
     rcases(hc p).1 Iu with Iu|⟨rfl,_⟩
     .exact h5 p Iu e he1
     .exact QH
   refine .ite (λO1=> .bind (.wY (by simp;omega) (.some (Wb _ (λp=>by rw[arf,ari];simp[O1]) ?_ (by simp))))) (λhjf=> .some (Wb _ (λp=>by simp[hjf]) h2 (show acc.length<=acc.length+1 by omega)));refine List.nodup_append.2 ⟨h2,by simp,λa ha c hc e=>?_⟩;rw[ari]at hc;exact h5 a ha x hx (by rw[e,hc])
 .obtain⟨-,h2,h3,h4,-,h6⟩:=hI
  refine Wp.seq (λr=>r.Pairwise vM/\∀p,p∈r↔p∈acc) (RC (by show acc.length<_;simp at h6;omega) h2) λr hr=> .some ⟨rfl,hr.1,λp=>(hr.2 p).trans ⟨h3 p,λ⟨m,b,e,hp⟩=>?_⟩⟩
  rcases h4 m b hp with g|⟨e',he,_⟩
  .rw[e];exact g
  .simp at he
end L
namespace L
def LJ(a:Int):Nat:=min a.toNat 8
def J6(a:Int):LJ a<=8:=Nat.min_le_right _ _
def RE(a:Int):M.kh aK a=aa (LJ a:Int):=by
 grind [M.kh,LJ]
def N9(a:Int):M.qD aK a=aa (LJ a:Int):=by
 grind [M.qD,LJ]
def size_eq{n:Nat}(hn:n<=8):M.r9 aK (n:Int)=aa ((2 ^ n:Nat):Int):=by
 unfold M.r9;refine Wp.eq ?_
 refine Wp.count (λs=>s.2) n (λk s=>s.1=((2 ^ k:Nat):Int)) (by omega) rfl rfl λk s hk hs hJ=>?_
 obtain⟨x,kk⟩:=s;dsimp only at hs hJ⊢;subst hs hJ;refine .dec (λh=> .some ⟨by omega,aR (by omega),?_⟩) (λh=> .some ?_)
 .have h1:2 ^ k<=2 ^ 8:=Nat.pow_le_pow_right (by omega) (by omega)
  show aqO.wrap (((2 ^ k:Nat):Int)*2)=((2 ^ (k+1):Nat):Int)
  have e:((2 ^ k:Nat):Int)*2=((2 ^ (k+1):Nat):Int):=by rw[Nat.pow_succ];simp
  rw[e,wrap_i64 (by grind)]
 .have:k=n:=by omega
  subst this;rfl
def wD(l:List Int)(k:Nat):List Bool:=(aq0 k).map λx:Nat=>decide ((x:Int)∈l)
def UW{α:Type}{k x:Nat}{f:Nat->α}(h:x<k):idx ((aq0 k).map f) (x:Int)=aa (f x):=by
 rw[aC (by simpa using h)];simp
def EG{α:Type}{k x:Nat}{f:Nat->α}{Q:α->Prop}(h:x<k)(hq:Q (f x)):Wp (idx ((aq0 k).map f) (x:Int)) Q:=⟨_,UW h,hq⟩
def wE{α:Type}(k:Nat)(f:Nat->α):(((aq0 k).map f).length:Int)=(k:Int):=by simp
def J7{l:List Int}(hl:l.length<=1000000){n:Nat}(hn:n<=8):M.oR aK l (n:Int)=aa (wD l (2 ^ n)):=by
 have h8:=vB hn;unfold M.oR;rw[size_eq hn,aqN];generalize 2 ^ n=K at*;refine Wp.eq (.bind (p7.2 ⟨by omega,?_⟩))
 refine Wp.count (λs=>s.1) l.length (λk s=>s.2=wD (l.take k) K) (by omega) rfl ?_ λk s hk hs hJ=>?_
 .show aqW _ _=_
  unfold wD;apply List.ext_getElem (by simp)
  grind
 .obtain⟨kk,c⟩:=s;dsimp only at hs hJ⊢;subst hs hJ;refine .dec (λh=>?_) (λh=> .some ?_)
  .have aF:k<l.length:=by omega
   have hlen:((wD (l.take k) K).length:Int)=(K:Int):=wE _ _
   have P0:∀y:Int,y∈l.take (k+1)↔y∈l.take k\/y=l[k]:=λy=>by rw[<-ara aF,arf,ari]
   refine Wp.seq (λj=>j=wD (l.take (k+1)) K) ?_ λj hj=> .some ⟨aF,aR (by omega),hj⟩
   refine Wp.seq (λj=>j=af↔0<=l[k]/\l[k]<(K:Int)) (.bind (.idx k rfl aF (.dec (λh0=> .bind (.idx k rfl aF (.some ?_))) (λh0=> .some (by grind))))) λj hj=>?_
   .grind
   refine .ite (λO1=> .bind (.idx k rfl aF ?_)) (λhjf=> .some ?_)
   .obtain⟨x,hx⟩:=aqY (hj.1 O1).1
    have Mz:x<K:=by have:=(hj.1 O1).2;omega
    rw[hx];refine .bind (EG Mz (.some ?_))
    grind [wD,bH,oS]
   .unfold wD
    refine List.map_congr_left λy hy=>decide_eq_decide.2 ?_
    grind
  .have:k=l.length:=by omega
   subst this
   show wD (l.take l.length) K=wD l K
   grind
def RF{m:Nat}(hm:m<256):M.sa aK (m:Int)=aa (nS (m:Int)):=by
 have h:((aq0 256).all λm=>decide (M.sa aK ((m:Nat):Int)=aa (nS ((m:Nat):Int))))=af:=by kernel_rfl
 grind
def UX:∀{m n:Nat},n<=8->m<2 ^ n->∃c:Nat,c<=n/\nS (m:Int)=(c:Int):=by
 intro m n hn hm
 have h:((aq0 9).all λn=>(aq0 (2 ^ n)).all λm=>(aq0 (n+1)).any λc=>decide (nS ((m:Nat):Int)=(c:Int)))=af:=by kernel_rfl
 have h1:=List.all_eq_true.1 (List.all_eq_true.1 h n (List.mem_range.2 (by omega))) m (List.mem_range.2 hm)
 grind
def vC{m b x:Nat}(hm:m<256)(hx:x<256):M.gy aK (pI m b) (x:Int)=aa (decide (x&&& m=b)):=by
 unfold M.gy;rw[N6 (by omega) (by omega)]
 congr 1
 grind
def gU(k:Nat)(mem cov:Nat->Bool)(m b:Nat):Bool:=(aq0 k).any λx=>decide (x&&& m=b)&&mem x&& !cov x
def RG{n:Nat}(hn:n<=8){mem cov:Nat->Bool}{m b:Nat}(hm:m<256):M.qE aK (pI m b) ((aq0 (2 ^ n)).map mem) ((aq0 (2 ^ n)).map cov)=aa (gU (2 ^ n) mem cov m b):=by
 have h8:=vB hn;unfold M.qE;refine Wp.eq ?_
 refine Wp.count (λs=>s) (2 ^ n) (λk _=>∀x,x<k->(decide (x&&& m=b)&&mem x&& !cov x)=ag) (by omega) rfl (λx hx=>absurd hx (by omega)) λk s hk hs hJ=>?_
 subst hs;rw[wE];refine .dec (λh=>?_) (λh=> .some ?_)
 .have aF:k<2 ^ n:=by omega
  refine Wp.seq (λj=>j=(decide (k&&& m=b)&&mem k&& !cov k)) (.be (vC hm (by omega)) (.ite (λh1=> .bind (EG aF (.ite (λh2=> .bind (EG aF (.some ?_))) (λh2=> .some ?_)))) (λh1=> .some ?_))) λj hj=> .ite (λh1=> .some ?_) (λh1=> .some ⟨aF,aR (by omega),λx hx=>?_⟩)
  .grind
  .grind
  .simp[h1]
  .show af=gU _ _ _ _ _
   grind [gU]
  grind
 .show ag=gU _ _ _ _ _
  grind [gU]
noncomputable def RH(n:Nat)(S:Nat->Prop)(m b:Nat):Bool:= @decide (∀x,x<2 ^ n->x&&& m=b->S x) (aro _)
theorem xM{n:Nat}{S:Nat->Prop}{m b:Nat}:RH n S m b=af↔∀x,x<2 ^ n->x&&& m=b->S x:= @decide_eq_true_iff _ (aro _)
def wF{n:Nat}(hn:n<=8){l:List Int}{m b:Nat}(hm:m<256):M.jR aK (pI m b) (wD l (2 ^ n))=aa (RH n (λx=>(x:Int)∈l) m b):=by
 have h8:=vB hn;unfold M.jR;refine Wp.eq ?_
 refine Wp.count (λs=>s) (2 ^ n) (λk _=>∀x:Nat,x<k->x&&& m=b->(x:Int)∈l) (by omega) rfl (λx hx=>absurd hx (by omega)) λk s hk hs hJ=>?_
 subst hs;rw[show((wD l (2 ^ n)).length:Int)=((2 ^ n:Nat):Int)from wE _ _];refine .dec (λh=>?_) (λh=> .some ?_)
 .have aF:k<2 ^ n:=by omega
  refine Wp.seq (λj=>j=af↔k&&& m=b/\¬(k:Int)∈l) (.be (vC hm (by omega)) (.dec (λh1=> .bind (EG aF (.some ?_))) (λh1=> .some (by grind)))) λj hj=> .ite (λh1=> .some ?_) (λh1=> .some ⟨aF,aR (by omega),λx hx he=>?_⟩)
  .grind
  .show ag=RH _ _ _ _
   grind [xM]
  grind
 .have:k=2 ^ n:=by omega
  subst this;exact(xM.2 hJ).symm
theorem G2{n:Nat}{S:Nat->Prop}{m b:Nat}(hm:m<2 ^ n)(hb:b&&& m=b):RH n S m b=af↔tB n S m b:=by
 rw[xM];exact⟨λh=>⟨hm,hb,h⟩,λh=>h.2.2⟩
theorem UY{m b j:Nat}(h:b&&& m=b):iR b (2 ^ j)&&& iR m (2 ^ j)=iR b (2 ^ j):=by
 grind [km,dT]
theorem UZ{m j:Nat}:m&&& 2 ^ j=0↔m.testBit j=ag:=by
 constructor
 .intro h;have:=av (λx=>x.testBit j) h
  grind
 .intro h;apply ar7;grind
def RJ{n:Nat}(hn:n<=8){l:List Int}{m b:Nat}(hm:m<2 ^ n)(hb:b&&& m=b):Wp (M.qF aK (pI m b) (wD l (2 ^ n))) λr=>r=af↔Iy n (λx=>(x:Int)∈l) m b:=by
 have h8:=vB hn;have ZV:b<2 ^ n:=Nat.lt_of_le_of_lt (by rw[<-hb];exact Nat.and_le_right) hm;unfold M.qF;refine .be (wF hn (by omega)) ?_;have hi:=G2 (S:=λx=>(x:Int)∈l) hm hb
 cases hv:RH n (λx=>(x:Int)∈l) m b with
 |false=>
  refine .some ⟨λh=>(by cases h),λh=>?_⟩;rw[hv]at hi;exact absurd (hi.2 h.1) (by simp)
 |true=>
  rw[hv]at hi;have hI:=hi.1 rfl
  refine Wp.ite (λh=>absurd h (by simp)) λ_=>?_
  refine Wp.loop (λs=>∃j:Nat,j<=n/\s=((2 ^ j:Nat):Int)/\∀i,i<j->m.testBit i=af->¬tB n (λx=>(x:Int)∈l) (iR m (2 ^ i)) (iR b (2 ^ i))) (λs=>1000-s.toNat) ⟨0,Nat.zero_le _,rfl,λi hi=>absurd hi (by omega)⟩ (by unfold aK;omega) λs hs=>?_
  obtain⟨j,hj,rfl,hJ⟩:=hs;rw[show((wD l (2 ^ n)).length:Int)=((2 ^ n:Nat):Int)from wE _ _];refine .dec (λh=>?_) (λh=> .some ?_)
  .have aF:2 ^ j<2 ^ n:=by omega
   have Z9:j<n:=(by grind)
   have e0:aL .and .i64 (pI m b).1 ((2 ^ j:Nat):Int)=((m&&& 2 ^ j:Nat):Int):=N6 (by omega) (by omega);have e1:aL .andNot .i64 (pI m b).1 ((2 ^ j:Nat):Int)=(iR m (2 ^ j):Nat):=N7 (by omega) (by omega);have e2:aL .andNot .i64 (pI m b).2 ((2 ^ j:Nat):Int)=(iR b (2 ^ j):Nat):=N7 (by omega) (by omega);have WH:=J2 m (2 ^ j)
   refine Wp.seq (λq=>q=af↔m.testBit j=af/\tB n (λx=>(x:Int)∈l) (iR m (2 ^ j)) (iR b (2 ^ j))) ?_ λq hq=> .ite (λh1=> .some ⟨λh=>(by cases h),λh=>absurd (hq.1 h1).2 (h.2 j Z9 (hq.1 h1).1)⟩) (λh1=> .some ?_)
   .rw[e0,e1,e2];refine .kq (λh1=> .be (wF (m:=iR m (2 ^ j)) (b:=iR b (2 ^ j)) hn (by omega)) (.some ?_)) (λh1=> .some ⟨λh=>(by cases h),λh=>?_⟩)
    all_goals grind [UZ,G2,UY]
   .have e:((2 ^ j:Nat):Int)*2=((2 ^ (j+1):Nat):Int):=by rw[Nat.pow_succ];simp
    have WO:2 ^ (j+1)=2*2 ^ j:=by rw[Nat.pow_succ,arm]
    have hp:=Nat.two_pow_pos j
    show CQ _ _ _ _ (.inl (aqO.wrap (((2 ^ j:Nat):Int)*2)))
    rw[e,wrap_i64 (by omega)];refine⟨⟨j+1,Z9,rfl,λi mO=>?_⟩,by grind⟩
    grind
  .have hge:2 ^ n<=2 ^ j:=by omega
   have:j=n:=by
    have:=(Nat.pow_le_pow_iff_right (a:=2) (by omega)).1 hge;omega
   subst this;exact⟨λ_=>⟨hI,hJ⟩,λ_=>rfl⟩
end L
namespace L
theorem G3(a b:Int):gf az a b=decide (a=b):=rfl
def RL(l:List (Int×Bool))(k:Int)(v:Bool)(x:Int):cy az (rj az l k v) x=if x=k then aa v else cy az l x:=by
 induction l with
 |nil=>
  show(if gf az k x=af then aa v else ae)=if x=k then aa v else ae
  grind [G3]
 |cons p l ih=>
  grind [rj,G3,cy]
theorem Oa{l:List (Int×Bool)}{x:Int}(h:∀p∈l,p.1≠x):cy az l x=ae:=by
 induction l with
 |nil=>rfl
 |cons p l ih=>
  grind [cy,G3]
abbrev DI(l:List (Int×Bool)):Prop:=l.Pairwise λp q=>p.1≠q.1
def U0(l:List (Int×Bool))(k:Int):(sJ az l k).Sublist l:=by
 induction l with
 |nil=>exact .slnil
 |cons p l ih=>
  grind [sJ]
def RM{l:List (Int×Bool)}(hd:DI l)(k x:Int):cy az (sJ az l k) x=if x=k then ae else cy az l x:=by
 induction l with
 |nil=>show ae=if x=k then ae else ae;split<;>rfl
 |cons p l ih=>
  obtain⟨h1,h2⟩:=arb.1 hd;unfold sJ;by_cases h:p.1=k
  .rw[aj (by rw[G3];grind)];by_cases hx:x=k
   .grind [Oa]
   .rw[ai hx]
    show _=if gf az p.1 x=af then aa p.2 else cy az l x
    grind [G3]
  grind [G3,cy]
def DI.put{l:List (Int×Bool)}(hd:DI l)(k:Int)(v:Bool):DI (rj az l k v):=by
 have hm:∀{l:List (Int×Bool)}{q:Int×Bool},q∈rj az l k v->q.1=k\/q∈l:=by
  intro l
  induction l with
  |nil=>intro q hq;exact .inl (by rw[ari.1 hq])
  |cons p l ih=>
   grind [rj,G3]
 induction l with
 |nil=>exact List.pairwise_singleton _ _
 |cons p l ih=>
  obtain⟨h1,h2⟩:=arb.1 hd;unfold rj;split
  .simp_all
  .rename_i e;rw[G3,aw]at e
   grind [arb]
def Bs(m:Nat):List (Nat×Nat):=((aq0 (m+1)).filter λb=>decide (b&&& m=b)).map λb=>(m,b)
noncomputable def Ms(n c:Nat):List (Nat×Nat):=(aq0 (2 ^ n)).flatMap λm:Nat=>if nS (m:Int)=(c:Int)then Bs m else[]
noncomputable def Pt(n:Nat):List (Nat×Nat):=(aq0 (n+1)).flatMap (Ms n)
theorem J8{m:Nat}{p:Nat×Nat}:p∈Bs m↔p.1=m/\p.2&&& p.1=p.2:=by
 unfold Bs;rw[List.mem_map];constructor
 .grind
 grind [Nat.and_le_right]
theorem EH{n c:Nat}{p:Nat×Nat}:p∈Ms n c↔p.1<2 ^ n/\nS (p.1:Int)=(c:Int)/\p.2&&& p.1=p.2:=by
 grind [Ms,J8]
theorem tC{n:Nat}(hn:n<=8){p:Nat×Nat}:p∈Pt n↔p.1<2 ^ n/\p.2&&& p.1=p.2:=by
 unfold Pt;rw[List.mem_flatMap];constructor
 .grind [EH]
 .rintro⟨h1,h3⟩
  obtain⟨c,hc,h2⟩:=UX hn h1;exact⟨c,List.mem_range.2 (by omega),EH.2 ⟨h1,h2,h3⟩⟩
def xN(n:Nat):(Pt n).Pairwise λp q=>vM (pI p.1 p.2) (pI q.1 q.2):=by
 unfold Pt;refine List.pairwise_flatMap.2 ⟨λc _=>?_,List.pairwise_lt_range.imp λ{c d}hcd x hx y hy=>?_⟩
 .unfold Ms;refine List.pairwise_flatMap.2 ⟨λm _=>?_,List.pairwise_lt_range.imp λ{m m'}hm x hx y hy=>?_⟩
  .split
   .unfold Bs;refine List.pairwise_map.2 ((List.pairwise_lt_range.filter _).imp λ{a b}h=>?_);refine .inr ⟨rfl, .inr ⟨rfl,?_⟩⟩
    grind
   .exact .nil
  .split at hx
   .split at hy
    .rename_i h1 h2;obtain⟨e1,_⟩:=J8.1 hx;obtain⟨e2,_⟩:=J8.1 hy;subst e1 e2;refine .inr ⟨h1.trans h2.symm, .inl ?_⟩
     grind
    .simp at hy
   .simp at hx
 .obtain⟨_,h1,_⟩:=EH.1 hx;obtain⟨_,h2,_⟩:=EH.1 hy;refine .inl ?_
  grind
noncomputable def BR(n:Nat)(S:Nat->Prop)(p:Nat×Nat):Bool:= @decide (Iy n S p.1 p.2) (aro _)
theorem rH{n:Nat}{S:Nat->Prop}{p:Nat×Nat}:BR n S p=af↔Iy n S p.1 p.2:= @decide_eq_true_iff _ (aro _)
def gV(k:Nat)(mem:Nat->Bool):(Nat->Bool)->List (Nat×Nat)->List (Int×Int)
 |_,[]=>[]
 |cov,p::l=>if gU k mem cov p.1 p.2=af then pI p.1 p.2::gV k mem (λx=>cov x||decide (x&&& p.1=p.2)) l else gV k mem cov l
theorem mM{k:Nat}{mem cov:Nat->Bool}{p:Nat×Nat}{l:List (Nat×Nat)}:gV k mem cov (p::l)=if gU k mem cov p.1 p.2=af then pI p.1 p.2::gV k mem (λx=>cov x||decide (x&&& p.1=p.2)) l else gV k mem cov l:=rfl
noncomputable def G4(n:Nat)(S:Nat->Prop)(mem:Nat->Bool):List (Int×Int):=gV (2 ^ n) mem (λ_=>ag) ((Pt n).filter (BR n S))
theorem sf{k:Nat}{mem:Nat->Bool}:∀{l:List (Nat×Nat)}{cov cov':Nat->Bool},(∀x,x<k->mem x=af->cov x=cov' x)->gV k mem cov l=gV k mem cov' l
 |[],_,_,_=>rfl
 |p::l,cov,cov',h=>by
  have e:gU k mem cov p.1 p.2=gU k mem cov' p.1 p.2:=by
   unfold gU;rw[art,List.any_eq_true,List.any_eq_true];constructor
   .grind
   .grind
  unfold gV;rw[e,sf (cov:=cov) (cov':=cov') h,sf (cov:=λx=>cov x||decide (x&&& p.1=p.2)) (cov':=λx=>cov' x||decide (x&&& p.1=p.2)) λx hx hm=>by rw[h x hx hm]]
end L
namespace L
def fL(l:List Int)(x:Nat):Bool:=decide ((x:Int)∈l)
def G5{m b x:Nat}(hm:m<256)(hx:x<256):M.ig aK (pI m b) (x:Int)=aa (decide (x&&& m=b)):=by
 unfold M.ig;rw[N6 (by omega) (by omega)]
 congr 1
 grind
def RN{l:List Int}(hl:l.length<=1000000)(a:Int):M.lj aK l a=aa (G4 (LJ a) (λx=>(x:Int)∈l) (fL l)):=by
 have hn:=J6 a;generalize hn0:LJ a=n at hn;have h8:=vB hn;have qe:=Nat.two_pow_pos n;unfold M.lj;rw[RE,aqN,hn0,se (by omega),aqN];refine Wp.eq (Wp.seq (λj=>DI j.1/\(∀x:Nat,x<2 ^ n->((cy az j.1 (x:Int)).getD ag=af↔(x:Int)∈l))/\nT j.2/\∀p,In j.2 p↔∃x:Nat,x<2 ^ n/\(x:Int)∈l/\p=pI (2 ^ n-1) x) ?_ λj hj=>?_)
 .refine Wp.count (λs=>s.1) l.length (λk s=>DI s.2.1/\(∀x:Nat,x<2 ^ n->((cy az s.2.1 (x:Int)).getD ag=af↔(x:Int)∈l.take k))/\nT s.2.2/\∀p,In s.2.2 p↔∃x:Nat,x<2 ^ n/\(x:Int)∈l.take k/\p=pI (2 ^ n-1) x) (by omega) rfl ⟨.nil,λx hx=>by simp[cy], .nil,λp=>by simp[In,cy]⟩ λk s hk hs hJ=>?_
  obtain⟨kk,mis,im⟩:=s;obtain⟨g1,g2,g3,g4⟩:=hJ;dsimp only at hs g1 g2 g3 g4⊢;subst hs;refine .dec (λh=>?_) (λh=> .some ?_)
  .have aF:k<l.length:=by omega
   have P0:∀y:Int,y∈l.take (k+1)↔y∈l.take k\/y=l[k]:=λy=>by rw[<-ara aF,arf,ari]
   refine Wp.seq (λs=>DI s.1/\(∀x:Nat,x<2 ^ n->((cy az s.1 (x:Int)).getD ag=af↔(x:Int)∈l.take (k+1)))/\nT s.2/\∀p,In s.2 p↔∃x:Nat,x<2 ^ n/\(x:Int)∈l.take (k+1)/\p=pI (2 ^ n-1) x) (.bind (.idx k rfl aF ?_)) λj hj=> .some ⟨aF,aR (by omega),hj⟩
   refine Wp.seq (λj=>j=af↔0<=l[k]/\l[k]<((2 ^ n:Nat):Int)) (.dec (λh0=> .some ?_) (λh0=> .some (by grind))) λj hj=> .ite (λO1=> .some ?_) (λhjf=> .some ?_)
   .grind
   .obtain⟨x,hx⟩:=aqY (hj.1 O1).1
    have Mz:x<2 ^ n:=by have:=(hj.1 O1).2;rw[hx]at this;exact_mod_cast this
    have hw:aqO.wrap (((2 ^ n:Nat):Int)-1)=((2 ^ n-1:Nat):Int):=by
     rw[show((2 ^ n:Nat):Int)-1=((2 ^ n-1:Nat):Int) by omega,wrap_i64 (by omega)]
    rw[hw,hx];refine⟨g1.put _ _,λy hy=>?_,g3.put _,λp=>?_⟩
    .show(cy az (rj az mis (x:Int) af) (y:Int)).getD ag=af↔_
     rw[RL,P0,hx]
     grind
    .refine(EC g3 (p:=pI (2 ^ n-1) x)).trans ?_
     grind
   grind
  .have:k=l.length:=by omega
   subst this;rw[List.take_length]at g2 g4;exact⟨g1,g2,g3,g4⟩
 .obtain⟨anN,im⟩:=j;obtain⟨j1,j2,j3,j4⟩:=hj;dsimp only at j1 j2 j3 j4⊢
  refine Wp.seq (J4 n λx=>(x:Int)∈l) (ah7 n hn (λx=>(x:Int)∈l) im j3 j4) λms Nz=>Wp.seq (RD n (λx=>(x:Int)∈l) ms) (N8 n hn _ ms Nz) λr hr=>?_
  obtain⟨ms',pr⟩:=r;obtain⟨-,We,hr3⟩:=hr;dsimp only at We hr3⊢
  have hpr:pr=((Pt n).filter (BR n λx=>(x:Int)∈l)).map λp=>pI p.1 p.2:=by
   refine yl We (List.pairwise_map.2 ((xN n).filter _)) λp=>(hr3 p).trans ?_
   rw[List.mem_map];constructor
   .rintro⟨m,b,rfl,h⟩
    exact⟨(m,b),arK.2 ⟨(tC hn).2 ⟨h.1.1,h.1.2.1⟩,rH.2 h⟩,rfl⟩
   .grind [rH]
  subst hpr;unfold G4
  have hQ:∀p∈(Pt n).filter (BR n λx=>(x:Int)∈l),p.1<2 ^ n:=λp hp=>((tC hn).1 (arK.1 hp).1).1
  have hQl:((Pt n).filter (BR n λx=>(x:Int)∈l)).length<=65536:=by
   have:=ur (A:=((Pt n).filter (BR n λx=>(x:Int)∈l)).map λp=>p.1*256+p.2) (B:=aq0 65536) ?_ λx hx=>?_
   .grind
   .rw[List.Nodup,List.pairwise_map];refine List.Pairwise.imp_of_mem (λ{p q}hp hq aF e=>?_) ((xN n).filter _);have h1:=(tC hn).1 (arK.1 hp).1;have h2:=(tC hn).1 (arK.1 hq).1
    have h3:p.2<=p.1:=by rw[<-h1.2];exact Nat.and_le_right
    have h4:q.2<=q.1:=by rw[<-h2.2];exact Nat.and_le_right
    have h5:p.1=q.1/\p.2=q.2:=by omega
    grind [vM.irrefl]
   .grind [tC,Nat.and_le_right]
  generalize(Pt n).filter (BR n λx=>(x:Int)∈l)=Q at hQ hQl⊢
  refine Wp.count (λs=>s.1) Q.length (λk s=>∃cov:Nat->Bool,DI s.2.1/\(∀x:Nat,x<2 ^ n->(cy az s.2.1 (x:Int)).getD ag=(fL l x&& !cov x))/\s.2.2++gV (2 ^ n) (fL l) cov (Q.drop k)=gV (2 ^ n) (fL l) (λ_=>ag) Q/\s.2.2.length<=k) (by omega) rfl ⟨λ_=>ag,j1,λx hx=>by grind [fL],rfl,aqU _⟩ λk s hk hs hJ=>?_
  obtain⟨kk,mis,res⟩:=s;obtain⟨cov,g1,g2,g3,g4⟩:=hJ;dsimp only at hs g1 g2 g3 g4⊢;subst hs;rw[List.length_map];refine .dec (λh=>?_) (λh=> .some ?_)
  .have aF:k<Q.length:=by omega
   have hm:=hQ _ (aqS aF);rw[aqZ aF]at g3
   refine Wp.seq (λs=>∃cov:Nat->Bool,DI s.1/\(∀x:Nat,x<2 ^ n->(cy az s.1 (x:Int)).getD ag=(fL l x&& !cov x))/\s.2++gV (2 ^ n) (fL l) cov (Q.drop (k+1))=gV (2 ^ n) (fL l) (λ_=>ag) Q/\s.2.length<=k+1) ?_ λj hj=> .some ⟨aF,aR (by omega),hj⟩
   refine Wp.seq (λs=>∃cov:Nat->Bool,DI s.1/\(∀x:Nat,x<2 ^ n->(cy az s.1 (x:Int)).getD ag=(fL l x&& !cov x))/\s.2++gV (2 ^ n) (fL l) cov (Q.drop (k+1))=gV (2 ^ n) (fL l) (λ_=>ag) Q/\s.2.length<=k+1) (.bind (.idx k rfl (by simpa using aF) ?_)) λj hj=> .some hj
   rw[List.getElem_map];generalize hp:Q[k]=p at hm g3
   refine Wp.seq (λs=>DI s.2/\(∀x:Nat,x<2 ^ n->(cy az s.2 (x:Int)).getD ag=(fL l x&& !(cov x||decide (x&&& p.1=p.2))))/\s.1=gU (2 ^ n) (fL l) cov p.1 p.2) ?_ λt ht=>?_
   .refine Wp.count (λs=>s.2.1) (2 ^ n) (λj s=>DI s.2.2/\(∀x:Nat,x<2 ^ n->(cy az s.2.2 (x:Int)).getD ag=(fL l x&& !(cov x||(decide (x<j)&&decide (x&&& p.1=p.2)))))/\(s.1=af↔∃x,x<j/\(decide (x&&& p.1=p.2)&&fL l x&& !cov x)=af)) (by omega) rfl (by grind) λj s hj hs hJ=>?_
    obtain⟨u,jj,mi⟩:=s;obtain⟨f1,f2,f3⟩:=hJ;dsimp only at hs f1 f2 f3⊢;subst hs;refine .dec (λh=>?_) (λh=> .some ?_)
    .have Ji:j<2 ^ n:=by omega
     have abL:=f2 j Ji
     have hjj:decide (j<j)=ag:=by simp
     rw[hjj,Bool.false_and,Bool.or_false]at abL
     refine Wp.seq (λs=>DI s.2/\(∀x:Nat,x<2 ^ n->(cy az s.2 (x:Int)).getD ag=(fL l x&& !(cov x||(decide (x<j+1)&&decide (x&&& p.1=p.2)))))/\(s.1=af↔∃x,x<j+1/\(decide (x&&& p.1=p.2)&&fL l x&& !cov x)=af)) ?_ λq hq=> .some ⟨Ji,aR (by omega),hq⟩
     refine Wp.seq (λt=>t=(decide (j&&& p.1=p.2)&&fL l j&& !cov j)) ?_ λt ht=>?_
     .refine .ite (λh1=> .be (G5 (by omega) (by omega)) (.some ?_)) (λh1=> .some ?_)
      all_goals grind
     .subst ht
      have hex:(∃x,x<j+1/\(decide (x&&& p.1=p.2)&&fL l x&& !cov x)=af)↔(∃x,x<j/\(decide (x&&& p.1=p.2)&&fL l x&& !cov x)=af)\/(decide (j&&& p.1=p.2)&&fL l j&& !cov j)=af:=by
       constructor
       .grind
       .rintro(⟨x,h1,h2⟩|h)
        all_goals grind
      refine .ite (λht=> .some ⟨List.Pairwise.sublist (U0 _ _) f1,λx hx=>?_,⟨λ_=>hex.2 (.inr ht),λ_=>rfl⟩⟩) (λht=> .some ⟨f1,λx hx=>?_,(by simp_all)⟩)
      .show(cy az (sJ az mi (j:Int)) (x:Int)).getD ag=_
       rw[RM f1];by_cases e:x=j
       .grind
       .have e1:¬(x:Int)=j:=λg=>e (by grind)
        rw[ai e1,f2 x hx];have:decide (x<j+1)=decide (x<j):=decide_eq_decide.2 (by omega);rw[this]
      .show(cy az mi (x:Int)).getD ag=_
       rw[f2 x hx];by_cases e:x=j
       .subst e
        cases h1:decide (x&&& p.1=p.2)<;>cases h2:fL l x<;>cases h3:cov x<;>simp_all
       .have:decide (x<j+1)=decide (x<j):=decide_eq_decide.2 (by omega);rw[this]
    .have:j=2 ^ n:=by omega
     subst this;refine⟨f1,(by simp_all),?_⟩;unfold gU;rw[art,f3,List.any_eq_true]
     grind
   .obtain⟨f1,f2,f3⟩:=ht;rw[mM,<-f3]at g3;refine .ite (λh1=> .bind (.wY (by simp;omega) (.some ⟨λx=>cov x||decide (x&&& p.1=p.2),f1,f2,?_,by simp;omega⟩))) (λh1=> .some ⟨λx=>cov x||decide (x&&& p.1=p.2),f1,f2,?_,by grind⟩)
    .grind
    .rw[ai h1]at g3;rw[<-g3]
     congr 1
     grind [sf,gU]
  .have:k=Q.length:=by omega
   subst this;rw[List.drop_length]at g3
   show res=_
   rw[<-g3];simp[gV]
end L
namespace L
def Tr(n:Nat)(l:List Int)(Q:List (Nat×Nat))(s s':(Nat->Bool)×List (Int×Int)):Prop:=
 ∀R:List (Nat×Nat),s.2++gV (2 ^ n) (fL l) s.1 ((Q++R).filter (BR n λx=>(x:Int)∈l))=s'.2++gV (2 ^ n) (fL l) s'.1 (R.filter (BR n λx=>(x:Int)∈l))
theorem Tr.nil{n:Nat}{l:List Int}(s:(Nat->Bool)×List (Int×Int)):Tr n l [] s s:=λ_=>rfl
def Tr.trans{n:Nat}{l:List Int}{Q Q':List (Nat×Nat)}{s s' s'':(Nat->Bool)×List (Int×Int)}(h:Tr n l Q s s')(g:Tr n l Q' s' s''):Tr n l (Q++Q') s s'':=λR=>by
 rw[arQ,h,g]
theorem Tr.skip{n:Nat}{l:List Int}{p:Nat×Nat}{s:(Nat->Bool)×List (Int×Int)}(h:gU (2 ^ n) (fL l) s.1 p.1 p.2=ag\/¬Iy n (λx=>(x:Int)∈l) p.1 p.2):Tr n l [p] s s:=λR=>by
 grind [mM,rH]
def Tr.take{n:Nat}{l:List Int}{p:Nat×Nat}{s:(Nat->Bool)×List (Int×Int)}(h:gU (2 ^ n) (fL l) s.1 p.1 p.2=af)(hp:Iy n (λx=>(x:Int)∈l) p.1 p.2):Tr n l [p] s (λx=>s.1 x||decide (x&&& p.1=p.2),s.2++[pI p.1 p.2]):=λR=>by
 grind [rH,mM]
def uv{α:Type}(f:Nat->List α)(k:Nat):(aq0 (k+1)).flatMap f=(aq0 k).flatMap f++f k:=by
 rw[List.range_succ,List.flatMap_append];simp
def yN(m k:Nat):((aq0 (k+1)).filter λb=>decide (b&&& m=b)).map (λb=>(m,b))=((aq0 k).filter λb=>decide (b&&& m=b)).map (λb=>(m,b))++(if k&&& m=k then[(m,k)]else[]):=by
 grind [nN]
def U1{l:List Int}(hl:l.length<=1000000)(a:Int):M.nM aK l a=aa (G4 (LJ a) (λx=>(x:Int)∈l) (fL l)):=by
 have hn:=J6 a;generalize hn0:LJ a=n at hn;have h8:=vB hn;have qe:=Nat.two_pow_pos n;unfold M.nM;rw[N9,aqN,hn0,J7 hl hn,aqN];have hlen:((wD l (2 ^ n)).length:Int)=((2 ^ n:Nat):Int):=wE _ _;rw[hlen]
 have xi:aqW (((2 ^ n:Nat):Int)).toNat ag=(aq0 (2 ^ n)).map λ_=>ag:=by
  rw[aqX];apply List.ext_getElem (by simp);intro i h1 h2;simp
 refine Wp.eq (.bind (p7.2 ⟨by grind,?_⟩));rw[xi]
 refine Wp.count (λs=>s.1) (n+1) (λc s=>∃cov:Nat->Bool,s.2.1=(aq0 (2 ^ n)).map cov/\Tr n l ((aq0 c).flatMap (Ms n)) (λ_=>ag,[]) (cov,s.2.2)/\s.2.2.length<=c*65536) (by omega) rfl ⟨λ_=>ag,rfl,Tr.nil _,Nat.zero_le _⟩ λc s hc hs hJ=>?_
 obtain⟨cc,abM,res⟩:=s;obtain⟨cov,rfl,hT,hrl⟩:=hJ;dsimp only at hs hT hrl⊢;subst hs;refine .dec (λh=>?_) (λh=> .some ?_)
 .have hcn:c<=n:=by omega
  refine Wp.seq (λj=>∃cov':Nat->Bool,j.1=(aq0 (2 ^ n)).map cov'/\Tr n l (Ms n c) (cov,res) (cov',j.2)/\j.2.length<=c*65536+65536) ?_ λj hj=>?_
  .refine Wp.count (λs=>s.1) (2 ^ n) (λm s=>∃cov':Nat->Bool,s.2.1=(aq0 (2 ^ n)).map cov'/\Tr n l ((aq0 m).flatMap λm:Nat=>if nS (m:Int)=(c:Int)then Bs m else[]) (cov,res) (cov',s.2.2)/\s.2.2.length<=c*65536+m*256) (by omega) rfl ⟨cov,rfl,Tr.nil _,ark hrl (by omega)⟩ λm s hm hs hJ=>?_
   obtain⟨mm,abM,rs⟩:=s;obtain⟨cv,rfl,hT2,RO⟩:=hJ;dsimp only at hs hT2 RO⊢;subst hs;refine .dec (λh=>?_) (λh=> .some ?_)
   .have Tc:m<2 ^ n:=by exact_mod_cast h
    refine Wp.seq (λj=>∃cov':Nat->Bool,j.1=(aq0 (2 ^ n)).map cov'/\Tr n l (if nS (m:Int)=(c:Int)then Bs m else[]) (cv,rs) (cov',j.2)/\j.2.length<=c*65536+m*256+256) ?_ λj hj=>?_
    .refine Wp.seq (λj=>∃cov':Nat->Bool,j.1=(aq0 (2 ^ n)).map cov'/\Tr n l (if nS (m:Int)=(c:Int)then Bs m else[]) (cv,rs) (cov',j.2)/\j.2.length<=c*65536+m*256+256) (.be (RF (by omega)) ?_) λj hj=> .some hj
     refine .kq (λh1=> .some ⟨cv,rfl,by rw[ai h1];exact Tr.nil _,ark RO (by omega)⟩) (λh1=>?_);rw[aj h1]
     refine Wp.count (λs=>s.1) (m+1) (λb s=>∃cov':Nat->Bool,s.2.1=(aq0 (2 ^ n)).map cov'/\Tr n l (((aq0 b).filter λb=>decide (b&&& m=b)).map λb=>(m,b)) (cv,rs) (cov',s.2.2)/\s.2.2.length<=c*65536+m*256+b) (by omega) rfl ⟨cv,rfl,Tr.nil _,ark RO (by omega)⟩ λb s hb hs hJ=>?_
     obtain⟨bb,abM,rt⟩:=s;obtain⟨cw,rfl,hT3,abO⟩:=hJ;dsimp only at hs hT3 abO⊢;subst hs;refine .dec (λh=>?_) (λh=> .some ?_)
     .have NW:b<=m:=by omega
      refine Wp.seq (λj=>∃cov':Nat->Bool,j.1=(aq0 (2 ^ n)).map cov'/\Tr n l (((aq0 (b+1)).filter λb=>decide (b&&& m=b)).map λb=>(m,b)) (cv,rs) (cov',j.2)/\j.2.length<=c*65536+m*256+(b+1)) ?_ λj hj=> .some ⟨by omega,aR (by omega),hj⟩
      refine Wp.seq (λj=>∃cov':Nat->Bool,j.1=(aq0 (2 ^ n)).map cov'/\Tr n l (((aq0 (b+1)).filter λb=>decide (b&&& m=b)).map λb=>(m,b)) (cv,rs) (cov',j.2)/\j.2.length<=c*65536+m*256+(b+1)) ?_ λj hj=> .some hj
      rw[N6 (show b<9223372036854775808 by omega) (show m<9223372036854775808 by omega),yN]
      have aj5:(b&&& m=b->gU (2 ^ n) (fL l) cw m b=ag\/¬Iy n (λx=>(x:Int)∈l) m b)->Tr n l (((aq0 b).filter λb=>decide (b&&& m=b)).map (λb=>(m,b))++(if b&&& m=b then[(m,b)]else[])) (cv,rs) (cw,rt):=λh=>by
       refine hT3.trans ?_
       grind [Tr.skip,Tr.nil]
      refine Wp.seq (λj=>j=af↔(b&&& m=b->gU (2 ^ n) (fL l) cw m b=ag\/¬Iy n (λx=>(x:Int)∈l) m b)) ?_ λj hj=>?_
      .refine .kq (λh2=> .some (by grind)) (λh2=> .be (RG hn (by omega)) ?_)
       have h2:b&&& m=b:=by exact_mod_cast h2
       cases hf:gU (2 ^ n) (λx=>decide ((x:Int)∈l)) cw m b with
       |false=>exact .ite (λ_=> .some ⟨λ_ _=> .inl hf,λ_=>rfl⟩) (λh=>absurd rfl h)
       |true=>
        refine .ite (λh=>absurd h (by simp)) (λ_=>Wp.seq (λr=>r=af↔Iy n (λx=>(x:Int)∈l) m b) (RJ hn Tc h2) λr hr=> .some ?_)
        grind [gU,fL]
      .refine .ite (λO1=> .some (by grind)) (λhjf=>?_)
       have N2:=λh=>hjf (hj.2 h)
       have h2:b&&& m=b:=(by grind)
       have DA:gU (2 ^ n) (fL l) cw m b=af:=by
        cases e:gU (2 ^ n) (fL l) cw m b with
        |true=>rfl
        |false=>grind
       have MT:Iy n (λx=>(x:Int)∈l) m b:=(by grind)
       refine Wp.seq (λj=>j=(aq0 (2 ^ n)).map λx=>cw x||decide (x&&& m=b)) ?_ λj hj=>?_
       .refine Wp.count (λs=>s.1) (2 ^ n) (λk s=>s.2=(aq0 (2 ^ n)).map λx=>cw x||(decide (x<k)&&decide (x&&& m=b))) (by omega) rfl (by simp) λk s hk hs hJ=>?_
        obtain⟨kk,cc⟩:=s;dsimp only at hs hJ⊢;subst hs hJ;refine .dec (λh=>?_) (λh=> .some ?_)
        .have Ti:k<2 ^ n:=by exact_mod_cast h
         have BP:∀v:Bool,v=(cw k||decide (k&&& m=b))->bH ((aq0 (2 ^ n)).map λx=>cw x||(decide (x<k)&&decide (x&&& m=b))) (k:Int) v=(aq0 (2 ^ n)).map λx=>cw x||(decide (x<k+1)&&decide (x&&& m=b)):=λv hv=>by
          unfold bH;rw[aqX,oS]
          grind
         refine Wp.seq (λj=>j=(aq0 (2 ^ n)).map λx=>cw x||(decide (x<k+1)&&decide (x&&& m=b))) (.bind (EG Ti ?_)) λj hj=> .some ⟨Ti,aR (by omega),hj⟩
         refine .ite (λh1=> .bind (EG Ti (.some (BP _ ?_)))) (λh1=> .be (vC (by omega) (by omega)) (.bind (EG Ti (.some (BP _ ?_)))))
         all_goals grind
        .have:k=2 ^ n:=by have:¬k<2 ^ n:=λg=>h (by grind);omega
         subst this
         refine List.map_congr_left λx hx=>?_
         grind
       .refine .bind (.wY (by grind) (.some ⟨_,hj,?_,by simp;omega⟩));refine hT3.trans ?_;rw[aj h2];exact Tr.take (s:=(cw,rt)) DA MT
     .have:b=m+1:=by omega
      subst this;exact⟨cw,rfl,hT3,ark abO (by omega)⟩
    .obtain⟨cov',h1,h2,h3⟩:=hj;refine .some ⟨Tc,aR (by omega),cov',h1,?_,ark h3 (by omega)⟩;rw[uv];exact hT2.trans h2
   .have:m=2 ^ n:=by have:¬m<2 ^ n:=λg=>h (by grind);omega
    subst this;have:2 ^ n*256<=256*256:=aq4 _ h8;exact⟨cv,rfl,hT2,ark RO (by omega)⟩
  .obtain⟨cov',h1,h2,h3⟩:=hj;refine .some ⟨by omega,aR (by omega),cov',h1,?_,ark h3 (by omega)⟩;rw[uv];exact hT.trans h2
 .have:c=n+1:=by omega
  subst this;have:=hT [];simp only[List.append_nil,List.nil_append,List.filter_nil,gV]at this
  show res=_
  rw[<-this];rfl
end L
namespace L
abbrev AK:Type:=aM.den
abbrev EI:Type:=aU.den
def RP(x:Int)(r:AK):Bool:=decide (aL .and .i64 x r.1.1=r.1.2)
def rI(x:Int):List AK->Int×Bool
 |[]=>(0,ag)
 |r::l=>if RP x r=af then(r.2,af)else rI x l
def Ob{x:Int}{r:AK}{l:List AK}:rI x (r::l)=if RP x r=af then(r.2,af)else rI x l:=rfl
def abP(r:AK)(x:Int):M.ig aK r.1 x=aa (RP x r):=rfl
def abQ(r:AK)(x:Int):M.gy aK r.1 x=aa (RP x r):=rfl
def RQ(t:EI)(x:Int)(hl:t.2.2.2.length<=9223372036854775807):M.jb aK t x=aa (rI x t.2.2.2):=by
 unfold M.jb;refine Wp.eq (Wp.count (λs=>s) t.2.2.2.length (λk _=>rI x t.2.2.2=rI x (t.2.2.2.drop k)) hl rfl rfl λk s hk hs hJ=>?_);subst hs;refine .dec (λh=>?_) (λh=> .some ?_)
 .have aF:k<t.2.2.2.length:=by omega
  rw[aqZ aF]at hJ;refine .bind (.idx k rfl aF (.be (abP _ x) (.ite (λh1=> .some ?_) (λh1=> .some ⟨aF,aR (by omega),?_⟩))))
  .show _=rI x _
   rw[hJ];unfold rI;rw[aj h1]
  grind [rI]
 .have:k=t.2.2.2.length:=by omega
  subst this
  show _=rI x _
  rw[hJ,List.drop_length];rfl
def U2(t:EI)(x:Int)(hl:t.2.2.2.length<=9223372036854775807):M.lY aK t x=aa (rI x t.2.2.2):=by
 unfold M.lY;refine Wp.eq (Wp.count (λs=>s) t.2.2.2.length (λk _=>rI x t.2.2.2=rI x (t.2.2.2.drop k)) hl rfl rfl λk s hk hs hJ=>?_);subst hs;refine .dec (λh=>?_) (λh=> .some ?_)
 .have aF:k<t.2.2.2.length:=by omega
  rw[aqZ aF]at hJ;refine .bind (.idx k rfl aF (.be (abQ _ x) (.ite (λh1=> .bind (.idx k rfl aF (.some ?_))) (λh1=> .some ⟨aF,aR (by omega),?_⟩))))
  .show _=rI x _
   rw[hJ];unfold rI;rw[aj h1]
  grind [rI]
 .have:k=t.2.2.2.length:=by omega
  subst this
  show _=rI x _
  rw[hJ,List.drop_length];rfl
end L
namespace L
end L
namespace L
def Wf(r:Ty)(d:Int):Prop:=VR r/\(r.1:Int)<=d/\d<(r.2:Int)
instance(r:Ty)(d:Int):Decidable (Wf r d):=by unfold Wf;infer_instance
theorem Yq(r:Ty)(d:Int):M.cH aK r d=aa (decide (Wf r d)):=by
 obtain⟨(r1:Int),(r2:Int)⟩:=r;apply Wp.eq;unfold M.cH;simp only[JW,W_,aq,au,reduceCtorEq];unfold Wf
 grind
def AL{α:Type}{l:List α}{i:Int}(h0:0<=i)(h1:i<(l.length:Int)):∃x,idx l i=aa x/\x∈l:=by
 obtain⟨k,rfl⟩:=aqY h0
 have hk:k<l.length:=by omega
 exact⟨_,aC hk,aqS hk⟩
def cQ{α:Type}(l:List α)(i:Int)(y:α):(bH l i y).length=l.length:=by unfold bH;simp
def ids(P:Nat->Bool)(k:Nat):List Int:=((aq0 k).filter P).map λi:Nat=>(i:Int)
theorem p9(P:Nat->Bool)(k:Nat):ids P (k+1)=ids P k++(if P k=af then[(k:Int)]else[]):=by
 unfold ids;rw[List.range_succ,List.filter_append,List.map_append]
 grind
theorem wG{P:Nat->Bool}{k:Nat}{j:Int}:j∈ids P k↔∃i:Nat,i<k/\P i=af/\j=(i:Int):=by
 grind [ids]
def qM(P:Nat->Bool)(k:Nat):(ids P k).length<=k:=by
 grind [ids]
def ix(l:List Int)(n:Int):Int:=gT (λx=>decide (x=n)) l
theorem Yr{l:List Int}{n:Int}:0<=ix l n↔n∈l:=by
 grind [ix,pc]
def G6(P:Nat->Bool)(n:Nat):∀m,∃t,ids P (n+m)=ids P n++t
 |0=>⟨[],by simp⟩
 |m+1=>by
  obtain⟨t,ht⟩:=G6 P n m
  grind [p9]
theorem Ys{P:Nat->Bool}{n k:Nat}(hk:k<n)(h:P k=af):ix (ids P n) (k:Int)=((ids P k).length:Int):=by
 obtain⟨t,ht⟩:=G6 P (k+1) (n-(k+1));rw[show k+1+(n-(k+1))=n by omega,p9,aj h,arQ]at ht;unfold ix
 refine zp (k:=(ids P k).length) (by rw[ht];simp) ?_ λj hj TO=>?_
 .grind
 grind [wG,aqS]
def J9(rules:List kr)(L:List Int):Nat->Nat->Int
 |0,_=> -1
 |f+1,i=>match rules[i]? with
  |none=> -1
  |some r=>if 0<=(r.2.2.1:Int)/\(r.2.2.1:Int)<(i:Int)then(if 0<=ix L r.2.2.1 then ix L r.2.2.1 else J9 rules L f (r.2.2.1:Int).toNat)else-1
def C4(rules:List kr)(L:List Int):∀f f' i,i<f->i<f'->J9 rules L f i=J9 rules L f' i
 |0,_,_,h,_=>absurd h (Nat.not_lt_zero _)
 |_+1,0,_,_,h=>absurd h (Nat.not_lt_zero _)
 |f+1,f'+1,i,h,h'=>by
  unfold J9
  cases rules[i]? with
  |none=>rfl
  |some r=>
   dsimp only
   obtain⟨(p:Int),Yt⟩:∃p:Int,p=r.2.2.1:=⟨_,rfl⟩
   simp only[<-Yt];by_cases hp:0<=p/\p<(i:Int)
   .rw[aj hp,aj hp];by_cases h0:0<=ix L p
    .grind
    .rw[ai h0,ai h0];exact C4 rules L f f' _ (by omega) (by omega)
   grind
def xO(rules:List kr)(L:List Int)(i:Nat):Int:=J9 rules L (i+1) i
def LK{rules:List kr}{L:List Int}{i:Nat}(hi:i<rules.length):xO rules L i=if 0<=(rules[i].2.2.1:Int)/\(rules[i].2.2.1:Int)<(i:Int)then(if 0<=ix L rules[i].2.2.1 then ix L rules[i].2.2.1 else xO rules L (rules[i].2.2.1:Int).toNat)else-1:=by
 show J9 rules L (i+1) i=_
 unfold J9;rw[aqR hi];dsimp only
 obtain⟨(p:Int),Yt⟩:∃p:Int,p=rules[i].2.2.1:=⟨_,rfl⟩
 simp only[<-Yt];by_cases hp:0<=p/\p<(i:Int)
 .rw[aj hp,aj hp];by_cases h0:0<=ix L p
  .grind
  .rw[ai h0,ai h0];exact C4 rules L _ _ _ (by omega) (by omega)
 grind
def RT(r:Ty)(d:Int):M.gQ aK r d=aa (decide (Wf r d)):=by
 obtain⟨(r1:Int),(r2:Int)⟩:=r;apply Wp.eq;unfold M.gQ;simp only[Ls,W_,aq,au,reduceCtorEq];unfold Wf
 grind
def Ka(l:List Int)(n:Int)(hl:l.length<=100000):M.qC aK l n=aa (ix l n):=by
 unfold M.qC ix;refine wz (by unfold maxLen;omega) (λk h=>?_) ?_
 .grind [aC]
 grind
def G7(x:jm)(L:List Int)(hL:L.length<=100000)(i:Nat)(hi:i<x.2.2.2.2.length)(mO:i<=100000):M.pK aK x L (i:Int)=aa (xO x.2.2.2.2 L i):=by
 obtain⟨rules,hr⟩:∃r:List kr,r=x.2.2.2.2:=⟨_,rfl⟩
 apply Wp.eq;unfold M.pK;rw[<-hr]at hi⊢;rw[aC hi,aqN];refine Wp.loop (λs=>∃j:Nat,∃hj:j<rules.length,s=((j:Int),rules[j].2.2.1)/\xO rules L i=xO rules L j/\j<=i) (λs=>s.1.toNat) ⟨i,hi,rfl,rfl,aqU _⟩ (by unfold aK;grind) ?_
 rintro s ⟨j,hj,rfl,hp,hji⟩
 dsimp only
 obtain⟨(p:Int),Yt⟩:∃p:Int,p=rules[j].2.2.1:=⟨_,rfl⟩
 rw[hp,LK hj,<-Yt]
 refine Wp.seq (λb=>b=decide (0<=p/\p<(j:Int))) ?_ λb hb=>?_
 .refine Wp.dec (λh=> .some ?_) λh=> .some ?_
  all_goals grind
 .subst hb
  refine Wp.dec (λh=>?_) λh=> .some ?_
  .rw[aj h,Ka _ _ hL,aqN]
   refine Wp.dec (λg=> .some ?_) λg=>?_
   .show ix L p=_
    rw[aj g]
   .obtain⟨q,rfl⟩:=aqY h.1
    have hq:q<j:=by omega
    have Kb:q<rules.length:=by omega
    rw[aC Kb,aqN];refine .some ⟨⟨q,Kb,rfl,?_,by omega⟩,by grind⟩
    grind
  .show(-1:Int)=_
   rw[ai h]
def kp(rules:List kr)(Pr:kr->Bool)(i:Nat):Bool:=match rules[i]? with
 |some r=>Pr r
 |none=>ag
def RV{rules:List kr}{Pr:kr->Bool}{i:Nat}(h:i<rules.length):kp rules Pr i=Pr rules[i]:=by
 grind [kp]
def EJ(a d:Int)(r:kr):Bool:=decide ((r.2.1:Int)=a/\Wf r.2.2.2.2.1 d)
def fM(rules:List kr)(a d:Int):List Int:=ids (kp rules (EJ a d)) rules.length
theorem Yu{r:kr}{a d:Int}{β:Type}{k:Bool->Option β}:(((if(decide (r.2.1=a))=af then(aa (decide (Wf r.2.2.2.2.1 d)):Option Bool)else aa ag):Option Bool).bind k)=k (EJ a d r):=by
 grind [EJ]
def abR(a d:Int)(r:kr):M.gm aK r a d=aa (EJ a d r,a,d):=by
 grind [M.gm,Yq,Yu]
def lZ(P:Nat->Bool)(n:Nat):List Nat:=(aq0 n).filter P
def C5(P:Nat->Bool)(k:Nat):lZ P (k+1)=lZ P k++(if P k=af then[k]else[]):=nN k P
def G8(P:Nat->Bool)(k:Nat):(lZ P k).length=(ids P k).length:=by unfold ids lZ;simp
def ed(rules:List kr)(a d:Int):List Int:=(lZ (kp rules (EJ a d)) rules.length).map (xO rules (fM rules a d))
def fE(rules:List kr)(a d:Int):List Int:=(lZ (kp rules (EJ a d)) rules.length).map λi=>match rules[i]? with
 |some r=>r.2.2.2.1
 |none=>0
def RW{rules:List kr}{a d:Int}(hl:rules.length<=100000):M.gn aK rules a d=aa (a,d,fM rules a d,ed rules a d):=by
 unfold M.gn;refine Wp.eq (wp_bind.2 (p7.2 ⟨by omega,?_⟩));rw[aqX]
 obtain⟨P,hP⟩:∃P,P=kp rules (EJ a d):=⟨_,rfl⟩
 obtain⟨L,hL⟩:∃L,L=fM rules a d:=⟨_,rfl⟩
 have hLd:L=ids P rules.length:=by rw[hL,hP];rfl
 refine Wp.count (λs=>s.1) rules.length (λk s=>s.2.1=a/\s.2.2.1=d/\s.2.2.2.1.length=rules.length/\(∀i:Nat,∀h:i<s.2.2.2.1.length,i<k->s.2.2.2.1[i]=if P i=af then ix L i else xO rules L i)/\s.2.2.2.2.1=ids P k/\s.2.2.2.2.2=(lZ P k).map (xO rules L)) (by omega) rfl ⟨rfl,rfl,by simp,λi _ hi=>absurd hi (by omega),rfl,rfl⟩ λk s hk hs hJ=>?_
 obtain⟨i,a',d',Yv,li,pa⟩:=s;obtain⟨j1,j2,j3,j4,j5,j6⟩:=hJ;dsimp only at hs j1 j2 j3 j4 j5 j6;subst hs j1 j2 j5 j6
 refine Wp.dec (λaF=>?_) λhge=>?_
 .have aF:k<rules.length:=by dsimp only at aF;omega
  have Ti:=qM P k;have BD:=G8 P k;dsimp only
  refine Wp.seq (λj=>j.1=a'/\j.2.1=d'/\j.2.2.1.length=rules.length/\(∀i:Nat,∀h:i<j.2.2.1.length,i<k+1->j.2.2.1[i]=if P i=af then ix L i else xO rules L i)/\j.2.2.2.1=ids P (k+1)/\j.2.2.2.2=(lZ P (k+1)).map (xO rules L)) ?_ λj hj=> .some ⟨aF,bQ (m:=rules.length) (by omega) aF,hj⟩
  rw[aC aF,aqN]
  obtain⟨(p:Int),Yt⟩:∃p:Int,p=rules[k].2.2.1:=⟨_,rfl⟩
  refine Wp.seq (λv=>v=xO rules L k) ?_ λv hv=>?_
  .rw[LK aF,<-Yt]
   refine Wp.seq (λj=>j=decide (0<=p/\p<(k:Int))) ?_ λj hj=>?_
   .refine Wp.dec (λh=> .some ?_) λh=> .some ?_
    all_goals grind
   .subst hj
    refine Wp.dec (λh=>?_) λh=> .some ?_
    .obtain⟨q,rfl⟩:=aqY h.1
     have hq:q<k:=by omega
     have Kb:q<Yv.length:=by omega
     rw[aC Kb,aqN];refine .some ?_
     grind [Yr,wG]
    grind
  .subst hv;rw[aC (show k<Yv.length by omega),aqN,abR,aqN,p9,C5]
   have hPk:P k=EJ a' d' rules[k]:=by rw[hP];exact RV aF
   rw[hPk];dsimp only;by_cases hp:EJ a' d' rules[k]=af
   .rw[aj hp,aj hp,aj hp,aC (show k<(bH Yv (k:Int) (xO rules L k)).length by rw[cQ];omega),aqN,eZ (by simp;omega),aqN,eZ (by simp;omega),aqN];refine .some ⟨rfl,rfl,by rw[cQ,cQ];exact j3,λi h hi=>?_,rfl,by simp⟩
    grind [bH,Ys]
   .rw[ai hp,ai hp,ai hp];refine .some ⟨rfl,rfl,by rw[cQ];exact j3,λi h hi=>?_,by simp,by simp⟩
    grind [bH]
 .have hge:k=rules.length:=by dsimp only at hge;omega
  refine .some ?_;subst hge
  show _=_
  grind [ed]
def Oc(x:jm)(a d:Int)(hl:x.2.2.2.2.length<=100000):M.lg aK x a d=aa (fM x.2.2.2.2 a d,ed x.2.2.2.2 a d,fE x.2.2.2.2 a d):=by
 unfold M.lg;rw[RW hl,aqN]
 obtain⟨rules,hr⟩:∃r:List kr,r=x.2.2.2.2:=⟨_,rfl⟩
 rw[<-hr]at hl⊢
 obtain⟨P,hP⟩:∃P,P=kp rules (EJ a d):=⟨_,rfl⟩
 have hi:fM rules a d=(lZ P rules.length).map λi:Nat=>(i:Int):=by rw[hP];rfl
 have hNl:(lZ P rules.length).length<=rules.length:=by unfold lZ;exact(by grind)
 refine Wp.eq (Wp.seq (λj=>j=fE rules a d) ?_ λj hj=> .some (by rw[hj]));unfold fE;dsimp only;rw[hi,<-hP]
 have sL:∀i∈lZ P rules.length,i<rules.length:=λi hi=>List.mem_range.1 (arK.1 hi).1
 refine Wp.count (λs=>s.1) (lZ P rules.length).length (λk s=>s.2=((lZ P rules.length).take k).map λi=>match rules[i]? with
  |some r=>r.2.2.2.1
  |none=>0) (by omega) rfl rfl λk s hk hs hJ=>?_
 obtain⟨kk,l⟩:=s;dsimp only at hs hJ⊢;subst hs hJ;rw[List.length_map]
 refine Wp.dec (λaF=>?_) λhge=>?_
 .have aF:k<(lZ P rules.length).length:=by omega
  have hb:=sL _ (aqS aF);refine .bind (.idx k rfl (by simpa using aF) ?_);rw[List.getElem_map,aC hb,aqN];refine .bind (.wY (by simp;omega) (.some ⟨aF,aR (by omega),?_⟩))
  grind [ara]
 .have:k=(lZ P rules.length).length:=by omega
  subst this;refine .some ?_
  show _=_
  grind
def BS(x:jm)(a d:Int)(hl:x.2.2.2.2.length<=100000):M.oQ aK x a d=aa (fM x.2.2.2.2 a d):=by
 unfold M.oQ fM
 obtain⟨rules,hr⟩:∃r:List kr,r=x.2.2.2.2:=⟨_,rfl⟩
 rw[<-hr]at hl⊢;refine Wp.eq (Wp.count (λs=>s.1) rules.length (λk s=>s.2=ids (kp rules (EJ a d)) k) (by omega) rfl rfl λk s hk hs hJ=>?_);obtain⟨kk,l⟩:=s;dsimp only at hs hJ⊢;subst hs hJ
 refine Wp.dec (λaF=>?_) λhge=> .some ?_
 .have aF:k<rules.length:=by omega
  have Ti:=qM (kp rules (EJ a d)) k
  refine Wp.seq (λj=>j=ids (kp rules (EJ a d)) (k+1)) ?_ λj hj=> .some ⟨aF,aR (by omega),hj⟩
  rw[p9,RV aF]
  refine Wp.seq (λb=>b=EJ a d rules[k]) (.bind (.idx k rfl aF ?_)) λb hb=>?_
  .unfold EJ;by_cases h:(rules[k].2.1:Int)=a
   .rw[aj (by simpa using h),aC aF,aqN,RT,aqN];refine .some ?_;simp[h]
   .rw[ai (by simpa using h)];refine .some ?_;simp[h]
  .subst hb;refine .ite (λh=> .bind (.wY (by simp;omega) (.some ?_))) (λh=> .some ?_)
   all_goals grind
 .have:k=rules.length:=by omega
  subst this;rfl
def RX(x:jm)(a d:Int)(hl:x.2.2.2.2.length<=100000):M.pL aK x a d=aa (fM x.2.2.2.2 a d,ed x.2.2.2.2 a d,fE x.2.2.2.2 a d):=by
 unfold M.pL;rw[BS x a d hl,aqN]
 have Rp:=λL(hL:L.length<=100000)i hi mO=>G7 x L hL i hi mO
 obtain⟨rules,hr⟩:∃r:List kr,r=x.2.2.2.2:=⟨_,rfl⟩
 rw[<-hr]at hl Rp⊢
 obtain⟨P,hP⟩:∃P,P=kp rules (EJ a d):=⟨_,rfl⟩
 obtain⟨L,hL⟩:∃L,L=fM rules a d:=⟨_,rfl⟩
 have hLl:L.length<=100000:=by rw[hL];exact ark (qM _ _) hl
 have hi:fM rules a d=(lZ P rules.length).map λi:Nat=>(i:Int):=by rw[hP];rfl
 have hNl:(lZ P rules.length).length<=rules.length:=by unfold lZ;exact(by grind)
 have sL:∀i∈lZ P rules.length,i<rules.length:=λi hi=>List.mem_range.1 (arK.1 hi).1
 refine Wp.eq (Wp.seq (λj=>j=(ed rules a d,fE rules a d)) ?_ λj hj=> .some (by rw[hj]));unfold ed fE;rw[<-hP,<-hL]
 have hLm:L=(lZ P rules.length).map λi:Nat=>(i:Int):=hL.trans hi
 refine Wp.count (λs=>s.1) (lZ P rules.length).length (λk s=>s.2.1=((lZ P rules.length).take k).map (xO rules L)/\s.2.2=((lZ P rules.length).take k).map λi=>match rules[i]? with
  |some r=>r.2.2.2.1
  |none=>0) (by omega) rfl ⟨rfl,rfl⟩ λk s hk hs hJ=>?_
 obtain⟨kk,l,m⟩:=s;obtain⟨e1,e2⟩:=hJ;dsimp only at hs e1 e2⊢;subst hs e1 e2
 have hlen:L.length=(lZ P rules.length).length:=by rw[hLm];simp
 refine Wp.dec (λaF=>?_) λhge=>?_
 .have aF:k<(lZ P rules.length).length:=by rw[<-hlen];omega
  have hb:=sL _ (aqS aF)
  have hx:L[k]'(by omega)=((lZ P rules.length)[k]:Int):=by simp only[hLm,List.getElem_map]
  refine .bind (.idx k rfl (by omega) ?_);rw[hx,Rp L hLl _ hb (by omega),aqN];refine .bind (.wY (by simp;omega) (.bind (.idx k rfl (by omega) ?_)));rw[hx,aC hb,aqN];refine .bind (.wY (by simp;omega) (.some ⟨aF,aR (by omega),?_,?_⟩))
  all_goals grind [ara]
 .have:k=(lZ P rules.length).length:=by rw[<-hlen]at hk⊢;omega
  subst this;refine .some ?_
  show(_,_)=(_,_)
  grind
end L
section
namespace L.S
def at'{α:Type}(d:α)(l:List α)(i:Int):α:=(l[i.toNat]?).getD d
theorem qX{α:Type}(d:α){l:List α}{i:Int}(h0:0<=i)(h:i<l.length):idx l i=aa (at' d l i):=by
 unfold idx at';rw[aj h0,aqR (by omega)];rfl
structure V(p q:List Int):Prop where
 len:p.length=q.length
 n8:p.length<=8
 par:∀i:Nat,i<p.length->-1<=at' 0 p i/\at' 0 p i<i
def EK(N:Nat)(p q:List Int):M.nK N p q=M.dQ N p q:=by
 unfold M.nK M.dQ
 congr 3
 funext s
 congr 1
 cases hp:idx p s<;>cases hq:idx q s<;>rfl
def G9{N:Nat}(p q:List Int)(hN:10<=N):∃e,M.dQ N p q=aa e/\(e=0->V p q):=by
 unfold M.dQ;by_cases h1:(p.length:Int)=q.length
 .rw[ai (by simpa using h1)];by_cases h2:8<(p.length:Int)
  .simp_all
  .rw[ai (by simpa using h2)];refine xG (I:=λs:Int=>0<=s/\s<=p.length/\∀i:Nat,(i:Int)<s->-1<=at' 0 p i/\at' 0 p i<i) (μ:=λs=>(p.length-s).toNat) (Q:=λe=>e=0->V p q) ?_ N 0 (by grind) (by omega)
   rintro s ⟨h3,h4,h5⟩
   by_cases h6:s<(p.length:Int)
   .rw[aj (by simpa using h6),qX 0 h3 h6,qX 0 h3 (by omega)];simp only[aqN];by_cases h7:at' 0 p s< -1
    .rw[aj (by simpa using h7)];exact .inr ⟨9,rfl,by omega⟩
    .rw[ai (by simpa using h7)];by_cases h8:s<=at' 0 p s
     .grind
     .simp only[aqN,h8,decide_false,aqT,if_false]
      have fin:(∃s',(aa (Sum.inl (aqO.wrap (s+1))):Option (Int⊕Int))=aa (.inl s')/\(0<=s'/\s'<=p.length/\∀i:Nat,(i:Int)<s'->-1<=at' 0 p i/\at' 0 p i<i)/\((p.length:Int)-s').toNat<((p.length:Int)-s).toNat):=by
       rw[aE (by omega) (by omega)];refine⟨s+1,rfl,⟨by omega,by omega,λi hi=>?_⟩,by omega⟩;by_cases e:(i:Int)<s
       .exact h5 i e
       .have:(i:Int)=s:=by omega
        rw[this];omega
      by_cases h9:at' 0 q s<0
      .simp only[h9,decide_true,if_true,aqN];exact .inr ⟨3,rfl,by omega⟩
      .simp only[h9,decide_false,aqT,if_false,aqN];by_cases h10:9<at' 0 q s
       .grind
       .simp only[h10,decide_false,aqT,if_false];exact .inl fin
   .rw[ai (by simpa using h6)];exact .inr ⟨0,rfl,λ_=>⟨by omega,by omega,λi hi=>h5 i (by omega)⟩⟩
 simp_all
def ch(p:List Int)(i:Int):List Int:=((aq0 p.length).filter λj:Nat=>decide (at' 0 p (j:Int)=i)).map (λj:Nat=>(j:Int))
def Yw{p:List Int}{i c:Int}:c∈ch p i↔0<=c/\c<p.length/\at' 0 p c=i:=by
 unfold ch;simp only[List.mem_map,arK,List.mem_range,aw]
 grind [aqY]
def RY(p:List Int)(i:Int):(ch p i).length<=p.length:=by
 unfold ch;rw[List.length_map];have:=List.length_filter_le (λj:Nat=>decide (at' 0 p (j:Int)=i)) (aq0 p.length);simpa using this
def ym{N:Nat}{p:List Int}(i:Int)(hn:p.length<=8)(hN:10<=N):M.eR N p i=aa (ch p i):=by
 unfold M.eR;refine zk (λk:Nat=>((k:Int),(((aq0 k).filter λj:Nat=>decide (at' 0 p (j:Int)=i)).map (λj:Nat=>(j:Int)):List Int))) p.length _ rfl ?_ ?_ (by omega)
 .intro k hk
  have hw:aqO.wrap ((k:Int)+1)=((k+1:Nat):Int):=by rw[aE]<;>omega
  simp only;rw[aj (by simp;omega),qX 0 (by omega) (by omega),aqN,hw,nN];by_cases h:at' 0 p (k:Int)=i
  .rw[aj (by simpa using h),eZ,aqN,aj (by simpa using h)]
   .simp
   .simp only[List.length_map,List.length_cons,List.length_nil];have:=List.length_filter_le (λj:Nat=>decide (at' 0 p (j:Int)=i)) (aq0 k);simp at this;omega
  .rw[ai (by simpa using h),ai (by simpa using h)];simp
 .simp only;rw[ai (by simp)];rfl
def EL(N:Nat)(p:List Int)(i:Int):M.p6 N p i=M.eR N p i:=rfl
def step(o:Int->Int)(q:List Int)(b:List Int)(c:Int):List Int:=
 if o c= -1 then b else
 match b with
 |[]=>[c]
 |x::r=>if at' 0 q x<at' 0 q c then[c]else if at' 0 q c=at' 0 q x then(x::r)++[c]else x::r
def sP(o:Int->Int)(q:List Int)(l:List Int):List Int:=l.foldl (step o q) []
structure Inv(o:Int->Int)(q:List Int)(l b:List Int):Prop where
 sub:b.Sublist l
 live:∀c,c∈b->o c≠-1
 max:∀d,d∈l->o d≠-1->b≠[]/\∀c,c∈b->at' 0 q d<=at' 0 q c
 all:∀d,d∈l->o d≠-1->(∀c,c∈b->at' 0 q d=at' 0 q c)->d∈b
def EM{α:Type}{d a:α}{l:List α}:at' d (a::l) 0=a:=rfl
def Ap{o:Int->Int}{q l b:List Int}{c:Int}(h:Inv o q l b):Inv o q (l++[c]) (step o q b c):=by
 obtain⟨h1,h2,h3,h4⟩:=h
 have zH:∀x∈b,∀y∈b,at' 0 q x=at' 0 q y:=(by grind)
 unfold step;by_cases hd:o c= -1
 .rw[aj hd];refine⟨h1.trans (List.sublist_append_left _ _),h2,λd hm hl=>?_,λd hm hl=>?_⟩
  .rcases arf.1 hm with hm|hm
   .exact h3 d hm hl
   .rw[ari.1 hm]at hl;exact absurd hd hl
  .rcases arf.1 hm with hm|hm
   .exact h4 d hm hl
   .rw[ari.1 hm]at hl;exact absurd hd hl
 .rw[ai hd]
  cases b with
  |nil=>
   have Wg:∀d,d∈l->¬o d≠-1:=λd hm hl=>(h3 d hm hl).1 rfl
   refine⟨(List.sublist_append_right _ _),?_,λd hm hl=>⟨by simp,?_⟩,λd hm hl hh=>?_⟩
   .intro x hx;rw[ari.1 hx];exact hd
   .intro x hx;rw[ari.1 hx]
    rcases arf.1 hm with hm|hm
    .exact absurd hl (Wg d hm)
    .rw[ari.1 hm];exact arT _
   .rcases arf.1 hm with hm|hm
    .exact absurd hl (Wg d hm)
    .exact hm
  |cons a b=>
   simp only;by_cases aF:at' 0 q a<at' 0 q c
   .rw[aj aF];refine⟨(List.sublist_append_right _ _),?_,λd hm hl=>⟨by simp,?_⟩,λd hm hl hh=>?_⟩
    all_goals grind
   .rw[ai aF];by_cases he:at' 0 q c=at' 0 q a
    .rw[aj he];refine⟨(by grind),?_,λd hm hl=>⟨by simp,?_⟩,λd hm hl hh=>?_⟩
     .intro x hx
      rcases arf.1 hx with hx|hx
      .exact h2 x hx
      .rw[ari.1 hx];exact hd
     .intro x hx
      have TB:at' 0 q x=at' 0 q a:=by
       rcases arf.1 hx with hx|hx
       .grind
       .grind
      grind
     .rcases arf.1 hm with hm|hm
      .exact List.mem_append_left _ (h4 d hm hl λx hx=>hh x (List.mem_append_left _ hx))
      .exact List.mem_append_right _ hm
    .rw[ai he];refine⟨h1.trans (List.sublist_append_left _ _),h2,λd hm hl=>⟨by simp,?_⟩,λd hm hl hh=>?_⟩
     all_goals grind
def Ha{o:Int->Int}{q:List Int}:∀(m l b:List Int),Inv o q l b->Inv o q (l++m) (m.foldl (step o q) b)
 |[],l,b,h=>by simpa using h
 |c::m,l,b,h=>by
  have:=Ha m (l++[c]) _ (Ap (c:=c) h)
  grind
def tD(o:Int->Int)(q l:List Int):Inv o q l (sP o q l):=by
 have:=Ha (o:=o) (q:=q) l [] [] ⟨List.Sublist.refl _,by simp,by simp,by simp⟩;rw[List.nil_append]at this;exact this
def vD{o o':Int->Int}{q:List Int}:∀(l b:List Int),(∀c,c∈l->o c=o' c)->l.foldl (step o q) b=l.foldl (step o' q) b
 |[],_,_=>rfl
 |c::l,b,h=>by
  have:step o q b c=step o' q b c:=by unfold step;rw[h c (by simp)]
  rw[List.foldl_cons,List.foldl_cons,this]
  exact vD l _ λd hd=>h d (by simp[hd])
def yO(o:Int->Int)(b:List Int):Int:=if(b.length:Int)=0 then-1 else if(b.length:Int)=1 then o (at' 0 b 0)else-2
def out(p q:List Int)(a:List Bool):Nat->Int->Int
 |0,_=> -1
 |k+1,i=>
  let c:=yO (out p q a k) (sP (out p q a k) q (ch p i))
  if c= -1/\at' ag a i=af then i else c
def cout(p q:List Int)(a:List Bool)(k:Nat)(i:Int):Int:=yO (out p q a k) (sP (out p q a k) q (ch p i))
def wH(p q:List Int)(a:List Bool)(k:Nat)(i:Int):out p q a (k+1) i=if cout p q a k i= -1/\at' ag a i=af then i else cout p q a k i:=rfl
def tE{p q:List Int}(hv:V p q){i c:Int}(h:c∈ch p i):i<c/\0<=c/\c<8/\c<p.length:=by
 obtain⟨h1,h2,h3⟩:=Yw.1 h;have:=hv.n8;obtain⟨j,rfl⟩:=aqY h1;have:=(hv.par j (by omega)).2;omega
def AM{o o':Int->Int}{b:List Int}(h:∀c,c∈b->o c=o' c):yO o b=yO o' b:=by
 cases b with
 |nil=>rfl
 |cons x b=>unfold yO;rw[EM,h x (by simp)]
def AN{p q:List Int}{a:List Bool}{k k':Nat}{i:Int}(h:∀c,c∈ch p i->out p q a k c=out p q a k' c):cout p q a k i=cout p q a k' i:=by
 unfold cout;have:sP (out p q a k) q (ch p i)=sP (out p q a k') q (ch p i):=vD _ _ h;rw[this]
 exact AM λc hc=>h c ((tD _ _ _).sub.subset hc)
def AO{p q:List Int}(hv:V p q)(a:List Bool):∀(k:Nat)(i:Int),8<k+i->out p q a k i=out p q a (k+1) i\/8<=i
 |0,i,h=> .inr (by omega)
 |k+1,i,h=>by
  by_cases h8:8<=i
  .exact .inr h8
  .left
   rw[wH,wH p q a (k+1),AN (k:=k) (k':=k+1)];intro c hc;have:=tE hv hc;exact(AO hv a k c (by omega)).resolve_right (by omega)
def O(p q:List Int)(a:List Bool)(i:Int):Int:=out p q a 16 i
def C(p q:List Int)(a:List Bool)(i:Int):Int:=yO (O p q a) (sP (O p q a) q (ch p i))
def Wh{p q:List Int}(hv:V p q)(a:List Bool):∀(d k:Nat)(i:Int),8<k+i->i<8->d+k=16->out p q a k i=O p q a i
 |0,k,i,_,_,hd=>by
  obtain rfl:k=16:=by omega
  rfl
 |d+1,k,i,h,h8,hd=>by
  rw[(AO hv a k i h).resolve_right (by omega)];exact Wh hv a d (k+1) i (by omega) h8 (by omega)
def abT{p q:List Int}(hv:V p q)(a:List Bool){k:Nat}{i:Int}(h:7<k+i)(hk:k<=16):cout p q a k i=C p q a i:=by
 show _=cout p q a 16 i
 refine AN λc hc=>?_
 have:=tE hv hc;exact Wh hv a (16-k) k c (by omega) (by omega) (by omega)
def aid{p q:List Int}(hv:V p q)(a:List Bool){i:Int}(h0: -1<=i):O p q a i=if C p q a i= -1/\at' ag a i=af then i else C p q a i:=by
 unfold O;rw[wH,abT hv a (by omega) (by omega)]
def C6{q b:List Int}{c y:Int}{o:Int->Int}(hy:o c=y)(hb:∀x,x∈b->0<=x/\x<q.length)(hl:b.length<=8)(hc:0<=c/\c<q.length):
 (if(decide (y=(-1:Int)))=af then
some b
else
(((if(decide ((0:Int)<(b.length:Int)))=af then
(idx q c).bind λx8=>
(idx b (0:Int)).bind λx9=>
(idx q x9).bind λx10=>
some (decide (x10<x8))
else
some ag):Option (Bool)).bind λj7=>
(if j7=af then
(iE b (0:Int) (0:Int)).bind λl11=>
some l11
else
some b):Option (List Int)).bind λj6=>
((if(decide ((j6.length:Int)=(0:Int)))=af then
some af
else
(idx q c).bind λx13=>
(idx j6 (0:Int)).bind λRZ=>
(idx q RZ).bind λZp=>
some (decide (x13=Zp))):Option (Bool)).bind λTf=>
(if Tf=af then
(cD j6 ([c]:List Int)).bind λl16=>
some l16
else
some j6))=aa (step o q b c):=by
 subst hy;unfold step;by_cases h:o c= -1
 .simp only[h,decide_true,if_true]
 .simp only[h,decide_false,aqT,if_false];rw[qX 0 hc.1 hc.2]
  cases b with
  |nil=>simp[cD]
  |cons x r=>
   have hx:=hb x (by simp)
   have h0:(0:Int)<((x::r).length:Int):=by simp only[List.length_cons];omega
   have h1:¬((x::r).length:Int)=0:=by omega
   simp only[h0,decide_true,if_true,aqN,wo,qX 0 hx.1 hx.2]
   grind [iE,wo,S.qX,eZ]
def R1{q b:List Int}{c y:Int}{o:Int->Int}(hy:o c=y)(hb:∀x,x∈b->0<=x/\x<q.length)(hl:b.length<=8)(hc:0<=c/\c<q.length):
 (if(decide (y=(-1:Int)))=af then
some b
else
(((if(decide ((0:Int)<(b.length:Int)))=af then
(idx q c).bind λx8=>
(idx b (0:Int)).bind λx9=>
(idx q x9).bind λx10=>
some (decide (x10<x8))
else
some ag):Option (Bool)).bind λj7=>
(if j7=af then
some ([]:List Int)
else
some b):Option (List Int)).bind λj6=>
((if(decide ((j6.length:Int)=(0:Int)))=af then
some af
else
(idx q c).bind λx13=>
(idx j6 (0:Int)).bind λRZ=>
(idx q RZ).bind λZp=>
some (decide (x13=Zp))):Option (Bool)).bind λTf=>
(if Tf=af then
(cD j6 ([c]:List Int)).bind λl16=>
some l16
else
some j6))=aa (step o q b c):=by
 rw[<-C6 hy hb hl hc];rfl
theorem wI{l:List Int}{o:Int->Int}{q:List Int}{k:Nat}:((l.take k).foldl (step o q) []).Sublist l:=(tD o q (l.take k)).sub.trans (List.take_sublist _ _)
def U3{N:Nat}{p q r:List Int}(hv:V p q)(hr:r.length=p.length)(i:Int)(hN:20<=N):M.fA N (p,(q,r)) i=aa (sP (at' 0 r) q (ch p i)):=by
 have h8:=hv.n8;have hl:=RY p i;unfold M.fA;simp only;rw[ym i h8 (by omega),aqN];refine zk (λk:Nat=>((k:Int),((ch p i).take k).foldl (step (at' 0 r) q) [])) (ch p i).length _ rfl ?_ ?_ (by omega)
 .intro k hk
  have hw:aqO.wrap ((k:Int)+1)=((k+1:Nat):Int):=by rw[aE]<;>omega
  have hc:=tE hv (aqS hk);have hq:=hv.len;simp only;rw[aj (by simp;omega),aC hk,aqN,qX 0 hc.2.1 (by omega),aqN,hw];have hb:=C6 (q:=q) (b:=((ch p i).take k).foldl (step (at' 0 r) q) []) (c:=(ch p i)[k]) (o:=at' 0 r) rfl (λx hx=>by have:=tE hv (wI.subset hx);omega) (by grind [S.wI]) ⟨hc.2.1,by omega⟩
  grind [List.take_succ_eq_append_getElem]
 .simp only;rw[ai (by simp),List.take_length];rfl
def U4{p q:List Int}(hv:V p q){o:Int->Int}{i c:Int}(h:c∈sP o q (ch p i)):i<c/\0<=c/\c<8/\c<p.length:=tE hv ((tD o q _).sub.subset h)
def uX{N:Nat}{p q r:List Int}(hv:V p q)(hr:r.length=p.length)(i:Int)(hN:20<=N):M.cJ N (p,(q,r)) i=aa (yO (at' 0 r) (sP (at' 0 r) q (ch p i))):=by
 unfold M.cJ yO;rw[U3 hv hr i hN,aqN]
 cases hb:sP (at' 0 r) q (ch p i)with
 |nil=>simp
 |cons x b=>
  have hx:=U4 hv (o:=at' 0 r) (i:=i) (c:=x) (by rw[hb];simp)
  have h1:¬((x::b).length:Int)=0:=by simp;omega
  simp only[h1,decide_false,aqT,if_false,wo,aqN,EM,qX 0 hx.2.1 (show x<(r.length:Int) by omega)];by_cases h2:((x::b).length:Int)=1
  .simp only[h2,decide_true,if_true]
  .simp only[h2,decide_false,aqT,if_false]
def LL{p q r:List Int}(hv:V p q){a:List Bool}{i:Int}(h:∀c,i<c->0<=c->c<p.length->at' 0 r c=O p q a c):yO (at' 0 r) (sP (at' 0 r) q (ch p i))=C p q a i:=by
 unfold C
 have h':∀c,c∈ch p i->at' 0 r c=O p q a c:=λc hc=>by
  have:=tE hv hc;exact h c this.1 this.2.1 this.2.2.2
 have:sP (at' 0 r) q (ch p i)=sP (O p q a) q (ch p i):=vD _ _ h';rw[this]
 exact AM λc hc=>h' c ((tD _ _ _).sub.subset hc)
def outs(p q:List Int)(a:List Bool)(k:Nat):List Int:=(aq0 p.length).map λj=>if p.length<=j+k then O p q a (j:Int)else 0
theorem R2{n:Nat}{f:Nat->Int}{c:Int}(h0:0<=c)(h:c<n):at' 0 ((aq0 n).map f) c=f c.toNat:=by
 grind [S.at']
def Hb{N:Nat}{p q:List Int}{a:List Bool}(hv:V p q)(ha:a.length=p.length)(hN:20<=N):M.fT N p q a=aa (outs p q a p.length):=by
 have h8:=hv.n8;unfold M.fT
 have h0:qh (p.length:Int) (0:Int)=aa (aqW p.length 0):=by
  unfold qh;rw[aj (by omega)];simp
 rw[h0,aqN];refine zk (λk:Nat=>((p.length:Int)-1-(k:Int),outs p q a k)) p.length _ ?_ ?_ ?_ (by omega)
 .rw[aE (by omega) (by omega)]
  have:outs p q a 0=aqW p.length 0:=by
   unfold outs
   refine List.ext_getElem (by simp) λj h1 h2=>?_
   simp at h2;rw[List.getElem_map,List.getElem_range,List.getElem_replicate,ai (by omega)]
  grind
 .intro k hk
  have hlen:(outs p q a k).length=p.length:=by simp[outs]
  have hO:=aid hv a (i:=(p.length:Int)-1-(k:Int)) (by omega);generalize hi:(p.length:Int)-1-(k:Int)=i at*
  have hc:yO (at' 0 (outs p q a k)) (sP (at' 0 (outs p q a k)) q (ch p i))=C p q a i:=LL hv λc h1 h2 h3=>by
   unfold outs;rw[R2 h2 h3,aj (by omega),Int.toNat_of_nonneg h2]
  simp only;rw[aj (by simp;omega),uX hv hlen i hN,aqN,hc,qX 0 (by omega) (by omega),aqN]
  have BP:∀v,bH (bH (outs p q a k) i v) i (O p q a i)=outs p q a (k+1)/\(v=O p q a i->bH (outs p q a k) i v=outs p q a (k+1)):=by
   intro v
   have e:bH (outs p q a k) i (O p q a i)=outs p q a (k+1):=by
    unfold bH outs;rw[oS]
    refine List.map_congr_left λj hj=>?_
    have:=List.mem_range.1 hj;by_cases h:j=i.toNat
    .rw[aj h,aj (by omega),h,Int.toNat_of_nonneg (by omega)]
    .rw[ai h];by_cases h':p.length<=j+k
     .rw[aj h',aj (by omega)]
     .rw[ai h',ai (by omega)]
   refine⟨?_,λh=>h▸e⟩;unfold bH at e⊢;rw[List.set_set];exact e
  grind [idx,bH,S.at',aE]
 .simp only;rw[ai (by simp;omega)]
def U5{p q:List Int}{a:List Bool}{c:Int}(h0:0<=c)(h:c<p.length):at' 0 (outs p q a p.length) c=O p q a c:=by
 grind [S.outs,S.R2]
def R3{p q:List Int}{a:List Bool}{k:Nat}:(outs p q a k).length=p.length:=by simp[outs]
def Wi(e:Int)(y:Bool){α:Type}(k:Bool->Option α):((if(!decide (e=(0:Int)))=af then aa af else aa y:Option Bool).bind k)=k (!decide (e=0)||y):=by
 cases decide (e=0)<;>rfl
def EN{N:Nat}(hN:20<=N)(p q:List Int)(a:List Bool):(M.dB N p q a=aa (-1)/\M.lD N p q a=aa (-1))\/
 (V p q/\a.length=p.length/\M.dB N p q a=aa (C p q a (-1))/\M.lD N p q a=M.nL N p q a (-1)):=by
 obtain⟨e,he,hv⟩:=G9 (N:=N) p q (by omega);unfold M.dB M.lD;rw[EK,he];simp only[aqN];rw[Wi,Wi];by_cases h:(!decide (e=0)||(!decide ((a.length:Int)=(p.length:Int))))=af
 .left
  rw[aj h,aj h];exact⟨rfl,rfl⟩
 .right
  have h1:e=0:=by simp at h;exact h.1
  have h2:a.length=p.length:=by simp at h;omega
  have hv:=hv h1;rw[ai h,ai h,Hb hv h2 hN];simp only[aqN];rw[uX hv R3 (-1) hN];refine⟨hv,h2,?_,?_⟩
  .exact av aa (LL hv λc _ h0 h=>U5 h0 h)
  .cases M.nL N p q a (-1)<;>rfl
section
variable {p q:List Int} {a:List Bool} (hv:V p q) (ha:a.length=p.length)
include hv ha
def abW{N:Nat}{o:Int->Int}{i:Int}(hN:20<=N)(ho:∀c,c∈ch p i->M.eC aK N p q a c=aa (o c)):M.pM aK (N+1) p q a i=aa (sP o q (ch p i)):=by
 have h8:=hv.n8;have hl:=RY p i;unfold M.pM;rw[EL,ym i h8 (by unfold aK;omega),aqN];refine zk (λk:Nat=>((k:Int),((ch p i).take k).foldl (step o q) [])) (ch p i).length _ rfl ?_ ?_ (by unfold aK;omega)
 .intro k hk
  have hw:aqO.wrap ((k:Int)+1)=((k+1:Nat):Int):=by rw[aE]<;>omega
  have hc:=tE hv (aqS hk);have hq:=hv.len;simp only;rw[aj (by simp;omega),aC hk,aqN,ho _ (aqS hk),aqN,hw];have hb:=R1 (q:=q) (b:=((ch p i).take k).foldl (step o q) []) (c:=(ch p i)[k]) (o:=o) rfl (λx hx=>by have:=tE hv (wI.subset hx);omega) (by grind [S.wI]) ⟨hc.2.1,by omega⟩;simp only[aqN]
  grind [List.take_succ_eq_append_getElem]
 .simp only;rw[ai (by simp),List.take_length];rfl
def C7{N:Nat}{o:Int->Int}{i:Int}(hN:20<=N)(ho:∀c,c∈ch p i->M.eC aK N p q a c=aa (o c))(pq:∀c,c∈ch p i->M.eC aK (N+1) p q a c=aa (o c)):M.gE aK (N+2) p q a i=aa (yO o (sP o q (ch p i))):=by
 unfold M.gE;rw[abW hv ha hN ho,aqN];unfold yO
 cases hb:sP o q (ch p i)with
 |nil=>simp
 |cons x b=>
  have hx:=(tD o q (ch p i)).sub.subset (show x∈sP o q (ch p i) by rw[hb];simp)
  have h1:¬((x::b).length:Int)=0:=by simp only[List.length_cons];omega
  simp only[h1,decide_false,aqT,if_false,wo,aqN,EM];by_cases h2:1<((x::b).length:Int)
  .simp only[h2,decide_true,if_true];rw[ai (by omega)]
  .simp only[h2,decide_false,aqT,if_false];rw[pq x hx,aj (by simp only[List.length_cons]at h1 h2⊢;omega)];rfl
def AQ:∀(k N:Nat)(i:Int),8<k+i->0<=i->i<p.length->3*k+30<=N->M.eC aK N p q a i=aa (out p q a k i)
 |0,N,i,h,_,h2,_=>by have:=hv.n8;omega
 |k+1,N,i,h,h0,h2,hN=>by
  obtain⟨N,rfl⟩:∃n,N=n+3:=⟨N-3,by omega⟩
  unfold M.eC;rw[C7 hv ha (o:=out p q a k) (by omega) (λc hc=>?_) (λc hc=>?_),aqN,wH]
  .grind [S.cout,S.qX]
  .have:=tE hv hc;exact AQ k N c (by omega) (by omega) (by omega) (by omega)
  .have:=tE hv hc;exact AQ k (N+1) c (by omega) (by omega) (by omega) (by omega)
theorem aif{N:Nat}{i:Int}(h0:0<=i)(h:i<p.length)(hN:90<=N):M.eC aK N p q a i=aa (O p q a i):=AQ hv ha 16 N i (by omega) h0 h (by omega)
def EO{N:Nat}{i:Int}(hN:100<=N):M.gE aK N p q a i=aa (C p q a i):=by
 obtain⟨N,rfl⟩:∃n,N=n+2:=⟨N-2,by omega⟩
 refine C7 hv ha (by omega) (λc hc=>?_) λc hc=>?_
 all_goals
  have:=tE hv hc
  grind [S.aif]
end
def Yx(p q:List Int)(a:List Bool):M.dB aK p q a=M.lD aK p q a:=by
 rcases EN (N:=aK) (by unfold aK;omega) p q a with⟨h1,h2⟩|⟨hv,ha,h1,h2⟩
 .rw[h1,h2]
 .rw[h1,h2];exact(EO hv ha (N:=aK) (by unfold aK;omega)).symm
end L.S
end
end Go.Proofs.YtfeahmiobbjklaaGreatDoor
