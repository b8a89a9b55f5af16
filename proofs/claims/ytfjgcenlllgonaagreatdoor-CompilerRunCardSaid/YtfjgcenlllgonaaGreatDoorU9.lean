/- Joined texts: KR KA KA2 PX PX3 PX5 PX6 PD RA RB RC RD RE RF RI. -/
import Derived.Test.YtfjgcenlllgonaaGreatDoorU8
import Derived.Test.YtfjgcenlllgonaaGreatDoorU7
import Derived.Test.YtfjgcenlllgonaaGreatDoorU1
set_option linter.defProp false
open _root_.Bool renaming false->ah,true->af,eq_iff_iff->arB,false_eq_true->aqM,not_true->ari
open _root_.Option renaming some->aa,bind_some->aqI,getD_some->arn,none->ae,map_eq_some_iff->arH,ne_none_iff_exists'->asq
open _root_.Int renaming reduceEq->arZ,toNat_natCast->aqR,tdiv->aqW,tdiv_eq_ediv_of_nonneg->aq0,tmod->aqY
open _root_.List renaming drop_eq_getElem_cons->aq6,getElem?_eq_getElem->aqK,getElem_mem->aqN,getElem_of_mem->aqZ,length_eq_one_iff->asa,mem_singleton->aq5,getD->arm,getElem?_append_right->arD,getElem_append_left->aqX,getElem_append_right->are,length_map->arb,replicate->aqO,take_length->ara,length_append->aqT,length_singleton->aq8,append_assoc->ard,getElem?_eq_some_iff->aqQ,length_cons->arh,length_take->aq9,mem_cons->arw,mem_cons_self->ary,pairwise_cons->arS
open _root_.Nat renaming zero_le->aq2,div_le_self->arU,div_lt_iff_lt_mul->arq,le_of_lt->asb,le_refl->aqS
open _root_.Go.IntKind renaming i64->aqJ
open _root_.Sum renaming inl->arj,inr->arc
open _root_.Classical renaming propDecidable->arQ
namespace Go.Proofs.YtfjgcenlllgonaaGreatDoor
open Go Go.RowKit
set_option maxRecDepth 100000
set_option linter.unusedSimpArgs false
set_option linter.unusedVariables false
set_option linter.defProp false
namespace L.P
theorem Ax(N:Nat)(k:Int):M.lH N k=aa (if k=1 then(0,1)else if k=2 then(-1000000000000,1000000000000)else if k=3 then(-1000000000000000,1000000000000000)else if k=4 then(-1000000000,1000000000)else if k=5 then(0,109572)else if k=6 then(0,15)else(0,-1)):=by
 unfold M.lH;simp only[aQ,az]
theorem gk(N:Nat)(v:Vl):M.cE N v=aa (decide (bD v.1 v.2.1 v.2.2)):=by
 revert v;rintro⟨(k:Int),(e:Int),(n:Int)⟩
 unfold M.cE;rw[Ax];simp only[aQ,aqI,l4,kj];refine ay aa ?_;by_cases h1:k=1
 .subst h1;rw[arB];simp[bD];try(dsimp only[aC,Row.den]at*;omega)
 by_cases h2:k=2
 .subst h2;rw[arB];simp[bD];try(dsimp only[aC,Row.den]at*;omega)
 by_cases h3:k=3
 .subst h3;rw[arB];simp[bD];try(dsimp only[aC,Row.den]at*;omega)
 by_cases h4:k=4
 .subst h4;rw[arB];simp[bD];try(dsimp only[aC,Row.den]at*;omega)
 by_cases h5:k=5
 .subst h5;rw[arB];simp[bD];try(dsimp only[aC,Row.den]at*;omega)
 by_cases h6:k=6
 .subst h6;rw[arB];simp[bD];try(dsimp only[aC,Row.den]at*;omega)
 simp[bD,h1,h2,h3,h4,h5,h6];try omega
def QR(N:Nat)(v:Vl)(t:Ty):M.uf N v t=aa (decide (ma v t)):=by
 unfold M.uf;rw[gk];simp only[aQ,aqI,kj];refine ay aa ?_;rw[arB];simp[ye]
def GN(N:Nat)(op:Int)(t:Ty):M.ow N op t=aa (decide (SZ op t)):=by
 unfold M.ow;simp only[aQ,aqI,l4,kj];refine ay aa ?_;obtain⟨(k:Int),(e:Int)⟩:=t;rw[arB]
 show _↔decide (yF op k e)=af
 unfold yF
 by_cases h0:e=0<;>by_cases h1:op=36<;>by_cases h2:op=39<;>simp[h0,h1,h2]<;>try(dsimp only[aC,Row.den]at*;omega)
def wq(N:Nat)(k n:Int):M.dm N k n=aa (if bD k 0 n then((k,0,n),0)else((0,0,0),3)):=by
 unfold M.dm;rw[gk];simp only[aqI];by_cases h:bD k 0 n
 .simp[h]
 .simp[h]
def QS{N:Nat}{op acc n:Int}{first:Bool}(Zf:op=36->-9000000000000000000<=acc+n/\acc+n<=9000000000000000000)(h37:op=37->(0<=n/\n<=1)/\0<=acc/\acc<=1)(fJ:op=36\/op=37\/op=38\/op=39):M.rO N op acc n first=aa (fold op acc n first):=by
 unfold M.rO fold
 rcases fJ with rfl|rfl|rfl|rfl
 .have:=Zf rfl;simp[aH (n:=acc+n) (by omega) (by omega)]
 .obtain⟨⟨a1,a2⟩,a3,a4⟩:=h37 rfl
  have b2':n=0\/n=1:=by omega
  have b4':acc=0\/acc=1:=by omega
  rcases b2' with rfl|rfl<;>rcases b4' with rfl|rfl<;>simp[aH]
 .simp only[aQ,arZ,decide_false,decide_true,aqM,if_false,if_true]
  by_cases h:acc<n<;>simp[h]
 .simp only[aQ,arZ,decide_false,decide_true,aqM,if_false,if_true,aqI,l4]
  by_cases h:first=af\/acc<n
  .rw[al h,al (by simpa using h)]
  .rw[aj h,aj (by simpa using h)]
def K9(op:Int)(t:Ty)(j:Nat)(ms:List (List Vl)):Vl×Int:=
 if SZ op t then(if op=39/\ms=[]then((0,0,0),6)else match mu op t j ms af (ta op)with
  | .inl a=>if bD t.1 0 a then((t.1,0,a),0)else((0,0,0),3)
  | .inr c=>((0,0,0),c))else((0,0,0),8)
def GO{N:Nat}(hN:100001<=N){op:Int}(fJ:op=36\/op=37\/op=38\/op=39){j:Nat}{env:bR.den}(hj:j<env.2.2.2.2.1.length)(hm:env.2.2.2.1.length<=100):
 M.ox N (op,(j:Int)) env=aa (K9 op env.2.2.2.2.1[j] j env.2.2.2.1):=by
 obtain⟨d,ip,df,ms,ts,tb⟩:=env;simp only at hj hm⊢;apply Wp.eq;unfold M.ox;simp only;rw[aF hj];simp only[aqI,GN];generalize ts[j]=t;unfold K9;by_cases ht:SZ op t
 case neg=>
  rw[al (by simp[ht]),aj ht];exact .some rfl
 rw[aj (by simp[ht]),al ht];have Y5:(t.2:Int)=0:=(show yF op t.1 t.2 from ht).1
 have e1:(if decide (op=37)=af then aa (1:Int)else aa (0:Int))=aa (ta op):=by
  unfold ta;by_cases h:op=37<;>simp[h]
 rw[e1];simp only[aqI,aQ,kj,wq]
 refine Wp.join (Wp.loop (λs:Int×Int=>∃k:Nat,∃acc:Int,s=(acc,(k:Int))/\k<=ms.length/\KV op t (decide (k=0)) acc/\mu op t j (ms.drop k) (decide (k=0)) acc=mu op t j ms af (ta op)) (λs=>(ms.length-s.2).toNat)
  ⟨0,ta op,rfl,aq2 _,KW fJ ht,rfl⟩ (by simp only;omega) ?_)
 rintro _ ⟨k,acc,rfl,hk,Nq,hf⟩
 simp only
 refine Wp.dec (λh=>?_) λh=> .some ?_
 case refine_2=>
  have hd:ms.drop k=[]:=List.drop_of_length_le (by omega);rw[hd]at hf
  show Wp _ _
  by_cases S0:op=39/\ms=[]
  .rw[al S0];refine .some ?_;rw[al (by simpa using S0)]
  .rw[aj S0,<-hf];refine .some ?_;rw[aj (by simpa using S0)];simp only[mu]
 have jh:k<ms.length:=by omega
 have dG:¬(op=39/\ms=[]):=λh=>by rw[h.2]at jh;simp at jh
 rw[aj dG];have hd:ms.drop k=ms[k]::ms.drop (k+1):=aq6 jh;rw[hd]at hf;rw[aF jh];simp only[aqI];rw[mu]at hf;by_cases hl:j<ms[k].length
 .rw[aqK hl]at hf;simp only at hf;rw[aF hl];simp only[aqI,aQ,l4,QR];generalize ms[k][j]=v at hf⊢;by_cases hv:(v.1:Int)=0
  .rw[al hv]at hf;rw[al (by simp[hv])];refine .some ?_
   show _=_
   rw[<-hf]
  .rw[aj hv]at hf;rw[aj (by simp[hv];omega)];by_cases hh:ma v t
   .rw[al hh]at hf;rw[aj (by simp[hh])]
    obtain⟨hp,MX,Pj⟩:=(show ye _ _ _ _ _ from hh)
    have Wm:(op=36->-9000000000000000000<=acc+v.2.2/\acc+v.2.2<=9000000000000000000)/\(op=37->(0<=(v.2.2:Int)/\(v.2.2:Int)<=1)/\0<=acc/\acc<=1):=by
     have h1:=(show yF op t.1 t.2 from ht).2
     have h2:op≠39->bD t.1 0 acc:=λdG=>by
      rcases Nq with h|h
      .exact absurd h.1 dG
      .exact h
     rw[MX]at hp;revert h1 h2 hp;generalize(v.2.2:Int)=n;generalize(v.2.1:Int)=ve;generalize(t.1:Int)=tk;intro h3 h1 h2;refine⟨λe=>?_,λe=>?_⟩
     .have h2:=h2 (by omega);unfold bD at h2 h3;dsimp only[aC,Row.den]at*;omega
     .subst e;have h2:=h2 (by omega);unfold bD at h2 h3;simp at h1;dsimp only[aC,Row.den]at*;omega
    rw[show(decide ((k:Int)=0))=decide (k=0)from by rw[decide_eq_decide];omega];rw[QS Wm.1 Wm.2 fJ];simp only[aqI];by_cases rF:bD t.1 0 (fold op acc v.2.2 (decide (k=0)))
    .rw[al rF]at hf⊢;simp only[decide_true,ari,aqM,if_false];rw[aU (by omega)];refine .some ⟨⟨k+1,_,rfl,jh, .inr rF,?_⟩,by simp only;omega⟩;rw[show decide (k+1=0)=ah by simp];exact hf
    .rw[aj rF]at hf⊢;simp only[arZ,decide_false,Bool.not_false,if_true];refine .some ?_
     show _=_
     rw[<-hf]
   .rw[aj hh]at hf;rw[al (by simp[hh])];refine .some ?_
    show _=_
    rw[<-hf]
 .rw[List.getElem?_eq_none (by omega)]at hf;rw[al (by simp;omega)];refine .some ?_
  show _=_
  rw[<-hf]
def CH(N:Nat)(op:Int)(fJ:35<=op/\op<=39):M.eh N op=aa 0:=by
 have:op=35\/op=36\/op=37\/op=38\/op=39:=by omega
 rcases this with rfl|rfl|rfl|rfl|rfl<;>(show(_:Option _)=_;kernel_rfl)
def BE(N:Nat)(op:Int)(fJ:35<=op/\op<=39):M.gQ N op=aa 0:=by
 have:op=35\/op=36\/op=37\/op=38\/op=39:=by omega
 rcases this with rfl|rfl|rfl|rfl|rfl<;>(show(_:Option _)=_;kernel_rfl)
def QT(N:Nat)(op:Int)(fJ:35<=op/\op<=39):M.fM N op=aa (!decide (op=35)):=by
 have:op=35\/op=36\/op=37\/op=38\/op=39:=by omega
 rcases this with rfl|rfl|rfl|rfl|rfl<;>(show(_:Option _)=_;kernel_rfl)
def GP(N:Nat)(op:Int)(fJ:35<=op/\op<=39):M.mq N op=aa (!decide (op=35)):=by
 have:op=35\/op=36\/op=37\/op=38\/op=39:=by omega
 rcases this with rfl|rfl|rfl|rfl|rfl<;>(show(_:Option _)=_;kernel_rfl)
def Jv(N:Nat)(op n:Int)(fJ:35<=op/\op<=39):M.cK N (op,n)=aa (!(decide (op=35)&& !decide (n=0))):=by
 unfold M.cK;simp only[CH N op fJ,QT N op fJ]
 have:op=35\/op=36\/op=37\/op=38\/op=39:=by omega
 rcases this with rfl|rfl|rfl|rfl|rfl<;>by_cases h:n=0<;>simp[h]
def Jw(N:Nat)(op n:Int)(fJ:35<=op/\op<=39):M.lI N (op,n) 0=aa (!(decide (op=35)&& !decide (n=0))):=by
 unfold M.lI;simp only[BE N op fJ,GP N op fJ]
 have:op=35\/op=36\/op=37\/op=38\/op=39:=by omega
 rcases this with rfl|rfl|rfl|rfl|rfl<;>by_cases h:n=0<;>simp[h]
def Jx(N:Nat)(op n:Int)(env:bR.den)(fJ:35<=op/\op<=39):M.dN N (op,n) env=aa (decide (op=35)||(decide (0<=n)&&decide (n<(env.2.2.2.2.1.length:Int)))):=by
 unfold M.dN
 have:op=35\/op=36\/op=37\/op=38\/op=39:=by omega
 rcases this with rfl|rfl|rfl|rfl|rfl<;>by_cases h:0<=n<;>simp[h]
def NA(N:Nat)(op n:Int)(env:bR.den)(fJ:35<=op/\op<=39):M.oO N (op,n) env=aa (decide (op=35)||(decide (0<=n)&&decide (n<(env.2.2.2.2.1.length:Int)))):=by
 unfold M.oO
 have:op=35\/op=36\/op=37\/op=38\/op=39:=by omega
 rcases this with rfl|rfl|rfl|rfl|rfl<;>by_cases h:0<=n<;>simp[h]
def all_nil{N:Nat}(hN:100001<=N):M.cL N ([]:List Vl)=aa af:=by
 obtain⟨N,rfl⟩:∃m,N=m+1:=⟨N-1,by omega⟩
 unfold M.cL Loop;simp
def UG(op n:Int)(env:bR.den):Vl×Int:=
 if op=35 then(if n=0 then((2,0,(env.2.2.2.1.length:Int)),0)else((0,0,0),2))else match env.2.2.2.2.1[n.toNat]? with
  |some t=>if 0<=n then K9 op t n.toNat env.2.2.2.1 else((0,0,0),6)
  |none=>((0,0,0),6)
def CI{op:Int}{t:Ty}{j:Nat}:{ms:List (List Vl)}->{first:Bool}->{acc c:Int}->mu op t j ms first acc= .inr c->c=3\/c=6\/c=8
 |[],_,_,_,h=>by cases h
 |l::ms,first,acc,c,h=>by
  rw[mu]at h;split at h
  .cases h;exact .inr (.inl rfl)
  .split at h
   .cases h;exact .inr (.inl rfl)
   .split at h
    .split at h
     .exact CI h
     .cases h;exact .inl rfl
    .cases h;exact .inr (.inr rfl)
def NB{N:Nat}(hN:100001<=N)(op n:Int)(env:bR.den)(fJ:35<=op/\op<=39)(hm:env.2.2.2.1.length<=100):M.cx N (op,n) ([]:List Vl) env=aa (UG op n env):=by
 unfold M.cx;simp only[Jv N op n fJ,CH N op fJ,Jx N op n env fJ,all_nil hN,aqI,aQ,l4];unfold UG;by_cases GQ:op=35
 .subst GQ;by_cases h0:n=0
  .subst h0
   have e1:M.bi N ((35:Int),(0:Int)) ([]:List Vl) env=aa af:=by unfold M.bi;simp
   have e2:M.bl N ((35:Int),(0:Int)) ([]:List Vl) env=aa ((2,0,(env.2.2.2.1.length:Int)),0):=by unfold M.bl;simp
   have e3:bD 2 0 (env.2.2.2.1.length:Int):=by unfold bD;omega
   simp[e1,e2,cH,e3]
  .simp[h0]
 .have QU:op=36\/op=37\/op=38\/op=39:=by omega
  have e1:M.bi N (op,n) ([]:List Vl) env=(idx env.2.2.2.2.1 n).bind λx=>M.il N op x:=by
   unfold M.bi
   rcases QU with rfl|rfl|rfl|rfl<;>simp
  have e2:M.bl N (op,n) ([]:List Vl) env=M.gU N (op,n) env:=by
   unfold M.bl
   rcases QU with rfl|rfl|rfl|rfl<;>simp<;>(cases M.gU N _ env<;>rfl)
  by_cases hn:0<=n
  .obtain⟨j,rfl⟩:∃j:Nat,n=j:=⟨n.toNat,by omega⟩
   by_cases hj:j<env.2.2.2.2.1.length
   .rw[e1,e2,aF hj];simp only[aqI,oc,aqR,aqK hj,al hn,K9];by_cases ht:SZ op env.2.2.2.2.1[j]
    .rw[pW hN QU hj hm ht,al ht];unfold Jm
     by_cases S0:op=39/\env.2.2.2.1=[]
     .obtain⟨rfl,M9⟩:=S0;simp[hj,ht,M9]
     .rw[aj S0,aj S0]
      cases hmf:mu op env.2.2.2.2.1[j] j env.2.2.2.1 af (ta op)with
      |inr c=>
       have hc:¬c=0:=by rcases CI hmf with rfl|rfl|rfl<;>decide
       simp[GQ,hj,ht,hc]
      |inl a=>
       by_cases hp:bD env.2.2.2.2.1[j].1 0 a
       .simp[GQ,hj,ht,cH,hp]
       .simp[GQ,hj,ht,cH,hp]
    .simp[GQ,hj,ht]
   .simp[GQ,hj]
  .rw[e1,e2]
   cases env.2.2.2.2.1[n.toNat]? <;>simp[GQ,hn]
def BF{N:Nat}(hN:100001<=N)(op n:Int)(env:bR.den)(fJ:35<=op/\op<=39)(hm:env.2.2.2.1.length<=100):M.la N (op,n) ([]:List Vl) env=aa (UG op n env):=by
 obtain⟨N,rfl⟩:∃m,N=m+1:=⟨N-1,by omega⟩
 unfold M.la;simp only[List.length_nil,Int.ofNat_zero,Jw _ op n fJ,NA _ op n env fJ,aqI];unfold Loop;simp only[bK,Int.lt_irrefl,decide_false,aqM,if_false,aqI,aQ,kj,decide_true,if_true];unfold UG;by_cases GQ:op=35
 .subst GQ;by_cases h0:n=0
  .subst h0
   have e2:M.dc (N+1) ((35:Int),(0:Int)) env=aa ((2,0,(env.2.2.2.1.length:Int)),0):=by
    have e3:bD 2 0 (env.2.2.2.1.length:Int):=by unfold bD;omega
    unfold M.dc;simp[wq,e3]
   simp[e2]
  .simp[h0]
 .have QU:op=36\/op=37\/op=38\/op=39:=by omega
  by_cases hn:0<=n
  .obtain⟨j,rfl⟩:∃j:Nat,n=j:=⟨n.toNat,by omega⟩
   by_cases hj:j<env.2.2.2.2.1.length
   .rw[GO hN QU hj hm];simp only[aqR,aqK hj,al hn]
    have h1:36<=op:=by omega
    simp[GQ,hj,h1,fJ.2]
   .simp[GQ,hj]
  .cases env.2.2.2.2.1[n.toNat]? <;>simp[GQ,hn]
end L.P
namespace L.P
def QV{op:Int}(h:1<=op/\op<=39):op=1\/op=2\/op=3\/op=4\/op=5\/op=6\/op=7\/op=8\/op=9\/op=10\/op=11\/op=12\/op=13\/op=14\/op=15\/op=16\/op=17\/op=18\/op=19\/op=20\/op=21\/op=22\/op=23\/op=24\/op=25\/op=26\/op=27\/op=28\/op=29\/op=30\/op=31\/op=32\/op=33\/op=34\/op=35\/op=36\/op=37\/op=38\/op=39:=by omega
theorem CJ(N:Nat)(op:Int):M.gQ N op=aa (ar op):=by
 unfold M.gQ ar
 grind
def NC(N:Nat)(op:Int):M.fM N op=M.mq N op:=by
 by_cases h:1<=op/\op<=39
 .rcases QV h with rfl|rfl|rfl|rfl|rfl|rfl|rfl|rfl|rfl|rfl|rfl|rfl|rfl|rfl|rfl|rfl|rfl|rfl|rfl|rfl|rfl|rfl|rfl|rfl|rfl|rfl|rfl|rfl|rfl|rfl|rfl|rfl|rfl|rfl|rfl|rfl|rfl|rfl|rfl<;>rfl
 .have ne:∀k:Int,1<=k->k<=39->decide (op=k)=ah:=λk h1 h2=>by simp;omega
  unfold M.fM M.mq;simp only[aQ,aqI,l4,kj]
  rcases(show op<1\/39<op by omega)with g|g
  .have l:∀k:Int,1<=k->decide (k<=op)=ah:=λk h1=>by simp;omega
   simp[ne,l]
  .have l:∀k:Int,k<=39->decide (op<=k)=ah:=λk h1=>by simp;omega
   simp[ne,l]
def ND(N:Nat)(op m l:Int)(hl:0<=l){y:Bool}(hy:M.cK N (op,m)=aa y):M.lI N (op,m) l=aa (y&&decide (l=ar op)):=by
 unfold M.cK at hy;unfold M.lI;rw[dE,NC]at hy;rw[CJ]
 grind
def GR(N:Nat)(n:Ty)(env:bR.den):M.dN N n env=M.oO N n env:=rfl
def zv:Vl:=((0,0,0):Int×Int×Int)
def fin(r:Vl×Int):Vl×Int:=if(r.2:Int)=0 then(if bD r.1.1 r.1.2.1 r.1.2.2 then(r.1,0)else(zv,3))else(zv,r.2)
noncomputable def gm(op m:Int)(args:List Vl)(env:bR.den):Option (Vl×Int):=
 ((M.bi aJ ((op,m):Int×Int) args env).bind λy7=>aa (!y7)).bind λj5=>if j5=af then aa (zv,(8:Int))else
   (M.bl aJ ((op,m):Int×Int) args env).bind λy8=>(if(!decide (y8.2=(0:Int)))=af then aa (zv,y8.2)else(M.du aJ y8.1).bind λy9=>(if(!y9)=af then aa (zv,(3:Int))else aa (y8.1,(0:Int))))
def lb{op m:Int}{args:List Vl}{env:bR.den}{C:Prop}[Decidable C]{r:Vl×Int}(ha:M.bi aJ ((op,m):Int×Int) args env=aa (decide C))(hc:C->M.bl aJ ((op,m):Int×Int) args env=aa r):gm op m args env=aa (if C then fin r else(zv,8)):=by
 grind [P.gm,P.fin,P.cH]
theorem lc(N:Nat)(k n:Int):M.dm N k n=aa (fin ((k,0,n),0)):=by
 rw[wq];rfl
theorem pX(N:Nat)(k n e:Int):M.jb N k n e=aa (fin ((k,0,n),e)):=by
 unfold M.jb fin;by_cases h:e=0
 .rw[aj (by simpa using h),wq,aqI];subst h;simp only[if_true];rfl
 .rw[al (by simpa using h),aj h];rfl
theorem iA(N:Nat)(k:Int):M.dD N k=aa (decide (2<=k/\k<=4)):=by
 unfold M.dD;simp only[aQ,aqI,l4];refine ay aa ?_
 grind
theorem iU(N:Nat)(a b:Vl):M.dz N a b=aa (decide ((a.1:Int)=b.1/\(a.2.1:Int)=b.2.1)):=by
 unfold M.dz
 grind
theorem pY(N:Nat)(b:Bool):M.eo N b=aa (1,0,if b=af then 1 else 0):=by
 unfold M.eo;cases b<;>rfl
theorem oe(N:Nat)(b:Bool):M.gj N b=aa (fin ((1,0,if b=af then 1 else 0),0)):=by
 unfold M.gj fin;cases b<;>rfl
theorem Ay{α:Type}(a:α):idx [a] (0:Int)=aa a:=rfl
def QW{α:Type}(a b:α):idx [a,b] (0:Int)=aa a:=rfl
def QX{α:Type}(a b:α):idx [a,b] (1:Int)=aa b:=rfl
theorem Wn{α:Type}(a b c:α):idx [a,b,c] (0:Int)=aa a:=rfl
theorem Wo{α:Type}(a b c:α):idx [a,b,c] (1:Int)=aa b:=rfl
theorem Wq{α:Type}(a b c:α):idx [a,b,c] (2:Int)=aa c:=rfl
def xC{α β:Type}(o:Option (α×β)):(o.bind λy=>aa (y.1,y.2))=o:=by cases o<;>rfl
theorem tn{v:Vl}(h:bD v.1 v.2.1 v.2.2):fin (v,0)=(v,0):=by
 unfold fin
 grind
theorem UH(k:Int):(if 2<=k/\k<=4 then aa af else aa (decide (k=5)))=aa (decide (2<=k)&&decide (k<=5)):=by
 by_cases h:2<=k/\k<=4
 .grind
 .rw[aj h];refine ay aa ?_
  grind
def two{op m:Int}{a b:Vl}{env:bR.den}(fJ:11<=op/\op<=30){C:Prop}[Decidable C]{r:Vl×Int}(h1:M.aT aJ op a b=aa (decide C))(h2:C->M.bT aJ ((op,m):Int×Int) a b=aa r)
 (h3:M.bf aJ ((op,m):Int×Int) a b=aa (if C then fin r else(zv,8))):gm op m [a,b] env=M.bf aJ ((op,m):Int×Int) a b:=by
 have ne:∀k:Int,k<11\/30<k->decide (op=k)=ah:=λk h=>by simp;omega
 rw[h3]
 refine lb ?_ λc=>?_
 .unfold M.bi;simp only[ne 7 (by omega),ne 8 (by omega),ne 33 (by omega),ne 34 (by omega),ne 36 (by omega),ne 37 (by omega),ne 38 (by omega),ne 39 (by omega),aqM,if_false,aqI,QW,QX,h1];rfl
 .unfold M.bl;simp only[ne 1 (by omega),ne 2 (by omega),ne 3 (by omega),ne 4 (by omega),ne 5 (by omega),ne 6 (by omega),ne 7 (by omega),ne 8 (by omega),ne 9 (by omega),ne 33 (by omega),ne 34 (by omega),ne 35 (by omega),ne 36 (by omega),ne 37 (by omega),ne 38 (by omega),ne 39 (by omega),aqM,if_false,aqI,QW,QX,h2 c];rfl
def abG(m ka ea na kb eb nb:Int)(env:bR.den):gm 11 m [((ka,ea,na):Int×Int×Int),((kb,eb,nb):Int×Int×Int)] env=M.bf aJ ((11,m):Int×Int) ((ka,ea,na):Int×Int×Int) ((kb,eb,nb):Int×Int×Int):=by
 refine two (by omega) (C:=(ka=kb/\ea=eb)/\2<=ka/\ka<=4) (r:=((ka,0,aqJ.wrap (na+nb)),0)) ?_ (λ_=>?_) ?_
 .unfold M.aT;simp[iU,fH]
  grind
 all_goals grind [M.bT,M.bf,M.dx,P.iA,P.lc,P.zv]
def abH(m ka ea na kb eb nb:Int)(env:bR.den):gm 12 m [((ka,ea,na):Int×Int×Int),((kb,eb,nb):Int×Int×Int)] env=M.bf aJ ((12,m):Int×Int) ((ka,ea,na):Int×Int×Int) ((kb,eb,nb):Int×Int×Int):=by
 refine two (by omega) (C:=(ka=kb/\ea=eb)/\2<=ka/\ka<=4) (r:=((ka,0,aqJ.wrap (na-nb)),0)) ?_ (λ_=>?_) ?_
 .unfold M.aT;simp[iU,fH]
  grind
 all_goals grind [M.bT,M.bf,M.dx,P.iA,P.lc,P.zv]
def abI(m ka ea na kb eb nb:Int)(ha:bD ka ea na)(hb:bD kb eb nb)(env:bR.den):gm 17 m [((ka,ea,na):Int×Int×Int),((kb,eb,nb):Int×Int×Int)] env=M.bf aJ ((17,m):Int×Int) ((ka,ea,na):Int×Int×Int) ((kb,eb,nb):Int×Int×Int):=by
 refine two (by omega) (C:=(ka=kb/\ea=eb)/\2<=ka/\ka<=5) (r:=(if decide (True)=decide (nb<na)then((kb,eb,nb):Vl)else((ka,ea,na):Vl),0)) ?_ (λ_=>?_) ?_
 .unfold M.aT;simp[iU,fH]
  grind [P.UH]
 .grind [M.bT]
 .unfold M.bf M.dx;have fa:=tn (v:=((ka,ea,na):Int×Int×Int)) ha;have fb:=tn (v:=((kb,eb,nb):Int×Int×Int)) hb;by_cases h1:ka=kb
  .subst h1;by_cases h2:ea=eb
   .subst h2
    have dG:∀k:Int,k<2\/5<k->¬(2<=k/\k<=5):=λk h=>by omega
    by_cases h3:2<=ka/\ka<=5
    .have gg:((M.dD aJ ka).bind λAz=>(if(!Az)=af then aa (!decide (ka=(5:Int)))else aa ah):Option Bool)=aa ah:=by
      rw[iA,aqI];by_cases h5:ka=5
      .subst h5;simp
      .grind
     simp only[gg]
     rcases Int.lt_trichotomy na nb with g|g|g
     all_goals grind
    .have gg:((M.dD aJ ka).bind λAz=>(if(!Az)=af then aa (!decide (ka=(5:Int)))else aa ah):Option Bool)=aa af:=by
      rw[iA,aqI,al]
      .simp;omega
      .simp;omega
     simp only[gg];simp[h3,zv]
   .simp[h2,zv]
  .simp[h1,zv]
def abJ(m ka ea na kb eb nb:Int)(ha:bD ka ea na)(hb:bD kb eb nb)(env:bR.den):gm 18 m [((ka,ea,na):Int×Int×Int),((kb,eb,nb):Int×Int×Int)] env=M.bf aJ ((18,m):Int×Int) ((ka,ea,na):Int×Int×Int) ((kb,eb,nb):Int×Int×Int):=by
 refine two (by omega) (C:=(ka=kb/\ea=eb)/\2<=ka/\ka<=5) (r:=(if decide (False)=decide (nb<na)then((kb,eb,nb):Vl)else((ka,ea,na):Vl),0)) ?_ (λ_=>?_) ?_
 .unfold M.aT;simp[iU,fH]
  grind [P.UH]
 .grind [M.bT]
 .unfold M.bf M.dx;have fa:=tn (v:=((ka,ea,na):Int×Int×Int)) ha;have fb:=tn (v:=((kb,eb,nb):Int×Int×Int)) hb;by_cases h1:ka=kb
  .subst h1;by_cases h2:ea=eb
   .subst h2
    have dG:∀k:Int,k<2\/5<k->¬(2<=k/\k<=5):=λk h=>by omega
    by_cases h3:2<=ka/\ka<=5
    .have gg:((M.dD aJ ka).bind λAz=>(if(!Az)=af then aa (!decide (ka=(5:Int)))else aa ah):Option Bool)=aa ah:=by
      rw[iA,aqI];by_cases h5:ka=5
      .subst h5;simp
      .grind
     simp only[gg]
     rcases Int.lt_trichotomy na nb with g|g|g
     all_goals grind
    .have gg:((M.dD aJ ka).bind λAz=>(if(!Az)=af then aa (!decide (ka=(5:Int)))else aa ah):Option Bool)=aa af:=by
      rw[iA,aqI,al]
      .simp;omega
      .simp;omega
     simp only[gg];simp[h3,zv]
   .simp[h2,zv]
  .simp[h1,zv]
def aia(m ka ea na kb eb nb:Int)(env:bR.den):gm 19 m [((ka,ea,na):Int×Int×Int),((kb,eb,nb):Int×Int×Int)] env=M.bf aJ ((19,m):Int×Int) ((ka,ea,na):Int×Int×Int) ((kb,eb,nb):Int×Int×Int):=by
 refine two (by omega) (C:=ka=kb/\ea=eb) (r:=((1,0,if(decide (na=nb))=af then 1 else 0),0)) ?_ (λ_=>?_) ?_
 all_goals grind [M.aT,P.iU,M.bT,P.pY,M.bf,M.dx,P.oe,P.zv]
def aib(m ka ea na kb eb nb:Int)(env:bR.den):gm 20 m [((ka,ea,na):Int×Int×Int),((kb,eb,nb):Int×Int×Int)] env=M.bf aJ ((20,m):Int×Int) ((ka,ea,na):Int×Int×Int) ((kb,eb,nb):Int×Int×Int):=by
 refine two (by omega) (C:=ka=kb/\ea=eb) (r:=((1,0,if(!decide (na=nb))=af then 1 else 0),0)) ?_ (λ_=>?_) ?_
 all_goals grind [M.aT,P.iU,M.bT,P.pY,M.bf,M.dx,P.oe,P.zv]
def aic(m ka ea na kb eb nb:Int)(env:bR.den):gm 21 m [((ka,ea,na):Int×Int×Int),((kb,eb,nb):Int×Int×Int)] env=M.bf aJ ((21,m):Int×Int) ((ka,ea,na):Int×Int×Int) ((kb,eb,nb):Int×Int×Int):=by
 refine two (by omega) (C:=(ka=kb/\ea=eb)/\2<=ka/\ka<=5) (r:=((1,0,if decide (na<nb)=af then 1 else 0),0)) ?_ (λ_=>?_) ?_
 .unfold M.aT;simp[iU,fH]
  grind [P.UH]
 .unfold M.bT;simp[pY]
 .unfold M.bf M.dx;by_cases h1:ka=kb
  .subst h1;by_cases h2:ea=eb
   .subst h2;by_cases h3:2<=ka/\ka<=5
    .have gg:((M.dD aJ ka).bind λAz=>(if(!Az)=af then aa (!decide (ka=(5:Int)))else aa ah):Option Bool)=aa ah:=by
      rw[iA,aqI];by_cases h5:ka=5
      .subst h5;simp
      .grind
     grind [P.oe]
    .have gg:((M.dD aJ ka).bind λAz=>(if(!Az)=af then aa (!decide (ka=(5:Int)))else aa ah):Option Bool)=aa af:=by
      rw[iA,aqI,al]
      .simp;omega
      .simp;omega
     simp only[gg];simp[h3,zv]
   .simp[h2,zv]
  .simp[h1,zv]
def aid(m ka ea na kb eb nb:Int)(env:bR.den):gm 22 m [((ka,ea,na):Int×Int×Int),((kb,eb,nb):Int×Int×Int)] env=M.bf aJ ((22,m):Int×Int) ((ka,ea,na):Int×Int×Int) ((kb,eb,nb):Int×Int×Int):=by
 refine two (by omega) (C:=(ka=kb/\ea=eb)/\2<=ka/\ka<=5) (r:=((1,0,if decide (na<=nb)=af then 1 else 0),0)) ?_ (λ_=>?_) ?_
 .unfold M.aT;simp[iU,fH]
  grind [P.UH]
 .unfold M.bT;simp[pY]
 .unfold M.bf M.dx;by_cases h1:ka=kb
  .subst h1;by_cases h2:ea=eb
   .subst h2;by_cases h3:2<=ka/\ka<=5
    .have gg:((M.dD aJ ka).bind λAz=>(if(!Az)=af then aa (!decide (ka=(5:Int)))else aa ah):Option Bool)=aa ah:=by
      rw[iA,aqI];by_cases h5:ka=5
      .subst h5;simp
      .grind
     grind [P.oe]
    .have gg:((M.dD aJ ka).bind λAz=>(if(!Az)=af then aa (!decide (ka=(5:Int)))else aa ah):Option Bool)=aa af:=by
      rw[iA,aqI,al]
      .simp;omega
      .simp;omega
     simp only[gg];simp[h3,zv]
   .simp[h2,zv]
  .simp[h1,zv]
def abK(m ka ea na kb eb nb:Int)(ha:bD ka ea na)(hb:bD kb eb nb)(env:bR.den):gm 23 m [((ka,ea,na):Int×Int×Int),((kb,eb,nb):Int×Int×Int)] env=M.bf aJ ((23,m):Int×Int) ((ka,ea,na):Int×Int×Int) ((kb,eb,nb):Int×Int×Int):=by
 refine two (by omega) (C:=ka=1/\kb=1) (r:=((1,0,if na=1/\nb=1 then 1 else 0),0)) ?_ (λ_=>?_) ?_
 .grind [M.aT]
 .grind [M.bT,P.pY]
 .unfold M.bf M.dx;unfold bD at ha hb;by_cases h1:ka=1
  .grind [P.oe,aH,P.zv]
  .by_cases h2:ka=kb
   all_goals grind [P.zv]
def aie(m ka ea na kb eb nb:Int)(ha:bD ka ea na)(hb:bD kb eb nb)(env:bR.den):gm 24 m [((ka,ea,na):Int×Int×Int),((kb,eb,nb):Int×Int×Int)] env=M.bf aJ ((24,m):Int×Int) ((ka,ea,na):Int×Int×Int) ((kb,eb,nb):Int×Int×Int):=by
 refine two (by omega) (C:=ka=1/\kb=1) (r:=((1,0,if na=1\/nb=1 then 1 else 0),0)) ?_ (λ_=>?_) ?_
 .grind [M.aT]
 .grind [M.bT,P.pY]
 .unfold M.bf M.dx;unfold bD at ha hb;by_cases h1:ka=1
  .subst h1;by_cases h2:kb=1
   .subst h2
    grind [P.oe,aH]
   grind [P.zv]
  .by_cases h2:ka=kb
   all_goals grind [P.zv]
def NE(m ka ea na kb eb nb:Int)(env:bR.den):gm 27 m [((ka,ea,na):Int×Int×Int),((kb,eb,nb):Int×Int×Int)] env=M.bf aJ ((27,m):Int×Int) ((ka,ea,na):Int×Int×Int) ((kb,eb,nb):Int×Int×Int):=by
 refine two (by omega) (C:=ka=5/\kb=2) (r:=((ka,0,aqJ.wrap (na+nb)),0)) ?_ (λ_=>?_) ?_
 all_goals grind [M.aT,M.bT,M.bf,M.mV,P.lc,P.zv]
def aif(d n:Int):∃r,M.dP aJ d n=aa r/\M.eR aJ d n=aa r:=by
 obtain⟨r,e,_⟩:=pC d n
 grind [P.th]
def abL(d:Int):∃r,M.fu aJ d=aa r/\M.jJ aJ d=aa r:=by
 obtain⟨r,e,_⟩:=rk d
 grind [P.Ar]
def aih(a b:Int):∃r,M.fx aJ a b=aa r/\M.iu aJ a b=aa r:=by
 obtain⟨r,e,_⟩:=pf a b
 grind [P.wm]
def GS(m ka ea na kb eb nb:Int)(env:bR.den):gm 28 m [((ka,ea,na):Int×Int×Int),((kb,eb,nb):Int×Int×Int)] env=M.bf aJ ((28,m):Int×Int) ((ka,ea,na):Int×Int×Int) ((kb,eb,nb):Int×Int×Int):=by
 obtain⟨y,e1,e2⟩:=aif na nb;refine two (by omega) (C:=ka=5/\kb=2) (r:=((5,0,y.1),y.2)) ?_ (λ_=>?_) ?_
 all_goals grind [M.aT,M.bT,M.bf,M.mV,P.pX,P.zv]
def Yd(m ka ea na kb eb nb:Int)(env:bR.den):gm 29 m [((ka,ea,na):Int×Int×Int),((kb,eb,nb):Int×Int×Int)] env=M.bf aJ ((29,m):Int×Int) ((ka,ea,na):Int×Int×Int) ((kb,eb,nb):Int×Int×Int):=by
 refine two (by omega) (C:=ka=5/\kb=5) (r:=((2,0,aqJ.wrap (nb-na)),0)) ?_ (λ_=>?_) ?_
 all_goals grind [M.aT,M.bT,M.bf,M.mV,P.lc,P.zv]
def UI(m ka ea na kb eb nb:Int)(env:bR.den):gm 30 m [((ka,ea,na):Int×Int×Int),((kb,eb,nb):Int×Int×Int)] env=M.bf aJ ((30,m):Int×Int) ((ka,ea,na):Int×Int×Int) ((kb,eb,nb):Int×Int×Int):=by
 obtain⟨y,e1,e2⟩:=aih na nb;refine two (by omega) (C:=ka=5/\kb=5) (r:=((2,0,y),0)) ?_ (λ_=>?_) ?_
 all_goals grind [M.aT,M.bT,M.bf,M.mV,P.lc,P.zv]
def Wr(a b:Int):Int×Int:=if 1000000000000000<a.natAbs*b.natAbs then(0,3)else(a*b,0)
def Ye(a b:Int):sg (ng a b) (a.natAbs*b.natAbs)=a*b:=by
 grind [P.sg,P.ng]
theorem Jy{a b:Int}(ha: -1000000000000000<=a/\a<=1000000000000000)(hb: -1000000000000000<=b/\b<=1000000000000000):M.lr aJ a b=aa (Wr a b):=by
 grind [M.lr,P.Wr,P.Jt,P.v8,aH]
theorem GU{a b k:Int}(ha: -1000000000000000<=a/\a<=1000000000000000)(hb: -1000000000000<=b/\b<=1000000000000)(hk:k=2\/k=3):M.oA aJ k a b=aa (fin ((k,0,(Wr a b).1),(Wr a b).2)):=by
 unfold M.oA;have hm:=Ye a b;have hs:=Jp (ng a b) (a.natAbs*b.natAbs);rw[hm]at hs
 obtain⟨L,hL,hbd⟩:∃L:Nat,M.lH aJ k=aa (-(L:Int),(L:Int))/\(k=2/\L=1000000000000\/k=3/\L=1000000000000000):=by
  grind [P.Ax]
 have ab:∀x:Int,-1000000000000000<=x/\x<=1000000000000000->((if(decide (x<(0:Int)))=af then aa (aqJ.wrap ((0:Int)-x))else aa x):Option Int)=aa ((x.natAbs:Nat):Int):=by
  intro x hx;by_cases c:x<0
  .grind [aH]
  .grind
 rw[hL,aqI,ab a ha,ab b (by omega),aqI,aqI]
 obtain⟨A,hA⟩:∃A,A=a.natAbs:=⟨_,rfl⟩
 obtain⟨B,hB⟩:∃B,B=b.natAbs:=⟨_,rfl⟩
 obtain⟨P,hP⟩:∃P,P=A*B:=⟨_,rfl⟩
 rw[<-hA,<-hB,<-hP]at hs;have hPb:P<=1000000000000000*1000000000000:=hP▸Nat.mul_le_mul (by omega) (by omega);rw[<-hA,<-hB];dsimp only
 have g1:((if(!decide ((B:Int)=(0:Int)))=af then(nU (L:Int) (B:Int)).bind λx5=>aa (decide ((aqJ.wrap x5)<(A:Int)))else aa ah):Option Bool)=aa (decide (L<P)):=by
  by_cases h0:B=0
  .rw[aj (by simp;omega)];refine ay aa ?_
   grind
  .rw[al (by simp;omega),sy _ _ h0,aqI];have hq:=arU L B;rw[nP (by omega)];refine ay aa ?_;rw[arB,az,az,hP];have:=arq (x:=L) (y:=A) (show 0<B by omega);omega
 rw[g1,aqI]
 have hPR:Wr a b=if 1000000000000000<P then(0,3)else(a*b,0):=by
  unfold Wr;rw[<-hA,<-hB,<-hP]
 by_cases h:L<P
 .rw[al (by simpa using h)];refine ay aa ?_;by_cases h2:1000000000000000<P
  .rw[hPR,al h2];rfl
  .rw[hPR,aj h2];unfold fin;dsimp only;rw[al rfl,aj]
   .rfl
   .unfold bD;omega
 .have yB: -1000000000000000<=a*b/\a*b<=1000000000000000:=by omega
  rw[aj (by simpa using h),aH (by omega) (by omega),lc,aqI,hPR,aj (show¬1000000000000000<P by omega)]
def abM(m ka ea na kb eb nb:Int)(ha:bD ka ea na)(hb:bD kb eb nb)(env:bR.den):gm 13 m [((ka,ea,na):Int×Int×Int),((kb,eb,nb):Int×Int×Int)] env=M.bf aJ ((13,m):Int×Int) ((ka,ea,na):Int×Int×Int) ((kb,eb,nb):Int×Int×Int):=by
 refine two (by omega) (C:=kb=2/\(ka=2\/ka=3)) (r:=((ka,0,(Wr na nb).1),(Wr na nb).2)) ?_ (λhC=>?_) ?_
 .grind [M.aT]
 .grind [M.bT,M.gP,P.bD,P.Jy]
 .unfold M.bf M.lK
  grind [P.bD,P.GU,P.zv]
def NF(m ka ea na kb eb nb:Int)(env:bR.den):gm 14 m [((ka,ea,na):Int×Int×Int),((kb,eb,nb):Int×Int×Int)] env=M.bf aJ ((14,m):Int×Int) ((ka,ea,na):Int×Int×Int) ((kb,eb,nb):Int×Int×Int):=by
 have hmu:∃y,M.nv aJ na nb m=aa y/\M.rf aJ na nb m=aa y:=by
  obtain⟨y,e⟩:∃y,M.nv aJ na nb m=aa y:=by
   by_cases h:ry m
   .obtain⟨y,e,_⟩:=DT (a:=na) (b:=nb) h
    grind
   .unfold M.nv;rw[An,av h];exact⟨_,rfl⟩
  exact⟨y,e,by rw[<-Uz,e]⟩
 obtain⟨y,e1,e2⟩:=hmu;refine two (by omega) (C:=kb=4/\(ka=3\/ka=4)) (r:=if ka=3 then((ka,0,(Ux na nb m).1),(Ux na nb m).2)else((ka,0,y.1),y.2)) ?_ (λhC=>?_) ?_
 .grind [M.aT]
 .grind [M.bT,M.gP,P.Nt]
 .unfold M.bf M.lK
  grind [P.Js,P.pX,P.zv]
def abN(m ka ea na kb eb nb:Int)(env:bR.den):gm 15 m [((ka,ea,na):Int×Int×Int),((kb,eb,nb):Int×Int×Int)] env=M.bf aJ ((15,m):Int×Int) ((ka,ea,na):Int×Int×Int) ((kb,eb,nb):Int×Int×Int):=by
 refine two (by omega) (C:=(kb=2/\(ka=2\/ka=3))\/(ka=3/\kb=3)) (r:=if kb=2 then((ka,0,(OE na nb m).1),(OE na nb m).2)else((4,0,(QI na nb m).1),(QI na nb m).2)) ?_ (λhC=>?_) ?_
 .unfold M.aT;by_cases h1:kb=2
  .subst h1
   grind
  grind
 .grind [M.bT,M.gP,P.qx,P.DW]
 .unfold M.bf M.lK;by_cases h1:kb=2
  .subst h1;by_cases h2:ka=2
   .subst h2;simp[wh,pX]
   .by_cases h3:ka=3
    .subst h3;simp[wh,pX]
    .simp[h2,h3,zv]
  grind [P.BB,P.pX,P.zv]
def NG(m ka ea na kb eb nb:Int)(env:bR.den):gm 16 m [((ka,ea,na):Int×Int×Int),((kb,eb,nb):Int×Int×Int)] env=M.bf aJ ((16,m):Int×Int) ((ka,ea,na):Int×Int×Int) ((kb,eb,nb):Int×Int×Int):=by
 have hmu:∃y,M.fV aJ na nb m=aa y/\M.mr aJ na nb m=aa y:=by
  obtain⟨y,e⟩:∃y,M.fV aJ na nb m=aa y:=by
   by_cases h:ry m
   .obtain⟨y,e,_⟩:=vh (a:=na) (b:=nb) h
    grind
   .unfold M.fV;rw[wc,av h];exact⟨_,rfl⟩
  exact⟨y,e,by rw[<-Jr,e]⟩
 obtain⟨y,e1,e2⟩:=hmu;refine two (by omega) (C:=ka=3/\kb=3) (r:=((ka,0,y.1),y.2)) ?_ (λhC=>?_) ?_
 .grind [M.aT]
 .grind [M.bT,M.gP]
 .unfold M.bf M.lK;by_cases h1:ka=3
  .subst h1;by_cases h2:kb=3
   .subst h2;simp[e2,pX]
   .simp[h2,zv]
  .simp[h1,zv]
theorem one{op m:Int}{a:Vl}{env:bR.den}(fJ:op=10\/op=25\/op=31\/op=32){C:Prop}[Decidable C]{r:Vl}(h1:M.cr aJ op a.1=aa (decide C))(h2:C->M.gC aJ op a=aa r)
 (h3:M.cM aJ ((op,m):Int×Int) a env=aa (if C then fin (r,0)else(zv,8))):gm op m [a] env=M.cM aJ ((op,m):Int×Int) a env:=by
 rw[h3]
 refine lb ?_ λc=>?_
 .unfold M.bi
  rcases fJ with rfl|rfl|rfl|rfl<;>simp only[arZ,decide_false,decide_true,aqM,if_false,if_true,aqI,Ay,h1]<;>rfl
 .unfold M.bl
  rcases fJ with rfl|rfl|rfl|rfl<;>simp only[arZ,decide_false,decide_true,aqM,if_false,if_true,aqI,Ay,h2 c]<;>rfl
def abO(m ka ea na:Int)(env:bR.den):gm 10 m [((ka,ea,na):Int×Int×Int)] env=M.cM aJ ((10,m):Int×Int) ((ka,ea,na):Int×Int×Int) env:=by
 refine one (by omega) (C:=2<=ka/\ka<=4) (r:=((ka,0,aqJ.wrap (0-na)):Int×Int×Int)) ?_ (λ_=>?_) ?_
 all_goals grind [M.cr,P.fH,M.gC,M.cM,P.iA,P.lc,P.zv]
def abP(m ka ea na:Int)(env:bR.den):gm 25 m [((ka,ea,na):Int×Int×Int)] env=M.cM aJ ((25,m):Int×Int) ((ka,ea,na):Int×Int×Int) env:=by
 refine one (by omega) (C:=ka=1) (r:=((1,0,if decide (na=0)=af then 1 else 0):Int×Int×Int)) ?_ (λ_=>?_) ?_
 all_goals grind [M.cr,M.gC,P.pY,M.cM,P.oe,P.zv]
def Yf(m ka ea na:Int)(env:bR.den):gm 31 m [((ka,ea,na):Int×Int×Int)] env=M.cM aJ ((31,m):Int×Int) ((ka,ea,na):Int×Int×Int) env:=by
 obtain⟨y,e1,e2⟩:=abL na
 grind [P.one,M.cr,M.gC,M.cM,P.lc,P.zv]
def UJ(m ka ea na:Int)(env:bR.den):gm 32 m [((ka,ea,na):Int×Int×Int)] env=M.cM aJ ((32,m):Int×Int) ((ka,ea,na):Int×Int×Int) env:=by
 obtain⟨y,e1,e2⟩:=abL na
 grind [P.one,M.cr,M.gC,M.cM,P.lc,P.zv]
def AA(env:bR.den):Prop:=∀t∈env.2.2.2.2.2,t.2.2.2.length<=1000/\∀r∈t.2.2.2,-9223372036854775808<=(r.2.2.2:Int)/\(r.2.2.2:Int)<=9223372036854775807
def QY{m ka ea na:Int}{env:bR.den}(ht:AA env)(hm:0<=m/\m<env.2.2.2.2.2.length)(ha:bD ka ea na):gm 33 m [((ka,ea,na):Int×Int×Int)] env=M.cM aJ ((33,m):Int×Int) ((ka,ea,na):Int×Int×Int) env:=by
 obtain⟨k,rfl⟩:∃k:Nat,m=k:=⟨m.toNat,by omega⟩
 have hk:k<env.2.2.2.2.2.length:=by omega
 obtain⟨t,hte,htm⟩:∃t,t=env.2.2.2.2.2[k]/\t∈env.2.2.2.2.2:=⟨_,rfl,aqN hk⟩
 have uZ:=aF hk;rw[<-hte]at uZ;obtain⟨y,ey,hy⟩:=xz t env.1 na (by have:=(ht t htm).1;omega)
 have ey2:M.nF aJ t env.1 na=aa y:=by rw[<-GA];exact ey
 obtain⟨x,hx⟩:∃x:fT.den,y.2=af->idx t.2.2.2 y.1=aa x:=by
  by_cases h:y.2=af
  .obtain⟨h1,h2⟩:=hy h
   obtain⟨j,hj⟩:∃j:Nat,y.1=j:=⟨y.1.toNat,by omega⟩
   rw[hj]at h2⊢;exact⟨_,λ_=>aF (show j<t.2.2.2.length by omega)⟩
  simp_all
 obtain⟨nm,⟨(tk:Int),(te:Int)⟩,⟨(vk:Int),(ve:Int)⟩,rows⟩:=t;dsimp only at ey ey2 hx uZ
 have key:M.cM aJ ((33,(k:Int)):Int×Int) ((ka,ea,na):Int×Int×Int) env=aa (if(ka=tk/\ea=te)/\1<=vk/\vk<=6 then fin (if y.2=af then(((vk,ve,x.2.2.2):Int×Int×Int),0)else(zv,6))else(zv,8)):=by
  unfold M.cM;simp only[arZ,decide_false,decide_true,aqM,if_false,if_true,aqI,uZ];unfold M.rP;dsimp only
  have g:((if(!decide (ka=tk))=af then aa af else(if(!decide (ea=te))=af then aa af else(if(decide (vk<(1:Int)))=af then aa af else aa (decide ((6:Int)<vk))))):Option Bool)=aa (decide (¬((ka=tk/\ea=te)/\1<=vk/\vk<=6))):=by
   by_cases h1:ka=tk<;>by_cases h2:ea=te<;>by_cases h3:vk<1<;>simp[h1,h2,h3]<;>omega
  rw[g,aqI];by_cases hC:(ka=tk/\ea=te)/\1<=vk/\vk<=6
  .rw[aj (by rw[az];exact λh=>h hC),al hC,ey2,aqI]
   cases hb:y.2 with
   |false=>rfl
   |true=>
    simp only[ari,aqM,if_false,if_true];rw[hx hb,aqI,gk,aqI];unfold fin;by_cases hp:bD vk ve x.2.2.2
    .grind
    .rw[al (by simpa using hp)];dsimp only;rw[al rfl,aj hp];rfl
  .rw[al (au hC),aj hC];rfl
 rw[key]
 refine lb ?_ λhC=>?_
 .grind [M.bi,P.Ay,P.rT,P.ye]
 .unfold M.bl;simp only[arZ,decide_false,decide_true,aqM,if_false,if_true,aqI,uZ,Ay,ey]
  cases hb:y.2 with
  |false=>rfl
  |true=>grind
def Jz{m ka ea na:Int}{env:bR.den}(ht:AA env)(h0:0<=m)(hm:aqJ.wrap (aqW m 8)<env.2.2.2.2.2.length)(hm2:m<=9223372036854775807)(h5:aqY m 8<=5):gm 34 m [((ka,ea,na):Int×Int×Int)] env=M.cM aJ ((34,m):Int×Int) ((ka,ea,na):Int×Int×Int) env:=by
 have hd:aqW m 8=m/8:=aq0 h0;rw[hd,aH (by omega) (by omega)]at hm
 obtain⟨k,hk⟩:∃k:Nat,m/8=k:=⟨(m/8).toNat,by omega⟩
 have jh:k<env.2.2.2.2.2.length:=by omega
 have hw:aqJ.wrap (aqW m 8)=k:=by rw[hd,aH (by omega) (by omega),hk]
 obtain⟨t,hte,htm⟩:∃t,t=env.2.2.2.2.2[k]/\t∈env.2.2.2.2.2:=⟨_,rfl,aqN jh⟩
 have uZ:=aF jh;rw[<-hte]at uZ;have HT:=BC (ht t htm).1 (ht t htm).2 env.1 na (aqY m 8)
 have abR:t.2.1=((3,0):Int×Int)->t.2.2.1=((4,0):Int×Int)->∃y,M.gi aJ t env.1 na (aqY m 8)=aa y:=λa b=>by
  obtain⟨y,e,_⟩:=tc (d:=env.1) (k:=na) (m:=aqY m 8) (by grind) a b (by have:=(ht t htm).1;omega)
  grind
 obtain⟨nm,⟨(tk:Int),(te:Int)⟩,⟨(vk:Int),(ve:Int)⟩,rows⟩:=t;dsimp only at HT abR uZ;have hC:(ka=3/\(tk=3/\te=0)/\vk=4/\ve=0)\/¬(ka=3/\(tk=3/\te=0)/\vk=4/\ve=0):=Decidable.em _
 rcases hC with hC|hC
 .obtain⟨rfl,⟨rfl,rfl⟩,rfl,rfl⟩:=hC;obtain⟨y,ey⟩:=abR rfl rfl;rw[ey]at HT;rw[lb (C:=True) (r:=((3,0,y.1),y.2))]
  all_goals grind [M.cM,P.pX,M.bi,P.Ay,o6,M.bl]
 .rw[lb (C:=False) (r:=(zv,0))]
  .unfold M.cM;simp only[arZ,decide_false,decide_true,aqM,if_false,if_true,aqI,hw,uZ]
   have g:((if(!decide (ka=(3:Int)))=af then aa af else(if(!decide (tk=(3:Int)))=af then aa af else(if(!decide (te=(0:Int)))=af then aa af else(if(!decide (vk=(4:Int)))=af then aa af else aa (!decide (ve=(0:Int))))))):Option Bool)=aa af:=by
    by_cases h1:ka=3<;>by_cases h2:tk=3<;>by_cases h3:te=0<;>by_cases h4:vk=4<;>simp[h1,h2,h3,h4]at hC⊢<;>exact hC
   rw[g];rfl
  all_goals grind [M.bi,P.Ay,o6]
def ail(m ka ea na kb eb nb kc ec nc:Int)(hb:bD kb eb nb)(hc:bD kc ec nc)(env:bR.den):gm 26 m [((ka,ea,na):Int×Int×Int),((kb,eb,nb):Int×Int×Int),((kc,ec,nc):Int×Int×Int)] env=
 (((if(!decide (ka=(1:Int)))=af then aa af else(if(!decide (kb=kc))=af then aa af else aa (!decide (eb=ec)))):Option (Bool)).bind λj18=>(if j18=af then aa (((0:Int),((0:Int),(0:Int))),(8:Int))else(if(decide (na=(1:Int)))=af then aa (((kb,eb,nb):Int×Int×Int),(0:Int))else aa (((kc,ec,nc):Int×Int×Int),(0:Int))))):=by
 have fb:=tn (v:=((kb,eb,nb):Int×Int×Int)) hb;have fc:=tn (v:=((kc,ec,nc):Int×Int×Int)) hc;rw[lb (C:=ka=1/\kb=kc/\eb=ec) (r:=(if na=1 then((kb,eb,nb):Int×Int×Int)else((kc,ec,nc):Int×Int×Int),0))]
 all_goals grind [P.zv,M.bi,P.Wn,P.Wo,P.Wq,P.iU,M.bl]
def abS{op m:Int}(h:1<=op/\op<=5)(env:bR.den):gm op m [] env=M.dc aJ ((op,m):Int×Int) env:=by
 have fJ:op=1\/op=2\/op=3\/op=4\/op=5:=by omega
 rw[lb (C:=True) (r:=((op,0,m),0))]
 .grind [M.dc,P.lc]
 .unfold M.bi
  rcases fJ with rfl|rfl|rfl|rfl|rfl<;>simp
 grind [M.bl]
def Yg(m:Int)(env:bR.den):gm 6 m [] env=M.dc aJ ((6,m):Int×Int) env:=by
 rw[lb (C:=True) (r:=((6,aqJ.wrap (aqW m 16),aqY m 16),0))]
 all_goals grind [M.dc,P.fin,P.gk,P.zv,M.bi,M.bl]
def Yh(m:Int)(env:bR.den):gm 9 m [] env=M.dc aJ ((9,m):Int×Int) env:=by
 rw[lb (C:=True) (r:=((5,0,env.1),0))]
 all_goals grind [M.dc,P.lc,M.bi,M.bl]
def UK{m:Int}{env:bR.den}(h:0<=m/\m<env.2.1.length):gm 7 m [] env=M.dc aJ ((7,m):Int×Int) env:=by
 obtain⟨k,rfl⟩:∃k:Nat,m=k:=⟨m.toNat,by omega⟩
 have hx:=aF (l:=env.2.1) (k:=k) (by omega);generalize env.2.1[k]=x at hx;rw[lb (C:=bD x.1 x.2.1 x.2.2) (r:=(x,0))]
 all_goals grind [M.dc,P.gk,P.tn,P.zv,M.bi,P.cH,M.bl]
def abT{m:Int}{env:bR.den}(h:0<=m/\m<env.2.2.1.length):gm 8 m [] env=M.dc aJ ((8,m):Int×Int) env:=by
 obtain⟨k,rfl⟩:∃k:Nat,m=k:=⟨m.toNat,by omega⟩
 have hx:=aF (l:=env.2.2.1) (k:=k) (by omega);generalize env.2.2.1[k]=x at hx;rw[lb (C:=bD x.1 x.2.1 x.2.2) (r:=(x,0))]
 all_goals grind [M.dc,P.gk,P.tn,P.zv,M.bi,P.cH,M.bl]
end L.P
namespace L.P
def AP(l:List Vl):Bool:=l.all λv=>decide (bD v.1 v.2.1 v.2.2)
def Yi{l:List Vl}(h:AP l=af){v:Vl}(hv:v∈l):bD v.1 v.2.1 v.2.2:=ao (List.all_eq_true.1 h v hv)
def Ws{l:List Vl}{v:Vl}(hv:v∈l)(h:¬bD v.1 v.2.1 v.2.2):AP l=ah:=by
 unfold AP;rw[List.all_eq_false];exact⟨v,hv,by simp[h]⟩
def QZ{l:List Vl}(h:∀k(hk:k<l.length),bD l[k].1 l[k].2.1 l[k].2.2):AP l=af:=by
 unfold AP;rw[List.all_eq_true];intro v hv;obtain⟨k,hk,rfl⟩:=aqZ hv;exact au (h k hk)
def all_eq{l:List Vl}(hl:l.length<=100000):M.cL aJ l=aa (AP l):=by
 apply Wp.eq;unfold M.cL;refine Wp.loop (λs:Int=>∃k:Nat,s=k/\k<=l.length/\∀j(hj:j<l.length),j<k->bD l[j].1 l[j].2.1 l[j].2.2) (λs=>(l.length-s).toNat) ⟨0,rfl,aq2 _,λj _ h=>absurd h (Nat.not_lt_zero j)⟩ (by unfold aJ;omega) ?_
 rintro _ ⟨k,rfl,hk,hp⟩
 refine Wp.dec (λh=>?_) λh=> .some (QZ λj hj=>hp j hj (by omega)).symm
 have jh:k<l.length:=by omega
 rw[aF jh,aqI,cH,aqI];by_cases c:bD l[k].1 l[k].2.1 l[k].2.2
 .rw[aj (by simpa using c),aU (by omega)];refine .some ⟨⟨k+1,rfl,jh,λj hj h=>?_⟩,by simp only;omega⟩
  rcases Nat.lt_or_ge j k with g|g
  .exact hp j hj g
  .have:j=k:=by omega
   subst this;exact c
 .rw[al (by simpa using c)];exact .some (Ws (aqN jh) c).symm
def UL{l:List Vl}(hl:l.length<=100000)(kk:Unit->Option (Vl×Int)):bK (J:=Unit) (R:=aE.den×Int) (Loop (S:=Int) (X:=(Unit)⊕(aE.den×Int)) (λs4=>(if(decide (s4<(l.length:Int)))=af then(idx l s4).bind λx5=>(M.cE aJ x5).bind λy6=>(if(!y6)=af then aa (arc (arc (((0:Int),((0:Int),(0:Int))),(8:Int))))else aa (arj (aqJ.wrap (s4+(1:Int)))))else aa (arc (arj ())))) aJ (0:Int)) kk=if AP l=af then kk ()else aa (zv,8):=by
 have key:Wp (Loop (S:=Int) (X:=(Unit)⊕(aE.den×Int)) (λs4=>(if(decide (s4<(l.length:Int)))=af then(idx l s4).bind λx5=>(M.cE aJ x5).bind λy6=>(if(!y6)=af then aa (arc (arc (((0:Int),((0:Int),(0:Int))),(8:Int))))else aa (arj (aqJ.wrap (s4+(1:Int)))))else aa (arc (arj ())))) aJ (0:Int)) (λx=>x=if AP l=af then arj ()else arc (zv,8)):=by
  refine Wp.loop (λs:Int=>∃k:Nat,s=k/\k<=l.length/\∀j(hj:j<l.length),j<k->bD l[j].1 l[j].2.1 l[j].2.2) (λs=>(l.length-s).toNat) ⟨0,rfl,aq2 _,λj _ h=>absurd h (Nat.not_lt_zero j)⟩ (by unfold aJ;omega) ?_
  rintro _ ⟨k,rfl,hk,hp⟩
  refine Wp.dec (λh=>?_) λh=> .some ?_
  .have jh:k<l.length:=by omega
   rw[aF jh,aqI,gk,aqI];by_cases c:bD l[k].1 l[k].2.1 l[k].2.2
   .rw[aj (by simpa using c),aU (by omega)];refine .some ⟨⟨k+1,rfl,jh,λj hj h=>?_⟩,by simp only;omega⟩
    rcases Nat.lt_or_ge j k with g|g
    .exact hp j hj g
    .have:j=k:=by omega
     subst this;exact c
   .rw[al (by simpa using c)];refine .some ?_
    show _=_
    rw[Ws (aqN jh) c];rfl
  .show _=_
   rw[QZ λj hj=>hp j hj (by omega)];rfl
 obtain⟨x,e,rfl⟩:=key;rw[e]
 cases AP l<;>rfl
def JA{n:Ty}{args:List Vl}{env:bR.den}(he:kl env)(ht:AA env)(hn:WF aD n)(hl:args.length<=100000):M.cx aJ n args env=M.la aJ n args env:=by
 obtain⟨(op:Int),(m:Int)⟩:=n;have Ov: -9223372036854775808<=m/\m<=9223372036854775807:=hn.2
 by_cases vi:(35<=op/\op<=39)/\args=[]
 .obtain⟨h,rfl⟩:=vi;rw[NB (by unfold aJ;omega) op m env h he.1,BF (by unfold aJ;omega) op m env h he.1]
 unfold M.cx M.la;obtain⟨y,hy,hyf⟩:=uq aJ op m;dsimp only;rw[ND aJ op m _ (by omega) hy,hy,dE,aqI,aqI,aqI]
 cases y with
 |false=>rfl
 |true=>
  by_cases vA:(args.length:Int)=ar op
  case neg=>simp[vA,zv]
  have hf:=hyf rfl;obtain⟨x,hx,SX⟩:=ur aJ op m env;rw[<-GR,hx,aqI];simp only[vA,decide_true,ari,Bool.and_self,aqM,if_false,aqI]
  cases x with
  |false=>rfl
  |true=>
   have SX:=SX rfl;simp only[ari,aqM,if_false];rw[<-vA];rw[UL hl,all_eq hl,aqI]
   cases hA:AP args with
   |false=>rfl
   |true=>
    have rF:=λv hv=>Yi hA (v:=v) hv
    simp only[ari,aqM,if_false,if_true]
    show gm op m args env=_
    have EN:=hf.1
    have fJ:1<=op/\op<=39:=by
     unfold ar at EN;split at EN
     .omega
     .split at EN
      .omega
      .split at EN
       .omega
       .split at EN
        .omega
        .omega
    have IL:=lR op
    have hlen:args.length=0\/args.length=1\/args.length=2\/args.length=3:=by omega
    rcases hlen with g|g|g|g
    .obtain rfl:=List.eq_nil_of_length_eq_zero g
     have GQ:¬(35<=op/\op<=39):=λh=>vi ⟨h,rfl⟩
     have e1:((if(decide ((36:Int)<=op))=af then aa (decide (op<=(39:Int)))else aa ah):Option Bool)=aa ah:=by
      rw[aj];simp;unfold ar at vA;simp at vA
      split at vA<;>omega
     have anO:op<=9:=by
      unfold ar at vA;simp at vA
      split at vA<;>(try split at vA)<;>(try split at vA)<;>(try split at vA)<;>omega
     simp only[List.length_nil,Int.ofNat_zero,decide_true,if_true,e1,aqI,aqM,if_false,xC]
     have:op=6\/op=7\/op=8\/op=9\/(1<=op/\op<=5):=by omega
     rcases this with rfl|rfl|rfl|rfl|h
     .exact Yg m env
     .exact UK (SX.1 rfl)
     .exact abT (SX.2.1 rfl)
     .exact Yh m env
     .exact abS h env
    .obtain⟨⟨(ka:Int),(ea:Int),(na:Int)⟩,rfl⟩:=asa.1 g;have ha:bD ka ea na:=rF _ (aq5.2 rfl);rw[aj (by simp),al (by simp),Ay,aqI,xC]
     have aim:op=10\/op=25\/op=31\/op=32\/op=33\/op=34:=by
      unfold ar at vA;simp at vA
      split at vA<;>(try split at vA)<;>(try split at vA)<;>(try split at vA)<;>omega
     rcases aim with rfl|rfl|rfl|rfl|rfl|rfl
     .exact abO ..
     .exact abP ..
     .exact Yf ..
     .exact UJ ..
     .exact QY ht (SX.2.2.1 rfl) ha
     .exact Jz ht (hf.2.2.1 rfl).1 (SX.2.2.2.1 rfl) Ov.2 (hf.2.2.1 rfl).2
    .obtain⟨⟨(ka:Int),(ea:Int),(na:Int)⟩,⟨(kb:Int),(eb:Int),(nb:Int)⟩,rfl⟩:∃a b,args=[a,b]:=by
      match args,g with
      |[a,b],_=>exact⟨a,b,rfl⟩
     have ha:bD ka ea na:=rF ((ka,ea,na):Int×Int×Int) (by simp);have hb:bD kb eb nb:=rF _ (List.mem_cons_of_mem _ (aq5.2 rfl));rw[aj (by simp),aj (by simp),al (by simp),QW,QX,aqI,aqI,xC]
     have ain:op=11\/op=12\/op=13\/op=14\/op=15\/op=16\/op=17\/op=18\/op=19\/op=20\/op=21\/op=22\/op=23\/op=24\/op=27\/op=28\/op=29\/op=30:=by
      unfold ar at vA;simp at vA
      split at vA<;>(try split at vA)<;>(try split at vA)<;>(try split at vA)<;>omega
     rcases ain with rfl|rfl|rfl|rfl|rfl|rfl|rfl|rfl|rfl|rfl|rfl|rfl|rfl|rfl|rfl|rfl|rfl|rfl
     .exact abG ..
     .exact abH ..
     .exact abM _ _ _ _ _ _ _ ha hb _
     .exact NF ..
     .exact abN ..
     .exact NG ..
     .exact abI _ _ _ _ _ _ _ ha hb _
     .exact abJ _ _ _ _ _ _ _ ha hb _
     .exact aia ..
     .exact aib ..
     .exact aic ..
     .exact aid ..
     .exact abK _ _ _ _ _ _ _ ha hb _
     .exact aie _ _ _ _ _ _ _ ha hb _
     .exact NE ..
     .exact GS ..
     .exact Yd ..
     .exact UI ..
    .obtain⟨⟨(ka:Int),(ea:Int),(na:Int)⟩,⟨(kb:Int),(eb:Int),(nb:Int)⟩,⟨(kc:Int),(ec:Int),(nc:Int)⟩,rfl⟩:∃a b c,args=[a,b,c]:=by
      match args,g with
      |[a,b,c],_=>exact⟨a,b,c,rfl⟩
     have hb:bD kb eb nb:=rF ((kb,eb,nb):Int×Int×Int) (by simp);have hc:bD kc ec nc:=rF ((kc,ec,nc):Int×Int×Int) (by simp);rw[aj (by simp),aj (by simp),aj (by simp),Wn,Wo,Wq,aqI,aqI,aqI]
     have aio:op=26:=by
      unfold ar at vA;simp at vA
      split at vA<;>(try split at vA)<;>(try split at vA)<;>(try split at vA)<;>omega
     subst aio;exact ail m ka ea na kb eb nb kc ec nc hb hc env
end L.P
namespace L.P
abbrev dZ(l:List Nat):List Int:=l.map (λn:Nat=>(n:Int))
def pZ(a:Int)(i:Nat)(sk:List Nat):Nat:=if a=0 then i else sk.getD (sk.length-a.toNat) 0
def ji:List Ty->Nat->List Nat->List Nat->(Nat×Int)⊕(List Nat×List Nat)
 |[],_,st,sk=> .inr (st,sk)
 |n::e,i,st,sk=>
  if ar n.1<0 then .inl (i,2)else if(sk.length:Int)<ar n.1 then .inl (i,5)else
  if 12<sk.length-(ar n.1).toNat+1 then .inl (i,16)else ji e (i+1) (st++[pZ (ar n.1) i sk]) (sk.take (sk.length-(ar n.1).toNat)++[pZ (ar n.1) i sk])
def pD(e:List Ty):Int×Int×List Int:=
 if 48<e.length then(0,4,[])else if e.length=0 then(0,5,[])else match ji e 0 [] []with
  | .inl (i,c)=>(i,c,[])
  | .inr (st,sk)=>if 1<sk.length then(e.length,4,[])else(0,0,dZ st)
def D1(st:List Nat)(m:Nat)(v:Nat):bn (dZ st++aqO (m+1) (0:Int)) (st.length:Int) (v:Int)=dZ (st++[v])++aqO m (0:Int):=by
 grind [bn]
def xD(st:List Nat)(m:Nat)(u v:Nat):bn (dZ (st++[u])++aqO m (0:Int)) (st.length:Int) (v:Int)=dZ (st++[v])++aqO m (0:Int):=by
 unfold bn
 simp_all
def pE(e:List Ty):M.ie aJ e=aa (pD e):=by
 apply Wp.eq;unfold M.ie pD
 refine Wp.dec (λh=> .some ?_) λh1=>?_
 .grind
 rw[aj (show¬48<e.length by omega)]
 refine Wp.dec (λh=> .some ?_) λh2=>?_
 .grind
 rw[aj (show¬e.length=0 by omega)]
 have Bc:ol (e.length:Int) (0:Int)=aa (aqO e.length 0):=by
  unfold ol;rw[al (by omega),aqR]
 rw[Bc];simp only[aqI];refine Wp.join (Wp.loop (λs:Int×List Int×List Int=>∃st sk:List Nat,s=((st.length:Int),dZ st++aqO (e.length-st.length) 0,dZ sk)/\st.length<=e.length/\sk.length<=12/\ji (e.drop st.length) st.length st sk=ji e 0 [] []) (λs=>(e.length-s.1).toNat) ⟨[],[],by simp,by simp,by simp,by simp⟩ (by simp only;unfold aJ;omega) ?_)
 rintro _ ⟨st,sk,rfl,mf,Zg,cO⟩
 simp only
 refine Wp.dec (λhk=>?_) λhk=> .some ?_
 case refine_2=>
  have hd:e.drop st.length=[]:=List.drop_of_length_le (by omega);rw[hd]at cO;rw[<-cO]
  have h0:e.length-st.length=0:=by omega
  rw[h0];simp only[ji,List.replicate_zero,List.append_nil]
  show Wp _ _
  refine Wp.dec (λh=> .some ?_) λh=> .some ?_
  all_goals grind
 have jh:st.length<e.length:=by omega
 have hd:e.drop st.length=e[st.length]::e.drop (st.length+1):=aq6 jh
 obtain⟨m,hm⟩:∃m,e.length-st.length=m+1:=⟨e.length-st.length-1,by omega⟩
 rw[hd]at cO;rw[aF jh,hm];simp only[aqI,dE];generalize fJ:(e[st.length].1:Int)=op;rw[ji]at cO;rw[fJ]at cO;have EN:=lR op
 refine Wp.dec (λh=> .some ?_) λJB=>?_
 .rw[al h]at cO
  show _=_
  rw[<-cO]
 rw[aj JB]at cO
 refine Wp.dec (λh=> .some ?_) λhlen=>?_
 .rw[al (by simpa using h)]at cO
  show _=_
  rw[<-cO]
 have hlen:¬(sk.length:Int)<ar op:=by simpa using hlen
 rw[aj hlen]at cO
 obtain⟨a,ha⟩:∃a:Nat,ar op=a:=⟨(ar op).toNat,by omega⟩
 rw[ha]at cO JB hlen EN⊢
 have aip:a<=sk.length:=by omega
 have e6:idx (dZ st++aqO (m+1) (0:Int)) (st.length:Int)=aa 0:=by
  rw[aF (by simp)];rw[are (by simp)];simp
 rw[e6]
 have hw:aqJ.wrap (((dZ sk).length:Int)-(a:Int))=((sk.length-a:Nat):Int):=by
  rw[arb,aH (by omega) (by omega)];omega
 have hs:pZ (a:Int) st.length sk=(if a=0 then st.length else sk.getD (sk.length-a) 0):=by
  unfold pZ;by_cases h0:a=0
  .subst h0;simp
  .grind
 simp only[aqI,D1,hw];refine Wp.seq (· =dZ (st++[pZ (a:Int) st.length sk])++aqO m (0:Int)) ?_ ?_
 .refine Wp.dec (λh=>?_) λh=>?_
  .have aI:sk.length-a<(dZ sk).length:=by simp;omega
   rw[aF aI]
   have e9:idx (dZ (st++[st.length])++aqO m (0:Int)) (st.length:Int)=aa (st.length:Int):=by
    rw[aF (by simp)];rw[aqX (by simp)];simp
   simp only[aqI,e9,List.getElem_map,xD];refine .some ?_
   grind
  .refine .some ?_
   grind
 .rintro _ rfl
  generalize pZ (a:Int) st.length sk=s at cO⊢
  have Ij:gD (dZ sk) (0:Int) ((sk.length-a:Nat):Int)=aa (dZ (sk.take (sk.length-a))):=by
   rw[jC (by simp)];simp
  have e11:idx (dZ (st++[s])++aqO m (0:Int)) (st.length:Int)=aa (s:Int):=by
   rw[aF (by simp)];rw[aqX (by simp)];simp
  have Yj:cf (dZ (sk.take (sk.length-a))) [(s:Int)]=aa (dZ (sk.take (sk.length-a)++[s])):=by
   rw[br (by simp;omega)];simp
  rw[Ij];simp only[aqI,e11,Yj]
  have hl:(dZ (sk.take (sk.length-a)++[s])).length=sk.length-a+1:=by simp
  rw[hl];rw[aqR]at cO
  refine Wp.dec (λh=> .some ?_) λh=> .some ?_
  .rw[al (by omega)]at cO
   show _=_
   rw[<-cO]
  .rw[aj (by omega)]at cO;rw[aU (by omega)];refine⟨⟨st++[s],sk.take (sk.length-a)++[s],?_,by simp;omega,by simp;omega,?_⟩,by grind⟩
   all_goals grind
inductive Ch(st:List Nat):Nat->List Nat->Prop
 |nil:Ch st 0 []
 |snoc {i s:Nat} {l:List Nat} (h:st[i]? =aa s) (hs:s<=i) (c:Ch st s l):Ch st (i+1) (l++[s])
def Ch.mono{st cV:List Nat}(hs:∀i s:Nat,st[i]? =aa s->cV[i]? =aa s){i:Nat}{l:List Nat}(h:Ch st i l):Ch cV i l:=by
 induction h with
 |nil=>exact .nil
 |snoc h1 h2 _ ih=>exact .snoc (hs _ _ h1) h2 ih
def wu{st:List Nat}{x i s:Nat}(h:st[i]? =aa s):(st++[x])[i]? =aa s:=by
 grind
def Ch.lt{st:List Nat}{i:Nat}{l:List Nat}(h:Ch st i l):∀x∈l,x<i:=by
 induction h<;>grind
def Ch.take{st:List Nat}{i:Nat}{l:List Nat}(h:Ch st i l):∀m(hm:m<l.length),Ch st l[m] (l.take m):=by
 induction h<;>grind
def Ch.Nw{st:List Nat}{i:Nat}{l l':List Nat}(h:Ch st i l)(h':Ch st i l'):l=l':=by
 induction h generalizing l' with
 |nil=>cases h'<;>grind
 | @snoc i s l h1 h2 c ih=>
   cases h'<;>grind
def Ch.pos{st:List Nat}{i:Nat}{l:List Nat}(h:Ch st i l)(hi:0<i):l≠[]:=by
 cases h<;>simp_all
structure Ib(e:List Ty)(st:List Nat):Prop where
 len:st.length=e.length
 node:∀p(h:p<e.length),0<=ar e[p].1/\∃l,Ch st p l/\(ar e[p].1).toNat<=l.length/\l.length-(ar e[p].1).toNat+1<=12/\st[p]? =aa (pZ (ar e[p].1) p l)
theorem Ib.nil:Ib [] []:=⟨rfl,λp h=>by simp at h⟩
def Ib.snoc{e:List Ty}{st:List Nat}(v:Ib e st){n:Ty}{sk:List Nat}(h0:0<=ar n.1)(hc:Ch st e.length sk)(ha:(ar n.1).toNat<=sk.length)(hd:sk.length-(ar n.1).toNat+1<=12):Ib (e++[n]) (st++[pZ (ar n.1) e.length sk]):=by
 refine⟨by simp[v.len],λp hp=>?_⟩;by_cases h:p<e.length
 .rw[aqX h];obtain⟨h1,l,h2,h3,h4,h5⟩:=v.node p h;exact⟨h1,l,h2.mono λ_ _ h=>wu h,h3,h4,wu h5⟩
 .have:p=e.length:=by simp at hp;omega
  subst this;rw[are (by omega)];simp only[Nat.sub_self,List.getElem_cons_zero];refine⟨h0,sk,hc.mono λ_ _ h=>wu h,ha,hd,?_⟩
  grind [P.Ib.len]
def D2{a:Int}{i:Nat}{st l:List Nat}(h0:0<=a)(hc:Ch st i l)(ha:a.toNat<=l.length):pZ a i l<=i:=by
 unfold pZ;split
 .grind
 .have aI:l.length-a.toNat<l.length:=by omega
  simp only[arm,aqK aI,arn];exact asb (hc.lt _ (aqN aI))
def Ch.next{st l:List Nat}{i:Nat}{a:Int}(h0:0<=a)(hc:Ch st i l)(ha:a.toNat<=l.length)(hs:st[i]? =aa (pZ a i l)):Ch st (i+1) (l.take (l.length-a.toNat)++[pZ a i l]):=by
 refine .snoc hs (D2 h0 hc ha) ?_;unfold pZ;by_cases h:a=0
 .simp_all
 .have aI:l.length-a.toNat<l.length:=by omega
  rw[aj h];simp only[arm,aqK aI,arn];exact hc.take _ aI
def GV:∀(S6 pre:List Ty)(st sk cV Q0:List Nat),Ib pre st->Ch st pre.length sk->ji S6 pre.length st sk= .inr (cV,Q0)->Ib (pre++S6) cV/\Ch cV (pre++S6).length Q0
 |[],pre,st,sk,cV,Q0,v,c,h=>by
  grind [P.ji]
 |n::S6,pre,st,sk,cV,Q0,v,c,h=>by
  rw[ji]at h;split at h
  .cases h
  split at h
  .cases h
  split at h
  .cases h
  rename_i h1 h2 h3
  have h0:0<=ar n.1:=by omega
  have ha:(ar n.1).toNat<=sk.length:=by omega
  have v':=v.snoc h0 c ha (by omega)
  have c1:Ch (st++[pZ (ar n.1) pre.length sk]) pre.length sk:=c.mono λ_ _ h=>wu h
  have hs:(st++[pZ (ar n.1) pre.length sk])[pre.length]? =aa (pZ (ar n.1) pre.length sk):=by
   rw[<-v.len,arD (by omega)];simp[v.len]
  have c':=c1.next h0 ha hs;have:=GV S6 (pre++[n]) _ _ cV Q0 v' (by simpa using c') (by simpa using h)
  grind
def GW{e:List Ty}{st:List Nat}(v:Ib e st):∀(S6 pre:List Ty)(sk:List Nat),pre++S6=e->Ch st pre.length sk->∃Q0,ji S6 pre.length (st.take pre.length) sk= .inr (st,Q0)/\Ch st e.length Q0
 |[],pre,sk,he,c=>by
  rw[List.append_nil]at he;subst he;exact⟨sk,by rw[ji,<-v.len,ara],c⟩
 |n::S6,pre,sk,he,c=>by
  subst he;obtain⟨h0,l,h1,h2,h3,h4⟩:=v.node pre.length (by simp);rw[are (by omega)]at h0 h2 h3 h4;simp only[Nat.sub_self,List.getElem_cons_zero]at h0 h2 h3 h4;obtain rfl:=h1.Nw c;rw[ji,aj (by omega),aj (by omega),aj (by omega)];have c':=c.next h0 h2 h4;obtain⟨Q0,g1,g2⟩:=GW v S6 (pre++[n]) _ (by simp) (by simpa using c')
  grind [List.take_succ_eq_append_getElem]
end L.P
namespace L.P
def opsL(st:List Nat):Nat->Nat->List Nat
 |0,_=>[]
 |a+1,i=>opsL st a (st.getD (i-1) 0)++[i-1]
theorem ee(st:List Nat):∀a i,(opsL st a i).length=a
 |0,_=>rfl
 |a+1,i=>by simp[opsL,ee st a]
def Q1{st l:List Nat}{i:Nat}(c:Ch st i l):∀a,a<=l.length->(∀o∈opsL st a i,o<i/\(if h:l.length-a<l.length then l[l.length-a]else i)<=o/\∃s,st[o]? =aa s/\s<=o/\(if h:l.length-a<l.length then l[l.length-a]else i)<=s):=by
 induction c with
 |nil=>intro a ha o ho;simp at ha;subst ha;simp[opsL]at ho
 | @snoc i s l h1 h2 c ih=>
   intro a ha o ho
   cases a with
   |zero=>simp[opsL]at ho
   |succ a=>
    have aI:(l++[s]).length-(a+1)<(l++[s]).length:=by simp;omega
    rw[dif_pos aI]
    have e1:(l++[s])[(l++[s]).length-(a+1)]=(if h:l.length-a<l.length then l[l.length-a]else s):=by
     split
     .grind
     .grind
    rw[e1]
    have hg:st.getD (i+1-1) 0=s:=by simp[arm,h1]
    rw[opsL,hg]at ho;simp at ha
    have hle:(if h:l.length-a<l.length then l[l.length-a]else s)<=s:=by
     split
     .rename_i h;exact asb (c.lt _ (aqN h))
     .exact aqS _
    grind
def Ib.ops{e:List Ty}{st:List Nat}(v:Ib e st){p:Nat}(h:p<e.length):∀o∈opsL st (ar e[p].1).toNat p,o<p/\∃s t,st[o]? =aa s/\s<=o/\st[p]? =aa t/\t<=s:=by
 obtain⟨h0,l,h1,h2,_,h4⟩:=v.node p h;intro o ho;obtain⟨g1,g2,s,g3,g4,g5⟩:=Q1 h1 _ h2 o ho;refine⟨g1,s,_,g3,g4,h4,?_⟩
 grind [P.pZ]
def z3:Vl:=((0,0,0):Int×Int×Int)
def gH(g:Nat->Vl×Int):List Nat->List Vl⊕Int
 |[]=> .inl []
 |o::os=>if(g o).2=0 then(match gH g os with
  | .inl vs=> .inl ((g o).1::vs)
  | .inr c=> .inr c)else .inr (g o).2
def fS(r:Vl×Int):Vl×Int:=if r.2≠0 then(z3,r.2)else if(r.1.1:Int)=1/\bD r.1.1 r.1.2.1 r.1.2.2 then(r.1,0)else(z3,8)
def GX(g:Nat->Vl×Int)(n:Ty)(ops:List Nat):Vl×Int:=
 if(n.2:Int)≠0 then(z3,2)else
 if(fS (g (ops.getD 0 0))).2≠0 then(z3,(fS (g (ops.getD 0 0))).2)else
 if(n.1:Int)=26/\((fS (g (ops.getD 0 0))).1.2.2:Int)=1 then g (ops.getD 1 0)else
 if(n.1:Int)=26 then g (ops.getD 2 0)else
 if((n.1:Int)=23)=(((fS (g (ops.getD 0 0))).1.2.2:Int)=0)then((fS (g (ops.getD 0 0))).1,0)else fS (g (ops.getD 1 0))
def cI(op:Int):Prop:=op=23\/op=24\/op=26
instance(op:Int):Decidable (cI op):=by unfold cI;infer_instance
noncomputable def gI(ap:Ty->List Vl->Vl×Int)(e:List Ty)(st:List Nat):Nat->Nat->Vl×Int
 |0,_=>(z3,0)
 |f+1,i=>if cI (e.getD i ((0,0):Int×Int)).1 then GX (gI ap e st f) (e.getD i ((0,0):Int×Int)) (opsL st (ar (e.getD i ((0,0):Int×Int)).1).toNat i)
  else match gH (gI ap e st f) (opsL st (ar (e.getD i ((0,0):Int×Int)).1).toNat i)with
   | .inl vs=>ap (e.getD i ((0,0):Int×Int)) vs
   | .inr c=>(z3,c)
noncomputable def mv(env:bR.den)(n:Ty)(args:List Vl):Vl×Int:=(M.cx aJ n args env).getD (z3,0)
def La{env:bR.den}(he:kl env){n:Ty}(hn:WF aD n){args:List Vl}(hl:args.length<=100000):M.cx aJ n args env=aa (mv env n args):=by
 obtain⟨r,hr,_⟩:=tl (n:=n) (args:=args) he hn hl;unfold mv;rw[hr];rfl
def Lb{env:bR.den}(he:kl env){n:Ty}(hn:WF aD n){args:List Vl}(hl:args.length<=100000):UF (mv env n args):=by
 obtain⟨r,hr,h⟩:=tl (n:=n) (args:=args) he hn hl;unfold mv;rw[hr];exact h
def tq{g:Nat->Vl×Int}:∀(os:List Nat)(k:Nat),k<=os.length->∀vs,gH g (os.take k)= .inl vs->gH g os=(match gH g (os.drop k)with
 | .inl ws=> .inl (vs++ws)
 | .inr c=> .inr c)
 |os,0,_,vs,h=>by
  grind [P.gH]
 |[],k+1,h,_,_=>by simp at h
 |o::os,k+1,hk,vs,h=>by
  rw[List.take_succ_cons,gH]at h;split at h
  .rename_i h0
   cases hq:gH g (os.take k)with
   |inr c=>rw[hq]at h;cases h
   |inl ws=>
    rw[hq]at h;cases h;have:=tq os k (by simpa using hk) ws hq;rw[gH,al h0,this,List.drop_succ_cons]
    cases gH g (os.drop k)<;>rfl
  .cases h
def xE{g:Nat->Vl×Int}:∀{os:List Nat}{vs:List Vl},gH g os= .inl vs->vs.length=os.length
 |[],vs,h=>by cases h;rfl
 |o::os,vs,h=>by
  rw[gH]at h;split at h
  .cases hq:gH g os with
   |inr c=>rw[hq]at h;cases h
   |inl ws=>rw[hq]at h;cases h;simp[xE hq]
  .cases h
end L.P
namespace L.P
structure Whole(e:List Ty)(st:List Nat):Prop where
 val:Ib e st
 ne:e≠[]
 le:e.length<=48
 one:st[e.length-1]? =aa 0
 res:pD e=(0,0,dZ st)
def CK:∀(e:List Ty)(i:Nat)(st sk:List Nat)(j:Nat)(c:Int),ji e i st sk= .inl (j,c)->c=2\/c=5\/c=16
 |[],_,_,_,_,_,h=>by rw[ji]at h;cases h
 |n::e,i,st,sk,j,c,h=>by
  rw[ji]at h;split at h
  .cases h;exact .inl rfl
  split at h
  .cases h;exact .inr (.inl rfl)
  split at h
  .cases h;exact .inr (.inr rfl)
  exact CK e _ _ _ j c h
def Ch.UM{st l:List Nat}{n:Nat}(h:Ch st n l)(hl:l=[]):n=0:=by
 cases h with
 |nil=>rfl
 |snoc=>simp at hl
def Ch.Q2{st l:List Nat}{n:Nat}(h:Ch st n l)(hl:n=0):l=[]:=by
 cases h with
 |nil=>rfl
 |snoc=>omega
theorem Ch.one{st l:List Nat}{n:Nat}(h:Ch st n l)(hn:0<n):l.length<=1↔st[n-1]? =aa 0:=by
 cases h with
 |nil=>omega
 | @snoc i s l h1 h2 c=>
   rw[Nat.add_sub_cancel,h1];constructor
   .intro hl;have:l=[]:=List.length_eq_zero_iff.1 (by rw[aqT,aq8]at hl;omega);rw[c.UM this]
   .intro hs
    have h0:s=0:=by simpa using hs
    rw[h0]at c;rw[c.Q2 rfl];simp
def Q3{e:List Ty}{st:List Nat}(v:Ib e st)(dG:e≠[])(hl:e.length<=48)(h1:st[e.length-1]? =aa 0):Whole e st:=by
 have oZ:0<e.length:=List.length_pos_iff.2 dG;refine⟨v,dG,hl,h1,?_⟩;obtain⟨sk,g1,g2⟩:=GW v e [] [] rfl .nil;simp only[List.length_nil,List.take_zero]at g1;unfold pD;rw[aj (by omega),aj (by omega),g1];simp only;rw[aj];have:=(g2.one oZ).2 h1;omega
def JC(e:List Ty):(pD e).2.1≠0\/∃st,Whole e st:=by
 unfold pD;split
 .left;show(4:Int)≠0;decide
 rename_i hl;split
 .left;show(5:Int)≠0;decide
 rename_i dG
 cases hs:ji e 0 [] []with
 |inl p=>
  left
  obtain⟨j,c⟩:=p
  show c≠0
  have:=CK _ _ _ _ _ _ hs;omega
 |inr p=>
  obtain⟨st,sk⟩:=p;obtain⟨v,c⟩:=GV e [] [] [] st sk Ib.nil .nil hs;simp only[List.nil_append]at v c;by_cases h1:1<sk.length
  .left
   simp only[al h1];decide
  .right
   exact⟨st,Q3 v (λh=>dG (by rw[h];rfl)) (by omega) ((c.one (by omega)).1 (by omega))⟩
end L.P
namespace L.P
def Q4{e:List Ty}{st:List Nat}(v:Ib e st)(hl:e.length<=100000){i:Nat}(hi:i<e.length):((idx e (i:Int)).bind λx3=>
(M.eh aJ x3.1).bind λy4=>
(ol y4 (0:Int)).bind λl5=>
Loop (S:=Int×Int×List Int) (X:=List Int) (λs6=>
(if(decide ((0:Int)<=s6.2.1))=af then
(idx s6.2.2 s6.2.1).bind λx7=>
(idx (dZ st) s6.1).bind λx8=>
some (arj (aqJ.wrap (x8-(1:Int)),aqJ.wrap (s6.2.1-(1:Int)),bn s6.2.2 s6.2.1 s6.1))
else
some (arc s6.2.2))) aJ (aqJ.wrap ((i:Int)-(1:Int)),aqJ.wrap ((l5.length:Int)-(1:Int)),l5))=aa (dZ (opsL st (ar e[i].1).toNat i)):=by
 apply Wp.eq;obtain⟨h0,l,hc,ha,hd,_⟩:=v.node i hi;rw[aF hi];simp only[aqI,dE]
 obtain⟨a,hea⟩:∃a:Nat,ar e[i].1=a:=⟨(ar e[i].1).toNat,by omega⟩
 have hle:=lR e[i].1;rw[hea]at ha hle⊢;rw[aqR]at ha⊢
 have Bc:ol (a:Int) (0:Int)=aa (aqO a 0):=by
  unfold ol;rw[al (by omega),aqR]
 rw[Bc];simp only[aqI,List.length_replicate];refine Wp.loop (λs:Int×Int×List Int=>∃b p:Nat,∃dn l':List Nat,s=((p:Int)-1,(b:Int)-1,aqO b (0:Int)++dZ dn)/\b<=a/\p<=i/\opsL st a i=opsL st b p++dn/\Ch st p l'/\b<=l'.length) (λs=>(s.2.1+1).toNat) ⟨a,i,[],l,?_,aqS _,aqS _,by simp,hc,ha⟩ ?_ ?_
 .rw[aH (by omega) (by omega),aH (by omega) (by omega)];simp
 .simp only;rw[aH (n:=(a:Int)-1) (by omega) (by omega)];unfold aJ;omega
 .rintro _ ⟨b,p,dn,l',rfl,h1,h2,h3,h4,h5⟩
  simp only
  refine Wp.dec (λhb=>?_) λhb=> .some ?_
  .obtain⟨b,rfl⟩:∃m,b=m+1:=⟨b-1,by omega⟩
   cases h4 with
   |nil=>simp at h5
   | @snoc p u l' g1 g2 c=>
     simp at h5;have hp:p<st.length:=(aqQ.1 g1).1
     have e5:idx (aqO (b+1) (0:Int)++dZ dn) (((b+1:Nat):Int)-1)=aa 0:=by
      rw[show((b+1:Nat):Int)-1=(b:Int) by omega,aF (by simp;omega),aqX (by simp)];simp
     have e6:idx (dZ st) (((p+1:Nat):Int)-1)=aa (u:Int):=by
      rw[show((p+1:Nat):Int)-1=(p:Int) by omega,aF (by simpa using hp)];have:=(aqQ.1 g1).2;simp[this]
     rw[e5,e6];simp only[aqI];rw[aH (n:=(u:Int)-1) (by omega) (by omega),aH (n:=(((b+1:Nat):Int)-1)-1) (by omega) (by omega)];refine .some ⟨⟨b,u,p::dn,l',?_,by omega,by omega,?_,c,h5⟩,by simp only;omega⟩
     .have e7:bn (aqO (b+1) (0:Int)++dZ dn) (((b+1:Nat):Int)-1) (((p+1:Nat):Int)-1)=aqO b (0:Int)++dZ (p::dn):=by
       unfold bn;rw[show(((b+1:Nat):Int)-1).toNat=b by omega,show((p+1:Nat):Int)-1=(p:Int) by omega,List.replicate_succ',ard,List.set_append_right _ _ (by simp)];simp
      rw[e7];simp only[Prod.mk.injEq,and_true,true_and];omega
     .rw[h3,opsL]
      have:st.getD (p+1-1) 0=u:=by simp[arm,g1]
      rw[this];simp
  .obtain rfl:b=0:=by omega
   show _=_
   rw[h3];simp[opsL]
def yj{e:List Ty}{st:List Nat}(w:Whole e st){i:Nat}(hi:i<e.length):M.mo aJ e (i:Int)=aa (dZ (opsL st (ar e[i].1).toNat i)):=by
 have hle:=w.le;have h:=Q4 w.val (by omega) hi;unfold M.mo M.kZ;rw[pE,w.res];simp only[aqI,aQ,l4];rw[aj (by simp;omega)];exact h
end L.P
namespace L
abbrev Ty:Type:=aD.den
abbrev dZ(l:List Nat):List Int:=l.map (λn:Nat=>(n:Int))
def ar(op:Int):Int:=
 if(1<=op/\op<=9)\/(35<=op/\op<=39)then 0 else if op=10\/op=25\/(31<=op/\op<=34)then 1 else if(11<=op/\op<=24)\/(27<=op/\op<=30)then 2 else if op=26 then 3 else-1
def lR(op:Int):ar op<=3:=by unfold ar;omega
def pZ(a:Int)(i:Nat)(sk:List Nat):Nat:=if a=0 then i else sk.getD (sk.length-a.toNat) 0
def ji:List Ty->Nat->List Nat->List Nat->(Nat×Int)⊕(List Nat×List Nat)
 |[],_,st,sk=> .inr (st,sk)
 |n::e,i,st,sk=>
  if ar n.1<0 then .inl (i,2)else if(sk.length:Int)<ar n.1 then .inl (i,5)else
  if 12<sk.length-(ar n.1).toNat+1 then .inl (i,16)else ji e (i+1) (st++[pZ (ar n.1) i sk]) (sk.take (sk.length-(ar n.1).toNat)++[pZ (ar n.1) i sk])
def pD(e:List Ty):Int×Int×List Int:=
 if 48<e.length then(0,4,[])else if e.length=0 then(0,5,[])else match ji e 0 [] []with
  | .inl (i,c)=>(i,c,[])
  | .inr (st,sk)=>if 1<sk.length then(e.length,4,[])else(0,0,dZ st)
def mH(t:Ty)(n:Nat):Prop:=(1<=(t.1:Int)/\(t.1:Int)<=5/\(t.2:Int)=0)\/((t.1:Int)=6/\0<=(t.2:Int)/\(t.2:Int)<n)
instance(t:Ty)(n:Nat):Decidable (mH t n):=by unfold mH;infer_instance
def VR(r:Ty):Prop:=0<=(r.1:Int)/\(r.1:Int)<=r.2/\(r.2:Int)<=109573
instance(r:Ty):Decidable (VR r):=by unfold VR;infer_instance
def CL(a b:Ty):o6 aD a b=decide (a=b):=by
 grind [o6]
end L
section
namespace L
abbrev En:Type:=b9.den
abbrev JD:Type:=aP.den
abbrev Rw:Type:=fT.den
abbrev Fd:Type:=bG.den
abbrev Lw:Type:=cC.den
abbrev iV:Type:=bg.den
abbrev jV:Type:=cm.den
def AB(c:Int):M.oN aJ c=aa (decide (97<=c/\c<=122)):=by
 apply Wp.eq;unfold M.oN;simp only[W_,aw,ax,reduceCtorEq];omega
def Q5(c:Int):M.qk aJ c=aa (decide (48<=c/\c<=57)):=by
 apply Wp.eq;unfold M.qk;simp only[W_,aw,ax,reduceCtorEq];omega
def Lc(c:Int):M.rM aJ c=aa (decide ((97<=c/\c<=122)\/(48<=c/\c<=57)\/c=95)):=by
 apply Wp.eq;unfold M.rM;simp only[AB,Q5,W_,aw,ax,reduceCtorEq];omega
def GY:∃l,M.jy aJ=aa l/\l.length<=100:=⟨(M.jy aJ).getD [],by kernel_rfl,by decide+kernel⟩
noncomputable def mP(s:ByteArray):Bool:=(M.cy aJ s).getD ah
def wy(s:ByteArray):M.cy aJ s=aa (mP s):=by
 obtain⟨l,el,hl⟩:=GY;refine(Wp.getD (Q:=λ_=>True) ?_ ah).1;unfold M.cy;simp only[AB,Lc,el,W_,aw,ax,reduceCtorEq];intro h0 Zh;refine qv.2 ⟨by omega,λ_=>?_⟩
 refine Wp.count (λs=>s) s.size (λ_ _=>True) (by omega) rfl trivial λk c hk hs _=>?_
 obtain rfl:c=_:=hs;simp only[W_,aw,ax,reduceCtorEq,aS,aR];refine⟨λaI=>qv.2 ⟨by omega,λ_=>⟨by omega,aU (by omega)⟩⟩,λhge=>?_⟩
 refine Wp.count (λs=>s) l.length (λ_ _=>True) (by omega) rfl trivial λk c hk hs _=>?_
 obtain rfl:c=_:=hs;simp only[W_,aw,ax,reduceCtorEq,aS,aR]
 exact λaI=>eZ.2 ⟨by omega,λ_=>⟨by omega,aU (by omega)⟩⟩
def fh{β:Type}(l:List (ByteArray×β))(nm:ByteArray):Prop:=∃x∈l,x.1=nm
noncomputable instance{β:Type}(l:List (ByteArray×β))(nm:ByteArray):Decidable (fh l nm):=arQ _
noncomputable instance(m:ByteArray)(l:List ByteArray):Decidable (m∈l):=arQ _
theorem D3{β:Type}{l:List (ByteArray×β)}{nm:ByteArray}:fh l nm↔∃k,∃h:k<l.length,l[k].1=nm:=by
 grind [fh,aqZ]
theorem rp{β:Type}{l:List (ByteArray×β)}{nm:ByteArray}{m:Nat}:fh (l.take m) nm↔∃k,∃h:k<l.length,k<m/\l[k].1=nm:=by
 rw[D3];constructor
 all_goals grind
def eI{p:Nat->Prop}{k:Nat}(h:∀j,j<k->p j)(hk:p k):∀j,j<k+1->p j:=(by grind)
open Classical in
def rX(a:Lw)(sec:Int)(m:Nat)(nm:ByteArray)(hw:a.1.length<=maxLen/\a.2.1.length<=maxLen/\a.2.2.length<=maxLen):
 M.eQ aJ a sec (m:Int) nm=aa (decide ((∃k,∃h:k<a.1.length,(1<sec\/k<m)/\(a.1[k].1:ByteArray)=nm)\/(∃k,∃h:k<a.2.1.length,(2<sec\/sec=2/\k<m)/\(a.2.1[k].1:ByteArray)=nm)\/∃k,∃h:k<a.2.2.length,(sec=3/\k<m)/\(a.2.2[k].1:ByteArray)=nm)):=by
 unfold maxLen at hw;apply Wp.eq;unfold M.eQ;simp only[za]
 refine Wp.count (λs=>s) a.1.length (λk _=>∀j,j<k->∀h:j<a.1.length,¬((1<sec\/j<m)/\(a.1[j].1:ByteArray)=nm)) hw.1 rfl (λj hj=>by omega) λk c hk hs hJ=>?_
 obtain rfl:c=_:=hs;simp only[W_,aw,ax,reduceCtorEq,aS,aR];refine⟨λaI=>?_,λhge=>?_⟩
 .have aI:k<a.1.length:=by omega
  simp only[aF aI,W_,aw,ax,reduceCtorEq,bF hw.1 aI];exact⟨λh1=>⟨λh2=> .inl ⟨k,aI, .inl h1,h2⟩,λh2=>⟨aI,eI hJ λ_ h=>h2 h.2⟩⟩,(by grind)⟩
 have hE:¬∃k,∃h:k<a.1.length,(1<sec\/k<m)/\(a.1[k].1:ByteArray)=nm:=(by grind)
 simp only[hE,false_or];clear hJ hE
 refine Wp.count (λs=>s) a.2.1.length (λk _=>∀j,j<k->∀h:j<a.2.1.length,¬((2<sec\/sec=2/\j<m)/\(a.2.1[j].1:ByteArray)=nm)) hw.2.1 rfl (λj hj=>by omega) λk c hk hs hJ=>?_
 obtain rfl:c=_:=hs;simp only[W_,aw,ax,reduceCtorEq,aS,aR];refine⟨λaI=>?_,λhge=>?_⟩
 .have aI:k<a.2.1.length:=by omega
  simp only[aF aI,W_,aw,ax,reduceCtorEq,bF hw.2.1 aI];exact⟨λh1=>⟨λh2=> .inl ⟨k,aI, .inl h1,h2⟩,λh2=>⟨aI,eI hJ λ_ h=>h2 h.2⟩⟩,(by grind)⟩
 have hE:¬∃k,∃h:k<a.2.1.length,(2<sec\/sec=2/\k<m)/\(a.2.1[k].1:ByteArray)=nm:=(by grind)
 simp only[hE,false_or];clear hJ hE
 refine Wp.count (λs=>s) a.2.2.length (λk _=>∀j,j<k->∀h:j<a.2.2.length,¬((sec=3/\j<m)/\(a.2.2[j].1:ByteArray)=nm)) hw.2.2 rfl (λj hj=>by omega) λk c hk hs hJ=>?_
 obtain rfl:c=_:=hs;simp only[W_,aw,ax,reduceCtorEq,aS,aR];refine⟨λaI=>?_,λhge=>?_⟩
 .have aI:k<a.2.2.length:=by omega
  simp only[aF aI,W_,aw,ax,reduceCtorEq,bF hw.2.2 aI]
  grind
 grind
def tt(l:List Fd)(m:Nat)(nm:ByteArray)(hl:l.length<=maxLen):M.jz aJ l (m:Int) nm=aa (decide (fh (l.take m) nm)):=by
 unfold maxLen at hl;apply Wp.eq;unfold M.jz
 refine Wp.count (λs=>s) l.length (λk _=>∀j,j<k->∀h:j<l.length,j<m->¬(l[j].1:ByteArray)=nm) hl rfl (λj hj=>by omega) λk c hk hs hJ=>?_
 obtain rfl:c=_:=hs
 have BQ:(k:Nat)>=l.length\/k>=m->¬fh (l.take m) nm:=λhge h=>by
  grind [rp]
 simp only[W_,aw,ax,reduceCtorEq,aS,aR];refine⟨λh1=>⟨λh2=>?_,λh2=>BQ (by omega)⟩,λh1=>BQ (by omega)⟩
 have aI:k<l.length:=by omega
 simp only[aF aI,W_,aw,ax,reduceCtorEq,bF hl aI];exact⟨λh=>rp.2 ⟨k,aI,by omega,h⟩,(by grind)⟩
def cJ(t:Ty)(E:List En):M.dw aJ t E=aa (decide (mH t E.length)):=by
 obtain⟨(k:Int),(e:Int)⟩:=t;apply Wp.eq;unfold M.dw;simp only[W_,aw,ax,reduceCtorEq];simp only[mH];grind
def Ld(r:Ty):M.jI aJ r=aa (decide (VR r)):=by
 obtain⟨(k:Int),(e:Int)⟩:=r;apply Wp.eq;unfold M.jI;simp only[W_,aw,ax,reduceCtorEq];simp only[VR];grind
def I6(t:Ty)(E:List En):Int×Int:=
 if¬mH t E.length then(0,-1)else if(t.1:Int)=1 then(0,1)else if(t.1:Int)=2 then(-1000000000000,1000000000000)else if(t.1:Int)=3 then(-1000000000000000,1000000000000000)else if(t.1:Int)=4 then(-1000000000,1000000000)else if(t.1:Int)=5 then(0,109572)
 else(0,aqJ.wrap ((((E[(t.2:Int).toNat]?).map λe=>(e.2.length:Int)).getD 0)-1))
def Q6(t:Ty)(E:List En):M.nw aJ t E=aa (I6 t E):=by
 obtain⟨(k:Int),(e:Int)⟩:=t;apply Wp.eq;unfold M.nw I6;simp only[cJ,W_,aw,ax,reduceCtorEq];by_cases hv:mH (k,e) E.length
 .simp only[hv,not_true_eq_false,if_false,false_implies,true_implies,true_and];refine⟨λh=>by rw[al h],λh1=>⟨λh=>by rw[aj h1,al h],λh2=>⟨λh=>by rw[aj h1,aj h2,al h],λh3=>⟨λh=>by rw[aj h1,aj h2,aj h3,al h],λh4=>⟨(by grind),λh5=>?_⟩⟩⟩⟩⟩;simp only[mH]at hv;dsimp only[aC,Row.den]at*
  have hi:e.toNat<E.length:=by omega
  refine eZ.2 ⟨by omega,?_⟩
  grind
 grind
def D4(n:Int)(t:Ty)(E:List En):Prop:=(I6 t E).1<=n/\n<=(I6 t E).2
instance(n:Int)(t:Ty)(E:List En):Decidable (D4 n t E):=by unfold D4;infer_instance
def Q7(n:Int)(t:Ty)(E:List En):M.pT aJ n t E=aa (decide (D4 n t E)):=by
 apply Wp.eq;unfold M.pT;simp only[Q6,W_,aw,ax,reduceCtorEq];unfold D4;omega
def sr(x:Rw)(t:JD)(E:List En):Prop:=¬VR x.1\/(x.1.1:Int)=x.1.2\/(x.2.2.1:Int)<=x.2.1\/¬D4 x.2.1 t.2.1 E\/¬D4 (aqJ.wrap ((x.2.2.1:Int)-1)) t.2.1 E\/¬D4 x.2.2.2 t.2.2.1 E
instance(x:Rw)(t:JD)(E:List En):Decidable (sr x t E):=by unfold sr;infer_instance
def Q8(x:Rw)(t:JD)(E:List En):M.ql aJ x t E=aa (decide (sr x t E)):=by
 apply Wp.eq;unfold M.ql;simp only[Ld,Q7,W_,aw,ax,reduceCtorEq];unfold sr;grind
def qy(a b:Rw):Prop:=VR a.1/\VR b.1/\((a.1.1:Int)<a.1.2/\(a.1.1:Int)<b.1.2/\(b.1.1:Int)<a.1.2/\(b.1.1:Int)<b.1.2)/\(a.2.1:Int)<a.2.2.1/\(a.2.1:Int)<b.2.2.1/\(b.2.1:Int)<a.2.2.1/\(b.2.1:Int)<b.2.2.1
instance(a b:Rw):Decidable (qy a b):=by simp only[qy];dsimp only[aC,Row.den]at*;infer_instance
def Q9(a b:Rw):M.nx aJ a b=aa (decide (qy a b)):=by
 obtain⟨⟨(a1:Int),(a2:Int)⟩,(a3:Int),(a4:Int),(a5:Int)⟩:=a;obtain⟨⟨(b1:Int),(b2:Int)⟩,(b3:Int),(b4:Int),(b5:Int)⟩:=b;apply Wp.eq;unfold M.nx M.pd;simp only[Ld,W_,aw,ax,reduceCtorEq];simp only[qy];grind
open Classical in
noncomputable def qK(t:JD)(E:List En)(k:Nat):Option (Int×Int):=match t.2.2.2[k]? with
 |none=>ae
 |some x=>if sr x t E then aa ((k:Int),3)else if∃y∈t.2.2.2.take k,qy y x then aa ((k:Int),11)else ae
noncomputable def og(t:JD)(E:List En):Int×Int:=
 if 64<t.2.2.2.length then(64,4)else if¬(mH t.2.1 E.length/\mH t.2.2.1 E.length)then(-1,8)else(dp (qK t E) t.2.2.2.length).getD (0,0)
def UN(t:JD)(E:List En):M.ny aJ t E=aa (og t E):=by
 apply Wp.eq;unfold M.ny og;simp only[cJ,Q8,Q9,W_,aw,ax,reduceCtorEq];refine⟨λh=>by grind,λh64=>?_⟩;rw[aj (c:=64<t.2.2.2.length) (by omega)];refine⟨λh1=>by rw[al (λg=>h1 g.1)],λh1=>⟨(by grind),λh2=>?_⟩⟩;rw[aj (λg=>g ⟨h1,h2⟩)]
 refine Wp.count (λs=>s) t.2.2.2.length (λk _=>∀j,j<k->qK t E j=ae) (by omega) rfl (λj hj=>by omega) λk s hk hs hJ=>?_
 obtain rfl:s=_:=hs;simp only[W_,aw,ax,reduceCtorEq,aS,aR];refine⟨λaI=>?_,λhge=>?_⟩
 .have aI:k<t.2.2.2.length:=by omega
  have hf:qK t E k=if sr t.2.2.2[k] t E then aa ((k:Int),3)else if∃y∈t.2.2.2.take k,qy y t.2.2.2[k]then aa ((k:Int),11)else ae:=by
   unfold qK;rw[aqK aI]
  simp only[aF aI,W_,aw,ax,reduceCtorEq,bF (m:=t.2.2.2.length) (by omega) aI];refine⟨λhw=>?_,λhw=>?_⟩
  .grind [dh]
  rw[aj hw]at hf
  refine Wp.count (λs=>s) k (λj _=>∀i,i<j->∀h:i<t.2.2.2.length,¬qy t.2.2.2[i] t.2.2.2[k]) (by omega) rfl (λj hj=>by omega) λj c hj hs hI=>?_
  obtain rfl:c=_:=hs;simp only[W_,aw,ax,reduceCtorEq,aS,aR];refine⟨λS7=>?_,λS7=>⟨aI,eI hJ ?_⟩⟩
  .have xc:j<t.2.2.2.length:=by omega
   simp only[aF xc,W_,aw,ax,reduceCtorEq,bF (m:=k) (by omega) (show j<k by omega)];refine⟨λhc=>?_,(by grind)⟩;rw[dh (hf.trans (al ⟨_,List.mem_take_iff_getElem.2 ⟨j,by omega,rfl⟩,hc⟩)) hJ aI];rfl
  .rw[hf,aj]
   grind [List.mem_take_iff_getElem]
 grind [bZ]
end L
end
namespace L
abbrev uB:Type:=bE.den
def Le(op:Int):M.gQ aJ op=aa (ar op):=by
 apply Wp.eq;unfold M.gQ ar;simp only[W_,aw,ax,reduceCtorEq];omega
def Ra{sk:List Nat}{j:Nat}(h:j<sk.length):idx (dZ sk) (j:Int)=aa ((sk.getD j 0:Nat):Int):=by
 grind [aF]
def tw(l:List Nat):(dZ l).length=l.length:=arb _
def CM(l:List Nat)(x:Nat):dZ l++[(x:Int)]=dZ (l++[x]):=by simp[dZ]
def p3(e:List Ty):M.iK aJ e=aa (pD e):=by
 apply Wp.eq;unfold M.iK;simp only[Le,W_,aw,ax,reduceCtorEq];refine⟨λh=>by unfold pD;rw[al (by omega)],λh48=>⟨λh0=>by unfold pD;rw[aj (by omega),al (by omega)],λh0=>?_⟩⟩
 have hS:pD e=match ji e 0 [] []with
  | .inl (i,c)=>((i:Int),c,[])
  | .inr (st,sk)=>if 1<sk.length then((e.length:Int),4,[])else(0,0,dZ st):=by unfold pD;rw[aj (by omega),aj (by omega)]<;>cases ji e 0 [] []<;>rfl
 refine Wp.count (λs=>s.1) e.length (λk s=>∃st sk,s.2=(dZ st,dZ sk)/\ji e 0 [] []=ji (e.drop k) k st sk/\sk.length<=12/\st.length=k) (by omega) rfl ⟨[],[],rfl,rfl,by simp,rfl⟩ λk s hk hs hJ=>?_
 obtain⟨i,_⟩:=s;obtain⟨st,sk,h,hr,S8,mf⟩:=hJ;dsimp only at hs h;subst hs h;simp only[W_,aw,ax,reduceCtorEq,aS,aR,tw];refine⟨λaI=>?_,λhge=>?_⟩
 .have aI:k<e.length:=by omega
  rw[aq6 aI,ji]at hr;simp only[aF aI,W_,aw,ax,reduceCtorEq]
  obtain⟨a,ha⟩:∃a,a=ar e[k].1:=⟨_,rfl⟩
  have ha3:=lR e[k].1;simp only[<-ha]at hr ha3⊢;refine⟨λhn=>?_,λhn=>?_⟩
  .rw[hS,hr,al hn]
  rw[aj hn]at hr;refine⟨λh5=>?_,λh5=>?_⟩
  .rw[hS,hr,al h5]
  rw[aj h5]at hr
  have fin:∀x:Nat,x=pZ a k sk->Wp (cf (dZ (sk.take (sk.length-a.toNat))) [(x:Int)]) (λl8=>Wp (cf (dZ st) [(x:Int)]) λl9=>(12<(l8.length:Int)->((k:Int),((16:Int),([]:List Int)))=pD e)/\(¬12<(l8.length:Int)->k<e.length/\aqJ.wrap ((k:Int)+1)=((k+1:Nat):Int)/\∃st sk,(l9,l8)=(dZ st,dZ sk)/\ji e 0 [] []=ji (e.drop (k+1)) (k+1) st sk/\sk.length<=12/\st.length=k+1)):=by
   intro x hx;refine lZ.2 ⟨by rw[tw,aq9];simp;omega,lZ.2 ⟨by rw[tw];simp;omega,?_⟩⟩;rw[CM,CM,tw,aqT,aq9];simp only[arh,List.length_nil];refine⟨λh=>?_,λh=>⟨aI,bF (m:=e.length) (by omega) aI,st++[x],sk.take (sk.length-a.toNat)++[x],rfl,?_,?_,?_⟩⟩
   .rw[hS,hr,al (by omega)]
   .rw[hr,aj (by omega),hx]
   .rw[aqT,aq9];simp;omega
   .rw[aqT,mf];rfl
  refine⟨λhp=>?_,λhp=>?_⟩
  .have w1:aqJ.wrap ((sk.length:Int)-a)=((sk.length-a.toNat:Nat):Int):=by rw[aH (by omega) (by omega)];omega
   simp only[w1,Ra (show sk.length-a.toNat<sk.length by omega),jC (show sk.length-a.toNat<=(dZ sk).length by rw[tw];omega),W_,aw,ax,reduceCtorEq];rw[<-List.map_take];exact fin _ (by unfold pZ;rw[aj (by omega)])
  .have:a.toNat=0:=by omega
   have:=fin k (by unfold pZ;rw[al (by omega)]);rw[‹a.toNat=0›,Nat.sub_zero,ara]at this;exact this
 .obtain rfl:k=e.length:=by omega
  rw[List.drop_length,ji]at hr;rw[hS,hr];refine⟨λh=>?_,λh=>?_⟩
  .exact(al (c:=1<sk.length) (by omega)).symm
  .exact(aj (c:=1<sk.length) (by omega)).symm
theorem be(op:Int):M.ou aJ op=aa (decide ((1<=op/\op<=8)\/(14<=op/\op<=16)\/op=33\/op=34\/(36<=op/\op<=39))):=by
 apply Wp.eq;unfold M.ou;simp only[W_,aw,ax,reduceCtorEq];omega
def bm(k:Int):M.lB aJ k=aa (decide (k=2\/k=3\/k=4)):=by
 apply Wp.eq;unfold M.lB;simp only[W_,aw,ax,reduceCtorEq];omega
def aZ(k:Int):M.ja aJ k=aa (decide (k=2\/k=3\/k=4\/k=5)):=by
 apply Wp.eq;unfold M.ja;simp only[bm,W_,aw,ax,reduceCtorEq];omega
def bI(k:Int):M.et aJ k=aa ((k,(0:Int)):Ty):=rfl
def GZ(op m:Int)(s:uB):Prop:=(1<=op/\op<=5->D4 m (op,(0:Int)) s.1)/\(14<=op/\op<=16->0<=m/\m<=5)/\(op=34->0<=m/\aqY m 8<=5)/\(op=6->0<=m)
instance(op m:Int)(s:uB):Decidable (GZ op m s):=by unfold GZ;infer_instance
def AD(n:Ty)(s:uB):M.nz aJ n s=aa (decide (GZ n.1 n.2 s)):=by
 obtain⟨(op:Int),(m:Int)⟩:=n;apply Wp.eq;unfold M.nz;simp only[bI,Q6,W_,aw,ax,reduceCtorEq];unfold GZ D4;dsimp only[aC,Row.den]at*;omega
def UO(op m:Int)(s:uB):Prop:=
 (op=6->aqJ.wrap (aqW m 16)<(s.1.length:Int)/\aqY m 16<(((s.1[(aqJ.wrap (aqW m 16)).toNat]?).map λe=>(e.2.length:Int)).getD 0))/\
 (op=7->0<=m/\m<(s.2.2.1.length:Int))/\(op=8->0<=m/\m<(s.2.2.2.1.length:Int))/\(op=33->0<=m/\m<(s.2.1.length:Int))/\(op=34->aqJ.wrap (aqW m 8)<(s.2.1.length:Int))/\
 (35<=op/\op<=39->s.2.2.2.2.2=af)/\(36<=op/\op<=39->0<=m/\m<(s.2.2.2.2.1.length:Int))
instance(op m:Int)(s:uB):Decidable (UO op m s):=by unfold UO;infer_instance
theorem Lf{m k:Int}(h0:0<=m)(h1:m<=9223372036854775807)(hk:0<k):0<=aqJ.wrap (aqW m k):=by
 have h2:0<=aqW m k:=Int.tdiv_nonneg h0 (by omega)
 have h3:aqW m k<=m:=by rw[aq0 h0];exact Int.ediv_le_self _ h0
 grind [aH]
def Yk(n:Ty)(s:uB)(hm:(n.2:Int)<=9223372036854775807)(hr:GZ n.1 n.2 s):M.bX aJ n s=aa (decide (UO n.1 n.2 s)):=by
 obtain⟨(op:Int),(m:Int)⟩:=n;apply Wp.eq;unfold M.bX;simp only[W_,aw,ax,reduceCtorEq];unfold UO;unfold GZ at hr;dsimp only[aC,Row.den]at*;refine⟨λh6=>⟨λh=>?_,λh=>?_⟩,λh6=>?_⟩
 .have h0:=Lf (k:=16) (hr.2.2.2 h6) hm (by omega);refine eZ.2 ⟨⟨h0,h⟩,?_⟩
  grind
 .grind
 simp only[h6,W_,aw,ax,reduceCtorEq]
 cases h5:s.2.2.2.2.2<;>simp only[imp_false,W_,aw,ax,reduceCtorEq]<;>omega
def Rb{op m:Int}{s:uB}(hf:UO op m s):Wp (M.cT aJ (op,m) s) λ_=>True:=by
 unfold M.cT;simp only[bI,aZ,cJ,W_,aw,ax,reduceCtorEq];unfold UO at hf;dsimp only[aC,Row.den]at*
 refine λh6=>⟨λh7=>?_,λh7=>⟨λh8=>?_,λh8=>λh9 GQ=>?_⟩⟩
 .exact eZ.2 ⟨hf.2.1 h7,trivial⟩
 .grind [eZ]
 .by_cases h:36<=op/\op<=39
  .have:Wp (idx s.2.2.2.2.1 m) λ_=>True:=eZ.2 ⟨hf.2.2.2.2.2.2 h,trivial⟩
   grind
  grind
def JE{op m:Int}{a:Ty}{s:uB}(hm:m<=9223372036854775807)(h1:ar op=1)(hr:GZ op m s)(hf:UO op m s):Wp (M.dX aJ (op,m) a s) λ_=>True:=by
 have fJ:op=10\/op=25\/(31<=op/\op<=34):=by
  clear hr hf;unfold ar at h1;omega
 unfold M.dX;simp only[bI,bm,cJ,W_,aw,ax,reduceCtorEq];unfold UO at hf;unfold GZ at hr;dsimp only[aC,Row.den]at*
 grind [eZ,Lf]
def JF(op a b:Int):Wp (M.lC aJ op a b) λ_=>True:=by
 unfold M.lC;simp only[bI,W_,aw,ax,reduceCtorEq]
def JG(op:Int)(a b:Ty):Wp (M.iT aJ op a b) λ_=>True:=by
 obtain⟨r,e,_⟩:=JF op a.1 b.1;unfold M.iT
 repeat' first|exact Wp.some trivial|exact⟨_,bm _,trivial⟩|exact⟨_,aZ _,trivial⟩|exact⟨_,bI _,trivial⟩|exact⟨_,e,trivial⟩|refine Wp.seq (λ_=>True) ?_ λ_ _=>?_|refine Wp.dec (λ_=>?_) λ_=>?_|refine Wp.ite (λ_=>?_) λ_=>?_
noncomputable def Rc(n:Ty)(l:List Ty)(s:uB):Ty×Int:=(M.bo aJ n l s).getD (((0:Int),(0:Int)),(0:Int))
def JH{n:Ty}{l:List Ty}{s:uB}(hw:WF aD n)(hl:(l.length:Int)=ar n.1):M.bo aJ n l s=aa (Rc n l s):=by
 refine(Wp.getD (Q:=λ_=>True) ?_ _).1;have hm:(n.2:Int)<=9223372036854775807:=hw.2.2;have h3:=lR n.1
 have key:Wp (M.nz aJ n s) λx=>x=af->Wp (M.bX aJ n s) λx=>x=af->((l.length:Int)=0->Wp (M.cT aJ n s) λ_=>True)/\(¬(l.length:Int)=0->((l.length:Int)=1->Wp (idx l 0) λx=>Wp (M.dX aJ n x s) λ_=>True)/\
  (¬(l.length:Int)=1->((l.length:Int)=2->Wp (idx l 0) λx=>Wp (idx l 1) λx_1=>Wp (M.iT aJ n.1 x x_1) λ_=>True)/\(¬(l.length:Int)=2->Wp (idx l 1) λ_=>Wp (idx l 0) λx=>(x.1:Int)=1->Wp (idx l 1) λ_=>Wp (idx l 2) λ_=>True))):=by
  rw[AD]
  refine .some λhr=>?_
  have hr:GZ n.1 n.2 s:=ao hr;rw[Yk n s hm hr]
  refine .some λhf=>?_
  have hf:UO n.1 n.2 s:=ao hf;exact⟨λ_=>Rb hf,λh0=>⟨λh1=>eZ.2 ⟨by omega,JE hm (by omega) hr hf⟩,λh1=>⟨λh2=>eZ.2 ⟨by omega,eZ.2 ⟨by omega,JG ..⟩⟩,λh2=>eZ.2 ⟨by omega,eZ.2 ⟨by omega,λ_=>eZ.2 ⟨by omega,eZ.2 ⟨by omega,trivial⟩⟩⟩⟩⟩⟩⟩
 unfold M.bo;simp only[be,W_,aw,ax,reduceCtorEq]
 grind
noncomputable def p4(s:uB):List Ty->Nat->List Ty->(Nat×Int)⊕List Ty
 |[],_,kz=> .inr kz
 |n::e,i,kz=>
  if(Rc n (kz.drop (kz.length-(ar n.1).toNat)) s).2≠0 then .inl (i,(Rc n (kz.drop (kz.length-(ar n.1).toNat)) s).2)
  else p4 s e (i+1) (kz.take (kz.length-(ar n.1).toNat)++[(Rc n (kz.drop (kz.length-(ar n.1).toNat)) s).1])
noncomputable def G0(e:List Ty)(s:uB):Ty×Int×Int:=
 if(pD e).2.1≠0 then(((0:Int),(0:Int)),(pD e).1,(pD e).2.1)else match p4 s e 0 []with
  | .inl (i,c)=>(((0:Int),(0:Int)),(i:Int),c)
  | .inr kz=>(kz.headD ((0:Int),(0:Int)),0,0)
def Lg{e:List Ty}(h:(pD e).2.1=0):e.length<=48/\e≠[]/\∃st sk,ji e 0 [] []= .inr (st,sk):=by
 unfold pD at h;split at h
 .cases h
 split at h
 .cases h
 rename_i h1 h2;refine⟨by omega,λe=>h2 (by rw[e];rfl),?_⟩;split at h
 .rename_i c hc;exfalso
  have:∀(e:List Ty)(i:Nat)(st sk:List Nat)(j:Nat),ji e i st sk≠ .inl (j,0):=by
   intro e
   induction e with
   |nil=>intro i st sk j h;cases h
   |cons n e ih=>
    grind [ji]
  grind
 grind
def Yl{e:List Ty}{s:uB}(hw:∀n∈e,WF aD n):M.pu aJ e s=aa (G0 e s):=by
 apply Wp.eq;unfold M.pu;simp only[p3,Le,W_,aw,ax,reduceCtorEq];refine⟨λh=>by unfold G0;rw[al h],λh0=>?_⟩;obtain⟨h48,dG,cV,Q0,HY⟩:=Lg h0
 have hT:G0 e s=match p4 s e 0 []with
  | .inl (i,c)=>(((0:Int),(0:Int)),(i:Int),c)
  | .inr kz=>(kz.headD ((0:Int),(0:Int)),0,0):=by unfold G0;rw[aj (by omega)]
 refine Wp.count (λs=>s.1) e.length (λk q=>∃st sk,q.2.length=sk.length/\ji e 0 [] []=ji (e.drop k) k st sk/\p4 s e 0 []=p4 s (e.drop k) k q.2/\q.2.length<=k/\(0<k->q.2≠[])) (by omega) rfl (by grind) λk q hk hs hJ=>?_
 obtain⟨i,kz⟩:=q;obtain⟨st,sk,hl,hr,ht,NH,oZ⟩:=hJ;dsimp only at hs hl ht NH oZ;subst hs;simp only[W_,aw,ax,reduceCtorEq,aS,aR];refine⟨λaI=>?_,λhge=>?_⟩
 .have aI:k<e.length:=by omega
  rw[aq6 aI,ji]at hr;rw[aq6 aI,p4]at ht;rw[HY]at hr;have ha3:=lR e[k].1;split at hr
  .cases hr
  split at hr
  .cases hr
  split at hr
  .cases hr
  rename_i ha0 ha1 ha2
  have w1:aqJ.wrap ((kz.length:Int)-ar e[k].1)=((kz.length-(ar e[k].1).toNat:Nat):Int):=by rw[aH (by omega) (by omega)];omega
  have hd:((kz.drop (kz.length-(ar e[k].1).toNat)).length:Int)=ar e[k].1:=by rw[List.length_drop];omega
  simp only[aF aI,w1,jC (show kz.length-(ar e[k].1).toNat<=kz.length by omega),pA (l:=kz) (kz.length-(ar e[k].1).toNat) kz.length rfl rfl (by omega) (aqS _),ara,JH (hw _ (aqN aI)) hd,W_,aw,ax,reduceCtorEq];refine⟨λhc=>?_,λhc=>?_⟩
  .grind
  .rw[aj (λg=>g hc)]at ht;refine lZ.2 ⟨by rw[aq9];simp;omega,aI,bF (m:=e.length) (by omega) aI,_,_,?_,HY.trans hr,ht,?_,λ_=>by simp⟩
   all_goals grind
 .obtain rfl:k=e.length:=by omega
  rw[List.drop_length,p4]at ht;rw[hT,ht];have:kz≠[]:=oZ (List.length_pos_iff.2 dG);obtain⟨a,l,rfl⟩:=List.exists_cons_of_ne_nil this;exact eZ.2 ⟨by simp,rfl⟩
end L
namespace L
def ins(n:Int):List Int->List Int
 |[]=>[n]
 |x::l=>if x<n then x::ins n l else if x=n then x::l else n::x::l
def G1(n x:Int)(l:List Int):ins n (x::l)=if x<n then x::ins n l else if x=n then x::l else n::x::l:=rfl
theorem wz(n:Int):∀l:List Int,(ins n l).length<=l.length+1
 |[]=>aqS _
 |x::l=>by
  have:=wz n l
  grind [ins]
theorem qz{n y:Int}:∀{l:List Int},y∈ins n l↔y=n\/y∈l
 |[]=>by simp[ins]
 |x::l=>by
  unfold ins;split
  .rw[arw,qz,arw]
   grind
  grind
def qA(l:List Int)(n:Int)(hl:l.length<=4294967000):M.lD aJ l n=aa (ins n l):=by
 apply Wp.eq;unfold M.lD;rw[wp_bind]
 refine Wp.count (λs=>s.2.1) l.length (λk s=>(s.1=ah->s.2.2++ins n (l.drop k)=ins n l/\s.2.2.length<=k)/\(s.1=af->s.2.2++l.drop k=ins n l)/\s.2.2.length<=k+1) (by omega) rfl (by grind) λk s hk hs hJ=>?_
 obtain⟨d,i,out⟩:=s;dsimp only at hs hJ;subst hs;obtain⟨h1,h2,h3⟩:=hJ;simp only[W_,aw,ax,reduceCtorEq,aS,aR];refine⟨λaI=>?_,λhge=>?_⟩
 .have aI:k<l.length:=by omega
  rw[aq6 aI]at h1 h2;simp only[aF aI,bF (m:=l.length) (by omega) aI,W_,aw,ax,reduceCtorEq];refine⟨λhd=>?_,λhd=>?_⟩
  .obtain⟨h1,h4⟩:=h1 hd;rw[G1]at h1
   grind [lZ]
  grind [lZ]
 .obtain rfl:k=l.length:=by omega
  rw[List.drop_length]at h1 h2;refine⟨λhd=>lZ.2 ⟨by simp;omega,(h1 hd).1⟩,λhd=>?_⟩
  grind
def tx(l:List Int)(n:Int)(hl:l.length<=4294967000):M.nA aJ l n=aa (ins n l):=qA l n hl
def jd(p:Int->Bool)(e:List Ty):List Int:=e.foldl (λl n=>if p n.1=af then ins n.2 l else l) []
def G2(p:Int->Bool)(e:List Ty):(jd p e).length<=e.length:=by
 unfold jd
 suffices∀(e:List Ty)(l:List Int),(e.foldl (λl n=>if p n.1=af then ins n.2 l else l) l).length<=l.length+e.length by grind
 intro e
 induction e with
 |nil=>intro l;simp
 |cons n e ih=>
  grind [wz]
def G3(op:Int):Bool:=decide (op=7)
def lS(op:Int):Bool:=decide (op=8)
def G4(op:Int):Bool:=decide (36<=op/\op<=39)
def Lh(e:List Ty)(he:e.length<=100000):M.jB aJ e=aa (jd G3 e,jd lS e,jd G4 e):=by
 apply Wp.eq;unfold M.jB;rw[wp_bind]
 refine Wp.fold (λs=>s.1) (λs=>s.2) e (λ(c:List Int×List Int×List Int)n=>(if G3 n.1=af then ins n.2 c.1 else c.1,if lS n.1=af then ins n.2 c.2.1 else c.2.1,if G4 n.1=af then ins n.2 c.2.2 else c.2.2)) ([],[],[]) (λk c=>c.1.length<=k/\c.2.1.length<=k/\c.2.2.length<=k) (by omega) rfl rfl (by simp) (λk s aI hs hI=>?_) λs hs hc hI=>?_
 .obtain⟨i,a,b,c⟩:=s;dsimp only at hs hI;subst hs;have l1:=wz e[k].2 a;have l2:=wz e[k].2 b;have l3:=wz e[k].2 c;simp only[al (jm aI),aF aI,qA a _ (by omega),qA b _ (by omega),qA c _ (by omega),bF (m:=e.length) (by omega) aI,W_,aw,ax,reduceCtorEq,n9];unfold G3 lS G4;generalize e[k]=n at*;obtain⟨(op:Int),(m:Int)⟩:=n;dsimp only[aC,Row.den]at*;by_cases g1:op=7
  .subst g1;simp only[show¬(7:Int)=8 by omega,show¬(36:Int)<=7 by omega,W_,aw,ax,reduceCtorEq];omega
  by_cases g2:op=8
  .subst g2;simp only[show¬(8:Int)=7 by omega,show¬(36:Int)<=8 by omega,W_,aw,ax,reduceCtorEq];omega
  by_cases g3:36<=op<;>by_cases g4:op<=39<;>simp only[g1,g2,g3,g4,W_,aw,ax,reduceCtorEq]<;>omega
 .obtain⟨i,a,b,c⟩:=s;dsimp only at hs hc;subst hs;simp only[show¬((e.length:Int)<(e.length:Int)) by omega,W_,aw,ax,reduceCtorEq,oa]
  have:∀(e:List Ty)(c:List Int×List Int×List Int),e.foldl (λ(c:List Int×List Int×List Int)n=>(if G3 n.1=af then ins n.2 c.1 else c.1,if lS n.1=af then ins n.2 c.2.1 else c.2.1,if G4 n.1=af then ins n.2 c.2.2 else c.2.2)) c=(e.foldl (λl n=>if G3 n.1=af then ins n.2 l else l) c.1,e.foldl (λl n=>if lS n.1=af then ins n.2 l else l) c.2.1,e.foldl (λl n=>if G4 n.1=af then ins n.2 l else l) c.2.2):=by
   intro e
   induction e with
   |nil=>intro c;rfl
   |cons n e ih=>intro c;rw[List.foldl_cons,ih];rfl
  rw[hc,this];rfl
def uC(n:Nat)(l:List Int):Prop:=l.Pairwise (· < ·)/\∀x∈l,0<=x/\x<(n:Int)
theorem uC.nil{n:Nat}:uC n []:=⟨.nil,λ_ h=>by cases h⟩
def Ym{l:List Int}:∀{a b:Int},l.Pairwise (· < ·)->(∀x∈l,a<=x/\x<b)->(l.length:Int)<=max 0 (b-a):=by
 induction l with
 |nil=>grind
 |cons x l ih=>
  intro a b hp hb;obtain⟨h1,h2⟩:=arS.1 hp;have hx:=hb x (ary ..);have:=ih (a:=x+1) (b:=b) h2 (by grind)
  grind
theorem uC.len{n:Nat}{l:List Int}(h:uC n l):l.length<=n:=by
 have:=Ym h.1 h.2;omega
def JI{n:Int}:∀{l:List Int},l.Pairwise (· < ·)->(ins n l).Pairwise (· < ·)
 |[],_=>List.pairwise_singleton ..
 |x::l,h=>by
  obtain⟨h1,h2⟩:=arS.1 h;rw[G1];split
  .exact arS.2 ⟨λy hy=>by grind [qz],JI h2⟩
  grind [arS]
theorem uC.ins{n:Nat}{x:Int}{l:List Int}(h:uC n l)(hx:0<=x/\x<(n:Int)):uC n (ins x l):=
 ⟨JI h.1,λy hy=>by rcases qz.1 hy with rfl|hy;exact hx;exact h.2 y hy⟩
def oU(n:Nat)(out l:List Int):List Int:=l.foldl (λo x=>if 0<=x/\x<(n:Int)then ins x o else o) out
theorem uC.oU{n:Nat}:∀{l out:List Int},uC n out->uC n (oU n out l)
 |[],_,h=>h
 |x::l,out,h=>by
  show uC n (L.oU n (if 0<=x/\x<(n:Int)then L.ins x out else out) l)
  refine uC.oU ?_;split
  .exact h.ins ‹_›
  .exact h
def mc(s:iV)(d:Int):List Int:=
 if 0<=d/\d<(s.2.2.2.1.length:Int)then s.2.2.2.2.foldl (λout r=>if(r.2.1:Int)=d then oU s.2.2.2.1.length (oU s.2.2.2.1.length out (jd lS r.2.2.2.2.2.1)) (jd lS r.2.2.2.2.2.2.1)else out) []else[]
def ld(s:iV)(d:Int):uC s.2.2.2.1.length (mc s d):=by
 unfold mc;split
 .suffices∀(rs:List jV)(out:List Int),uC s.2.2.2.1.length out->uC s.2.2.2.1.length (rs.foldl (λout r=>if(r.2.1:Int)=d then oU s.2.2.2.1.length (oU s.2.2.2.1.length out (jd lS r.2.2.2.2.2.1)) (jd lS r.2.2.2.2.2.2.1)else out) out)from this _ _ .nil
  intro rs
  induction rs with
  |nil=>grind
  |cons r rs ih=>
   grind [uC.oU]
 .exact .nil
def abU(s:iV)(d:Int):M.rb aJ s d=aa (decide (0<=d/\d<(s.2.2.2.1.length:Int))):=by
 apply Wp.eq;unfold M.rb;simp only[W_,aw,ax,reduceCtorEq];omega
def Few(s:iV):Prop:=s.2.2.2.1.length<=100000/\s.2.2.2.2.length<=100000/\∀r∈s.2.2.2.2,r.2.2.2.2.2.1.length<=100000/\r.2.2.2.2.2.2.1.length<=100000
def Li(s:iV)(hs:Few s)(d:Int):M.lE aJ s d=aa (mc s d):=by
 apply Wp.eq;unfold M.lE;simp only[abU,W_,aw,ax,reduceCtorEq];unfold mc;refine⟨λh=>by rw[aj h],λh=>?_⟩;rw[al h];obtain⟨hn,hm,hr⟩:=hs
 refine Wp.fold (λs=>s.1) (λs=>s.2) s.2.2.2.2 (λout(r:jV)=>if(r.2.1:Int)=d then oU s.2.2.2.1.length (oU s.2.2.2.1.length out (jd lS r.2.2.2.2.2.1)) (jd lS r.2.2.2.2.2.2.1)else out) [] (λ_ c=>uC s.2.2.2.1.length c) (by omega) rfl rfl .nil (λk q aI hs hI=>?_) λq hs hc hI=>?_
 .obtain⟨i,out⟩:=q;dsimp only at hs hI;subst hs;obtain⟨r1,r2⟩:=hr _ (aqN aI);have l1:=G2 lS s.2.2.2.2[k].2.2.2.2.2.1;have l2:=G2 lS s.2.2.2.2[k].2.2.2.2.2.2.1;simp only[al (jm aI),sZ aI,aF aI,Lh _ r1,Lh _ r2,bF (m:=s.2.2.2.2.length) (by omega) aI,W_,aw,ax,reduceCtorEq,n9];refine⟨(by grind),λhd=>?_⟩
  .simp only[hd,if_true]
   refine Wp.fold (λs=>s.1) (λs=>s.2) (jd lS s.2.2.2.2[k].2.2.2.2.2.1) (λo x=>if 0<=x/\x<(s.2.2.2.1.length:Int)then ins x o else o) _ (λ_ c=>uC s.2.2.2.1.length c) (by omega) rfl rfl hI (λi c G5 hs hI=>?_) λc hs hc hI=>?_
   .obtain⟨i,o⟩:=c;dsimp only at hs hI;subst hs;have:=hI.len;simp only[al (jm G5),sZ G5,aF G5,tx o _ (by omega),bF (m:=(jd lS s.2.2.2.2[k].2.2.2.2.2.1).length) (by omega) G5,W_,aw,ax,reduceCtorEq,n9];exact⟨λh=>⟨by rw[al h],by rw[al h];exact hI.ins h⟩,(by grind)⟩
   obtain⟨i,o⟩:=c;dsimp only at hs hc hI;subst hs;simp only[jD,W_,aw,ax,reduceCtorEq,oa];have hc:o=oU _ out (jd lS s.2.2.2.2[k].2.2.2.2.2.1):=hc;subst hc
   refine Wp.fold (λs=>s.1) (λs=>s.2) (jd lS s.2.2.2.2[k].2.2.2.2.2.2.1) (λo x=>if 0<=x/\x<(s.2.2.2.1.length:Int)then ins x o else o) _ (λ_ c=>uC s.2.2.2.1.length c) (by omega) rfl rfl hI (λi c G5 hs hI=>?_) λc hs hc hI=>?_
   .obtain⟨i,o⟩:=c;dsimp only at hs hI;subst hs;have:=hI.len;simp only[al (jm G5),sZ G5,aF G5,tx o _ (by omega),bF (m:=(jd lS s.2.2.2.2[k].2.2.2.2.2.2.1).length) (by omega) G5,W_,aw,ax,reduceCtorEq,n9];exact⟨λh=>⟨by rw[al h],by rw[al h];exact hI.ins h⟩,(by grind)⟩
   obtain⟨i,o⟩:=c;dsimp only at hs hc hI;subst hs;simp only[jD,W_,aw,ax,reduceCtorEq,oa]
   grind [oU]
 .obtain⟨i,out⟩:=q;dsimp only at hs hc;subst hs;simp only[jD,W_,aw,ax,reduceCtorEq,oa];exact hc
def stepT(s:iV)(out:List Int):List Int:=out.foldl (λo x=>(mc s x).foldl (λo y=>ins y o) o) out
def nR(s:iV):Nat->List Int->List Int
 |0,out=>out
 |n+1,out=>stepT s (nR s n out)
def D5(s:iV)(d:Int):List Int:=nR s s.2.2.2.1.length (mc s d)
def uC.Re{n:Nat}:∀{l out:List Int},(∀x∈l,0<=x/\x<(n:Int))->uC n out->uC n (l.foldl (λo y=>L.ins y o) out)
 |[],_,_,h=>h
 |x::l,out,hx,h=>uC.Re (l:=l) (out:=L.ins x out) (by grind) (h.ins (hx x (ary ..)))
def uv(s:iV){out:List Int}(h:uC s.2.2.2.1.length out):uC s.2.2.2.1.length (stepT s out):=by
 unfold stepT
 suffices∀(l o:List Int),uC s.2.2.2.1.length o->uC s.2.2.2.1.length (l.foldl (λo x=>(mc s x).foldl (λo y=>ins y o) o) o)from this _ _ h
 intro l
 induction l with
 |nil=>grind
 |cons x l ih=>intro o h;exact ih _ (h.Re (ld s x).2)
def Yn(s:iV)(hs:Few s)(d:Int):M.lF aJ s d=aa (D5 s d):=by
 apply Wp.eq;unfold M.lF;simp only[Li s hs,W_,aw,ax,reduceCtorEq];have hn:=hs.1
 refine Wp.count (λs=>s.2) s.2.2.2.1.length (λk q=>q.1=nR s k (mc s d)/\uC s.2.2.2.1.length q.1) (by omega) rfl ⟨rfl,ld s d⟩ λk q hk wO hJ=>?_
 obtain⟨out,i⟩:=q;dsimp only at wO hJ;subst wO;obtain⟨hJ,hI⟩:=hJ;have hlen:=hI.len;simp only[W_,aw,ax,reduceCtorEq,aS,aR];refine⟨λaI=>?_,λhge=>?_⟩
 .have aI:k<s.2.2.2.1.length:=by omega
  refine Wp.fold (λs=>s.2) (λs=>s.1) out (λo x=>(mc s x).foldl (λo y=>ins y o) o) out (λ_ c=>uC s.2.2.2.1.length c) (by omega) rfl rfl hI (λj q Yo wO hI'=>?_) λq wO hc hI'=>?_
  .obtain⟨o,i⟩:=q;dsimp only at wO hI';subst wO;have dl:=(ld s out[j]).len;simp only[sZ Yo,aF Yo,bF (m:=out.length) (by omega) Yo,W_,aw,ax,reduceCtorEq,n9]
   refine Wp.fold (λs=>s.2) (λs=>s.1) (mc s out[j]) (λo y=>ins y o) o (λ_ c=>uC s.2.2.2.1.length c) (by omega) rfl rfl hI' (λi q G5 wO hI2=>?_) λq wO hc hI2=>?_
   .obtain⟨o,i'⟩:=q;dsimp only at wO hI2;subst wO;have:=hI2.len;simp only[sZ G5,aF G5,tx o _ (by omega),bF (m:=(mc s out[j]).length) (by omega) G5,W_,aw,ax,reduceCtorEq,n9];exact hI2.ins ((ld s out[j]).2 _ (aqN G5))
   .obtain⟨o',i'⟩:=q;dsimp only at wO hc hI2;subst wO;simp only[jD,W_,aw,ax,reduceCtorEq,oa]
    grind
  .obtain⟨o,i⟩:=q;dsimp only at wO hc hI';subst wO;simp only[jD,W_,aw,ax,reduceCtorEq,oa];exact⟨aI,bF (m:=s.2.2.2.1.length) (by omega) aI,by rw[hc,hJ];rfl,hI'⟩
 .obtain rfl:k=s.2.2.2.1.length:=by omega
  exact hJ
end L
namespace L
def jW(s:iV):Prop:=s.1.size<=80/\s.2.2.1.length<=14/\s.2.2.2.1.length<=14/\s.2.2.2.2.length<=60/\(∀f∈s.2.2.1,f.1.size<=80)/\(∀f∈s.2.2.2.1,f.1.size<=80)/\∀r∈s.2.2.2.2,r.1.size<=80/\r.2.2.2.2.2.2.2.size<=80/\r.2.2.2.2.2.1.length<=50/\r.2.2.2.2.2.2.1.length<=50
def lf(l:Lw):Prop:=l.1.length<=9/\l.2.1.length<=9/\l.2.2.length<=5/\(∀e∈l.1,e.1.size<=80/\e.2.length<=20/\∀m∈e.2,m.size<=80)/\(∀t∈l.2.1,t.1.size<=80)/\∀s∈l.2.2,jW s
def vj{α:Type}{l:List α}{p:α->Prop}(h:∀j,j<l.length->∀h:j<l.length,p l[j]):∀x∈l,p x:=λx hx=>by
 grind [aqZ]
def NI(s:iV)(hw:WF bg s):Wp (M.my aJ s) λr=>r=af->jW s:=by
 have w1:=hw.2.2.1.1;have w2:=hw.2.2.2.1.1;have w3:=hw.2.2.2.2.1;unfold maxLen at w1 w2 w3;unfold M.my;simp only[W_,aw,ax,reduceCtorEq]
 refine λh1 h2 h3 h4=>?_
 refine Wp.count (λs=>s) s.2.2.1.length (λk _=>∀j,j<k->∀h:j<s.2.2.1.length,(s.2.2.1[j].1:ByteArray).size<=80) w1 rfl (λj hj=>by omega) λk c hk hs hA=>?_
 obtain rfl:c=_:=hs;simp only[W_,aw,ax,reduceCtorEq,aS,aR];refine⟨λaI=>?_,λhge=>?_⟩
 .have aI:k<s.2.2.1.length:=by omega
  simp only[aF aI,bF w1 aI,W_,aw,ax,reduceCtorEq]
  grind
 have hA:=λj(hj:j<s.2.2.1.length)=>hA j (by omega)
 refine Wp.count (λs=>s) s.2.2.2.1.length (λk _=>∀j,j<k->∀h:j<s.2.2.2.1.length,(s.2.2.2.1[j].1:ByteArray).size<=80) w2 rfl (λj hj=>by omega) λk c hk hs hB=>?_
 obtain rfl:c=_:=hs;simp only[W_,aw,ax,reduceCtorEq,aS,aR];refine⟨λaI=>?_,λhge=>?_⟩
 .have aI:k<s.2.2.2.1.length:=by omega
  simp only[aF aI,bF w2 aI,W_,aw,ax,reduceCtorEq]
  grind
 have hB:=λj(hj:j<s.2.2.2.1.length)=>hB j (by omega)
 refine Wp.count (λs=>s) s.2.2.2.2.length (λk _=>∀j,j<k->∀h:j<s.2.2.2.2.length,(s.2.2.2.2[j].1:ByteArray).size<=80/\(s.2.2.2.2[j].2.2.2.2.2.2.2:ByteArray).size<=80/\s.2.2.2.2[j].2.2.2.2.2.1.length<=50/\s.2.2.2.2[j].2.2.2.2.2.2.1.length<=50) w3 rfl (λj hj=>by omega) λk c hk hs hC=>?_
 obtain rfl:c=_:=hs;simp only[W_,aw,ax,reduceCtorEq,aS,aR];refine⟨λaI=>?_,λhge=>?_⟩
 .have aI:k<s.2.2.2.2.length:=by omega
  simp only[aF aI,bF w3 aI,W_,aw,ax,reduceCtorEq]
  exact λh1 h2 h3 h4=>⟨aI,eI hC (by omega)⟩
 exact⟨by omega,by omega,by omega,by omega,vj hA,vj hB,vj λj hj=>hC j (by omega)⟩
def NJ(l:Lw)(hw:WF cC l):Wp (M.oo aJ l) λr=>r=af->lf l:=by
 have w1:=hw.1.1;have w2:=hw.2.1.1;have w3:=hw.2.2.1;unfold maxLen at w1 w2 w3;unfold M.oo;simp only[W_,aw,ax,reduceCtorEq]
 refine λh1 h2 h3=>?_
 refine Wp.count (λs=>s) l.1.length (λk _=>∀j,j<k->∀h:j<l.1.length,(l.1[j].1:ByteArray).size<=80/\l.1[j].2.length<=20/\∀m∈l.1[j].2,ByteArray.size m<=80) w1 rfl (λj hj=>by omega) λk c hk hs hA=>?_
 obtain rfl:c=_:=hs;simp only[W_,aw,ax,reduceCtorEq,aS,aR];refine⟨λaI=>?_,λhge=>?_⟩
 .have aI:k<l.1.length:=by omega
  simp only[aF aI,bF w1 aI,W_,aw,ax,reduceCtorEq]
  refine λg1 g2=>?_
  refine Wp.count (λs=>s) l.1[k].2.length (λi _=>∀j,j<i->∀h:j<l.1[k].2.length,ByteArray.size l.1[k].2[j]<=80) (by omega) rfl (λj hj=>by omega) λi c hi hs hB=>?_
  obtain rfl:c=_:=hs;simp only[W_,aw,ax,reduceCtorEq,aS,aR];refine⟨λBA=>?_,λBA=>⟨aI,eI hA λ_=>⟨by omega,by omega,vj λj hj=>hB j (by omega)⟩⟩⟩
  have BA:i<l.1[k].2.length:=by omega
  simp only[aF BA,bF (m:=l.1[k].2.length) (by omega) BA,W_,aw,ax,reduceCtorEq]
  grind
 have hA:=λj(hj:j<l.1.length)=>hA j (by omega)
 refine Wp.count (λs=>s.2) l.2.1.length (λk _=>∀j,j<k->∀h:j<l.2.1.length,(l.2.1[j].1:ByteArray).size<=80) w2 rfl (λj hj=>by omega) λk c hk hs hB=>?_
 obtain⟨c1,c2⟩:=c;dsimp only at hs;subst hs;simp only[W_,aw,ax,reduceCtorEq,aS,aR];refine⟨λaI=>?_,λhge=>?_⟩
 .have aI:k<l.2.1.length:=by omega
  simp only[aF aI,bF w2 aI,W_,aw,ax,reduceCtorEq]
  grind
 have hB:=λj(hj:j<l.2.1.length)=>hB j (by omega)
 refine Wp.count (λs=>s.2) l.2.2.length (λk _=>∀j,j<k->∀h:j<l.2.2.length,jW l.2.2[j]) w3 rfl (λj hj=>by omega) λk c hk hs hC=>?_
 obtain⟨c1,c2⟩:=c;dsimp only at hs;subst hs;simp only[W_,aw,ax,reduceCtorEq,aS,aR];refine⟨λaI=>?_,λhge=>?_⟩
 .have aI:k<l.2.2.length:=by omega
  simp only[aF aI,bF w3 aI,W_,aw,ax,reduceCtorEq]
  refine λh=>(NI _ (hw.2.2.2 _ (aqN aI))).mono (by grind)
 exact⟨by omega,by omega,by omega,vj hA,vj hB,vj λj hj=>hC j (by omega)⟩
def jW.few{s:iV}(h:jW s):Few s:=⟨by have:=h.2.2.1;omega,by have:=h.2.2.2.1;omega,λr hr=>by
 have:=h.2.2.2.2.2.2 r hr
 omega⟩
abbrev LE:Type:=aG.den
def UP:LE:=((0:Int),((0:Int),((0:Int),(0:Int))))
def nW(sec:Int)(k:Int):Option (Int×Int)->LE
 |none=>UP
 |some (c,e)=>(c,(sec,(k,e)))
noncomputable def D6(ms:List ByteArray)(i:Nat):Option (Int×Int):=match ms[i]? with
 |none=>ae
 |some m=>if mP m=ah then aa (2,100+(i:Int))else if m∈ms.take i then aa (7,100+(i:Int))else ae
noncomputable def pk(l:Lw)(k:Nat):Option (Int×Int):=match l.1[k]? with
 |none=>ae
 |some x=>if mP x.1=ah then aa (2,0)else if fh (l.1.take k) x.1 then aa (7,0)else if x.2.length=0 then aa (5,0)else if 16<x.2.length then aa (4,116)else dp (D6 x.2) x.2.length
def oE{k:Nat}{a:Int}(h:k<=100000)(ha:0<=a/\a<=1000):aqJ.wrap (a+(k:Int))=a+(k:Int):=aH (by omega) (by omega)
def nt1(l:Lw)(hw:WF cC l)(k:Nat)(nm:ByteArray):Wp (M.eQ aJ l 1 (k:Int) nm) λr=>r=af↔fh (l.1.take k) nm:=by
 rw[rX l 1 k nm ⟨hw.1.1,hw.2.1.1,hw.2.2.1⟩];refine .some ?_
 grind [rp]
def nt2(l:Lw)(hw:WF cC l)(k:Nat)(nm:ByteArray):Wp (M.eQ aJ l 2 (k:Int) nm) λr=>r=af↔fh l.1 nm\/fh (l.2.1.take k) nm:=by
 rw[rX l 2 k nm ⟨hw.1.1,hw.2.1.1,hw.2.2.1⟩];refine .some ?_
 grind [D3]
def nt3(l:Lw)(hw:WF cC l)(k:Nat)(nm:ByteArray):Wp (M.eQ aJ l 3 (k:Int) nm) λr=>r=af↔fh l.1 nm\/fh l.2.1 nm\/fh (l.2.2.take k) nm:=by
 rw[rX l 3 k nm ⟨hw.1.1,hw.2.1.1,hw.2.2.1⟩];refine .some ?_
 grind [D3]
def isT{b:Bool}{P:Prop}(h:b=af↔P):(b=ah↔¬P):=by grind
def Rf(l:Lw)(hw:WF cC l)(k:Nat)(hk:k<l.1.length):M.mE aJ l (k:Int)=aa (nW 1 k (pk l k)):=by
 apply Wp.eq;unfold M.mE;simp only[aF hk,wy,W_,aw,ax,reduceCtorEq]
 have hE:pk l k=if mP l.1[k].1=ah then aa (2,0)else if fh (l.1.take k) l.1[k].1 then aa (7,0)else if l.1[k].2.length=0 then aa (5,0)else if 16<l.1[k].2.length then aa (4,116)else dp (D6 l.1[k].2) l.1[k].2.length:=by
  unfold pk;rw[aqK hk]
 rw[hE];refine⟨λh=>by rw[al h];rfl,λh1=>?_⟩;rw[aj (by simp[h1])]
 refine(nt1 l hw k l.1[k].1).mono λr hr=>?_
 refine⟨λh=>by rw[al (hr.1 h)];rfl,λh2=>?_⟩;rw[aj ((isT hr).1 (by simpa using h2))];refine⟨λh=>by rw[al (by omega)];rfl,λh3=>?_⟩;rw[aj (by omega)];refine⟨λh=>by rw[al (by omega)];rfl,λh4=>?_⟩;rw[aj (by omega)]
 refine Wp.count (λs=>s.1) l.1[k].2.length (λi s=>(∀j,j<i->D6 l.1[k].2 j=ae)/\s.2.2.1=(1:Int)/\s.2.2.2.1=(k:Int)) (by omega) rfl ⟨λj hj=>by omega,rfl,rfl⟩ λi s hi hs hJ=>?_
 obtain⟨c,s1,s2,s3,s4⟩:=s;dsimp only at hs hJ;subst hs;obtain⟨hJ,g2,g3⟩:=hJ;subst g2 g3;simp only[W_,aw,ax,reduceCtorEq,aS,aR];refine⟨λaI=>?_,λhge=>?_⟩
 .have aI:i<l.1[k].2.length:=by omega
  have hf:D6 l.1[k].2 i=if mP l.1[k].2[i]=ah then aa (2,100+(i:Int))else if l.1[k].2[i]∈l.1[k].2.take i then aa (7,100+(i:Int))else ae:=by
   unfold D6;rw[aqK aI]
  simp only[aF aI,oE (k:=i) (a:=100) (by omega) (by omega),bF (m:=l.1[k].2.length) (by omega) aI,W_,aw,ax,reduceCtorEq];refine⟨λh=>?_,λh=>?_⟩
  .rw[dh (hf.trans (al h)) hJ aI];rfl
  rw[aj (by simp[h])]at hf
  refine Wp.count (λs=>s) i (λj _=>∀q,q<j->∀h:q<l.1[k].2.length,¬l.1[k].2[q]=l.1[k].2[i]) (by omega) rfl (λj hj=>by omega) λj c hj hs hI=>?_
  obtain rfl:c=_:=hs;simp only[W_,aw,ax,reduceCtorEq,aS,aR];refine⟨λhji=>?_,λhji=>⟨aI,eI hJ ?_⟩⟩
  .have xc:j<l.1[k].2.length:=by omega
   simp only[aF xc,bF (m:=i) (by omega) (show j<i by omega),W_,aw,ax,reduceCtorEq];refine⟨λhc=>?_,(by grind)⟩;rw[dh (hf.trans (al (List.mem_take_iff_getElem.2 ⟨j,by omega,hc⟩))) hJ aI];rfl
  .rw[hf,aj]
   grind [List.mem_take_iff_getElem]
 .rw[bZ.2 λj hj=>hJ j (by omega)];rfl
end L
namespace L
theorem UQ{t:JD}{E:List En}{k:Nat}{x:Int×Int}(h:qK t E k=aa x):x.1=k/\(x.2=3\/x.2=11):=by
 unfold qK at h;split at h
 .cases h
 split at h
 .grind
 split at h
 all_goals grind
def UR(t:JD)(E:List En): -1<=(og t E).1/\(og t E).1<=64:=by
 unfold og;split
 .grind
 split
 .grind
 cases h:dp (qK t E) t.2.2.2.length with
 |none=>grind
 |some x=>
  grind [gS,UQ]
noncomputable def rY(l:Lw)(k:Nat):Option (Int×Int):=match l.2.1[k]? with
 |none=>ae
 |some x=>if mP x.1=ah then aa (2,0)else if fh l.1 x.1\/fh (l.2.1.take k) x.1 then aa (7,0)else if(og x l.1).2=0 then ae else aa ((og x l.1).2,if 0<=(og x l.1).1 then 100+(og x l.1).1 else 0)
def US(l:Lw)(hw:WF cC l)(k:Nat)(hk:k<l.2.1.length):M.lA aJ l (k:Int)=aa (nW 2 k (rY l k)):=by
 apply Wp.eq;unfold M.lA;simp only[aF hk,wy,UN,W_,aw,ax,reduceCtorEq]
 have hE:rY l k=if mP l.2.1[k].1=ah then aa (2,0)else if fh l.1 l.2.1[k].1\/fh (l.2.1.take k) l.2.1[k].1 then aa (7,0)else if(og l.2.1[k] l.1).2=0 then ae else aa ((og l.2.1[k] l.1).2,if 0<=(og l.2.1[k] l.1).1 then 100+(og l.2.1[k] l.1).1 else 0):=by
  unfold rY;rw[aqK hk]
 rw[hE];refine⟨λh=>by rw[al h];rfl,λh1=>?_⟩;rw[aj (by simp[h1])]
 refine(nt2 l hw k l.2.1[k].1).mono λr hr=>?_
 refine⟨λh=>by rw[al (hr.1 h)];rfl,λh2=>?_⟩;rw[aj ((isT hr).1 (by simpa using h2))];have hle:=UR l.2.1[k] l.1;refine⟨λh=>by rw[al h];rfl,λh3=>?_⟩;rw[aj h3];refine⟨λh=>?_,λh=>?_⟩
 .rw[al h,aH (by omega) (by omega)];rfl
 .rw[aj h];rfl
noncomputable def BG(l:Lw)(x:iV)(i:Nat):Option (Int×Int):=match x.2.2.1[i]? with
 |none=>ae
 |some f=>if mP f.1=ah then aa (2,100+(i:Int))else if fh (x.2.2.1.take i) f.1 then aa (7,100+(i:Int))else if¬mH f.2 l.1.length then aa (8,100+(i:Int))else ae
noncomputable def BH(l:Lw)(x:iV)(i:Nat):Option (Int×Int):=match x.2.2.2.1[i]? with
 |none=>ae
 |some f=>if mP f.1=ah then aa (2,200+(i:Int))else if fh x.2.2.1 f.1\/fh (x.2.2.2.1.take i) f.1 then aa (7,200+(i:Int))else if¬mH f.2 l.1.length then aa (8,200+(i:Int))else ae
noncomputable def vm(l:Lw)(x:iV):Option (Int×Int):=(dp (BG l x) x.2.2.1.length).or (dp (BH l x) x.2.2.2.1.length)
def UT(l:Lw)(k:Nat)(hk:k<l.2.2.length)(h1:l.2.2[k].2.2.1.length<=12)(h2:l.2.2[k].2.2.2.1.length<=12):M.jA aJ l (k:Int)=aa (nW 3 k (vm l l.2.2[k])):=by
 obtain⟨x,hx⟩:∃x,x=l.2.2[k]:=⟨_,rfl⟩
 rw[<-hx]at h1 h2⊢;apply Wp.eq;unfold M.jA;simp only[aF hk,<-hx,wy,cJ,W_,aw,ax,reduceCtorEq]
 refine Wp.count (λs=>s) x.2.2.1.length (λi _=>∀j,j<i->BG l x j=ae) (by omega) rfl (λj hj=>by omega) λi c hi hs hJ=>?_
 obtain rfl:c=_:=hs;simp only[W_,aw,ax,reduceCtorEq,aS,aR];refine⟨λaI=>?_,λhge=>?_⟩
 .have aI:i<x.2.2.1.length:=by omega
  have hf:BG l x i=if mP x.2.2.1[i].1=ah then aa (2,100+(i:Int))else if fh (x.2.2.1.take i) x.2.2.1[i].1 then aa (7,100+(i:Int))else if¬mH x.2.2.1[i].2 l.1.length then aa (8,100+(i:Int))else ae:=by
   unfold BG;rw[aqK aI]
  simp only[aF aI,tt x.2.2.1 i _ (by unfold maxLen;omega),oE (k:=i) (a:=100) (by omega) (by omega),bF (m:=x.2.2.1.length) (by omega) aI,W_,aw,ax,reduceCtorEq]
  have res:∀c:Int,c≠0->BG l x i=aa (c,100+(i:Int))->(¬c=0->(c,(3:Int),(k:Int),100+(i:Int))=nW 3 (k:Int) (vm l x))/\(c=0->i<x.2.2.1.length/\∀j,j<i+1->BG l x j=ae):=λc h0 h=>⟨λ_=>by
   unfold vm
   rw[dh h hJ aI];rfl,λh=>absurd h h0⟩
  grind
 have hJ:=bZ.2 λj(hj:j<x.2.2.1.length)=>hJ j (by omega)
 refine Wp.count (λs=>s) x.2.2.2.1.length (λi _=>∀j,j<i->BH l x j=ae) (by omega) rfl (λj hj=>by omega) λi c hi hs hI=>?_
 obtain rfl:c=_:=hs;simp only[W_,aw,ax,reduceCtorEq,aS,aR];refine⟨λaI=>?_,λhge=>?_⟩
 .have aI:i<x.2.2.2.1.length:=by omega
  have hf:BH l x i=if mP x.2.2.2.1[i].1=ah then aa (2,200+(i:Int))else if fh x.2.2.1 x.2.2.2.1[i].1\/fh (x.2.2.2.1.take i) x.2.2.2.1[i].1 then aa (7,200+(i:Int))else if¬mH x.2.2.2.1[i].2 l.1.length then aa (8,200+(i:Int))else ae:=by
   unfold BH;rw[aqK aI]
  simp only[aF aI,tt x.2.2.2.1 i _ (by unfold maxLen;omega),tt x.2.2.1 x.2.2.1.length _ (by unfold maxLen;omega),ara,oE (k:=i) (a:=200) (by omega) (by omega),bF (m:=x.2.2.2.1.length) (by omega) aI,W_,aw,ax,reduceCtorEq]
  have res:∀c:Int,c≠0->BH l x i=aa (c,200+(i:Int))->(¬c=0->(c,(3:Int),(k:Int),200+(i:Int))=nW 3 (k:Int) (vm l x))/\(c=0->i<x.2.2.2.1.length/\∀j,j<i+1->BH l x j=ae):=λc h0 h=>⟨λ_=>by
   unfold vm
   rw[hJ,dh h hI aI];rfl,λh=>absurd h h0⟩
  grind
 unfold vm;rw[hJ,bZ.2 λj hj=>hI j (by omega)];rfl
def plain(s:ByteArray):Prop:=(∀i,∀h:i<s.size,32<=(s[i].toNat:Int)/\(s[i].toNat:Int)<=126/\(s[i].toNat:Int)≠34)/\s.size<=64
noncomputable instance(s:ByteArray):Decidable (plain s):=arQ _
def Rg(s:ByteArray)(hs:s.size<=100000):M.kg aJ s=aa (decide (plain s)):=by
 apply Wp.eq;unfold M.kg
 refine Wp.count (λs=>s) s.size (λi _=>∀j,j<i->∀h:j<s.size,32<=(s[j].toNat:Int)/\(s[j].toNat:Int)<=126/\(s[j].toNat:Int)≠34) (by omega) rfl (λj hj=>by omega) λi c hi hs hJ=>?_
 obtain rfl:c=_:=hs;simp only[W_,aw,ax,reduceCtorEq,aS,aR];refine⟨λaI=>?_,λhge=>?_⟩
 .have aI:i<s.size:=by omega
  have hb:lP s (i:Int)=aa (s[i].toNat:Int):=QD.1 (qv.2 ⟨by omega,rfl⟩);simp only[hb,bF (m:=s.size) (by omega) aI,W_,aw,ax,reduceCtorEq]
  have no:¬(32<=(s[i].toNat:Int)/\(s[i].toNat:Int)<=126/\(s[i].toNat:Int)≠34)->¬plain s:=λh g=>h (g.1 i aI)
  exact⟨λh=>no (by omega),λh=>⟨λh'=>no (by omega),λh'=>⟨λh2=>no (by omega),λh2=>⟨aI,(by grind)⟩⟩⟩⟩
 .refine⟨λh=>⟨λj hj=>hJ j (by omega) hj,by omega⟩,λh=>?_⟩;have:=h.2;omega
def AE(f:List Fd)(hf:f.length<=100000):M.gV aJ f=aa (f.map (·.2)):=by
 apply Wp.eq;unfold M.gV
 refine Wp.fold (λs=>s.1) (λs=>s.2) f (λ(o:List Ty)x=>o++[x.2]) [] (λk c=>c.length<=k) (by omega) rfl rfl (aqS _) (λk s aI hs hI=>?_) λs hs hc hI=>?_
 .obtain⟨i,o⟩:=s;dsimp only at hs hI;subst hs;simp only[sZ aI,aF aI,bF (m:=f.length) (by omega) aI,W_,aw,ax,reduceCtorEq,n9]
  grind [lZ]
 .obtain⟨i,o⟩:=s;dsimp only at hs hc;subst hs;simp only[jD,W_,aw,ax,reduceCtorEq,oa];rw[hc]
  have:∀(f:List Fd)(o:List Ty),f.foldl (λ(o:List Ty)x=>o++[x.2]) o=o++f.map (·.2):=by
   intro f
   induction f with
   |nil=>intro o;simp
   |cons x f ih=>grind
  rw[this];rfl
def dR(l:Lw)(x:iV):uB:=(l.1,(l.2.1,(x.2.2.1.map (·.2),(x.2.2.2.1.map (·.2),(match l.2.2[(x.2.1:Int).toNat]? with
 |some y=>if 0<=(x.2.1:Int)then y.2.2.2.1.map (·.2)else[]
 |none=>[],decide (0<=(x.2.1:Int)/\(x.2.1:Int)<(l.2.2.length:Int)))))))
def Lj(l:Lw)(k:Nat)(hk:k<l.2.2.length)(hs:∀s∈l.2.2,s.2.2.1.length<=100000/\s.2.2.2.1.length<=100000):M.iJ aJ l (k:Int)=aa ((dR l l.2.2[k]).1,(dR l l.2.2[k]).2.1,(dR l l.2.2[k]).2.2.2.2.2,(dR l l.2.2[k]).2.2.1,(dR l l.2.2[k]).2.2.2.1,(dR l l.2.2[k]).2.2.2.2.1):=by
 apply Wp.eq;unfold M.iJ;have h1:=hs _ (aqN hk);simp only[show¬(k:Int)<0 by omega,show¬(l.2.2.length:Int)<=(k:Int) by omega,aF hk,AE _ h1.1,AE _ h1.2,W_,aw,ax,reduceCtorEq];unfold dR;generalize l.2.2[k]=x at*;obtain⟨x1,(x2:Int),x3,x4,x5⟩:=x;dsimp only[aC,Row.den]at*;refine⟨λh=>⟨λh'=>?_,λh'=>?_⟩,λh=>?_⟩
 .refine eZ.2 ⟨by omega,?_⟩
  have hi:x2.toNat<l.2.2.length:=by omega
  simp only[AE _ (hs _ (aqN hi)).2,W_,aw,ax,reduceCtorEq,aqK hi,h,h',if_true]
 .rw[List.getElem?_eq_none (by omega)];simp only[h',W_,aw,ax,reduceCtorEq]
 .simp only[h,W_,aw,ax,reduceCtorEq]
  split<;>rfl
end L
namespace L
noncomputable def rZ(e:List Ty)(s:uB)(want:Ty):Int:=if(G0 e s).2.2≠0 then(G0 e s).2.2 else if(G0 e s).1≠want then 8 else 0
def Lk{e:List Ty}{s:uB}(want:Ty)(hw:∀n∈e,WF aD n):M.fG aJ e s want=aa (rZ e s want):=by
 apply Wp.eq;unfold M.fG;simp only[Yl hw,CL,W_,aw,ax,reduceCtorEq]
 grind [rZ]
def D7(x:iV)(k:Nat)(d:Int):Nat:=(x.2.2.2.2.take k).countP λr=>decide ((r.2.1:Int)=d)
def r6(x:iV)(k:Nat)(r:jV):Prop:=(r.2.2.1:Int)≠-1/\((r.2.2.1:Int)<0\/(k:Int)<=r.2.2.1\/∃y,x.2.2.2.2[(r.2.2.1:Int).toNat]? =aa y/\(y.2.1:Int)≠r.2.1)
noncomputable instance(x:iV)(k:Nat)(r:jV):Decidable (r6 x k r):=arQ _
noncomputable def r7(l:Lw)(x:iV)(k:Nat)(r:jV):Int:=
 if mP r.1=ah then 2 else if fh (x.2.2.2.2.take k) r.1 then 7 else if¬(0<=(r.2.1:Int)/\(r.2.1:Int)<(x.2.2.2.1.length:Int))then 6 else if r6 x k r then 9 else
 if(r.2.2.2.1:Int)<0\/9<(r.2.2.2.1:Int)\/¬VR r.2.2.2.2.1\/(r.2.2.2.2.1.1:Int)=r.2.2.2.2.1.2 then 3 else if 8<=D7 x k r.2.1 then 4 else if¬plain r.2.2.2.2.2.2.2 then 2 else
 if 0<r.2.2.2.2.2.1.length/\rZ r.2.2.2.2.2.1 (dR l x) ((1:Int),(0:Int))≠0 then rZ r.2.2.2.2.2.1 (dR l x) ((1:Int),(0:Int))else
 match x.2.2.2.1[(r.2.1:Int).toNat]? with
 |some d=>rZ r.2.2.2.2.2.2.1 (dR l x) d.2
 |none=>0
def UW(l:Lw)(hw:WF cC l)(lU:lf l)(i:Nat)(hi:i<l.2.2.length)(k:Nat)(hk:k<l.2.2[i].2.2.2.2.length):M.kh aJ l (i:Int) (k:Int)=aa (r7 l l.2.2[i] k l.2.2[i].2.2.2.2[k]):=by
 have Rh:=Lj l i hi λs hs=>⟨by have:=(lU.2.2.2.2.2 s hs).2.1;omega,by have:=(lU.2.2.2.2.2 s hs).2.2.1;omega⟩
 have rE:=lU.2.2.2.2.2 _ (aqN hi);have wP:=hw.2.2.2 _ (aqN hi)
 obtain⟨x,hx⟩:∃x,x=l.2.2[i]:=⟨_,rfl⟩
 simp only[<-hx]at hk Rh rE wP⊢;have G6:=wP.2.2.2.2.2 _ (aqN hk);have HY:=rE.2.2.2.2.2.2 _ (aqN hk)
 obtain⟨r,hr⟩:∃r,r=x.2.2.2.2[k]:=⟨_,rfl⟩
 have UX:=rE.2.2.2.1;apply Wp.eq;unfold M.kh;simp only[aF hi,<-hx,aF hk,<-hr,wy,Ld,W_,aw,ax,reduceCtorEq];simp only[<-hr]at G6 HY;unfold r7;refine⟨λh=>by rw[al h],λh1=>?_⟩;rw[aj (c:=mP r.1=ah) (by simp[h1])]
 refine Wp.count (λs=>s.2) k (λj s=>(∀q,q<j->∀h:q<x.2.2.2.2.length,¬(x.2.2.2.2[q].1:ByteArray)=r.1)/\s.1=(((x.2.2.2.2.take j).countP λr'=>decide ((r'.2.1:Int)=r.2.1):Nat):Int)) (by omega) rfl ⟨λj hj=>by omega,rfl⟩ λj s hj hs hJ=>?_
 obtain⟨sb,c⟩:=s;dsimp only at hs hJ;subst hs;obtain⟨hJ,UC⟩:=hJ;have Ac:(x.2.2.2.2.take j).countP (λr'=>decide ((r'.2.1:Int)=r.2.1))<=60:=Nat.le_trans List.countP_le_length (by grind);simp only[W_,aw,ax,reduceCtorEq,aS,aR];refine⟨λS7=>?_,λS7=>?_⟩
 .have xc:j<x.2.2.2.2.length:=by omega
  simp only[aF xc,bF (m:=k) (by omega) (show j<k by omega),W_,aw,ax,reduceCtorEq];refine⟨λh=>?_,λh=>?_⟩
  .grind [rp]
  have Xl:(x.2.2.2.2.take (j+1)).countP (λr'=>decide ((r'.2.1:Int)=r.2.1))=(x.2.2.2.2.take j).countP (λr'=>decide ((r'.2.1:Int)=r.2.1))+if(x.2.2.2.2[j].2.1:Int)=r.2.1 then 1 else 0:=by
   rw[<-List.take_append_getElem xc,List.countP_append];simp[List.countP_cons]
  refine⟨λh'=>⟨by omega,eI hJ λ_=>h,?_⟩,(by grind)⟩
  all_goals grind [aH]
 obtain rfl:j=k:=by omega
 rw[aj (c:=fh (x.2.2.2.2.take j) r.1) (λh=>by grind [rp])];clear hJ;have Ac:D7 x j r.2.1<=60:=Ac;have UC:sb=(D7 x j r.2.1:Int):=UC;clear hk hr S7 hj;generalize D7 x j r.2.1=q at*;subst UC;have p9:=HY.2.1;have hg:=G6.2.2.2.2.2.1.2;have hv:=G6.2.2.2.2.2.2.1.2;have OG:r6 x j r↔(r.2.2.1:Int)≠-1/\((r.2.2.1:Int)<0\/(j:Int)<=r.2.2.1\/∃y,x.2.2.2.2[(r.2.2.1:Int).toNat]? =aa y/\(y.2.1:Int)≠r.2.1):=Iff.rfl;clear G6 HY;obtain⟨nm,(d:Int),(p:Int),(pr:Int),v,g,val,src⟩:=r;dsimp only[aC,Row.den]at*
 have rest:0<=d->d<(x.2.2.2.1.length:Int)->Wp (if decide (pr<0)=af then aa af else if decide (9<pr)=af then aa af else if¬VR v then aa af else aa (decide ((v.1:Int)=v.2))) (λS9=>Wp (if S9=af then aa (3:Int)else if decide ((8:Int)<=(q:Int))=af then aa 4 else(M.kg aJ src).bind λAz=>if(!Az)=af then aa (2:Int)else(M.iJ aJ l (i:Int)).bind λOH=>bK (J:=Unit) (R:=Int) (if decide (0<(g.length:Int))=af then(M.fG aJ g (OH.1,(OH.2.1,(OH.2.2.2.1,(OH.2.2.2.2.1,(OH.2.2.2.2.2,OH.2.2.1))))) ((1:Int),(0:Int))).bind λy17=>if(!decide (y17=0))=af then aa (arc y17)else aa (arj ())else aa (arj ())) λ_=>(idx x.2.2.2.1 d).bind λx18=>(M.fG aJ val (OH.1,(OH.2.1,(OH.2.2.2.1,(OH.2.2.2.2.1,(OH.2.2.2.2.2,OH.2.2.1))))) x18.2).bind λy19=>aa y19)
  (· =if pr<0\/9<pr\/¬VR v\/(v.1:Int)=v.2 then 3 else if 8<=q then 4 else if¬plain src then 2 else if 0<g.length/\rZ g (dR l x) ((1:Int),(0:Int))≠0 then rZ g (dR l x) ((1:Int),(0:Int))else match x.2.2.2.1[d.toNat]? with
    |some d=>rZ val (dR l x) d.2
    |none=>0)):=by
  intro Wj xS
  refine Wp.mono (Q:=λS9=>S9=af↔pr<0\/9<pr\/¬VR v\/(v.1:Int)=v.2) (by simp only[W_,aw,ax,reduceCtorEq];grind) λS9 S8=>?_
  by_cases g1:pr<0\/9<pr\/¬VR v\/(v.1:Int)=v.2
  .rw[al g1,al (S8.2 g1)];exact .some rfl
  rw[aj g1,aj λh=>g1 (S8.1 h)];by_cases g2:8<=q
  .rw[al (au (by omega)),al g2];exact .some rfl
  rw[aj (by rw[az];omega),aj g2,Rg _ (by omega),aqI];by_cases g3:¬plain src
  .rw[al (by simp[g3]),al g3];exact .some rfl
  rw[aj (by simpa using g3),aj g3,Rh,aqI]
  have hd:d.toNat<x.2.2.2.1.length:=by omega
  have last:Wp ((idx x.2.2.2.1 d).bind λx18=>(M.fG aJ val (dR l x) x18.2).bind λy19=>aa y19) (· =match x.2.2.2.1[d.toNat]? with
   |some d=>rZ val (dR l x) d.2
   |none=>0):=by
   rw[wp_bind];refine eZ.2 ⟨by omega,?_⟩;rw[Lk _ hv,aqK hd];exact .some rfl
  rw[za];by_cases g4:0<g.length
  .rw[al (by simpa using g4),wp_bind,show((dR l x).1,((dR l x).2.1,((dR l x).2.2.1,((dR l x).2.2.2.1,((dR l x).2.2.2.2.1,(dR l x).2.2.2.2.2)))))=dR l x from rfl,Lk _ hg];refine .some ?_;by_cases g5:rZ g (dR l x) ((1:Int),(0:Int))=0
   .rw[aj (by simp[g5]),aj (λh=>h.2 g5)];exact .some last
   .rw[al (by simp[g5]),al ⟨g4,g5⟩];exact .some rfl
  .rw[aj (by simpa using g4),aj (λh=>g4 h.1)];exact .some last
 simp only[W_,aw,ax,reduceCtorEq]at rest;refine⟨λh=>by rw[al (c:=¬(0<=d/\d<(x.2.2.2.1.length:Int))) (by omega)],λh2=>⟨(by grind),λh3=>?_⟩⟩;rw[aj (c:=¬(0<=d/\d<(x.2.2.2.1.length:Int))) (by omega)];have rest:=rest (by omega) (by omega)
 have F8:j<x.2.2.2.2.length:=by rw[hx];exact hk
 refine⟨λhp=>⟨λh=>by rw[al (OG.2 ⟨hp, .inl h⟩)],λh=>⟨λh'=>by rw[al (OG.2 ⟨hp, .inr (.inl h')⟩)],λh'=>eZ.2 ⟨⟨by omega,by omega⟩,(by grind),λh5=>?_⟩⟩⟩,λhp=>?_⟩
 .rw[aj (λh=>by
   obtain⟨_,g1|g1|⟨y,g1,g2⟩⟩:=OG.1 h
   .omega
   .omega
   .rw[aqK (by omega)]at g1;cases g1
    exact g2 h5)]
  exact rest
 .rw[aj (λh=>(OG.1 h).1 hp)];exact rest
noncomputable def yI(l:Lw)(x:iV)(k:Nat):Option (Int×Int):=match x.2.2.2.2[k]? with
 |none=>ae
 |some r=>if r7 l x k r≠0 then aa (r7 l x k r,300+(k:Int))else ae
noncomputable def AF(x:iV)(d:Nat):Option (Int×Int):=if(d:Int)∈D5 x d then aa (9,200+(d:Int))else ae
def qL(l:Lw)(k:Nat)(x:iV):Prop:=(x.2.1:Int)≠-1/\((x.2.1:Int)<0\/(k:Int)<=x.2.1\/∃y,l.2.2[(x.2.1:Int).toNat]? =aa y/\(y.2.1:Int)≠-1)
noncomputable instance(l:Lw)(k:Nat)(x:iV):Decidable (qL l k x):=arQ _
noncomputable def uD(l:Lw)(k:Nat):Option (Int×Int):=match l.2.2[k]? with
 |none=>ae
 |some x=>
  if mP x.1=ah then aa (2,0)else if fh l.1 x.1\/fh l.2.1 x.1\/fh (l.2.2.take k) x.1 then aa (7,0)else if qL l k x then aa (6,0)else
  if 12<x.2.2.1.length then aa (4,112)else if 12<x.2.2.2.1.length then aa (4,212)else((vm l x).or (dp (yI l x) x.2.2.2.2.length)).or (dp (AF x) x.2.2.2.1.length)
theorem G7{l:Lw}{x:iV}{e:Int×Int}(h:vm l x=aa e):e.1≠0:=by
 grind [gS,vm,BG,BH,Option.or_eq_some_iff]
def Ll(x:iV)(d:Int):uC x.2.2.2.1.length (D5 x d):=by
 have:∀m,uC x.2.2.2.1.length (nR x m (mc x d)):=λm=>by
  induction m with
  |zero=>exact ld x d
  |succ m ih=>exact uv x ih
 exact this _
def UY(l:Lw)(hw:WF cC l)(lU:lf l)(k:Nat)(hk:k<l.2.2.length):M.lG aJ l (k:Int)=aa (nW 3 k (uD l k)):=by
 have rE:=lU.2.2.2.2.2 _ (aqN hk);have abY:=UW l hw lU k hk;have abZ:=UT l k hk
 have hE:uD l k=if mP l.2.2[k].1=ah then aa (2,0)else if fh l.1 l.2.2[k].1\/fh l.2.1 l.2.2[k].1\/fh (l.2.2.take k) l.2.2[k].1 then aa (7,0)else if qL l k l.2.2[k]then aa (6,0)else
  if 12<l.2.2[k].2.2.1.length then aa (4,112)else if 12<l.2.2[k].2.2.2.1.length then aa (4,212)else((vm l l.2.2[k]).or (dp (yI l l.2.2[k]) l.2.2[k].2.2.2.2.length)).or (dp (AF l.2.2[k]) l.2.2[k].2.2.2.1.length):=by
  unfold uD;rw[aqK hk]
 have hn3:=nt3 l hw k l.2.2[k].1
 obtain⟨x,hx⟩:∃x,x=l.2.2[k]:=⟨_,rfl⟩
 simp only[<-hx]at rE abY abZ hE hn3;have h5:=lU.2.2.1;have EO:=rE.2.2.1;have UX:=rE.2.2.2.1;apply Wp.eq;unfold M.lG;simp only[aF hk,<-hx,wy,Yn x rE.few,W_,aw,ax,reduceCtorEq];rw[hE];refine⟨λh=>by rw[al h];rfl,λh1=>?_⟩;rw[aj (c:=mP x.1=ah) (by simp[h1])]
 refine hn3.mono λr hr=>?_
 refine⟨λh=>by rw[al (hr.1 h)];rfl,λh2=>?_⟩;rw[aj (c:=fh l.1 x.1\/fh l.2.1 x.1\/fh (l.2.2.take k) x.1) ((isT hr).1 (by simpa using h2))];clear hn3 hr h2 r
 have rest:Wp ((if(decide ((12:Int)<(x.2.2.1.length:Int)))=af then
  some ((4:Int),((3:Int),((k:Int),(112:Int))))
  else
  (if(decide ((12:Int)<(x.2.2.2.1.length:Int)))=af then
  some ((4:Int),((3:Int),((k:Int),(212:Int))))
  else
  (M.jA aJ l (k:Int)).bind λy6=>
  (if(!decide (y6.1=(0:Int)))=af then
  some y6
  else
  bK (J:=Unit) (R:=aG.den) (Loop (S:=Int) (X:=(Unit)⊕(aG.den)) (λs8=>
  (if(decide (s8<(x.2.2.2.2.length:Int)))=af then
  (M.kh aJ l (k:Int) s8).bind λy9=>
  (if(!decide (y9=(0:Int)))=af then
  some (arc (arc (y9,((3:Int),((k:Int),aqJ.wrap ((300:Int)+s8))))))
  else
  some (arj (aqJ.wrap (s8+(1:Int)))))
  else
  some (arc (arj ())))) aJ (0:Int)) λj7=>
  bK (J:=Unit) (R:=aG.den) (Loop (S:=Int) (X:=(Unit)⊕(aG.den)) (λs11=>
  (if(decide (s11<(x.2.2.2.1.length:Int)))=af then
  bK (J:=Unit) (R:=(Int)⊕((Unit)⊕(aG.den))) ((aa (D5 x s11)).bind λy13=>
  Loop (S:=Int) (X:=(Unit)⊕((Int)⊕((Unit)⊕(aG.den)))) (λs14=>
  (if(decide (s14<(y13.length:Int)))=af then
  (idx y13 s14).bind λZi=>
  (if(decide (Zi=s11))=af then
  some (arc (arc (arc (arc ((9:Int),((3:Int),((k:Int),aqJ.wrap ((200:Int)+s11))))))))
  else
  some (arj (aqJ.wrap (s14+(1:Int)))))
  else
  some (arc (arj ())))) aJ (0:Int)) λS9=>
  some (arj (aqJ.wrap (s11+(1:Int))))
  else
  some (arc (arj ())))) aJ (0:Int)) λj10=>
  some ((0:Int),((0:Int),((0:Int),(0:Int))))))):Option aG.den) (· =nW 3 (k:Int) (if 12<x.2.2.1.length then aa (4,112)else if 12<x.2.2.2.1.length then aa (4,212)else((vm l x).or (dp (yI l x) x.2.2.2.2.length)).or (dp (AF x) x.2.2.2.1.length))):=by
  by_cases h3:12<x.2.2.1.length
  .rw[al h3,al (au (by omega))];exact .some rfl
  rw[aj h3,aj (by rw[az];omega)];by_cases h4:12<x.2.2.2.1.length
  .rw[al h4,al (au (by omega))];exact .some rfl
  rw[aj h4,aj (by rw[az];omega),abZ (by omega) (by omega),aqI]
  cases hf:vm l x with
  |some e=>
   have:=G7 hf;rw[al (by show(!decide (e.1=0))=af;simp[this])];exact .some rfl
  |none=>
   rw[aj (by simp[nW,UP]),Option.none_or];simp only[W_,aw,ax,reduceCtorEq]
   refine Wp.count (λs=>s) x.2.2.2.2.length (λi _=>∀j,j<i->yI l x j=ae) (by omega) rfl (λj hj=>by omega) λi c hi hs hJ=>?_
   obtain rfl:c=_:=hs;simp only[W_,aw,ax,reduceCtorEq,aS,aR];refine⟨λaI=>?_,λhge=>?_⟩
   .have aI:i<x.2.2.2.2.length:=by omega
    have hr:yI l x i=if r7 l x i x.2.2.2.2[i]≠0 then aa (r7 l x i x.2.2.2.2[i],300+(i:Int))else ae:=by
     unfold yI;rw[aqK aI]
    simp only[abY i aI,oE (k:=i) (a:=300) (by omega) (by omega),bF (m:=x.2.2.2.2.length) (by omega) aI,W_,aw,ax,reduceCtorEq];refine⟨λh=>?_,(by grind)⟩;rw[dh (hr.trans (al h)) hJ aI];rfl
   rw[bZ.2 λj hj=>hJ j (by omega),Option.none_or];clear hJ
   refine Wp.count (λs=>s) x.2.2.2.1.length (λi _=>∀j,j<i->AF x j=ae) (by omega) rfl (λj hj=>by omega) λi c hi hs hJ=>?_
   obtain rfl:c=_:=hs;simp only[W_,aw,ax,reduceCtorEq,aS,aR];refine⟨λaI=>?_,λhge=>?_⟩
   .have aI:i<x.2.2.2.1.length:=by omega
    have hlen:=(Ll x i).len
    refine Wp.count (λs=>s) (D5 x i).length (λj _=>∀q,q<j->∀h:q<(D5 x i).length,¬(D5 x i)[q]=(i:Int)) (by omega) rfl (λj hj=>by omega) λj c hj hs hI=>?_
    obtain rfl:c=_:=hs;simp only[W_,aw,ax,reduceCtorEq,aS,aR,oE (k:=i) (a:=200) (by omega) (by omega),bF (m:=x.2.2.2.1.length) (by omega) aI];refine⟨λxc=>?_,λxc=>⟨aI,eI hJ ?_⟩⟩
    .have xc:j<(D5 x i).length:=by omega
     simp only[aF xc,bF (m:=(D5 x i).length) (by omega) xc,W_,aw,ax,reduceCtorEq];refine⟨λh=>?_,(by grind)⟩;rw[dh (show AF x i=aa (9,200+(i:Int))from al (List.mem_of_getElem h)) hJ aI];rfl
    .unfold AF;rw[aj]
     grind [aqZ]
   .rw[bZ.2 λj hj=>hJ j (by omega)];rfl
 simp only[W_,aw,ax,reduceCtorEq]at rest;have OI:qL l k x↔(x.2.1:Int)≠-1/\((x.2.1:Int)<0\/(k:Int)<=x.2.1\/∃y,l.2.2[(x.2.1:Int).toNat]? =aa y/\(y.2.1:Int)≠-1):=Iff.rfl;refine⟨λhp=>⟨λh=>by rw[al (OI.2 ⟨hp, .inl h⟩)];rfl,λh=>⟨λh'=>by rw[al (OI.2 ⟨hp, .inr (.inl h')⟩)];rfl,λh'=>?_⟩⟩,λhp=>?_⟩
 .obtain⟨(m:Int),hm⟩:∃m:Int,m=x.2.1:=⟨_,rfl⟩
  have Zj:m.toNat<l.2.2.length:=by dsimp only[aC,Row.den]at*;omega
  refine eZ.2 ⟨by dsimp only[aC,Row.den]at*;omega,λh5=>by rw[al (OI.2 ⟨hp, .inr (.inr ⟨_,aqK (hm▸Zj),h5⟩)⟩)];rfl,λh5=>?_⟩
  rw[aj (λh=>by
   obtain⟨_,g1|g1|⟨y,g1,g2⟩⟩:=OI.1 h
   .exact absurd g1 ‹_›
   .exact absurd g1 h'
   .rw[aqK (hm▸Zj)]at g1;cases g1
    exact g2 h5)]
  exact rest
 grind
noncomputable def uE(l:Lw):LE:=
 if 8<l.1.length then((4:Int),((1:Int),((8:Int),(0:Int))))else match dp (λk=>(pk l k).map λe=>(k,e)) l.1.length with
 |some (k,e)=>nW 1 (k:Int) (aa e)
 |none=>if 8<l.2.1.length then((4:Int),((2:Int),((8:Int),(0:Int))))else match dp (λk=>(rY l k).map λe=>(k,e)) l.2.1.length with
  |some (k,e)=>nW 2 (k:Int) (aa e)
  |none=>if 4<l.2.2.length then((4:Int),((3:Int),((4:Int),(0:Int))))else match dp (λk=>(uD l k).map λe=>(k,e)) l.2.2.length with
   |some (k,e)=>nW 3 (k:Int) (aa e)
   |none=>UP
theorem vn{f:Nat->Option (Int×Int)}(hf:∀i e,f i=aa e->e.1≠0){m:Nat}{e:Int×Int}(h:dp f m=aa e):e.1≠0:=by
 grind [gS]
theorem uw{l:Lw}{k:Nat}{e:Int×Int}(h:pk l k=aa e):e.1≠0:=by
 grind [pk,vn,D6]
def AG{l:Lw}{k:Nat}{e:Int×Int}(h:rY l k=aa e):e.1≠0:=by
 grind [rY]
theorem AH{l:Lw}{k:Nat}{e:Int×Int}(h:uD l k=aa e):e.1≠0:=by
 unfold uD at h
 repeat' split at h
 all_goals first|cases h|skip
 all_goals first|simp;done|skip
 rcases Option.or_eq_some_iff.1 h with h|⟨_,h⟩
 .rcases Option.or_eq_some_iff.1 h with h|⟨_,h⟩
  all_goals grind [G7,vn,yI]
 grind [vn,AF]
def vo{sec k:Int}{o:Option (Int×Int)}(h:∀e,o=aa e->e.1≠0):(nW sec k o).1=0↔o=ae:=by
 cases o with
 |none=>exact⟨λ_=>rfl,λ_=>rfl⟩
 |some e=>exact⟨λg=>absurd g (h e rfl),λg=>by cases g⟩
def NK{f:Nat->Option (Int×Int)}{k:Nat}{e:Int×Int}(h:f k=aa e):(λk=>(f k).map λe=>(k,e)) k=aa (k,e):=by simp[h]
def UZ(l:Lw)(hw:WF cC l)(lU:lf l):M.nB aJ l=aa (uE l):=by
 apply Wp.eq;obtain⟨h9,h9',h5,_⟩:=lU;unfold M.nB;simp only[W_,aw,ax,reduceCtorEq];refine⟨λh=>by unfold uE;grind,λh8=>?_⟩
 refine Wp.count (λs=>s) l.1.length (λi _=>∀j,j<i->(λk=>(pk l k).map λe=>(k,e)) j=ae) (by omega) rfl (λj hj=>by omega) λi c hi hs hJ=>?_
 obtain rfl:c=_:=hs;simp only[W_,aw,ax,reduceCtorEq,aS,aR];refine⟨λaI=>?_,λhge=>?_⟩
 .have aI:i<l.1.length:=by omega
  simp only[Rf l hw i aI,bF (m:=l.1.length) (by omega) aI,W_,aw,ax,reduceCtorEq,vo λe he=>uw he];refine⟨λh=>?_,(by grind)⟩;obtain⟨e,he⟩:=asq.1 h;unfold uE;rw[aj (by omega),dh (NK he) hJ aI,he]
 have hA:=bZ.2 λj(hj:j<l.1.length)=>hJ j (by omega)
 clear hJ;refine⟨λh=>by grind [uE],λh8'=>?_⟩
 refine Wp.count (λs=>s) l.2.1.length (λi _=>∀j,j<i->(λk=>(rY l k).map λe=>(k,e)) j=ae) (by omega) rfl (λj hj=>by omega) λi c hi hs hJ=>?_
 obtain rfl:c=_:=hs;simp only[W_,aw,ax,reduceCtorEq,aS,aR];refine⟨λaI=>?_,λhge=>?_⟩
 .have aI:i<l.2.1.length:=by omega
  simp only[US l hw i aI,bF (m:=l.2.1.length) (by omega) aI,W_,aw,ax,reduceCtorEq,vo λe he=>AG he];refine⟨λh=>?_,(by grind)⟩;obtain⟨e,he⟩:=asq.1 h;unfold uE;rw[aj (by omega),hA];dsimp only;rw[aj (by omega),dh (NK he) hJ aI,he]
 have hB:=bZ.2 λj(hj:j<l.2.1.length)=>hJ j (by omega)
 clear hJ;refine⟨λh=>by grind [uE],λh4=>?_⟩
 refine Wp.count (λs=>s) l.2.2.length (λi _=>∀j,j<i->(λk=>(uD l k).map λe=>(k,e)) j=ae) (by omega) rfl (λj hj=>by omega) λi c hi hs hJ=>?_
 obtain rfl:c=_:=hs;simp only[W_,aw,ax,reduceCtorEq,aS,aR];refine⟨λaI=>?_,λhge=>?_⟩
 .have aI:i<l.2.2.length:=by omega
  simp only[UY l hw ⟨h9,h9',h5,‹_›⟩ i aI,bF (m:=l.2.2.length) (by omega) aI,W_,aw,ax,reduceCtorEq,vo λe he=>AH he];refine⟨λh=>?_,(by grind)⟩;obtain⟨e,he⟩:=asq.1 h;unfold uE;rw[aj (by omega),hA];dsimp only;rw[aj (by omega),hB];dsimp only;rw[aj (by omega),dh (NK he) hJ aI,he]
 have hC:=bZ.2 λj(hj:j<l.2.2.length)=>hJ j (by omega)
 unfold uE;rw[aj (by omega),hA];dsimp only;rw[aj (by omega),hB];dsimp only;rw[aj (by omega),hC];rfl
def Valid(l:Lw):Prop:=(uE l).1=0
noncomputable instance(l:Lw):Decidable (Valid l):=arQ _
def Valid.scopes{l:Lw}(h:Valid l):l.1.length<=8/\l.2.1.length<=8/\l.2.2.length<=4/\(∀k,k<l.1.length->pk l k=ae)/\(∀k,k<l.2.1.length->rY l k=ae)/\∀k,k<l.2.2.length->uD l k=ae:=by
 unfold Valid uE at h;split at h
 .cases h
 split at h
 .rename_i k e hf;obtain⟨j,_,hj,_⟩:=gS hf;obtain⟨e',Qd,h2⟩:=arH.1 hj;cases h2;exact absurd h (uw Qd)
 rename_i hA;split at h
 .cases h
 split at h
 .rename_i k e hf;obtain⟨j,_,hj,_⟩:=gS hf;obtain⟨e',Qd,h2⟩:=arH.1 hj;cases h2;exact absurd h (AG Qd)
 rename_i hB;split at h
 .cases h
 split at h
 .rename_i k e hf;obtain⟨j,_,hj,_⟩:=gS hf;obtain⟨e',Qd,h2⟩:=arH.1 hj;cases h2;exact absurd h (AH Qd)
 rename_i hC;exact⟨by omega,by omega,by omega,λk hk=>by simpa using bZ.1 hA k hk,λk hk=>by simpa using bZ.1 hB k hk,λk hk=>by simpa using bZ.1 hC k hk⟩
def Valid.scope{l:Lw}(h:Valid l)(k:Nat)(hk:k<l.2.2.length):mP l.2.2[k].1=af/\¬fh (l.2.2.take k) l.2.2[k].1/\¬qL l k l.2.2[k]/\l.2.2[k].2.2.1.length<=12/\l.2.2[k].2.2.2.1.length<=12/\vm l l.2.2[k]=ae/\
 (∀i,∀hi:i<l.2.2[k].2.2.2.2.length,r7 l l.2.2[k] i l.2.2[k].2.2.2.2[i]=0)/\∀d:Nat,d<l.2.2[k].2.2.2.1.length->¬(d:Int)∈D5 l.2.2[k] d:=by
 have h:=h.scopes.2.2.2.2.2 k hk;unfold uD at h;rw[aqK hk]at h
 grind [bZ,yI,AF]
end L
namespace L
def iz{α:Type}(p:α->Bool)(l:List α):Int:=if l.findIdx p<l.length then((l.findIdx p:Nat):Int)else-1
def D8{α:Type}{p:α->Bool}{l:List α}{k:Nat}(hk:k<l.length)(hp:p l[k]=af)(hn:∀j,j<k->∀h:j<l.length,p l[j]=ah):iz p l=(k:Int):=by
 grind [iz]
def CN{α:Type}{p:α->Bool}{l:List α}(hn:∀j,∀h:j<l.length,p l[j]=ah):iz p l= -1:=by
 grind [iz]
theorem qB{α:Type}{p:α->Bool}{l:List α}:0<=iz p l↔∃x∈l,p x=af:=by
 grind [iz]
def AI{α Y:Type}{l:List α}{y:Y}{p:α->Bool}{body:Int×Y->Option ((Int×Y)⊕(Int×Y))}(hl:l.length<=maxLen)
 (hb:∀k,∀h:k<l.length,body ((k:Int),y)=if p l[k]=af then aa (.inr ((k:Int),y))else aa (.inl (aqJ.wrap ((k:Int)+1),y)))
 (he:body ((l.length:Int),y)=aa (.inr ((-1:Int),y))):Loop body aJ ((0:Int),y)=aa (iz p l,y):=by
 apply Wp.eq
 refine Wp.count (λs=>s.1) l.length (λk s=>s.2=y/\∀j,j<k->∀h:j<l.length,p l[j]=ah) hl rfl ⟨rfl,λj hj=>by omega⟩ λk c hk hs hJ=>?_
 obtain⟨c1,c2⟩:=c;obtain⟨h1,hJ⟩:=hJ;obtain rfl:c2=y:=h1;obtain rfl:c1=_:=hs
 rcases Nat.lt_or_ge k l.length with aI|hge
 .rw[hb k aI];simp only[W_,aw,ax,reduceCtorEq,aS,aR,bF hl aI];exact⟨λh=>by rw[D8 aI h hJ],(by grind)⟩
 .obtain rfl:k=l.length:=by omega
  rw[he];simp only[W_,aw,ax,reduceCtorEq,aR];rw[CN λj h=>hJ j h h]
def D9{α:Type}{l:List α}{p:α->Bool}{body:Int->Option (Int⊕Int)}(hl:l.length<=maxLen)
 (hb:∀k,∀h:k<l.length,body (k:Int)=if p l[k]=af then aa (.inr (k:Int))else aa (.inl (aqJ.wrap ((k:Int)+1))))
 (he:body (l.length:Int)=aa (.inr (-1:Int))):Loop body aJ (0:Int)=aa (iz p l):=by
 apply Wp.eq
 refine Wp.count (λs=>s) l.length (λk _=>∀j,j<k->∀h:j<l.length,p l[j]=ah) hl rfl (λj hj=>by omega) λk c hk hs hJ=>?_
 obtain rfl:c=_:=hs
 rcases Nat.lt_or_ge k l.length with aI|hge
 .rw[hb k aI];simp only[W_,aw,ax,reduceCtorEq,aS,aR,bF hl aI];exact⟨λh=>by rw[D8 aI h hJ],(by grind)⟩
 .obtain rfl:k=l.length:=by omega
  rw[he];simp only[W_,aw,ax,reduceCtorEq,aR];rw[CN λj h=>hJ j h h]
structure ab1(l:Lw):Prop where
 en:∀e∈l.1,e.2.length<=1048576
 tb:∀t∈l.2.1,t.2.2.2.length<=1048576
 ru:∀s∈l.2.2,∀r∈s.2.2.2.2,r.2.2.2.2.2.1.length<=1048576/\r.2.2.2.2.2.2.1.length<=1048576
 en':l.1.length<=1048576
 tb':l.2.1.length<=1048576
 sc':l.2.2.length<=1048576
 sc:∀s∈l.2.2,s.2.2.1.length<=1048576/\s.2.2.2.1.length<=1048576/\s.2.2.2.2.length<=1048576
def Lm{α β:Type}(l:List α)(F:α->β){body:Int×List β->Option ((Int×List β)⊕List β)}(hl:l.length<=4294967296)
 (hb:∀k,∀h:k<l.length,∀o:List β,o.length=k->body ((k:Int),o)=aa (.inl (aqJ.wrap ((k:Int)+1),o++[F l[k]])))
 (he:∀o:List β,body ((l.length:Int),o)=aa (.inr o)):Loop body aJ ((0:Int),[])=aa (l.map F):=by
 have Gw:l.length<aJ:=by unfold aJ;omega
 refine rS (λk=>((k:Int),(l.take k).map F)) l.length _ (by simp) (λk hk=>?_) (by grind) Gw;rw[hb k hk _ (by simp;omega),bF (m:=l.length) (by omega) hk,List.take_add_one,aqK hk,List.map_append];rfl
def G8{α β S X:Type}(l:List α)(F:α->β)(mk:Int->List β->S)(out:List β->X){body:S->Option (S⊕X)}(hl:l.length<=4294967296)
 (hb:∀k,∀h:k<l.length,∀o:List β,o.length=k->body (mk (k:Int) o)=aa (.inl (mk (aqJ.wrap ((k:Int)+1)) (o++[F l[k]]))))
 (he:∀o:List β,body (mk (l.length:Int) o)=aa (.inr (out o))):Loop body aJ (mk (0:Int) [])=aa (out (l.map F)):=by
 have Gw:l.length<aJ:=by unfold aJ;omega
 refine rS (λk=>mk (k:Int) ((l.take k).map F)) l.length _ (by simp) (λk hk=>?_) (by grind) Gw;rw[hb k hk _ (by simp;omega),bF (m:=l.length) (by omega) hk,List.take_add_one,aqK hk,List.map_append];rfl
def xF{α:Type}{x:α}:zU (aa x) (aa x)=aa x:=by
 unfold zU;simp
def G9(r:Row)(x:r.den):o6 r x x=af:=by unfold o6;simp
end L
end Go.Proofs.YtfjgcenlllgonaaGreatDoor
