/- Joined texts: KR KA KA2 PX6 KV VP VW VK. -/
import Derived.Test.YtfeahmiobbjklaaGreatDoorU10
import Derived.Test.YtfeahmiobbjklaaGreatDoorU8
import Derived.Test.YtfeahmiobbjklaaGreatDoorU9
open _root_.Bool renaming false->ag,true->af,eq_iff_iff->ag2,false_eq_true->ags
open _root_.Option renaming some->aa,bind_some->ago
open _root_.Int renaming reduceEq->ahu,toNat_natCast->agE,tdiv->agC,tdiv_eq_ediv_of_nonneg->agG,tmod->agD,tmod_eq_emod_of_nonneg->agF
open _root_.List renaming getElem?_eq_getElem->agx,getElem_mem->agy,mem_singleton->agQ,append_assoc->ahg,getElem?_eq_some_iff->agJ,getElem_append_left->ag4,replicate->agv
open _root_.Go.IntKind renaming i64->agp
open _root_.Nat renaming div_lt_iff_lt_mul->agS,le_refl->agt,div_div_eq_div_mul->ahI,mod_lt->ahj
open _root_.Option.some renaming inj->agq
namespace Go.Proofs.YtfeahmiobbjklaaGreatDoor
open Go Go.RowKit
set_option maxRecDepth 100000
set_option linter.unusedSimpArgs false
set_option linter.unusedVariables false
set_option linter.defProp false
namespace L.P
theorem wJ(N:Nat)(k:Int):M.iM N k=aa (if k=1 then(0,1)else if k=2 then(-1000000000000,1000000000000)else if k=3 then(-1000000000000000,1000000000000000)else if k=4 then(-1000000000,1000000000)else if k=5 then(0,109572)else if k=6 then(0,15)else(0,-1)):=by
 unfold M.iM;simp only[aJ,aw]
theorem dM(N:Nat)(v:Vl):M.bE N v=aa (decide (be v.1 v.2.1 v.2.2)):=by
 revert v;rintro⟨(k:Int),(e:Int),(n:Int)⟩
 unfold M.bE;rw[wJ];simp only[aJ,ago,jz,gT];refine av aa ?_;by_cases h1:k=1
 .subst h1;rw[ag2];simp[be];try(dsimp only[ay,Row.den]at*;omega)
 by_cases h2:k=2
 .subst h2;rw[ag2];simp[be];try(dsimp only[ay,Row.den]at*;omega)
 by_cases h3:k=3
 .subst h3;rw[ag2];simp[be];try(dsimp only[ay,Row.den]at*;omega)
 by_cases h4:k=4
 .subst h4;rw[ag2];simp[be];try(dsimp only[ay,Row.den]at*;omega)
 by_cases h5:k=5
 .subst h5;rw[ag2];simp[be];try(dsimp only[ay,Row.den]at*;omega)
 by_cases h6:k=6
 .subst h6;rw[ag2];simp[be];try(dsimp only[ay,Row.den]at*;omega)
 simp[be,h1,h2,h3,h4,h5,h6];try omega
def Lt(N:Nat)(v:Vl)(t:Ty):M.qp N v t=aa (decide (K9 v t)):=by
 unfold M.qp;rw[dM];simp only[aJ,ago,gT];refine av aa ?_;rw[ag2];simp[ub]
def CE(N:Nat)(op:Int)(t:Ty):M.kV N op t=aa (decide (Nw op t)):=by
 unfold M.kV;simp only[aJ,ago,jz,gT];refine av aa ?_;obtain⟨(k:Int),(e:Int)⟩:=t;rw[ag2]
 show _↔decide (uB op k e)=af
 unfold uB
 by_cases h0:e=0<;>by_cases h1:op=36<;>by_cases h2:op=39<;>simp[h0,h1,h2]<;>try(dsimp only[ay,Row.den]at*;omega)
def sB(N:Nat)(k n:Int):M.bW N k n=aa (if be k 0 n then((k,0,n),0)else((0,0,0),3)):=by
 unfold M.bW;rw[dM];simp only[ago];by_cases h:be k 0 n
 .simp[h]
 .simp[h]
def Lu{N:Nat}{op acc n:Int}{first:Bool}(U4:op=36->-9000000000000000000<=acc+n/\acc+n<=9000000000000000000)(h37:op=37->(0<=n/\n<=1)/\0<=acc/\acc<=1)(lH:op=36\/op=37\/op=38\/op=39):M.oy N op acc n first=aa (fold op acc n first):=by
 unfold M.oy fold
 rcases lH with rfl|rfl|rfl|rfl
 .have:=U4 rfl;simp[aE (n:=acc+n) (by omega) (by omega)]
 .obtain⟨⟨a1,a2⟩,a3,a4⟩:=h37 rfl
  have Y1:n=0\/n=1:=by omega
  have Y2:acc=0\/acc=1:=by omega
  rcases Y1 with rfl|rfl<;>rcases Y2 with rfl|rfl<;>simp[aE]
 .simp only[aJ,ahu,decide_false,decide_true,ags,if_false,if_true]
  by_cases h:acc<n<;>simp[h]
 .simp only[aJ,ahu,decide_false,decide_true,ags,if_false,if_true,ago,jz]
  by_cases h:first=af\/acc<n
  .rw[aj h,aj (by simpa using h)]
  .rw[ai h,ai (by simpa using h)]
def Gc(op:Int)(t:Ty)(j:Nat)(ms:List (List Vl)):Vl×Int:=
 if Nw op t then(if op=39/\ms=[]then((0,0,0),6)else match kq op t j ms af (pU op)with
  | .inl a=>if be t.1 0 a then((t.1,0,a),0)else((0,0,0),3)
  | .inr c=>((0,0,0),c))else((0,0,0),8)
def CF{N:Nat}(hN:100001<=N){op:Int}(lH:op=36\/op=37\/op=38\/op=39){j:Nat}{env:bl.den}(hj:j<env.2.2.2.2.1.length)(hm:env.2.2.2.1.length<=100):
 M.kW N (op,(j:Int)) env=aa (Gc op env.2.2.2.2.1[j] j env.2.2.2.1):=by
 obtain⟨d,ip,df,ms,ts,tb⟩:=env;simp only at hj hm⊢;apply Wp.eq;unfold M.kW;simp only;rw[aM hj];simp only[ago,CE];generalize ts[j]=t;unfold Gc;by_cases ht:Nw op t
 case neg=>
  rw[aj (by simp[ht]),ai ht];exact .some rfl
 rw[ai (by simp[ht]),aj ht];have Q0:(t.2:Int)=0:=(show uB op t.1 t.2 from ht).1
 have e1:(if decide (op=37)=af then aa (1:Int)else aa (0:Int))=aa (pU op):=by
  unfold pU;by_cases h:op=37<;>simp[h]
 rw[e1];simp only[ago,aJ,gT,sB]
 refine Wp.join (Wp.loop (λs:Int×Int=>∃k:Nat,∃acc:Int,s=(acc,(k:Int))/\k<=ms.length/\FO op t (decide (k=0)) acc/\kq op t j (ms.drop k) (decide (k=0)) acc=kq op t j ms af (pU op)) (λs=>(ms.length-s.2).toNat)
  ⟨0,pU op,rfl,Nat.zero_le _,FP lH ht,rfl⟩ (by simp only;omega) ?_)
 rintro _ ⟨k,acc,rfl,hk,If,hf⟩
 simp only
 refine Wp.dec (λh=>?_) λh=> .some ?_
 case refine_2=>
  have hd:ms.drop k=[]:=List.drop_of_length_le (by omega);rw[hd]at hf
  show Wp _ _
  by_cases L3:op=39/\ms=[]
  .rw[aj L3];refine .some ?_;rw[aj (by simpa using L3)]
  .rw[ai L3,<-hf];refine .some ?_;rw[ai (by simpa using L3)];simp only[kq]
 have gD:k<ms.length:=by omega
 have dJ:¬(op=39/\ms=[]):=λh=>by rw[h.2]at gD;simp at gD
 rw[ai dJ];have hd:ms.drop k=ms[k]::ms.drop (k+1):=List.drop_eq_getElem_cons gD;rw[hd]at hf;rw[aM gD];simp only[ago];rw[kq]at hf;by_cases hl:j<ms[k].length
 .rw[agx hl]at hf;simp only at hf;rw[aM hl];simp only[ago,aJ,jz,Lt];generalize ms[k][j]=v at hf⊢;by_cases hv:(v.1:Int)=0
  .rw[aj hv]at hf;rw[aj (by simp[hv])];refine .some ?_
   show _=_
   rw[<-hf]
  .rw[ai hv]at hf;rw[ai (by simp[hv];omega)];by_cases hh:K9 v t
   .rw[aj hh]at hf;rw[ai (by simp[hh])]
    obtain⟨hp,Kb,OJ⟩:=(show ub _ _ _ _ _ from hh)
    have OA:(op=36->-9000000000000000000<=acc+v.2.2/\acc+v.2.2<=9000000000000000000)/\(op=37->(0<=(v.2.2:Int)/\(v.2.2:Int)<=1)/\0<=acc/\acc<=1):=by
     have h1:=(show uB op t.1 t.2 from ht).2
     have h2:op≠39->be t.1 0 acc:=λdJ=>by
      rcases If with h|h
      .exact absurd h.1 dJ
      .exact h
     rw[Kb]at hp;revert h1 h2 hp;generalize(v.2.2:Int)=n;generalize(v.2.1:Int)=ve;generalize(t.1:Int)=tk;intro h3 h1 h2;refine⟨λe=>?_,λe=>?_⟩
     .have h2:=h2 (by omega);unfold be at h2 h3;dsimp only[ay,Row.den]at*;omega
     .subst e;have h2:=h2 (by omega);unfold be at h2 h3;simp at h1;dsimp only[ay,Row.den]at*;omega
    rw[show(decide ((k:Int)=0))=decide (k=0)from by rw[decide_eq_decide];omega];rw[Lu OA.1 OA.2 lH];simp only[ago];by_cases vq:be t.1 0 (fold op acc v.2.2 (decide (k=0)))
    .rw[aj vq]at hf⊢;simp only[decide_true,Bool.not_true,ags,if_false];rw[aL (by omega)];refine .some ⟨⟨k+1,_,rfl,gD, .inr vq,?_⟩,by simp only;omega⟩;rw[show decide (k+1=0)=ag by simp];exact hf
    .rw[ai vq]at hf⊢;simp only[ahu,decide_false,Bool.not_false,if_true];refine .some ?_
     show _=_
     rw[<-hf]
   .rw[ai hh]at hf;rw[aj (by simp[hh])];refine .some ?_
    show _=_
    rw[<-hf]
 .rw[List.getElem?_eq_none (by omega)]at hf;rw[aj (by simp;omega)];refine .some ?_
  show _=_
  rw[<-hf]
def yw(N:Nat)(op:Int)(lH:35<=op/\op<=39):M.dV N op=aa 0:=by
 have:op=35\/op=36\/op=37\/op=38\/op=39:=by omega
 rcases this with rfl|rfl|rfl|rfl|rfl<;>(show(_:Option _)=_;kernel_rfl)
def xg(N:Nat)(op:Int)(lH:35<=op/\op<=39):M.fm N op=aa 0:=by
 have:op=35\/op=36\/op=37\/op=38\/op=39:=by omega
 rcases this with rfl|rfl|rfl|rfl|rfl<;>(show(_:Option _)=_;kernel_rfl)
def Lv(N:Nat)(op:Int)(lH:35<=op/\op<=39):M.ie N op=aa (!decide (op=35)):=by
 have:op=35\/op=36\/op=37\/op=38\/op=39:=by omega
 rcases this with rfl|rfl|rfl|rfl|rfl<;>(show(_:Option _)=_;kernel_rfl)
def CG(N:Nat)(op:Int)(lH:35<=op/\op<=39):M.jd N op=aa (!decide (op=35)):=by
 have:op=35\/op=36\/op=37\/op=38\/op=39:=by omega
 rcases this with rfl|rfl|rfl|rfl|rfl<;>(show(_:Option _)=_;kernel_rfl)
def EH(N:Nat)(op n:Int)(lH:35<=op/\op<=39):M.dp N (op,n)=aa (!(decide (op=35)&& !decide (n=0))):=by
 unfold M.dp;simp only[yw N op lH,Lv N op lH]
 have:op=35\/op=36\/op=37\/op=38\/op=39:=by omega
 rcases this with rfl|rfl|rfl|rfl|rfl<;>by_cases h:n=0<;>simp[h]
def EI(N:Nat)(op n:Int)(lH:35<=op/\op<=39):M.iN N (op,n) 0=aa (!(decide (op=35)&& !decide (n=0))):=by
 unfold M.iN;simp only[xg N op lH,CG N op lH]
 have:op=35\/op=36\/op=37\/op=38\/op=39:=by omega
 rcases this with rfl|rfl|rfl|rfl|rfl<;>by_cases h:n=0<;>simp[h]
def EJ(N:Nat)(op n:Int)(env:bl.den)(lH:35<=op/\op<=39):M.ig N (op,n) env=aa (decide (op=35)||(decide (0<=n)&&decide (n<(env.2.2.2.2.1.length:Int)))):=by
 unfold M.ig
 have:op=35\/op=36\/op=37\/op=38\/op=39:=by omega
 rcases this with rfl|rfl|rfl|rfl|rfl<;>by_cases h:0<=n<;>simp[h]
def Is(N:Nat)(op n:Int)(env:bl.den)(lH:35<=op/\op<=39):M.lq N (op,n) env=aa (decide (op=35)||(decide (0<=n)&&decide (n<(env.2.2.2.2.1.length:Int)))):=by
 unfold M.lq
 have:op=35\/op=36\/op=37\/op=38\/op=39:=by omega
 rcases this with rfl|rfl|rfl|rfl|rfl<;>by_cases h:0<=n<;>simp[h]
def all_nil{N:Nat}(hN:100001<=N):M.cO N ([]:List Vl)=aa af:=by
 obtain⟨N,rfl⟩:∃m,N=m+1:=⟨N-1,by omega⟩
 unfold M.cO Loop;simp
def NK(op n:Int)(env:bl.den):Vl×Int:=
 if op=35 then(if n=0 then((2,0,(env.2.2.2.1.length:Int)),0)else((0,0,0),2))else match env.2.2.2.2.1[n.toNat]? with
  |some t=>if 0<=n then Gc op t n.toNat env.2.2.2.1 else((0,0,0),6)
  |none=>((0,0,0),6)
def yx{op:Int}{t:Ty}{j:Nat}:{ms:List (List Vl)}->{first:Bool}->{acc c:Int}->kq op t j ms first acc= .inr c->c=3\/c=6\/c=8
 |[],_,_,_,h=>by cases h
 |l::ms,first,acc,c,h=>by
  rw[kq]at h;split at h
  .cases h;exact .inr (.inl rfl)
  .split at h
   .cases h;exact .inr (.inl rfl)
   .split at h
    .split at h
     .exact yx h
     .cases h;exact .inl rfl
    .cases h;exact .inr (.inr rfl)
def It{N:Nat}(hN:100001<=N)(op n:Int)(env:bl.den)(lH:35<=op/\op<=39)(hm:env.2.2.2.1.length<=100):M.eL N (op,n) ([]:List Vl) env=aa (NK op n env):=by
 unfold M.eL;simp only[EH N op n lH,yw N op lH,EJ N op n env lH,all_nil hN,ago,aJ,jz];unfold NK;by_cases Iu:op=35
 .subst Iu;by_cases h0:n=0
  .subst h0
   have e1:M.bp N ((35:Int),(0:Int)) ([]:List Vl) env=aa af:=by unfold M.bp;simp
   have e2:M.bA N ((35:Int),(0:Int)) ([]:List Vl) env=aa ((2,0,(env.2.2.2.1.length:Int)),0):=by unfold M.bA;simp
   have e3:be 2 0 (env.2.2.2.1.length:Int):=by unfold be;omega
   simp[e1,e2,cy,e3]
  .simp[h0]
 .have Lx:op=36\/op=37\/op=38\/op=39:=by omega
  have e1:M.bp N (op,n) ([]:List Vl) env=(idx env.2.2.2.2.1 n).bind λx=>M.eH N op x:=by
   unfold M.bp
   rcases Lx with rfl|rfl|rfl|rfl<;>simp
  have e2:M.bA N (op,n) ([]:List Vl) env=M.ew N (op,n) env:=by
   unfold M.bA
   rcases Lx with rfl|rfl|rfl|rfl<;>simp<;>(cases M.ew N _ env<;>rfl)
  by_cases hn:0<=n
  .obtain⟨j,rfl⟩:∃j:Nat,n=j:=⟨n.toNat,by omega⟩
   by_cases hj:j<env.2.2.2.2.1.length
   .rw[e1,e2,aM hj];simp only[ago,n9,agE,agx hj,aj hn,Gc];by_cases ht:Nw op env.2.2.2.2.1[j]
    .rw[pV hN Lx hj hm ht,aj ht];unfold La
     by_cases L3:op=39/\env.2.2.2.1=[]
     .obtain⟨rfl,LY⟩:=L3;simp[hj,ht,LY]
     .rw[ai L3,ai L3]
      cases hmf:kq op env.2.2.2.2.1[j] j env.2.2.2.1 af (pU op)with
      |inr c=>
       have hc:¬c=0:=by rcases yx hmf with rfl|rfl|rfl<;>decide
       simp[Iu,hj,ht,hc]
      |inl a=>
       by_cases hp:be env.2.2.2.2.1[j].1 0 a
       .simp[Iu,hj,ht,cy,hp]
       .simp[Iu,hj,ht,cy,hp]
    .simp[Iu,hj,ht]
   .simp[Iu,hj]
  .rw[e1,e2]
   cases env.2.2.2.2.1[n.toNat]? <;>simp[Iu,hn]
def xh{N:Nat}(hN:100001<=N)(op n:Int)(env:bl.den)(lH:35<=op/\op<=39)(hm:env.2.2.2.1.length<=100):M.iv N (op,n) ([]:List Vl) env=aa (NK op n env):=by
 obtain⟨N,rfl⟩:∃m,N=m+1:=⟨N-1,by omega⟩
 unfold M.iv;simp only[List.length_nil,Int.ofNat_zero,EI _ op n lH,Is _ op n env lH,ago];unfold Loop;simp only[gm,Int.lt_irrefl,decide_false,ags,if_false,ago,aJ,gT,decide_true,if_true];unfold NK;by_cases Iu:op=35
 .subst Iu;by_cases h0:n=0
  .subst h0
   have e2:M.bS (N+1) ((35:Int),(0:Int)) env=aa ((2,0,(env.2.2.2.1.length:Int)),0):=by
    have e3:be 2 0 (env.2.2.2.1.length:Int):=by unfold be;omega
    unfold M.bS;simp[sB,e3]
   simp[e2]
  .simp[h0]
 .have Lx:op=36\/op=37\/op=38\/op=39:=by omega
  by_cases hn:0<=n
  .obtain⟨j,rfl⟩:∃j:Nat,n=j:=⟨n.toNat,by omega⟩
   by_cases hj:j<env.2.2.2.2.1.length
   .rw[CF hN Lx hj hm];simp only[agE,agx hj,aj hn]
    have h1:36<=op:=by omega
    simp[Iu,hj,h1,lH.2]
   .simp[Iu,hj]
  .cases env.2.2.2.2.1[n.toNat]? <;>simp[Iu,hn]
end L.P
namespace L.P
def Ly{op:Int}(h:1<=op/\op<=39):op=1\/op=2\/op=3\/op=4\/op=5\/op=6\/op=7\/op=8\/op=9\/op=10\/op=11\/op=12\/op=13\/op=14\/op=15\/op=16\/op=17\/op=18\/op=19\/op=20\/op=21\/op=22\/op=23\/op=24\/op=25\/op=26\/op=27\/op=28\/op=29\/op=30\/op=31\/op=32\/op=33\/op=34\/op=35\/op=36\/op=37\/op=38\/op=39:=by omega
theorem yy(N:Nat)(op:Int):M.fm N op=aa (ar op):=by
 unfold M.fm ar
 grind
def Iv(N:Nat)(op:Int):M.ie N op=M.jd N op:=by
 by_cases h:1<=op/\op<=39
 .rcases Ly h with rfl|rfl|rfl|rfl|rfl|rfl|rfl|rfl|rfl|rfl|rfl|rfl|rfl|rfl|rfl|rfl|rfl|rfl|rfl|rfl|rfl|rfl|rfl|rfl|rfl|rfl|rfl|rfl|rfl|rfl|rfl|rfl|rfl|rfl|rfl|rfl|rfl|rfl|rfl<;>rfl
 .have ne:∀k:Int,1<=k->k<=39->decide (op=k)=ag:=λk h1 h2=>by simp;omega
  unfold M.ie M.jd;simp only[aJ,ago,jz,gT]
  rcases(show op<1\/39<op by omega)with g|g
  .have l:∀k:Int,1<=k->decide (k<=op)=ag:=λk h1=>by simp;omega
   simp[ne,l]
  .have l:∀k:Int,k<=39->decide (op<=k)=ag:=λk h1=>by simp;omega
   simp[ne,l]
def Iw(N:Nat)(op m l:Int)(hl:0<=l){y:Bool}(hy:M.dp N (op,m)=aa y):M.iN N (op,m) l=aa (y&&decide (l=ar op)):=by
 unfold M.dp at hy;unfold M.iN;rw[lz,Iv]at hy;rw[yy]
 grind
def CH(N:Nat)(n:Ty)(env:bl.den):M.ig N n env=M.lq N n env:=rfl
def zv:Vl:=((0,0,0):Int×Int×Int)
def fin(r:Vl×Int):Vl×Int:=if(r.2:Int)=0 then(if be r.1.1 r.1.2.1 r.1.2.2 then(r.1,0)else(zv,3))else(zv,r.2)
noncomputable def dN(op m:Int)(args:List Vl)(env:bl.den):Option (Vl×Int):=
 ((M.bp aR ((op,m):Int×Int) args env).bind λy7=>aa (!y7)).bind λj5=>if j5=af then aa (zv,(8:Int))else
   (M.bA aR ((op,m):Int×Int) args env).bind λy8=>(if(!decide (y8.2=(0:Int)))=af then aa (zv,y8.2)else(M.cC aR y8.1).bind λy9=>(if(!y9)=af then aa (zv,(3:Int))else aa (y8.1,(0:Int))))
def iz{op m:Int}{args:List Vl}{env:bl.den}{C:Prop}[Decidable C]{r:Vl×Int}(ha:M.bp aR ((op,m):Int×Int) args env=aa (decide C))(hc:C->M.bA aR ((op,m):Int×Int) args env=aa r):dN op m args env=aa (if C then fin r else(zv,8)):=by
 grind [P.dN,P.fin,P.cy]
theorem iA(N:Nat)(k n:Int):M.bW N k n=aa (fin ((k,0,n),0)):=by
 rw[sB];rfl
theorem mu(N:Nat)(k n e:Int):M.fC N k n e=aa (fin ((k,0,n),e)):=by
 unfold M.fC fin;by_cases h:e=0
 .rw[ai (by simpa using h),sB,ago];subst h;simp only[if_true];rfl
 .rw[aj (by simpa using h),ai h];rfl
theorem eR(N:Nat)(k:Int):M.cx N k=aa (decide (2<=k/\k<=4)):=by
 unfold M.cx;simp only[aJ,ago,jz];refine av aa ?_
 grind
theorem fu(N:Nat)(a b:Vl):M.da N a b=aa (decide ((a.1:Int)=b.1/\(a.2.1:Int)=b.2.1)):=by
 unfold M.da
 grind
theorem mv(N:Nat)(b:Bool):M.dh N b=aa (1,0,if b=af then 1 else 0):=by
 unfold M.dh;cases b<;>rfl
theorem kP(N:Nat)(b:Bool):M.dL N b=aa (fin ((1,0,if b=af then 1 else 0),0)):=by
 unfold M.dL fin;cases b<;>rfl
theorem wK{α:Type}(a:α):idx [a] (0:Int)=aa a:=rfl
def Lz{α:Type}(a b:α):idx [a,b] (0:Int)=aa a:=rfl
def LA{α:Type}(a b:α):idx [a,b] (1:Int)=aa b:=rfl
theorem OB{α:Type}(a b c:α):idx [a,b,c] (0:Int)=aa a:=rfl
theorem OC{α:Type}(a b c:α):idx [a,b,c] (1:Int)=aa b:=rfl
theorem OD{α:Type}(a b c:α):idx [a,b,c] (2:Int)=aa c:=rfl
def tH{α β:Type}(o:Option (α×β)):(o.bind λy=>aa (y.1,y.2))=o:=by cases o<;>rfl
theorem p3{v:Vl}(h:be v.1 v.2.1 v.2.2):fin (v,0)=(v,0):=by
 unfold fin
 grind
theorem NL(k:Int):(if 2<=k/\k<=4 then aa af else aa (decide (k=5)))=aa (decide (2<=k)&&decide (k<=5)):=by
 by_cases h:2<=k/\k<=4
 .grind
 .rw[ai h];refine av aa ?_
  grind
def two{op m:Int}{a b:Vl}{env:bl.den}(lH:11<=op/\op<=30){C:Prop}[Decidable C]{r:Vl×Int}(h1:M.aN aR op a b=aa (decide C))(h2:C->M.bu aR ((op,m):Int×Int) a b=aa r)
 (h3:M.aK aR ((op,m):Int×Int) a b=aa (if C then fin r else(zv,8))):dN op m [a,b] env=M.aK aR ((op,m):Int×Int) a b:=by
 have ne:∀k:Int,k<11\/30<k->decide (op=k)=ag:=λk h=>by simp;omega
 rw[h3]
 refine iz ?_ λc=>?_
 .unfold M.bp;simp only[ne 7 (by omega),ne 8 (by omega),ne 33 (by omega),ne 34 (by omega),ne 36 (by omega),ne 37 (by omega),ne 38 (by omega),ne 39 (by omega),ags,if_false,ago,Lz,LA,h1];rfl
 .unfold M.bA;simp only[ne 1 (by omega),ne 2 (by omega),ne 3 (by omega),ne 4 (by omega),ne 5 (by omega),ne 6 (by omega),ne 7 (by omega),ne 8 (by omega),ne 9 (by omega),ne 33 (by omega),ne 34 (by omega),ne 35 (by omega),ne 36 (by omega),ne 37 (by omega),ne 38 (by omega),ne 39 (by omega),ags,if_false,ago,Lz,LA,h2 c];rfl
def Un(m ka ea na kb eb nb:Int)(env:bl.den):dN 11 m [((ka,ea,na):Int×Int×Int),((kb,eb,nb):Int×Int×Int)] env=M.aK aR ((11,m):Int×Int) ((ka,ea,na):Int×Int×Int) ((kb,eb,nb):Int×Int×Int):=by
 refine two (by omega) (C:=(ka=kb/\ea=eb)/\2<=ka/\ka<=4) (r:=((ka,0,agp.wrap (na+nb)),0)) ?_ (λ_=>?_) ?_
 .unfold M.aN;simp[fu,eo]
  grind
 all_goals grind [M.bu,M.aK,M.b9,P.eR,P.iA,P.zv]
def Uo(m ka ea na kb eb nb:Int)(env:bl.den):dN 12 m [((ka,ea,na):Int×Int×Int),((kb,eb,nb):Int×Int×Int)] env=M.aK aR ((12,m):Int×Int) ((ka,ea,na):Int×Int×Int) ((kb,eb,nb):Int×Int×Int):=by
 refine two (by omega) (C:=(ka=kb/\ea=eb)/\2<=ka/\ka<=4) (r:=((ka,0,agp.wrap (na-nb)),0)) ?_ (λ_=>?_) ?_
 .unfold M.aN;simp[fu,eo]
  grind
 all_goals grind [M.bu,M.aK,M.b9,P.eR,P.iA,P.zv]
def Up(m ka ea na kb eb nb:Int)(ha:be ka ea na)(hb:be kb eb nb)(env:bl.den):dN 17 m [((ka,ea,na):Int×Int×Int),((kb,eb,nb):Int×Int×Int)] env=M.aK aR ((17,m):Int×Int) ((ka,ea,na):Int×Int×Int) ((kb,eb,nb):Int×Int×Int):=by
 refine two (by omega) (C:=(ka=kb/\ea=eb)/\2<=ka/\ka<=5) (r:=(if decide (True)=decide (nb<na)then((kb,eb,nb):Vl)else((ka,ea,na):Vl),0)) ?_ (λ_=>?_) ?_
 .unfold M.aN;simp[fu,eo]
  grind [P.NL]
 .grind [M.bu]
 .unfold M.aK M.b9;have fa:=p3 (v:=((ka,ea,na):Int×Int×Int)) ha;have fb:=p3 (v:=((kb,eb,nb):Int×Int×Int)) hb;by_cases h1:ka=kb
  .subst h1;by_cases h2:ea=eb
   .subst h2
    have dJ:∀k:Int,k<2\/5<k->¬(2<=k/\k<=5):=λk h=>by omega
    by_cases h3:2<=ka/\ka<=5
    .have gg:((M.cx aR ka).bind λEK=>(if(!EK)=af then aa (!decide (ka=(5:Int)))else aa ag):Option Bool)=aa ag:=by
      rw[eR,ago];by_cases h5:ka=5
      .subst h5;simp
      .grind
     simp only[gg]
     rcases Int.lt_trichotomy na nb with g|g|g
     all_goals grind
    .have gg:((M.cx aR ka).bind λEK=>(if(!EK)=af then aa (!decide (ka=(5:Int)))else aa ag):Option Bool)=aa af:=by
      rw[eR,ago,aj]
      .simp;omega
      .simp;omega
     simp only[gg];simp[h3,zv]
   .simp[h2,zv]
  .simp[h1,zv]
def Uq(m ka ea na kb eb nb:Int)(ha:be ka ea na)(hb:be kb eb nb)(env:bl.den):dN 18 m [((ka,ea,na):Int×Int×Int),((kb,eb,nb):Int×Int×Int)] env=M.aK aR ((18,m):Int×Int) ((ka,ea,na):Int×Int×Int) ((kb,eb,nb):Int×Int×Int):=by
 refine two (by omega) (C:=(ka=kb/\ea=eb)/\2<=ka/\ka<=5) (r:=(if decide (False)=decide (nb<na)then((kb,eb,nb):Vl)else((ka,ea,na):Vl),0)) ?_ (λ_=>?_) ?_
 .unfold M.aN;simp[fu,eo]
  grind [P.NL]
 .grind [M.bu]
 .unfold M.aK M.b9;have fa:=p3 (v:=((ka,ea,na):Int×Int×Int)) ha;have fb:=p3 (v:=((kb,eb,nb):Int×Int×Int)) hb;by_cases h1:ka=kb
  .subst h1;by_cases h2:ea=eb
   .subst h2
    have dJ:∀k:Int,k<2\/5<k->¬(2<=k/\k<=5):=λk h=>by omega
    by_cases h3:2<=ka/\ka<=5
    .have gg:((M.cx aR ka).bind λEK=>(if(!EK)=af then aa (!decide (ka=(5:Int)))else aa ag):Option Bool)=aa ag:=by
      rw[eR,ago];by_cases h5:ka=5
      .subst h5;simp
      .grind
     simp only[gg]
     rcases Int.lt_trichotomy na nb with g|g|g
     all_goals grind
    .have gg:((M.cx aR ka).bind λEK=>(if(!EK)=af then aa (!decide (ka=(5:Int)))else aa ag):Option Bool)=aa af:=by
      rw[eR,ago,aj]
      .simp;omega
      .simp;omega
     simp only[gg];simp[h3,zv]
   .simp[h2,zv]
  .simp[h1,zv]
def Zl(m ka ea na kb eb nb:Int)(env:bl.den):dN 19 m [((ka,ea,na):Int×Int×Int),((kb,eb,nb):Int×Int×Int)] env=M.aK aR ((19,m):Int×Int) ((ka,ea,na):Int×Int×Int) ((kb,eb,nb):Int×Int×Int):=by
 refine two (by omega) (C:=ka=kb/\ea=eb) (r:=((1,0,if(decide (na=nb))=af then 1 else 0),0)) ?_ (λ_=>?_) ?_
 all_goals grind [M.aN,P.fu,M.bu,P.mv,M.aK,M.b9,P.kP,P.zv]
def Zm(m ka ea na kb eb nb:Int)(env:bl.den):dN 20 m [((ka,ea,na):Int×Int×Int),((kb,eb,nb):Int×Int×Int)] env=M.aK aR ((20,m):Int×Int) ((ka,ea,na):Int×Int×Int) ((kb,eb,nb):Int×Int×Int):=by
 refine two (by omega) (C:=ka=kb/\ea=eb) (r:=((1,0,if(!decide (na=nb))=af then 1 else 0),0)) ?_ (λ_=>?_) ?_
 all_goals grind [M.aN,P.fu,M.bu,P.mv,M.aK,M.b9,P.kP,P.zv]
def Zn(m ka ea na kb eb nb:Int)(env:bl.den):dN 21 m [((ka,ea,na):Int×Int×Int),((kb,eb,nb):Int×Int×Int)] env=M.aK aR ((21,m):Int×Int) ((ka,ea,na):Int×Int×Int) ((kb,eb,nb):Int×Int×Int):=by
 refine two (by omega) (C:=(ka=kb/\ea=eb)/\2<=ka/\ka<=5) (r:=((1,0,if decide (na<nb)=af then 1 else 0),0)) ?_ (λ_=>?_) ?_
 .unfold M.aN;simp[fu,eo]
  grind [P.NL]
 .unfold M.bu;simp[mv]
 .unfold M.aK M.b9;by_cases h1:ka=kb
  .subst h1;by_cases h2:ea=eb
   .subst h2;by_cases h3:2<=ka/\ka<=5
    .have gg:((M.cx aR ka).bind λEK=>(if(!EK)=af then aa (!decide (ka=(5:Int)))else aa ag):Option Bool)=aa ag:=by
      rw[eR,ago];by_cases h5:ka=5
      .subst h5;simp
      .grind
     grind [P.kP]
    .have gg:((M.cx aR ka).bind λEK=>(if(!EK)=af then aa (!decide (ka=(5:Int)))else aa ag):Option Bool)=aa af:=by
      rw[eR,ago,aj]
      .simp;omega
      .simp;omega
     simp only[gg];simp[h3,zv]
   .simp[h2,zv]
  .simp[h1,zv]
def Zo(m ka ea na kb eb nb:Int)(env:bl.den):dN 22 m [((ka,ea,na):Int×Int×Int),((kb,eb,nb):Int×Int×Int)] env=M.aK aR ((22,m):Int×Int) ((ka,ea,na):Int×Int×Int) ((kb,eb,nb):Int×Int×Int):=by
 refine two (by omega) (C:=(ka=kb/\ea=eb)/\2<=ka/\ka<=5) (r:=((1,0,if decide (na<=nb)=af then 1 else 0),0)) ?_ (λ_=>?_) ?_
 .unfold M.aN;simp[fu,eo]
  grind [P.NL]
 .unfold M.bu;simp[mv]
 .unfold M.aK M.b9;by_cases h1:ka=kb
  .subst h1;by_cases h2:ea=eb
   .subst h2;by_cases h3:2<=ka/\ka<=5
    .have gg:((M.cx aR ka).bind λEK=>(if(!EK)=af then aa (!decide (ka=(5:Int)))else aa ag):Option Bool)=aa ag:=by
      rw[eR,ago];by_cases h5:ka=5
      .subst h5;simp
      .grind
     grind [P.kP]
    .have gg:((M.cx aR ka).bind λEK=>(if(!EK)=af then aa (!decide (ka=(5:Int)))else aa ag):Option Bool)=aa af:=by
      rw[eR,ago,aj]
      .simp;omega
      .simp;omega
     simp only[gg];simp[h3,zv]
   .simp[h2,zv]
  .simp[h1,zv]
def Ur(m ka ea na kb eb nb:Int)(ha:be ka ea na)(hb:be kb eb nb)(env:bl.den):dN 23 m [((ka,ea,na):Int×Int×Int),((kb,eb,nb):Int×Int×Int)] env=M.aK aR ((23,m):Int×Int) ((ka,ea,na):Int×Int×Int) ((kb,eb,nb):Int×Int×Int):=by
 refine two (by omega) (C:=ka=1/\kb=1) (r:=((1,0,if na=1/\nb=1 then 1 else 0),0)) ?_ (λ_=>?_) ?_
 .grind [M.aN]
 .grind [M.bu,P.mv]
 .unfold M.aK M.b9;unfold be at ha hb;by_cases h1:ka=1
  .grind [P.kP,aE,P.zv]
  .by_cases h2:ka=kb
   all_goals grind [P.zv]
def Zp(m ka ea na kb eb nb:Int)(ha:be ka ea na)(hb:be kb eb nb)(env:bl.den):dN 24 m [((ka,ea,na):Int×Int×Int),((kb,eb,nb):Int×Int×Int)] env=M.aK aR ((24,m):Int×Int) ((ka,ea,na):Int×Int×Int) ((kb,eb,nb):Int×Int×Int):=by
 refine two (by omega) (C:=ka=1/\kb=1) (r:=((1,0,if na=1\/nb=1 then 1 else 0),0)) ?_ (λ_=>?_) ?_
 .grind [M.aN]
 .grind [M.bu,P.mv]
 .unfold M.aK M.b9;unfold be at ha hb;by_cases h1:ka=1
  .subst h1;by_cases h2:kb=1
   .subst h2
    grind [P.kP,aE]
   grind [P.zv]
  .by_cases h2:ka=kb
   all_goals grind [P.zv]
def Ix(m ka ea na kb eb nb:Int)(env:bl.den):dN 27 m [((ka,ea,na):Int×Int×Int),((kb,eb,nb):Int×Int×Int)] env=M.aK aR ((27,m):Int×Int) ((ka,ea,na):Int×Int×Int) ((kb,eb,nb):Int×Int×Int):=by
 refine two (by omega) (C:=ka=5/\kb=2) (r:=((ka,0,agp.wrap (na+nb)),0)) ?_ (λ_=>?_) ?_
 all_goals grind [M.aN,M.bu,M.aK,M.jH,P.iA,P.zv]
def Zq(d n:Int):∃r,M.cE aR d n=aa r/\M.cZ aR d n=aa r:=by
 obtain⟨r,e,_⟩:=oK d n
 grind [P.pZ]
def Us(d:Int):∃r,M.dj aR d=aa r/\M.fZ aR d=aa r:=by
 obtain⟨r,e,_⟩:=pW d
 grind [P.wH]
def Zr(a b:Int):∃r,M.dl aR a b=aa r/\M.eN aR a b=aa r:=by
 obtain⟨r,e,_⟩:=o3 a b
 grind [P.sA]
def CI(m ka ea na kb eb nb:Int)(env:bl.den):dN 28 m [((ka,ea,na):Int×Int×Int),((kb,eb,nb):Int×Int×Int)] env=M.aK aR ((28,m):Int×Int) ((ka,ea,na):Int×Int×Int) ((kb,eb,nb):Int×Int×Int):=by
 obtain⟨y,e1,e2⟩:=Zq na nb;refine two (by omega) (C:=ka=5/\kb=2) (r:=((5,0,y.1),y.2)) ?_ (λ_=>?_) ?_
 all_goals grind [M.aN,M.bu,M.aK,M.jH,P.mu,P.zv]
def QK(m ka ea na kb eb nb:Int)(env:bl.den):dN 29 m [((ka,ea,na):Int×Int×Int),((kb,eb,nb):Int×Int×Int)] env=M.aK aR ((29,m):Int×Int) ((ka,ea,na):Int×Int×Int) ((kb,eb,nb):Int×Int×Int):=by
 refine two (by omega) (C:=ka=5/\kb=5) (r:=((2,0,agp.wrap (nb-na)),0)) ?_ (λ_=>?_) ?_
 all_goals grind [M.aN,M.bu,M.aK,M.jH,P.iA,P.zv]
def NM(m ka ea na kb eb nb:Int)(env:bl.den):dN 30 m [((ka,ea,na):Int×Int×Int),((kb,eb,nb):Int×Int×Int)] env=M.aK aR ((30,m):Int×Int) ((ka,ea,na):Int×Int×Int) ((kb,eb,nb):Int×Int×Int):=by
 obtain⟨y,e1,e2⟩:=Zr na nb;refine two (by omega) (C:=ka=5/\kb=5) (r:=((2,0,y),0)) ?_ (λ_=>?_) ?_
 all_goals grind [M.aN,M.bu,M.aK,M.jH,P.iA,P.zv]
def OE(a b:Int):Int×Int:=if 1000000000000000<a.natAbs*b.natAbs then(0,3)else(a*b,0)
def QL(a b:Int):sg (ng a b) (a.natAbs*b.natAbs)=a*b:=by
 grind [P.sg,P.ng]
theorem EL{a b:Int}(ha: -1000000000000000<=a/\a<=1000000000000000)(hb: -1000000000000000<=b/\b<=1000000000000000):M.iG aR a b=aa (OE a b):=by
 grind [M.iG,P.OE,P.EF,P.sr,aE]
theorem CJ{a b k:Int}(ha: -1000000000000000<=a/\a<=1000000000000000)(hb: -1000000000000<=b/\b<=1000000000000)(hk:k=2\/k=3):M.kZ aR k a b=aa (fin ((k,0,(OE a b).1),(OE a b).2)):=by
 unfold M.kZ;have hm:=QL a b;have hs:=EB (ng a b) (a.natAbs*b.natAbs);rw[hm]at hs
 obtain⟨L,hL,hbd⟩:∃L:Nat,M.iM aR k=aa (-(L:Int),(L:Int))/\(k=2/\L=1000000000000\/k=3/\L=1000000000000000):=by
  grind [P.wJ]
 have ab:∀x:Int,-1000000000000000<=x/\x<=1000000000000000->((if(decide (x<(0:Int)))=af then aa (agp.wrap ((0:Int)-x))else aa x):Option Int)=aa ((x.natAbs:Nat):Int):=by
  intro x hx;by_cases c:x<0
  .grind [aE]
  .grind
 rw[hL,ago,ab a ha,ab b (by omega),ago,ago]
 obtain⟨A,hA⟩:∃A,A=a.natAbs:=⟨_,rfl⟩
 obtain⟨B,hB⟩:∃B,B=b.natAbs:=⟨_,rfl⟩
 obtain⟨P,hP⟩:∃P,P=A*B:=⟨_,rfl⟩
 rw[<-hA,<-hB,<-hP]at hs;have hPb:P<=1000000000000000*1000000000000:=hP▸Nat.mul_le_mul (by omega) (by omega);rw[<-hA,<-hB];dsimp only
 have g1:((if(!decide ((B:Int)=(0:Int)))=af then(kB (L:Int) (B:Int)).bind λx5=>aa (decide ((agp.wrap x5)<(A:Int)))else aa ag):Option Bool)=aa (decide (L<P)):=by
  by_cases h0:B=0
  .rw[ai (by simp;omega)];refine av aa ?_
   grind
  .rw[aj (by simp;omega),pc _ _ h0,ago];have hq:=Nat.div_le_self L B;rw[kz (by omega)];refine av aa ?_;rw[ag2,aw,aw,hP];have:=agS (x:=L) (y:=A) (show 0<B by omega);omega
 rw[g1,ago]
 have Zs:OE a b=if 1000000000000000<P then(0,3)else(a*b,0):=by
  unfold OE;rw[<-hA,<-hB,<-hP]
 by_cases h:L<P
 .rw[aj (by simpa using h)];refine av aa ?_;by_cases h2:1000000000000000<P
  .rw[Zs,aj h2];rfl
  .rw[Zs,ai h2];unfold fin;dsimp only;rw[aj rfl,ai]
   .rfl
   .unfold be;omega
 .have N0: -1000000000000000<=a*b/\a*b<=1000000000000000:=by omega
  rw[ai (by simpa using h),aE (by omega) (by omega),iA,ago,Zs,ai (show¬1000000000000000<P by omega)]
def Ut(m ka ea na kb eb nb:Int)(ha:be ka ea na)(hb:be kb eb nb)(env:bl.den):dN 13 m [((ka,ea,na):Int×Int×Int),((kb,eb,nb):Int×Int×Int)] env=M.aK aR ((13,m):Int×Int) ((ka,ea,na):Int×Int×Int) ((kb,eb,nb):Int×Int×Int):=by
 refine two (by omega) (C:=kb=2/\(ka=2\/ka=3)) (r:=((ka,0,(OE na nb).1),(OE na nb).2)) ?_ (λhC=>?_) ?_
 .grind [M.aN]
 .grind [M.bu,M.fX,P.be,P.EL]
 .unfold M.aK M.iP
  grind [P.be,P.CJ,P.zv]
def Iy(m ka ea na kb eb nb:Int)(env:bl.den):dN 14 m [((ka,ea,na):Int×Int×Int),((kb,eb,nb):Int×Int×Int)] env=M.aK aR ((14,m):Int×Int) ((ka,ea,na):Int×Int×Int) ((kb,eb,nb):Int×Int×Int):=by
 have Zt:∃y,M.jS aR na nb m=aa y/\M.n4 aR na nb m=aa y:=by
  obtain⟨y,e⟩:∃y,M.jS aR na nb m=aa y:=by
   by_cases h:oh m
   .obtain⟨y,e,_⟩:=FR (a:=na) (b:=nb) h
    grind
   .unfold M.jS;rw[wE,ao h];exact⟨_,rfl⟩
  exact⟨y,e,by rw[<-NH,e]⟩
 obtain⟨y,e1,e2⟩:=Zt;refine two (by omega) (C:=kb=4/\(ka=3\/ka=4)) (r:=if ka=3 then((ka,0,(NG na nb m).1),(NG na nb m).2)else((ka,0,y.1),y.2)) ?_ (λhC=>?_) ?_
 .grind [M.aN]
 .grind [M.bu,M.fX,P.Io]
 .unfold M.aK M.iP
  grind [P.EE,P.mu,P.zv]
def Uu(m ka ea na kb eb nb:Int)(env:bl.den):dN 15 m [((ka,ea,na):Int×Int×Int),((kb,eb,nb):Int×Int×Int)] env=M.aK aR ((15,m):Int×Int) ((ka,ea,na):Int×Int×Int) ((kb,eb,nb):Int×Int×Int):=by
 refine two (by omega) (C:=(kb=2/\(ka=2\/ka=3))\/(ka=3/\kb=3)) (r:=if kb=2 then((ka,0,(IN na nb m).1),(IN na nb m).2)else((4,0,(Ln na nb m).1),(Ln na nb m).2)) ?_ (λhC=>?_) ?_
 .unfold M.aN;by_cases h1:kb=2
  .subst h1
   grind
  grind
 .grind [M.bu,M.fX,P.mV,P.zZ]
 .unfold M.aK M.iP;by_cases h1:kb=2
  .subst h1;by_cases h2:ka=2
   .subst h2;simp[sw,mu]
   .by_cases h3:ka=3
    .subst h3;simp[sw,mu]
    .simp[h2,h3,zv]
  grind [P.xd,P.mu,P.zv]
def Iz(m ka ea na kb eb nb:Int)(env:bl.den):dN 16 m [((ka,ea,na):Int×Int×Int),((kb,eb,nb):Int×Int×Int)] env=M.aK aR ((16,m):Int×Int) ((ka,ea,na):Int×Int×Int) ((kb,eb,nb):Int×Int×Int):=by
 have Zt:∃y,M.dH aR na nb m=aa y/\M.je aR na nb m=aa y:=by
  obtain⟨y,e⟩:∃y,M.dH aR na nb m=aa y:=by
   by_cases h:oh m
   .obtain⟨y,e,_⟩:=wo (a:=na) (b:=nb) h
    grind
   .unfold M.dH;rw[su,ao h];exact⟨_,rfl⟩
  exact⟨y,e,by rw[<-ED,e]⟩
 obtain⟨y,e1,e2⟩:=Zt;refine two (by omega) (C:=ka=3/\kb=3) (r:=((ka,0,y.1),y.2)) ?_ (λhC=>?_) ?_
 .grind [M.aN]
 .grind [M.bu,M.fX]
 .unfold M.aK M.iP;by_cases h1:ka=3
  .subst h1;by_cases h2:kb=3
   .subst h2;simp[e2,mu]
   .simp[h2,zv]
  .simp[h1,zv]
theorem one{op m:Int}{a:Vl}{env:bl.den}(lH:op=10\/op=25\/op=31\/op=32){C:Prop}[Decidable C]{r:Vl}(h1:M.cu aR op a.1=aa (decide C))(h2:C->M.gq aR op a=aa r)
 (h3:M.bK aR ((op,m):Int×Int) a env=aa (if C then fin (r,0)else(zv,8))):dN op m [a] env=M.bK aR ((op,m):Int×Int) a env:=by
 rw[h3]
 refine iz ?_ λc=>?_
 .unfold M.bp
  rcases lH with rfl|rfl|rfl|rfl<;>simp only[ahu,decide_false,decide_true,ags,if_false,if_true,ago,wK,h1]<;>rfl
 .unfold M.bA
  rcases lH with rfl|rfl|rfl|rfl<;>simp only[ahu,decide_false,decide_true,ags,if_false,if_true,ago,wK,h2 c]<;>rfl
def Uv(m ka ea na:Int)(env:bl.den):dN 10 m [((ka,ea,na):Int×Int×Int)] env=M.bK aR ((10,m):Int×Int) ((ka,ea,na):Int×Int×Int) env:=by
 refine one (by omega) (C:=2<=ka/\ka<=4) (r:=((ka,0,agp.wrap (0-na)):Int×Int×Int)) ?_ (λ_=>?_) ?_
 all_goals grind [M.cu,P.eo,M.gq,M.bK,P.eR,P.iA,P.zv]
def Uw(m ka ea na:Int)(env:bl.den):dN 25 m [((ka,ea,na):Int×Int×Int)] env=M.bK aR ((25,m):Int×Int) ((ka,ea,na):Int×Int×Int) env:=by
 refine one (by omega) (C:=ka=1) (r:=((1,0,if decide (na=0)=af then 1 else 0):Int×Int×Int)) ?_ (λ_=>?_) ?_
 all_goals grind [M.cu,M.gq,P.mv,M.bK,P.kP,P.zv]
def QM(m ka ea na:Int)(env:bl.den):dN 31 m [((ka,ea,na):Int×Int×Int)] env=M.bK aR ((31,m):Int×Int) ((ka,ea,na):Int×Int×Int) env:=by
 obtain⟨y,e1,e2⟩:=Us na
 grind [P.one,M.cu,M.gq,M.bK,P.iA,P.zv]
def NN(m ka ea na:Int)(env:bl.den):dN 32 m [((ka,ea,na):Int×Int×Int)] env=M.bK aR ((32,m):Int×Int) ((ka,ea,na):Int×Int×Int) env:=by
 obtain⟨y,e1,e2⟩:=Us na
 grind [P.one,M.cu,M.gq,M.bK,P.iA,P.zv]
def CK(env:bl.den):Prop:=∀t∈env.2.2.2.2.2,t.2.2.2.length<=1000/\∀r∈t.2.2.2,-9223372036854775808<=(r.2.2.2:Int)/\(r.2.2.2:Int)<=9223372036854775807
def LB{m ka ea na:Int}{env:bl.den}(ht:CK env)(hm:0<=m/\m<env.2.2.2.2.2.length)(ha:be ka ea na):dN 33 m [((ka,ea,na):Int×Int×Int)] env=M.bK aR ((33,m):Int×Int) ((ka,ea,na):Int×Int×Int) env:=by
 obtain⟨k,rfl⟩:∃k:Nat,m=k:=⟨m.toNat,by omega⟩
 have hk:k<env.2.2.2.2.2.length:=by omega
 obtain⟨t,Zu,Ux⟩:∃t,t=env.2.2.2.2.2[k]/\t∈env.2.2.2.2.2:=⟨_,rfl,agy hk⟩
 have rK:=aM hk;rw[<-Zu]at rK;obtain⟨y,ey,hy⟩:=ym t env.1 na (by have:=(ht t Ux).1;omega)
 have ey2:M.kf aR t env.1 na=aa y:=by rw[<-Cw];exact ey
 obtain⟨x,hx⟩:∃x:iE.den,y.2=af->idx t.2.2.2 y.1=aa x:=by
  by_cases h:y.2=af
  .obtain⟨h1,h2⟩:=hy h
   obtain⟨j,hj⟩:∃j:Nat,y.1=j:=⟨y.1.toNat,by omega⟩
   rw[hj]at h2⊢;exact⟨_,λ_=>aM (show j<t.2.2.2.length by omega)⟩
  simp_all
 obtain⟨nm,⟨(tk:Int),(te:Int)⟩,⟨(vk:Int),(ve:Int)⟩,rows⟩:=t;dsimp only at ey ey2 hx rK
 have key:M.bK aR ((33,(k:Int)):Int×Int) ((ka,ea,na):Int×Int×Int) env=aa (if(ka=tk/\ea=te)/\1<=vk/\vk<=6 then fin (if y.2=af then(((vk,ve,x.2.2.2):Int×Int×Int),0)else(zv,6))else(zv,8)):=by
  unfold M.bK;simp only[ahu,decide_false,decide_true,ags,if_false,if_true,ago,rK];unfold M.oz;dsimp only
  have g:((if(!decide (ka=tk))=af then aa af else(if(!decide (ea=te))=af then aa af else(if(decide (vk<(1:Int)))=af then aa af else aa (decide ((6:Int)<vk))))):Option Bool)=aa (decide (¬((ka=tk/\ea=te)/\1<=vk/\vk<=6))):=by
   by_cases h1:ka=tk<;>by_cases h2:ea=te<;>by_cases h3:vk<1<;>simp[h1,h2,h3]<;>omega
  rw[g,ago];by_cases hC:(ka=tk/\ea=te)/\1<=vk/\vk<=6
  .rw[ai (by rw[aw];exact λh=>h hC),aj hC,ey2,ago]
   cases hb:y.2 with
   |false=>rfl
   |true=>
    simp only[Bool.not_true,ags,if_false,if_true];rw[hx hb,ago,dM,ago];unfold fin;by_cases hp:be vk ve x.2.2.2
    .grind
    .rw[aj (by simpa using hp)];dsimp only;rw[aj rfl,ai hp];rfl
  .rw[aj (an hC),ai hC];rfl
 rw[key]
 refine iz ?_ λhC=>?_
 .grind [M.bp,P.wK,P.rq,P.ub]
 .unfold M.bA;simp only[ahu,decide_false,decide_true,ags,if_false,if_true,ago,rK,wK,ey]
  cases hb:y.2 with
  |false=>rfl
  |true=>grind
def EM{m ka ea na:Int}{env:bl.den}(ht:CK env)(h0:0<=m)(hm:agp.wrap (agC m 8)<env.2.2.2.2.2.length)(hm2:m<=9223372036854775807)(h5:agD m 8<=5):dN 34 m [((ka,ea,na):Int×Int×Int)] env=M.bK aR ((34,m):Int×Int) ((ka,ea,na):Int×Int×Int) env:=by
 have hd:agC m 8=m/8:=agG h0;rw[hd,aE (by omega) (by omega)]at hm
 obtain⟨k,hk⟩:∃k:Nat,m/8=k:=⟨(m/8).toNat,by omega⟩
 have gD:k<env.2.2.2.2.2.length:=by omega
 have hw:agp.wrap (agC m 8)=k:=by rw[hd,aE (by omega) (by omega),hk]
 obtain⟨t,Zu,Ux⟩:∃t,t=env.2.2.2.2.2[k]/\t∈env.2.2.2.2.2:=⟨_,rfl,agy gD⟩
 have rK:=aM gD;rw[<-Zu]at rK;have yB:=xe (ht t Ux).1 (ht t Ux).2 env.1 na (agD m 8)
 have Uy:t.2.1=((3,0):Int×Int)->t.2.2.1=((4,0):Int×Int)->∃y,M.eK aR t env.1 na (agD m 8)=aa y:=λa b=>by
  obtain⟨y,e,_⟩:=ud (d:=env.1) (k:=na) (m:=agD m 8) (by grind) a b (by have:=(ht t Ux).1;omega)
  grind
 obtain⟨nm,⟨(tk:Int),(te:Int)⟩,⟨(vk:Int),(ve:Int)⟩,rows⟩:=t;dsimp only at yB Uy rK;have hC:(ka=3/\(tk=3/\te=0)/\vk=4/\ve=0)\/¬(ka=3/\(tk=3/\te=0)/\vk=4/\ve=0):=Decidable.em _
 rcases hC with hC|hC
 .obtain⟨rfl,⟨rfl,rfl⟩,rfl,rfl⟩:=hC;obtain⟨y,ey⟩:=Uy rfl rfl;rw[ey]at yB;rw[iz (C:=True) (r:=((3,0,y.1),y.2))]
  all_goals grind [M.bK,P.mu,M.bp,P.wK,nz,M.bA]
 .rw[iz (C:=False) (r:=(zv,0))]
  .unfold M.bK;simp only[ahu,decide_false,decide_true,ags,if_false,if_true,ago,hw,rK]
   have g:((if(!decide (ka=(3:Int)))=af then aa af else(if(!decide (tk=(3:Int)))=af then aa af else(if(!decide (te=(0:Int)))=af then aa af else(if(!decide (vk=(4:Int)))=af then aa af else aa (!decide (ve=(0:Int))))))):Option Bool)=aa af:=by
    by_cases h1:ka=3<;>by_cases h2:tk=3<;>by_cases h3:te=0<;>by_cases h4:vk=4<;>simp[h1,h2,h3,h4]at hC⊢<;>exact hC
   rw[g];rfl
  all_goals grind [M.bp,P.wK,nz]
def Zv(m ka ea na kb eb nb kc ec nc:Int)(hb:be kb eb nb)(hc:be kc ec nc)(env:bl.den):dN 26 m [((ka,ea,na):Int×Int×Int),((kb,eb,nb):Int×Int×Int),((kc,ec,nc):Int×Int×Int)] env=
 (((if(!decide (ka=(1:Int)))=af then aa af else(if(!decide (kb=kc))=af then aa af else aa (!decide (eb=ec)))):Option (Bool)).bind λj18=>(if j18=af then aa (((0:Int),((0:Int),(0:Int))),(8:Int))else(if(decide (na=(1:Int)))=af then aa (((kb,eb,nb):Int×Int×Int),(0:Int))else aa (((kc,ec,nc):Int×Int×Int),(0:Int))))):=by
 have fb:=p3 (v:=((kb,eb,nb):Int×Int×Int)) hb;have fc:=p3 (v:=((kc,ec,nc):Int×Int×Int)) hc;rw[iz (C:=ka=1/\kb=kc/\eb=ec) (r:=(if na=1 then((kb,eb,nb):Int×Int×Int)else((kc,ec,nc):Int×Int×Int),0))]
 all_goals grind [P.zv,M.bp,P.OB,P.OC,P.OD,P.fu,M.bA]
def Uz{op m:Int}(h:1<=op/\op<=5)(env:bl.den):dN op m [] env=M.bS aR ((op,m):Int×Int) env:=by
 have lH:op=1\/op=2\/op=3\/op=4\/op=5:=by omega
 rw[iz (C:=True) (r:=((op,0,m),0))]
 .grind [M.bS,P.iA]
 .unfold M.bp
  rcases lH with rfl|rfl|rfl|rfl|rfl<;>simp
 grind [M.bA]
def QN(m:Int)(env:bl.den):dN 6 m [] env=M.bS aR ((6,m):Int×Int) env:=by
 rw[iz (C:=True) (r:=((6,agp.wrap (agC m 16),agD m 16),0))]
 all_goals grind [M.bS,P.fin,P.dM,P.zv,M.bp,M.bA]
def QO(m:Int)(env:bl.den):dN 9 m [] env=M.bS aR ((9,m):Int×Int) env:=by
 rw[iz (C:=True) (r:=((5,0,env.1),0))]
 all_goals grind [M.bS,P.iA,M.bp,M.bA]
def NO{m:Int}{env:bl.den}(h:0<=m/\m<env.2.1.length):dN 7 m [] env=M.bS aR ((7,m):Int×Int) env:=by
 obtain⟨k,rfl⟩:∃k:Nat,m=k:=⟨m.toNat,by omega⟩
 have hx:=aM (l:=env.2.1) (k:=k) (by omega);generalize env.2.1[k]=x at hx;rw[iz (C:=be x.1 x.2.1 x.2.2) (r:=(x,0))]
 all_goals grind [M.bS,P.dM,P.p3,P.zv,M.bp,P.cy,M.bA]
def UA{m:Int}{env:bl.den}(h:0<=m/\m<env.2.2.1.length):dN 8 m [] env=M.bS aR ((8,m):Int×Int) env:=by
 obtain⟨k,rfl⟩:∃k:Nat,m=k:=⟨m.toNat,by omega⟩
 have hx:=aM (l:=env.2.2.1) (k:=k) (by omega);generalize env.2.2.1[k]=x at hx;rw[iz (C:=be x.1 x.2.1 x.2.2) (r:=(x,0))]
 all_goals grind [M.bS,P.dM,P.p3,P.zv,M.bp,P.cy,M.bA]
end L.P
namespace L.P
def AP(l:List Vl):Bool:=l.all λv=>decide (be v.1 v.2.1 v.2.2)
def QP{l:List Vl}(h:AP l=af){v:Vl}(hv:v∈l):be v.1 v.2.1 v.2.2:=al (List.all_eq_true.1 h v hv)
def OF{l:List Vl}{v:Vl}(hv:v∈l)(h:¬be v.1 v.2.1 v.2.2):AP l=ag:=by
 unfold AP;rw[List.all_eq_false];exact⟨v,hv,by simp[h]⟩
def LC{l:List Vl}(h:∀k(hk:k<l.length),be l[k].1 l[k].2.1 l[k].2.2):AP l=af:=by
 unfold AP;rw[List.all_eq_true];intro v hv;obtain⟨k,hk,rfl⟩:=List.getElem_of_mem hv;exact an (h k hk)
def all_eq{l:List Vl}(hl:l.length<=100000):M.cO aR l=aa (AP l):=by
 apply Wp.eq;unfold M.cO;refine Wp.loop (λs:Int=>∃k:Nat,s=k/\k<=l.length/\∀j(hj:j<l.length),j<k->be l[j].1 l[j].2.1 l[j].2.2) (λs=>(l.length-s).toNat) ⟨0,rfl,Nat.zero_le _,λj _ h=>absurd h (Nat.not_lt_zero j)⟩ (by unfold aR;omega) ?_
 rintro _ ⟨k,rfl,hk,hp⟩
 refine Wp.dec (λh=>?_) λh=> .some (LC λj hj=>hp j hj (by omega)).symm
 have gD:k<l.length:=by omega
 rw[aM gD,ago,cy,ago];by_cases c:be l[k].1 l[k].2.1 l[k].2.2
 .rw[ai (by simpa using c),aL (by omega)];refine .some ⟨⟨k+1,rfl,gD,λj hj h=>?_⟩,by simp only;omega⟩
  rcases Nat.lt_or_ge j k with g|g
  .exact hp j hj g
  .have:j=k:=by omega
   subst this;exact c
 .rw[aj (by simpa using c)];exact .some (OF (agy gD) c).symm
def NP{l:List Vl}(hl:l.length<=100000)(kk:Unit->Option (Vl×Int)):gm (J:=Unit) (R:=aA.den×Int) (Loop (S:=Int) (X:=(Unit)⊕(aA.den×Int)) (λs4=>(if(decide (s4<(l.length:Int)))=af then(idx l s4).bind λx5=>(M.bE aR x5).bind λy6=>(if(!y6)=af then aa (Sum.inr (Sum.inr (((0:Int),((0:Int),(0:Int))),(8:Int))))else aa (Sum.inl (agp.wrap (s4+(1:Int)))))else aa (Sum.inr (Sum.inl ())))) aR (0:Int)) kk=if AP l=af then kk ()else aa (zv,8):=by
 have key:Wp (Loop (S:=Int) (X:=(Unit)⊕(aA.den×Int)) (λs4=>(if(decide (s4<(l.length:Int)))=af then(idx l s4).bind λx5=>(M.bE aR x5).bind λy6=>(if(!y6)=af then aa (Sum.inr (Sum.inr (((0:Int),((0:Int),(0:Int))),(8:Int))))else aa (Sum.inl (agp.wrap (s4+(1:Int)))))else aa (Sum.inr (Sum.inl ())))) aR (0:Int)) (λx=>x=if AP l=af then Sum.inl ()else Sum.inr (zv,8)):=by
  refine Wp.loop (λs:Int=>∃k:Nat,s=k/\k<=l.length/\∀j(hj:j<l.length),j<k->be l[j].1 l[j].2.1 l[j].2.2) (λs=>(l.length-s).toNat) ⟨0,rfl,Nat.zero_le _,λj _ h=>absurd h (Nat.not_lt_zero j)⟩ (by unfold aR;omega) ?_
  rintro _ ⟨k,rfl,hk,hp⟩
  refine Wp.dec (λh=>?_) λh=> .some ?_
  .have gD:k<l.length:=by omega
   rw[aM gD,ago,dM,ago];by_cases c:be l[k].1 l[k].2.1 l[k].2.2
   .rw[ai (by simpa using c),aL (by omega)];refine .some ⟨⟨k+1,rfl,gD,λj hj h=>?_⟩,by simp only;omega⟩
    rcases Nat.lt_or_ge j k with g|g
    .exact hp j hj g
    .have:j=k:=by omega
     subst this;exact c
   .rw[aj (by simpa using c)];refine .some ?_
    show _=_
    rw[OF (agy gD) c];rfl
  .show _=_
   rw[LC λj hj=>hp j hj (by omega)];rfl
 obtain⟨x,e,rfl⟩:=key;rw[e]
 cases AP l<;>rfl
def EN{n:Ty}{args:List Vl}{env:bl.den}(he:lQ env)(ht:CK env)(hn:WF az n)(hl:args.length<=100000):M.eL aR n args env=M.iv aR n args env:=by
 obtain⟨(op:Int),(m:Int)⟩:=n;have Rp: -9223372036854775808<=m/\m<=9223372036854775807:=hn.2
 by_cases rQ:(35<=op/\op<=39)/\args=[]
 .obtain⟨h,rfl⟩:=rQ;rw[It (by unfold aR;omega) op m env h he.1,xh (by unfold aR;omega) op m env h he.1]
 unfold M.eL M.iv;obtain⟨y,hy,hyf⟩:=yo aR op m;dsimp only;rw[Iw aR op m _ (by omega) hy,hy,lz,ago,ago,ago]
 cases y with
 |false=>rfl
 |true=>
  by_cases rC:(args.length:Int)=ar op
  case neg=>simp[rC,zv]
  have hf:=hyf rfl;obtain⟨x,hx,LU⟩:=yp aR op m env;rw[<-CH,hx,ago];simp only[rC,decide_true,Bool.not_true,Bool.and_self,ags,if_false,ago]
  cases x with
  |false=>rfl
  |true=>
   have LU:=LU rfl;simp only[Bool.not_true,ags,if_false];rw[<-rC];rw[NP hl,all_eq hl,ago]
   cases hA:AP args with
   |false=>rfl
   |true=>
    have vq:=λv hv=>QP hA (v:=v) hv
    simp only[Bool.not_true,ags,if_false,if_true]
    show dN op m args env=_
    have IJ:=hf.1
    have lH:1<=op/\op<=39:=by
     unfold ar at IJ;split at IJ
     .omega
     .split at IJ
      .omega
      .split at IJ
       .omega
       .split at IJ
        .omega
        .omega
    have Z4:=pQ op
    have hlen:args.length=0\/args.length=1\/args.length=2\/args.length=3:=by omega
    rcases hlen with g|g|g|g
    .obtain rfl:=List.eq_nil_of_length_eq_zero g
     have Iu:¬(35<=op/\op<=39):=λh=>rQ ⟨h,rfl⟩
     have e1:((if(decide ((36:Int)<=op))=af then aa (decide (op<=(39:Int)))else aa ag):Option Bool)=aa ag:=by
      rw[ai];simp;unfold ar at rC;simp at rC
      split at rC<;>omega
     have aeK:op<=9:=by
      unfold ar at rC;simp at rC
      split at rC<;>(try split at rC)<;>(try split at rC)<;>(try split at rC)<;>omega
     simp only[List.length_nil,Int.ofNat_zero,decide_true,if_true,e1,ago,ags,if_false,tH]
     have:op=6\/op=7\/op=8\/op=9\/(1<=op/\op<=5):=by omega
     rcases this with rfl|rfl|rfl|rfl|h
     .exact QN m env
     .exact NO (LU.1 rfl)
     .exact UA (LU.2.1 rfl)
     .exact QO m env
     .exact Uz h env
    .obtain⟨⟨(ka:Int),(ea:Int),(na:Int)⟩,rfl⟩:=List.length_eq_one_iff.1 g;have ha:be ka ea na:=vq _ (agQ.2 rfl);rw[ai (by simp),aj (by simp),wK,ago,tH]
     have Zw:op=10\/op=25\/op=31\/op=32\/op=33\/op=34:=by
      unfold ar at rC;simp at rC
      split at rC<;>(try split at rC)<;>(try split at rC)<;>(try split at rC)<;>omega
     rcases Zw with rfl|rfl|rfl|rfl|rfl|rfl
     .exact Uv ..
     .exact Uw ..
     .exact QM ..
     .exact NN ..
     .exact LB ht (LU.2.2.1 rfl) ha
     .exact EM ht (hf.2.2.1 rfl).1 (LU.2.2.2.1 rfl) Rp.2 (hf.2.2.1 rfl).2
    .obtain⟨⟨(ka:Int),(ea:Int),(na:Int)⟩,⟨(kb:Int),(eb:Int),(nb:Int)⟩,rfl⟩:∃a b,args=[a,b]:=by
      match args,g with
      |[a,b],_=>exact⟨a,b,rfl⟩
     have ha:be ka ea na:=vq ((ka,ea,na):Int×Int×Int) (by simp);have hb:be kb eb nb:=vq _ (List.mem_cons_of_mem _ (agQ.2 rfl));rw[ai (by simp),ai (by simp),aj (by simp),Lz,LA,ago,ago,tH]
     have Zx:op=11\/op=12\/op=13\/op=14\/op=15\/op=16\/op=17\/op=18\/op=19\/op=20\/op=21\/op=22\/op=23\/op=24\/op=27\/op=28\/op=29\/op=30:=by
      unfold ar at rC;simp at rC
      split at rC<;>(try split at rC)<;>(try split at rC)<;>(try split at rC)<;>omega
     rcases Zx with rfl|rfl|rfl|rfl|rfl|rfl|rfl|rfl|rfl|rfl|rfl|rfl|rfl|rfl|rfl|rfl|rfl|rfl
     .exact Un ..
     .exact Uo ..
     .exact Ut _ _ _ _ _ _ _ ha hb _
     .exact Iy ..
     .exact Uu ..
     .exact Iz ..
     .exact Up _ _ _ _ _ _ _ ha hb _
     .exact Uq _ _ _ _ _ _ _ ha hb _
     .exact Zl ..
     .exact Zm ..
     .exact Zn ..
     .exact Zo ..
     .exact Ur _ _ _ _ _ _ _ ha hb _
     .exact Zp _ _ _ _ _ _ _ ha hb _
     .exact Ix ..
     .exact CI ..
     .exact QK ..
     .exact NM ..
    .obtain⟨⟨(ka:Int),(ea:Int),(na:Int)⟩,⟨(kb:Int),(eb:Int),(nb:Int)⟩,⟨(kc:Int),(ec:Int),(nc:Int)⟩,rfl⟩:∃a b c,args=[a,b,c]:=by
      match args,g with
      |[a,b,c],_=>exact⟨a,b,c,rfl⟩
     have hb:be kb eb nb:=vq ((kb,eb,nb):Int×Int×Int) (by simp);have hc:be kc ec nc:=vq ((kc,ec,nc):Int×Int×Int) (by simp);rw[ai (by simp),ai (by simp),ai (by simp),OB,OC,OD,ago,ago,ago]
     have Zy:op=26:=by
      unfold ar at rC;simp at rC
      split at rC<;>(try split at rC)<;>(try split at rC)<;>(try split at rC)<;>omega
     subst Zy;exact Zv m ka ea na kb eb nb kc ec nc hb hc env
end L.P
namespace L.P
def LD{e:List Ty}{st:List Nat}(v:B6 e st)(hl:e.length<=100000){i:Nat}(hi:i<e.length):((idx e (i:Int)).bind λx3=>
(M.dV aR x3.1).bind λy4=>
(og y4 (0:Int)).bind λl5=>
Loop (S:=Int×Int×List Int) (X:=List Int) (λs6=>
(if(decide ((0:Int)<=s6.2.1))=af then
(idx s6.2.2 s6.2.1).bind λx7=>
(idx (cz st) s6.1).bind λx8=>
some (Sum.inl (agp.wrap (x8-(1:Int)),agp.wrap (s6.2.1-(1:Int)),bG s6.2.2 s6.2.1 s6.1))
else
some (Sum.inr s6.2.2))) aR (agp.wrap ((i:Int)-(1:Int)),agp.wrap ((l5.length:Int)-(1:Int)),l5))=aa (cz (opsL st (ar e[i].1).toNat i)):=by
 apply Wp.eq;obtain⟨h0,l,hc,ha,hd,_⟩:=v.node i hi;rw[aM hi];simp only[ago,lz]
 obtain⟨a,Zb⟩:∃a:Nat,ar e[i].1=a:=⟨(ar e[i].1).toNat,by omega⟩
 have hle:=pQ e[i].1;rw[Zb]at ha hle⊢;rw[agE]at ha⊢
 have Kj:og (a:Int) (0:Int)=aa (agv a 0):=by
  unfold og;rw[aj (by omega),agE]
 rw[Kj];simp only[ago,List.length_replicate];refine Wp.loop (λs:Int×Int×List Int=>∃b p:Nat,∃dn l':List Nat,s=((p:Int)-1,(b:Int)-1,agv b (0:Int)++cz dn)/\b<=a/\p<=i/\opsL st a i=opsL st b p++dn/\Ch st p l'/\b<=l'.length) (λs=>(s.2.1+1).toNat) ⟨a,i,[],l,?_,agt _,agt _,by simp,hc,ha⟩ ?_ ?_
 .rw[aE (by omega) (by omega),aE (by omega) (by omega)];simp
 .simp only;rw[aE (n:=(a:Int)-1) (by omega) (by omega)];unfold aR;omega
 .rintro _ ⟨b,p,dn,l',rfl,h1,h2,h3,h4,h5⟩
  simp only
  refine Wp.dec (λhb=>?_) λhb=> .some ?_
  .obtain⟨b,rfl⟩:∃m,b=m+1:=⟨b-1,by omega⟩
   cases h4 with
   |nil=>simp at h5
   | @snoc p u l' g1 g2 c=>
     simp at h5;have hp:p<st.length:=(agJ.1 g1).1
     have e5:idx (agv (b+1) (0:Int)++cz dn) (((b+1:Nat):Int)-1)=aa 0:=by
      rw[show((b+1:Nat):Int)-1=(b:Int) by omega,aM (by simp;omega),ag4 (by simp)];simp
     have e6:idx (cz st) (((p+1:Nat):Int)-1)=aa (u:Int):=by
      rw[show((p+1:Nat):Int)-1=(p:Int) by omega,aM (by simpa using hp)];have:=(agJ.1 g1).2;simp[this]
     rw[e5,e6];simp only[ago];rw[aE (n:=(u:Int)-1) (by omega) (by omega),aE (n:=(((b+1:Nat):Int)-1)-1) (by omega) (by omega)];refine .some ⟨⟨b,u,p::dn,l',?_,by omega,by omega,?_,c,h5⟩,by simp only;omega⟩
     .have e7:bG (agv (b+1) (0:Int)++cz dn) (((b+1:Nat):Int)-1) (((p+1:Nat):Int)-1)=agv b (0:Int)++cz (p::dn):=by
       unfold bG;rw[show(((b+1:Nat):Int)-1).toNat=b by omega,show((p+1:Nat):Int)-1=(p:Int) by omega,List.replicate_succ',ahg,List.set_append_right _ _ (by simp)];simp
      rw[e7];simp only[Prod.mk.injEq,and_true,true_and];omega
     .rw[h3,opsL]
      have:st.getD (p+1-1) 0=u:=by simp[List.getD,g1]
      rw[this];simp
  .obtain rfl:b=0:=by omega
   show _=_
   rw[h3];simp[opsL]
end L.P
namespace L.P
def tI(e:List Ty):L.nq e=nq e:=agq ((L.Eh e).symm.trans (oL e))
def z8{e:List Ty}{st:List Nat}(w:Whole e st){i:Nat}(hi:i<e.length):M.ke aR e (i:Int)=aa (cz (opsL st (ar e[i].1).toNat i)):=by
 have hle:=w.le;have h:=LD w.val (by omega) hi;rw[<-h];unfold M.ke;rw[L.mq,tI,w.res,ago]
 grind [P.yy,P.lz,og]
def IA{r:Vl×Int}(h:(gf r).2=0):(gf r).1=r.1:=by
 grind [P.gf]
def CL(r:Vl×Int)(K:Option (Vl×Int)):(if(!decide (r.2=(0:Int)))=af then
 some (((0:Int),((0:Int),(0:Int))),r.2)
 else
 ((if(!decide (r.1.1=(1:Int)))=af then
 some af
 else
 (M.bE aR r.1).bind λy12=>
 some (!y12)):Option (Bool)).bind λj11=>
 (if j11=af then
 some (((0:Int),((0:Int),(0:Int))),(8:Int))
 else K))=if(gf r).2≠0 then aa (z3,(gf r).2)else K:=by
 grind [P.gf,P.dM,P.z3]
def EO(r:Vl×Int):(if(gf r).2≠0 then aa (z3,(gf r).2)else aa (r.1,(0:Int)))=aa (gf r):=by
 grind [P.gf]
def Zz(a:Int):((if decide (a=(23:Int))=af then aa af else(if decide (a=(24:Int))=af then aa af else aa (decide (a=(26:Int))))):Option Bool)=aa (decide (nu a)):=by
 grind [P.nu]
theorem LF{e:List Ty}{st:List Nat}(w:Whole e st){env:bl.den}(he:lQ env)(ht:CK env)(hw:∀n∈e,WF az n):∀(f N i:Nat),i<f->i<e.length->2*f<=N->M.db aR N e (i:Int) env=aa (eQ (rB env) e st f i):=by
 intro f
 induction f with
 |zero=>grind
 |succ f ih=>
  intro N i hif hi hN;have v:=w.val;have hl:=w.le
  obtain⟨N,rfl⟩:∃m,N=m+2:=⟨N-2,by omega⟩
  have Il:=v.ops hi
  have hge:e.getD i ((0,0):Int×Int)=e[i]:=by simp[List.getD,hi]
  have hlen:=sn st (ar e[i].1).toNat i;have IJ:=pQ e[i].1
  have oa:∀M',2*f<=M'->∀o∈opsL st (ar e[i].1).toNat i,M.db aR M' e (o:Int) env=aa (eQ (rB env) e st f o):=by
   intro M' Zc o ho;obtain⟨g1,_⟩:=Il o ho;exact ih M' o (by omega) (by omega) Zc
  unfold eQ M.db;rw[hge,z8 w hi,ago,aM hi,ago,Zz,ago];have Rh:=hw e[i] (agy hi);generalize Uc:opsL st (ar e[i].1).toNat i=ops at*;by_cases hz:nu e[i].1
  .rw[aj hz,aj (an hz)]
   have U7:2<=ops.length/\((e[i].1:Int)=26->3<=ops.length):=by
    have:2<=ar e[i].1/\((e[i].1:Int)=26->ar e[i].1=3):=by
     revert hz;generalize(e[i].1:Int)=op;intro hz
     rcases hz with rfl|rfl|rfl<;>decide
    refine⟨by omega,λh=>?_⟩;have:=this.2 h;omega
   have gd:∀k(hk:k<ops.length),idx (cz ops) (k:Int)=aa ((ops.getD k 0:Nat):Int)/\ops.getD k 0∈ops:=by
    intro k hk
    have:ops.getD k 0=ops[k]:=by simp[List.getD,hk]
    rw[this];refine⟨?_,agy hk⟩;rw[aM (by simpa using hk)];simp
   obtain⟨i0,m0⟩:=gd 0 (by omega);obtain⟨i1,m1⟩:=gd 1 (by omega);rw[show((0:Nat):Int)=0 from rfl]at i0;rw[show((1:Nat):Int)=1 from rfl]at i1;have GU:=oa N (by omega) _ m0;have ry:=oa N (by omega) _ m1;unfold M.oB;unfold FT;rw[aM hi,ago];by_cases h2:(e[i].2:Int)=0
   rotate_left
   .rw[aj (by simpa using h2),aj h2];rfl
   rw[ai (by simpa using h2),ai (by simpa using h2),i0,ago,GU,ago];generalize eQ (rB env) e st f (ops.getD 0 0)=r;rw[CL];by_cases ND:(gf r).2=0
   rotate_left
   .grind
   have dJ:¬(gf r).2≠0:=λg=>g ND
   rw[ai dJ,ai dJ,IA ND,ago];by_cases NE:(e[i].1:Int)=26
   .obtain⟨i2,m2⟩:=gd 2 (by grind);rw[show((2:Nat):Int)=2 from rfl]at i2;have mD:=oa N (by omega) _ m2;rw[aj (an NE)];by_cases hn:(r.1.2.2:Int)=1
    all_goals grind
   .rw[ai (by simpa using NE),ai (λg=>NE g.1),ai NE,ago]
    by_cases hc:((e[i].1:Int)=23)=((r.1.2.2:Int)=0)
    .grind
    .rw[ai hc,ai (by grind),i1,ago,ry,ago];generalize eQ (rB env) e st f (ops.getD 1 0)=r';rw[CL,EO];rfl
  .rw[ai hz,ai (by simpa using hz)];apply Wp.eq;refine Wp.join (Wp.loop (λs:Int×List Vl=>s.1=((s.2.length:Nat):Int)/\s.2.length<=ops.length/\fq (eQ (rB env) e st f) (ops.take s.2.length)= .inl s.2) (λs=>(ops.length-s.1).toNat) ⟨by simp,by simp,by simp[fq]⟩ (by simp only;unfold aR;omega) ?_)
   rintro⟨c,vs⟩ ⟨hs,QV,Ud⟩
   dsimp only at hs QV Ud⊢;subst hs;have qE:=lA ops vs.length QV vs Ud
   refine Wp.dec (λhk=>?_) λhk=> .some ?_
   .have gD:vs.length<ops.length:=by simp at hk;omega
    have QF:vs.length<(cz ops).length:=by simpa using gD
    rw[aM QF];simp only[ago,List.getElem_map];rw[oa (N+1) (by omega) _ (agy gD)];simp only[ago];have hd:ops.drop vs.length=ops[vs.length]::ops.drop (vs.length+1):=List.drop_eq_getElem_cons gD;rw[hd,fq]at qE;have ZA:ops.take (vs.length+1)=ops.take vs.length++[ops[vs.length]]:=List.take_succ_eq_append_getElem gD
    obtain⟨r,hr⟩:∃r,eQ (rB env) e st f ops[vs.length]=r:=⟨_,rfl⟩
    rw[hr]at qE⊢;by_cases h0:r.2=0
    .rw[ai (by simp[h0]),fS (by simp;omega),ago,aL (by omega)]
     have kA:fq (eQ (rB env) e st f) [ops[vs.length]]= .inl [r.1]:=by
      simp only[fq,hr];rw[aj h0]
     have Mn:=lA (g:=eQ (rB env) e st f) (ops.take (vs.length+1)) vs.length (by simp;omega) vs (by grind);rw[ZA,List.drop_append_of_le_length (by simp;omega),List.drop_of_length_le (by simp;omega),List.nil_append,kA]at Mn;refine .some ⟨⟨by simp,by simp;omega,?_⟩,by grind⟩
     grind
    .rw[aj (by simp[h0])];rw[ai h0]at qE;refine .some ?_
     show _=_
     rw[qE];rfl
   .have Zd:ops.drop vs.length=[]:=(by grind)
    rw[Zd,fq]at qE;rw[qE]
    show Wp ((aa e[i]).bind λx47=>(M.iv aR x47 vs env).bind λy48=>aa (y48.1,y48.2)) _
    rw[ago,<-EN he ht Rh (by omega),Oy he Rh (by omega)];simp only[List.append_nil];exact .some rfl
def LG{e:List Ty}{st:List Nat}(w:Whole e st){env:bl.den}(he:lQ env)(ht:CK env)(hw:∀n∈e,WF az n):M.iw aR e env=aa (eQ (rB env) e st e.length (e.length-1)):=by
 have qA:0<e.length:=List.length_pos_iff.2 w.ne;have hle:=w.le;unfold M.iw M.lT M.pK;rw[L.mq,tI,w.res]
 grind [aE,P.LF,aR]
def Aa{e:List Ty}(h:(nq e).2.1≠0)(env:bl.den):M.iw aR e env=aa (z3,(nq e).2.1):=by
 unfold M.iw M.lT;rw[L.mq,tI,ago,ago,aj (by simp[h])];rfl
end L.P
namespace L
def LH{env:Cc}(he:P.lQ env)(ht:P.CK env){e:kE}(hw:∀n∈e,WF az n):M.iw aR e env=aa (ev env e):=by
 have h1:=zV he hw
 rcases P.rr e with h|⟨st,w⟩
 .rw[P.Aa h];rw[P.wv h]at h1;exact h1
 .rw[P.LG w he ht hw];rw[P.ru w he hw]at h1;exact h1
def LI(t:Nn){env:Cc}(he:P.lQ env)(ht:P.CK env)(hw:∀g∈t.2.1,∀n∈g,WF az n)(h8:t.2.1.length<=8):M.eC aR t env=aa (kF (ev env) 0 0 t.2.1):=by
 unfold M.eC;rw[ai (by simp;omega)];refine Wp.eq (Wp.count (λs=>s.2.2) t.2.1.length (λk s=>∃x:Nat,s.1=(x:Int)/\s.2.1=((2 ^ k:Nat):Int)/\x<2 ^ k/\kF (ev env) 0 0 t.2.1=kF (ev env) x k (t.2.1.drop k)) (by omega) rfl ⟨0,rfl,rfl,by simp,rfl⟩ λk s hk hs hJ=>?_);obtain⟨y,b,c⟩:=s;obtain⟨x,e,e2,hx,hJ⟩:=hJ;dsimp only at hs e e2;subst hs e e2;refine .dec (λh=>?_) (λh=> .some ?_)
 .have bi:k<t.2.1.length:=by dsimp only at h;omega
  have hg:=hw _ (agy bi);have h2:2 ^ k*2=2 ^ (k+1):=(Nat.pow_succ ..).symm;have hp:2 ^ k<=2 ^ 8:=Nat.pow_le_pow_right (by omega) (by omega);rw[List.drop_eq_getElem_cons bi,wy]at hJ;refine .bind (.idx k rfl bi (.aW (LH he ht hg) (Wp.seq (λj=>j=lB (ev env) t.2.1[k]) ?_ λj hj=>?_)))
  .refine Wp.seq (λj=>j=af↔(ev env t.2.1[k]).2=0/\((ev env t.2.1[k]).1.1:Int)≠1) (.dec (λh=> .some (by simp[h])) λh=> .some (by simp[h])) λj hj=> .ite (λh=> .some ?_) λh=> .some ?_
   .obtain⟨g1,g2⟩:=hj.1 h;exact(tE g1 g2).symm
   .by_cases g1:(ev env t.2.1[k]).2=0
    .have g2:((ev env t.2.1[k]).1.1:Int)=1:=Decidable.byContradiction λg2=>h (hj.2 ⟨g1,g2⟩)
     rw[FU g1 g2];exact g1
    .exact(wx g1).symm
  .subst hj
   refine .o9 (λh1=> .some ?_) λh1=>?_
   .rw[aj h1]at hJ;exact hJ.symm
   .rw[ai (λg=>g h1)]at hJ
    have Y7:agp.wrap ((2:Int)*((2 ^ k:Nat):Int))=((2 ^ (k+1):Nat):Int):=by
     rw[aE (by omega) (by omega)];omega
    refine Wp.seq (λj=>j=(((x+if sq (ev env) t.2.1[k]=af then 2 ^ k else 0):Nat):Int)) (.dec (λh4=> .some ?_) λh4=> .some ?_) λj hj=> .some ⟨bi,aL (by omega),_,hj,Y7,?_,hJ⟩
    .rw[aj (show sq (ev env) t.2.1[k]=af from an h4)]
     show agp.wrap ((x:Int)+((2 ^ k:Nat):Int))=_
     rw[aE (by omega) (by omega)];omega
    .rw[ai (show¬sq (ev env) t.2.1[k]=af from λg=>h4 (al g))];rfl
    .split<;>omega
 .have:k=t.2.1.length:=by dsimp only at h;omega
  subst this;rw[List.drop_length]at hJ;exact hJ.symm
end L
namespace L
abbrev UB:List bo.den:=[((⟨#[104,111,117,115,101]⟩:ByteArray),((-1:Int),(([((⟨#[97]⟩:ByteArray),((3:Int),(0:Int)))]:List bI.den),(([((⟨#[100]⟩:ByteArray),((3:Int),(0:Int)))]:List bI.den),([((⟨#[98,97,115,101]⟩:ByteArray),((0:Int),((-1:Int),((0:Int),(((0:Int),(109573:Int)),(([]:List az.den),(([((7:Int),(0:Int))]:List az.den),ByteArray.empty)))))))]:List dD.den)))))]
abbrev NQ:Lw:=(([]:List fF.den),(([]:List bD.den),UB))
abbrev ZB:Nn:=((0:Int),(([]:List (List az.den)),(([]:List Int),([(((0:Int),(0:Int)),(0:Int))]:List aH.den))))
def LJ:M.jX aR NQ=aa ((0:Int),((0:Int),((0:Int),(0:Int)))):=by kernel_rfl
def ZC:M.ir aR NQ 0 0 36525=aa ((0:Int),(0:Int),([]:List (List az.den)),([]:List Int),([(((0:Int),(0:Int)),(0:Int))]:List aH.den)):=by
 have hx:idx NQ.2.2 0=aa NQ.2.2[0]:=rfl
 have hf:Fit NQ.2.2[0].2.2.2.2 0 36525:=by
  refine⟨by decide,λr hr=>?_,?_⟩
  .grind
  .grind [TN,jI]
 have h1:=Ic LJ (by decide) (by decide) hx (by decide) (by decide) (by decide) (by decide) hf;have h2:=K8 (l:=NQ) (a1:=0) hx hf
 have h3:M.kM aR NQ 0 0 36525=aa ((0:Int),([]:List (List az.den)),([]:List Int),([(((0:Int),(0:Int)),(0:Int))]:List aH.den)):=by kernel_rfl
 grind
def UC:M.fQ aR NQ 0 36525=aa (UB[0],[0],[ZB],[0]):=by
 unfold M.fQ;refine Wp.eq (.aW (x:=UB[0]) rfl (.aW (x:=[((0:Int),(([]:List (List az.den)),(([]:List Int),([]:List aH.den))))]) rfl (.aW (x:=[(0:Int)]) rfl (.aW (x:=((0:Int),[(0:Int)])) (by kernel_rfl) (Wp.seq (λj=>j=([ZB],[(0:Int)])) ?_ λj hj=> .some (by rw[hj]))))))
 refine Wp.count (λs=>s.1) 1 (λk s=>s.2.1.length=1/\s.2.2.length=1/\(k=1->s.2=([ZB],[(0:Int)]))) (by omega) rfl ⟨rfl,rfl,λh=>by cases h⟩ λk s hk hs hJ=>?_
 obtain⟨c,A,B⟩:=s;obtain⟨j1,j2,j3⟩:=hJ;dsimp only at hs j1 j2 j3;subst hs
 refine .dec (λh=>?_) λh=> .some (j3 ?_)
 .have h:(k:Int)<1:=h
  obtain rfl:k=0:=by omega
  obtain⟨a,rfl⟩:=List.length_eq_one_iff.1 j1;obtain⟨b,rfl⟩:=List.length_eq_one_iff.1 j2;exact .aW ZC (.aW (x:=a) rfl (.aW (x:=b) rfl (.some ⟨by omega,rfl,rfl,rfl,λ_=>rfl⟩)))
 .have h:¬(k:Int)<1:=h;omega
def runT:M.kU aR NQ 0 ((36525:Int),(([((3:Int),((0:Int),(1250:Int)))]:List aA.den),([]:List (List aA.den))))=aa (((0:Int),((0:Int),((0:Int),(0:Int)))),[((3:Int),((0:Int),(1250:Int)))],[(0:Int)],[]):=by
 unfold M.kU;refine Wp.eq (.aW LJ (.ite (λh=>absurd h (by rw[BE];decide)) λ_=> .aW (x:=ag) rfl (.ite (λh=>absurd h (by decide)) λ_=> .aW (x:=((0:Int),(0:Int),(0:Int))) (by kernel_rfl) (.ite (λh=>absurd h (by decide)) λ_=> .join (.aW (x:=UB[0]) rfl (.aW (x:=ag) rfl (.ite (λh=>absurd h (by decide)) λ_=> .some ?_)))))))
 show Wp _ _
 exact .aW UC (.aW (x:=(((0:Int),((0:Int),((0:Int),(0:Int)))),[((3:Int),((0:Int),(1250:Int)))],[(0:Int)])) (by kernel_rfl) (.ite (λh=>absurd h (by rw[BE];decide)) λ_=> .some rfl))
def uY:M.ln aR=aa af:=by
 unfold M.ln;exact Wp.eq (.aW (x:=((1:Int),((-1:Int),(0:Int)))) (by kernel_rfl) (.aW (x:=((0:Int),((1:Int),(8:Int)))) (by kernel_rfl) (.aW (x:=UB) (by kernel_rfl) (.aW runT (.of (x:=af) (by kernel_rfl) rfl)))))
end L
namespace L
def NR(C:List kE)(hl:C.length<=9223372036854775807):Wp (M.jP aR C) λr=>r=af->C.length<=20:=by
 unfold M.jP
 refine .dec (λ_=> .some λh=>by cases h) λh=>?_
 refine Wp.count (λs=>s) C.length (λ_ _=>True) hl rfl trivial λk s hk hs _=>?_
 subst hs
 refine .dec (λh1=> .bind (.idx k rfl (by omega) (.dec (λ_=> .some λh=>by cases h) λ_=> .some ⟨by omega,aL (by omega),trivial⟩))) λ_=> .some λ_=>by omega
def NS(env:Cc)(hm:env.2.2.2.1.length<=9223372036854775807)(ht:env.2.2.2.2.2.length<=9223372036854775807):Wp (M.lS aR env) λr=>r=af->env.2.2.2.1.length<=12/\∀t∈env.2.2.2.2.2,t.2.2.2.length<=64:=by
 unfold M.lS
 refine Wp.seq (λj=>j=ag->env.2.2.2.1.length<=12) (.dec (λ_=> .some λh=>by cases h) λ_=> .dec (λ_=> .some λh=>by cases h) λ_=> .dec (λ_=> .some λh=>by cases h) λh3=> .dec (λ_=> .some λh=>by cases h) λ_=> .some λ_=>by omega) λj hj=>?_
 refine .ite (λ_=> .some λh=>by cases h) λh0=>?_
 have YM:=hj (by simpa using h0);refine .join (Wp.count (λs=>s) env.2.2.2.2.2.length (λk _=>∀i(h:i<env.2.2.2.2.2.length),i<k->(env.2.2.2.2.2[i]).2.2.2.length<=64) ht rfl (λi h g=>by omega) λk s hk hs hJ=>?_);subst hs
 refine .dec (λh1=> .bind (.idx k rfl (by omega) (.dec (λ_=> .some λh=>by cases h) λh2=> .some ⟨by omega,aL (by omega),λi h g=>?_⟩))) λh1=> .some ?_
 .by_cases e:i<k
  .exact hJ i h e
  .obtain rfl:i=k:=by omega
   omega
 .show Wp _ _
  refine Wp.count (λs=>s) env.2.2.2.1.length (λ_ _=>True) hm rfl trivial λk' s gD hs _=>?_
  subst hs
  refine .dec (λh1=> .bind (.idx k' rfl (by omega) (.dec (λ_=> .some λh=>by cases h) λ_=> .some ⟨by omega,aL (by omega),trivial⟩))) λ_=> .some λ_=>⟨YM,λt LM=>?_⟩
  obtain⟨i,hi,rfl⟩:=List.getElem_of_mem LM;exact hJ i hi (by omega)
def QR{b:Nat->Bool}{n k:Nat}(hk:k<n):xs b n/2 ^ k%2=if b k=af then 1 else 0:=by
 have h:=Li b n k hk;rw[Nat.testBit_eq_decide_div_mod_eq]at h;have h2:=ahj (xs b n/2 ^ k) (show 0<2 by omega);split
 .rename_i g;rw[g]at h;exact al h
 .rename_i g;rw[show b k=ag by simpa using g]at h;have:=of_decide_eq_false h;omega
def nw(t:Nn)(env:Cc)(hw:WF aU t)(RD:WF bl env):M.eU aR t env=aa af:=by
 have hg:∀g∈t.2.1,∀n∈g,WF az n:=λg hg=>(hw.2.1.2 g hg).2
 have hC:t.2.1.length<=9223372036854775807:=hw.2.1.1;have NY:env.2.2.2.1.length<=9223372036854775807:=RD.2.2.2.1.1;have Mx:env.2.2.2.2.2.length<=9223372036854775807:=RD.2.2.2.2.2.1;unfold M.eU;refine Wp.eq (Wp.seq (λj=>j=ag->t.2.1.length<=20/\env.2.2.2.1.length<=12/\∀t∈env.2.2.2.2.2,t.2.2.2.length<=64) (Wp.seq _ (NR _ hC) λy hy=> .ite (λ_=> .some λh=>by cases h) λh1=>Wp.seq _ (NS env NY Mx) λz hz=> .some λh2=>⟨hy (by simpa using h1),hz (by simpa using h2)⟩) λj hj=> .ite (λ_=> .aW uY (.some rfl)) λh0=>?_);obtain⟨h20,YM,h64⟩:=hj (by simpa using h0)
 have he:P.lQ env:=⟨by omega,λt ht=>by have:=h64 t ht;omega⟩
 have ht:P.CK env:=λT hT=>⟨by have:=h64 T hT;omega,λr hr=>((RD.2.2.2.2.2.2 T hT).2.2.2.2 r hr).2.2.2⟩
 by_cases h8:8<t.2.1.length
 .have e1:M.bL aR t env=aa ((0:Int),((8:Int),(4:Int))):=by
   unfold M.bL;rw[aj (by simp;omega)]
  have e2:M.eC aR t env=aa ((0:Int),((8:Int),(4:Int))):=by
   unfold M.eC;rw[aj (by simp;omega)]
  refine .aW e1 (.aW e2 (.aW (x:=ag) rfl (.ite (λh=>absurd h (by decide)) λ_=> .join ?_)));refine Wp.loop (λs=>s=((0:Int),(0:Int))) (λ_=>0) rfl (by unfold aR;omega) ?_
  rintro _ rfl
  refine Wp.seq (λj=>j=ag) (.dec (λ_=> .some rfl) λ_=> .some rfl) λj hj=> .ite (λh=>absurd h (by rw[hj];decide)) λ_=> .some ?_
  show Wp _ _
  exact .aW uY (.some rfl)
 .have h8:t.2.1.length<=8:=by omega
  refine .aW (Im t he hg h8) (.aW (LI t he ht hg h8) (.aW (x:=ag) (by rw[ai (by simp),ai (by simp)];simp) (.ite (λh=>absurd h (by decide)) λ_=> .join ?_)))
  rcases Cg (ev env) t.2.1 with⟨j,g,_,h2,_,h4⟩|⟨h1,h2⟩
  .rw[h4];refine Wp.loop (λs=>s=((0:Int),(0:Int))) (λ_=>0) rfl (by unfold aR;omega) ?_
   rintro _ rfl
   refine Wp.seq (λj=>j=ag) (.dec (λ_=> .some (ao h2)) λ_=> .some rfl) λj hj=> .ite (λh=>absurd h (by rw[hj];decide)) λ_=> .some ?_
   show Wp _ _
   exact .aW uY (.some rfl)
  .rw[h2];dsimp only;have hx:=Lh (λk=>sq (ev env) (t.2.1[k]?.getD [])) t.2.1.length
   have hb:=λk(hk:k<t.2.1.length)=>QR (b:=λk=>sq (ev env) (t.2.1[k]?.getD [])) hk
   have TQ:=r8 h8;generalize xs (λk=>sq (ev env) (t.2.1[k]?.getD [])) t.2.1.length=x at hx hb
   refine Wp.count (λs=>s.2) t.2.1.length (λk s=>s.1=((x/2 ^ k:Nat):Int)) hC rfl (by simp) λk s hk hs hJ=>?_
   obtain⟨r,c⟩:=s;dsimp only at hs hJ;subst hs hJ
   refine Wp.seq (λj=>j=decide (k<t.2.1.length)) (.dec (λh=> .some (by simp;omega)) λh=> .some (by simp;omega)) λj hj=> .ite (λh=>?_) λh=> .some ?_
   .have bi:k<t.2.1.length:=by rw[hj]at h;exact al h
    have TX:=hg _ (agy bi);have O8:=h1 _ (agy bi)
    have hz:(ev env t.2.1[k]).2=0:=by
     unfold lB at O8;split at O8
     .exact O8
     .rename_i g;exact Decidable.not_not.1 g
    have Kb:((ev env t.2.1[k]).1.1:Int)=1:=Decidable.byContradiction λg=>by
     rw[tE hz g]at O8;cases O8
    have hp:=Lj he TX hz;have hbk:=hb k bi;rw[agx bi,Option.getD_some]at hbk;refine .bind (.idx k rfl bi (.aW (LH he ht TX) (Wp.seq (λj=>j=ag) (.o9 (λh=>absurd hz h) λ_=> .some ?_) λj hj=> .ite (λh=>absurd h (by rw[hj];decide)) λ_=> .some ⟨bi,aL (by omega),?_⟩)))
    .have e:agD ((x/2 ^ k:Nat):Int) 2=((x/2 ^ k%2:Nat):Int):=by
      generalize x/2 ^ k=m;rw[agF (by omega)];rfl
     rw[e,hbk];unfold P.be at hp;rw[Kb]at hp;unfold sq;generalize((ev env t.2.1[k]).1.2.2:Int)=n at hp⊢;simp at hp;obtain⟨_,p1,p2⟩:=hp;have p1:(0:Int)<=n:=p1;have p2:n<=(1:Int):=p2
     have hp: @Eq Int n 0\/@Eq Int n 1:=by omega
     rcases hp with rfl|rfl<;>rfl
    .show agp.wrap (agC ((x/2 ^ k:Nat):Int) 2)=((x/2 ^ (k+1):Nat):Int)
     have h3:x/2 ^ k<=x:=Nat.div_le_self ..;rw[Nat.pow_succ,<-ahI];generalize x/2 ^ k=m at h3
     have e:agC ((m:Nat):Int) 2=((m/2:Nat):Int):=by
      rw[agG (by omega)];rfl
     rw[e,aE (by omega) (by omega)]
   .show Wp _ _
    exact .aW uY (.some rfl)
end L
end Go.Proofs.YtfeahmiobbjklaaGreatDoor
