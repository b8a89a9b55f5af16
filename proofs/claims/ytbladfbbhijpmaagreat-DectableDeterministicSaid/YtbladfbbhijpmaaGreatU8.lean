/- Joined texts: ModelA Plain Wq PD RA RB RC RD RE RF RI RU RV. -/
import Derived.Test.YtbladfbbhijpmaaGreatU7
import Derived.Test.YtbladfbbhijpmaaGreatU1
import Derived.Test.YtbladfbbhijpmaaGreatU5
open _root_.Decidable renaming decide->aaN
open _root_.Bool renaming false->aaM,true->aaL,false_eq_true->Y8
open _root_.Option renaming none->aaK,bind_some->YV,none_or->Z4
open _root_.Int renaming tdiv->Z6,tmod->aaq,eq_ofNat_of_zero_le->Y9,toNat_natCast->Y4
open _root_.Go.IntKind renaming i64->YW
open _root_.List renaming length_map->Z5,range->Y1,getElem?_eq_getElem->YX,foldl_cons->ZT,length_cons->Ze,mem_cons->Y6,mem_cons_of_mem->Zm,mem_cons_self->Zz,pairwise_cons->Zu,getElem_mem->Y0,getElem_of_mem->ZJ,length_take->Zr,take_append_getElem->Zk,drop_eq_getElem_cons->ZA,drop_of_length_le->Z0,length_append->Zf,map_append->ZU,mem_append->Y7,mem_singleton->Y5,replicate->Zq,take_length->Zh
open _root_.Classical renaming propDecidable->ZG,not_not->aai
open _root_.Nat renaming lt_succ_iff_lt_or_eq->Zb,le_refl->YY,le_of_lt->aaA,le_trans->Zj
open _root_.Go.Lib renaming indexByte->aad
open _root_.Option.some renaming inj->YU
namespace Go.Proofs.YtbladfbbhijpmaaGreat
open Go Go.RowKit
set_option maxRecDepth 100000
set_option linter.unusedSimpArgs false
set_option linter.unusedVariables false
set_option linter.defProp false
section
noncomputable section
set_option maxRecDepth 100000
set_option linter.unusedVariables false
def M.jC(N:Nat)(a0:aa.den)(a1:Int):Option Bool:=
((M.mj N a0).bind λy2=>
(if y2 then
(if(aaN (a0.1<=a1))then
some (aaN (a1<a0.2))
else
some aaM)
else
some aaM):Option Bool).bind λj1=>
some j1
def M.kl(N:Nat)(a0:aW.den)(a1:Int)(a2:Int):Option (List Int):=
Loop (S:=Int×List Int) (X:=List Int) (λs1=>
(if(aaN (s1.1<(a0.2.2.2.2.length:Int)))then
(((idx a0.2.2.2.2 s1.1).bind λx4=>
(if(aaN (x4.2.1=a1))then
(idx a0.2.2.2.2 s1.1).bind λx5=>
(M.jC N x5.2.2.2.2.1 a2).bind λy6=>
some y6
else
some aaM):Option Bool).bind λj3=>
(if j3 then
(b7 s1.2 ([s1.1]:List Int)).bind λl7=>
some l7
else
some s1.2):Option (List Int)).bind λj2=>
some (.inl (YW.wrap (s1.1+1),j2))
else
some (.inr s1.2))) N (0,([]:List Int))
def M.ml(N:Nat)(a0:List Int)(a1:Int):Option Int:=
Loop (S:=Int) (X:=Int) (λs1=>
(if(aaN (s1<(a0.length:Int)))then
(idx a0 s1).bind λx2=>
(if(aaN (x2=a1))then
some (.inr s1)
else
some (.inl (YW.wrap (s1+1))))
else
some (.inr (-1)))) N 0
def M.lk(N:Nat)(a0:aW.den)(a1:List Int)(a2:Int):Option Int:=
(idx a0.2.2.2.2 a2).bind λx1=>
Loop (S:=Int×Int) (X:=Int) (λs2=>
((if(aaN (0<=s2.2))then
some (aaN (s2.2<s2.1))
else
some aaM):Option Bool).bind λj3=>
(if j3 then
(M.ml N a1 s2.2).bind λy4=>
(if(aaN (0<=y4))then
some (.inr y4)
else
(idx a0.2.2.2.2 s2.2).bind λx5=>
some (.inl (s2.2,x5.2.2.1)))
else
some (.inr (-1)))) N (a2,x1.2.2.1)
def M.ll(N:Nat)(a0:aW.den)(a1:Int)(a2:Int):Option ((List Int)×(List Int)×List Int):=
(M.kl N a0 a1 a2).bind λy1=>
(Loop (S:=Int×(List Int)×List Int) (X:=(List Int)×List Int) (λs3=>
(if(aaN (s3.1<(y1.length:Int)))then
(idx y1 s3.1).bind λx4=>
(M.lk N a0 y1 x4).bind λy5=>
(b7 s3.2.1 ([y5]:List Int)).bind λl6=>
(idx y1 s3.1).bind λx7=>
(idx a0.2.2.2.2 x7).bind λx8=>
(b7 s3.2.2 ([x8.2.2.2.1]:List Int)).bind λl9=>
some (.inl (YW.wrap (s3.1+1),l6,l9))
else
some (.inr (s3.2.1,s3.2.2)))) N (0,([]:List Int),([]:List Int)):Option ((List Int)×List Int)).bind λj2=>
some (y1,j2.1,j2.2)
def M.jD(N:Nat)(a0:List aa.den)(a1:List aa.den):Option Bool:=
(if(!aaN ((a0.length:Int)=(a1.length:Int)))then
some aaM
else
Loop (S:=Int) (X:=Bool) (λs1=>
((if(aaN (s1<(a0.length:Int)))then
some (aaN (s1<(a1.length:Int)))
else
some aaM):Option Bool).bind λj2=>
(if j2 then
(idx a0 s1).bind λx3=>
(idx a1 s1).bind λx4=>
(if(!(ku aa x3 x4))then
some (.inr aaM)
else
some (.inl (YW.wrap (s1+1))))
else
some (.inr aaL))) N 0)
theorem Xb(N:Nat):Fo 46 (.i1 [.l (.slice aa), .l (.slice aa)]) (.i1 [.l .bool]) (u2 (M.jD N)):=fz N [] (.o (.o (.two (.o (.two (.lp 5 112 (.two (.mb 20 112) .nil)) .nil)) .nil))) Tryz.func46
def M.lm(N:Nat)(a0:List (List aa.den))(a1:List aa.den):Option Int:=
Loop (S:=Int) (X:=Int) (λs1=>
(if(aaN (s1<(a0.length:Int)))then
(idx a0 s1).bind λx2=>
(M.jD N x2 a1).bind λy3=>
(if y3 then
some (.inr s1)
else
some (.inl (YW.wrap (s1+1))))
else
some (.inr (-1)))) N 0
def M.jE(N:Nat)(a0:List Int)(a1:List Int):Option Int:=
(if(!aaN ((a0.length:Int)=(a1.length:Int)))then
some 2
else
(if(aaN (8<(a0.length:Int)))then
some 4
else
Loop (S:=Int) (X:=Int) (λs1=>
(if(aaN (s1<(a0.length:Int)))then
((idx a0 s1).bind λx3=>
(if(aaN (x3<(-1)))then
some aaL
else
(idx a0 s1).bind λx4=>
some (aaN (s1<=x4))):Option Bool).bind λj2=>
(if j2 then
some (.inr 9)
else
((idx a1 s1).bind λx6=>
(if(aaN (x6<0))then
some aaL
else
(idx a1 s1).bind λx7=>
some (aaN (9<x7))):Option Bool).bind λj5=>
(if j5 then
some (.inr 3)
else
some (.inl (YW.wrap (s1+1)))))
else
some (.inr 0))) N 0))
def M.mo(N:Nat)(a0:List Int)(a1:Int):Option (List Int):=
Loop (S:=Int×List Int) (X:=List Int) (λs1=>
(if(aaN (s1.1<(a0.length:Int)))then
((idx a0 s1.1).bind λx3=>
(if(aaN (x3=a1))then
(b7 s1.2 ([s1.1]:List Int)).bind λl4=>
some l4
else
some s1.2):Option (List Int)).bind λj2=>
some (.inl (YW.wrap (s1.1+1),j2))
else
some (.inr s1.2))) N (0,([]:List Int))
mutual
def M.eD(B:Nat):Nat->(List Int)->(List Int)->(List Bool)->Int->Option Int
 |0,_,_,_,_=>aaK
 |N+1,a0,a1,a2,a3=>
  (M.ln B N a0 a1 a2 a3).bind λy2=>
  (if(aaN ((y2.length:Int)=0))then
  some (-1)
  else
  (if(aaN (1<(y2.length:Int)))then
  some (-2)
  else
  (idx y2 0).bind λx5=>
  (M.cJ B N a0 a1 a2 x5).bind λy6=>
  some y6))
def M.ln(B:Nat):Nat->(List Int)->(List Int)->(List Bool)->Int->Option (List Int)
 |0,_,_,_,_=>aaK
 |N+1,a0,a1,a2,a3=>
  (M.mo B a0 a3).bind λy2=>
  Loop (S:=Int×List Int) (X:=List Int) (λsB=>
  (if(aaN (sB.1<(y2.length:Int)))then
  ((idx y2 sB.1).bind λSF=>
  (M.cJ B N a0 a1 a2 SF).bind λSG=>
  (if(aaN (SG=(-1)))then
  some sB.2
  else
  (((if(aaN (0<(sB.2.length:Int)))then
  (idx y2 sB.1).bind λSH=>
  (idx a1 SH).bind λSI=>
  (idx sB.2 0).bind λSJ=>
  (idx a1 SJ).bind λSK=>
  some (aaN (SK<SI))
  else
  some aaM):Option Bool).bind λSL=>
  (if SL then
  some ([]:List Int)
  else
  some sB.2):Option (List Int)).bind λJi=>
  ((if(aaN ((Ji.length:Int)=0))then
  some aaL
  else
  (idx y2 sB.1).bind λSM=>
  (idx a1 SM).bind λSN=>
  (idx Ji 0).bind λSO=>
  (idx a1 SO).bind λSP=>
  some (aaN (SN=SP))):Option Bool).bind λSQ=>
  (if SQ then
  (idx y2 sB.1).bind λSR=>
  (b7 Ji ([SR]:List Int)).bind λSU=>
  some SU
  else
  some Ji)):Option (List Int)).bind λSV=>
  some (.inl (YW.wrap (sB.1+1),SV))
  else
  some (.inr sB.2))) B (0,([]:List Int))
def M.cJ(B:Nat):Nat->(List Int)->(List Int)->(List Bool)->Int->Option Int
 |0,_,_,_,_=>aaK
 |N+1,a0,a1,a2,a3=>
  (M.eD B N a0 a1 a2 a3).bind λy2=>
  ((if(aaN (y2=(-1)))then
  (idx a2 a3).bind λx7=>
  some x7
  else
  some aaM):Option Bool).bind λj6=>
  (if j6 then
  some a3
  else
  some y2)
end
def M.jF(N:Nat)(a0:List Int)(a1:List Int)(a2:List Bool)(a3:Int):Option Int:=M.eD N N a0 a1 a2 a3
def M.hZ(N:Nat)(a0:List Int)(a1:List Int)(a2:List Bool):Option Int:=
((M.jE N a0 a1).bind λy2=>
(if(!aaN (y2=0))then
some aaL
else
some (!aaN ((a2.length:Int)=(a0.length:Int)))):Option Bool).bind λj1=>
(if j1 then
some (-1)
else
(M.jF N a0 a1 a2 (-1)).bind λy3=>
some y3)
def M.fY(N:Nat)(a0:aa.den)(a1:Int):Option Bool:=
some (aaN ((ak .and .i64 a1 a0.1)=a0.2))
def M.mq(N:Nat)(a0:Int):Option Int:=
(if(aaN (a0<0))then
some 0
else
(if(aaN (8<a0))then
some 8
else
some a0))
def M.nW(N:Nat)(a0:Int):Option Int:=
Loop (S:=Int×Int) (X:=Int) (λs1=>
(if(aaN (s1.2<a0))then
some (.inl (YW.wrap (s1.1*2),YW.wrap (s1.2+1)))
else
some (.inr s1.1))) N (1,0)
def M.km(N:Nat)(a0:List Int)(a1:Int):Option (List Bool):=
(M.nW N a1).bind λy1=>
(tO y1 aaM).bind λl2=>
Loop (S:=Int×List Bool) (X:=List Bool) (λs3=>
(if(aaN (s3.1<(a0.length:Int)))then
(((idx a0 s3.1).bind λx6=>
(if(aaN (0<=x6))then
(idx a0 s3.1).bind λx7=>
some (aaN (x7<(s3.2.length:Int)))
else
some aaM):Option Bool).bind λj5=>
(if j5 then
(idx a0 s3.1).bind λx8=>
(idx s3.2 x8).bind λx9=>
some (bz s3.2 x8 aaL)
else
some s3.2):Option (List Bool)).bind λj4=>
some (.inl (YW.wrap (s3.1+1),j4))
else
some (.inr s3.2))) N (0,l2)
def M.nX(N:Nat)(a0:Int):Option Int:=
Loop (S:=Int×Int) (X:=Int) (λs1=>
(if(aaN (0<s1.1))then
some (.inl (YW.wrap (Z6 s1.1 2),YW.wrap (s1.2+(aaq s1.1 2))))
else
some (.inr s1.2))) N (a0,0)
def M.mr(N:Nat)(a0:aa.den)(a1:List Bool)(a2:List Bool):Option Bool:=
Loop (S:=Int) (X:=Bool) (λs1=>
(if(aaN (s1<(a1.length:Int)))then
((M.fY N a0 s1).bind λy3=>
(if y3 then
(idx a1 s1).bind λx4=>
(if x4 then
(idx a2 s1).bind λx5=>
some (!x5)
else
some aaM)
else
some aaM):Option Bool).bind λj2=>
(if j2 then
some (.inr aaL)
else
some (.inl (YW.wrap (s1+1))))
else
some (.inr aaM))) N 0
def M.gp(N:Nat)(a0:aa.den)(a1:List Bool):Option Bool:=
Loop (S:=Int) (X:=Bool) (λs1=>
(if(aaN (s1<(a1.length:Int)))then
((M.fY N a0 s1).bind λy3=>
(if y3 then
(idx a1 s1).bind λx4=>
some (!x4)
else
some aaM):Option Bool).bind λj2=>
(if j2 then
some (.inr aaM)
else
some (.inl (YW.wrap (s1+1))))
else
some (.inr aaL))) N 0
def M.mu(N:Nat)(a0:aa.den)(a1:List Bool):Option Bool:=
(M.gp N a0 a1).bind λy1=>
(if(!y1)then
some aaM
else
Loop (S:=Int) (X:=Bool) (λs2=>
(if(aaN (s2<(a1.length:Int)))then
((if(!aaN ((ak .and .i64 a0.1 s2)=0))then
(M.gp N (ak .andNot .i64 a0.1 s2,ak .andNot .i64 a0.2 s2) a1).bind λy4=>
some y4
else
some aaM):Option Bool).bind λj3=>
(if j3 then
some (.inr aaM)
else
some (.inl (YW.wrap (s2*2))))
else
some (.inr aaL))) N 1)
def M.jG(N:Nat)(a0:List Int)(a1:Int):Option (List aa.den):=
(M.mq N a1).bind λy1=>
(M.km N a0 y1).bind λy2=>
(tO (y2.length:Int) aaM).bind λl3=>
Loop (S:=Int×(List Bool)×List aa.den) (X:=List aa.den) (λs4=>
(if(aaN (s4.1<=y1))then
(Loop (S:=Int×(List Bool)×List aa.den) (X:=(List Bool)×List aa.den) (λs6=>
(if(aaN (s6.1<(y2.length:Int)))then
(((M.nX N s6.1).bind λy9=>
(if(!aaN (y9=s4.1))then
some (s6.2.1,s6.2.2)
else
Loop (S:=Int×(List Bool)×List aa.den) (X:=(List Bool)×List aa.den) (λsA=>
(if(aaN (sA.1<=s6.1))then
((((if(!aaN ((ak .and .i64 sA.1 s6.1)=sA.1))then
some aaL
else
(M.mr N (s6.1,sA.1) y2 sA.2.1).bind λtA=>
(if(!tA)then
some aaL
else
(M.mu N (s6.1,sA.1) y2).bind λIj=>
some (!Ij))):Option Bool).bind λIl=>
(if Il then
some (sA.2.1,sA.2.2)
else
(Loop (S:=Int×List Bool) (X:=List Bool) (λtx=>
(if(aaN (tx.1<(y2.length:Int)))then
((idx tx.2 tx.1).bind λLu=>
(if Lu then
(idx tx.2 tx.1).bind λTX=>
some (bz tx.2 tx.1 aaL)
else
(M.fY N (s6.1,sA.1) tx.1).bind λIh=>
(idx tx.2 tx.1).bind λLv=>
some (bz tx.2 tx.1 Ih)):Option (List Bool)).bind λLI=>
some (.inl (YW.wrap (tx.1+1),LI))
else
some (.inr tx.2))) N (0,sA.2.1):Option (List Bool)).bind λIk=>
(b7 sA.2.2 ([(s6.1,sA.1)]:List aa.den)).bind λSX=>
some (Ik,SX)):Option ((List Bool)×List aa.den)).bind λv8=>
some (v8.1,v8.2):Option ((List Bool)×List aa.den)).bind λCb=>
some (.inl (YW.wrap (sA.1+1),Cb.1,Cb.2))
else
some (.inr (sA.2.1,sA.2.2)))) N (0,s6.2.1,s6.2.2)):Option ((List Bool)×List aa.den)).bind λj8=>
some (j8.1,j8.2):Option ((List Bool)×List aa.den)).bind λj7=>
some (.inl (YW.wrap (s6.1+1),j7.1,j7.2))
else
some (.inr (s6.2.1,s6.2.2)))) N (0,s4.2.1,s4.2.2):Option ((List Bool)×List aa.den)).bind λj5=>
some (.inl (YW.wrap (s4.1+1),j5.1,j5.2))
else
some (.inr s4.2.2))) N (0,l3,([]:List aa.den))
def M.iy(N:Nat)(a0:ew.den)(a1:Int)(a2:Int)(a3:Int):Option (Int×(List (List aa.den))×(List Int)×List an.den):=
(idx a0.2.2 a1).bind λx1=>
(M.ll N x1 a2 a3).bind λy2=>
(Loop (S:=Int×Int×(List (List aa.den))×List Int) (X:=Int×(List (List aa.den))×List Int) (λs4=>
(if(aaN (s4.1<(y2.1.length:Int)))then
((idx y2.1 s4.1).bind λx6=>
(idx x1.2.2.2.2 x6).bind λx7=>
((if(aaN (0<(x7.2.2.2.2.2.1.length:Int)))then
(M.lm N s4.2.2.1 x7.2.2.2.2.2.1).bind λy9=>
some (aaN (y9<0))
else
some aaM):Option Bool).bind λj8=>
(if j8 then
(b7 ([]:List aa.den) x7.2.2.2.2.2.1).bind λJg=>
(b7 s4.2.2.1 ([Jg]:List (List aa.den))).bind λGR=>
(idx y2.1 s4.1).bind λCd=>
(b7 s4.2.2.2 ([Cd]:List Int)).bind λOj=>
some (s4.2.1,GR,Oj)
else
some (s4.2.1,s4.2.2.1,s4.2.2.2)):Option (Int×(List (List aa.den))×List Int)).bind λj5=>
some (.inl (YW.wrap (s4.1+1),j5.1,j5.2.1,j5.2.2))
else
some (.inr (s4.2.1,s4.2.2.1,s4.2.2.2)))) N (0,a2,([]:List (List aa.den)),([]:List Int)):Option (Int×(List (List aa.den))×List Int)).bind λj3=>
(Loop (S:=Int×List Int) (X:=List Int) (λyr=>
(ph .i64 1 (j3.2.1.length:Int)).bind λLn=>
(if(aaN (yr.1<Ln))then
((Loop (S:=Int×List Bool) (X:=List Bool) (λMD=>
(if(aaN (MD.1<(y2.1.length:Int)))then
((idx y2.1 MD.1).bind λXc=>
(idx x1.2.2.2.2 Xc).bind λLv=>
(if(aaN ((Lv.2.2.2.2.2.1.length:Int)=0))then
(b7 MD.2 ([aaL]:List Bool)).bind λSX=>
some SX
else
(M.lm N j3.2.1 Lv.2.2.2.2.2.1).bind λXd=>
(zC .i64 yr.1 Xd).bind λR4=>
(b7 MD.2 ([aaN ((ak .and .i64 R4 1)=1)]:List Bool)).bind λXe=>
some Xe):Option (List Bool)).bind λKi=>
some (.inl (YW.wrap (MD.1+1),Ki))
else
some (.inr MD.2))) N (0,([]:List Bool)):Option (List Bool)).bind λLI=>
(M.hZ N y2.2.1 y2.2.2 LI).bind λSY=>
((if(aaN (0<=SY))then
(idx y2.1 SY).bind λR8=>
some R8
else
some SY):Option Int).bind λR7=>
(b7 yr.2 ([R7]:List Int)).bind λXf=>
some Xf:Option (List Int)).bind λKm=>
some (.inl (YW.wrap (yr.1+1),Km))
else
some (.inr yr.2))) N (0,([]:List Int)):Option (List Int)).bind λIm=>
(Loop (S:=Int×Int×(List (List aa.den))×(List Int)×List an.den) (X:=Int×(List (List aa.den))×(List Int)×List an.den) (λzk=>
(if(aaN (zk.1<(x1.2.2.2.2.length:Int)))then
(((Loop (S:=Int×List Int) (X:=List Int) (λLJ=>
(if(aaN (LJ.1<(Im.length:Int)))then
((idx Im LJ.1).bind λXg=>
(if(aaN (Xg=zk.1))then
(b7 LJ.2 ([LJ.1]:List Int)).bind λXh=>
some Xh
else
some LJ.2):Option (List Int)).bind λXi=>
some (.inl (YW.wrap (LJ.1+1),Xi))
else
some (.inr LJ.2))) N (0,([]:List Int)):Option (List Int)).bind λUk=>
(if(aaN ((Uk.length:Int)=0))then
some (zk.2.1,zk.2.2.1,zk.2.2.2.1,zk.2.2.2.2)
else
(M.jG N Uk (j3.2.1.length:Int)).bind λUl=>
Loop (S:=Int×Int×(List (List aa.den))×(List Int)×List an.den) (X:=Int×(List (List aa.den))×(List Int)×List an.den) (λGS=>
(if(aaN (GS.1<(Ul.length:Int)))then
(idx Ul GS.1).bind λXj=>
(b7 GS.2.2.2.2 ([(Xj,zk.1)]:List an.den)).bind λXk=>
some (.inl (YW.wrap (GS.1+1),GS.2.1,GS.2.2.1,GS.2.2.2.1,Xk))
else
some (.inr (GS.2.1,GS.2.2.1,GS.2.2.2.1,GS.2.2.2.2)))) N (0,zk.2.1,zk.2.2.1,zk.2.2.2.1,zk.2.2.2.2)):Option (Int×(List (List aa.den))×(List Int)×List an.den)).bind λPD=>
some (PD.1,PD.2.1,PD.2.2.1,PD.2.2.2):Option (Int×(List (List aa.den))×(List Int)×List an.den)).bind λPE=>
some (.inl (YW.wrap (zk.1+1),PE.1,PE.2.1,PE.2.2.1,PE.2.2.2))
else
some (.inr (zk.2.1,zk.2.2.1,zk.2.2.2.1,zk.2.2.2.2)))) N ((-2),j3.1,j3.2.1,j3.2.2,([]:List an.den)):Option (Int×(List (List aa.den))×(List Int)×List an.den)).bind λMC=>
some (MC.1,MC.2.1,MC.2.2.1,MC.2.2.2)
def M.fZ(N:Nat)(a0:aW.den)(a1:List Int)(a2:cE.den)(a3:Int):Option (List Bool):=
Loop (S:=Int×List Bool) (X:=List Bool) (λs1=>
(if(aaN (s1.1<(a1.length:Int)))then
((idx a1 s1.1).bind λx3=>
(idx a0.2.2.2.2 x3).bind λx4=>
(Loop (S:=Bool×Int) (X:=Bool) (λs6=>
(if(aaN (s6.2<(a2.2.1.length:Int)))then
((if s6.1 then
some aaL
else
(idx a2.2.1 s6.2).bind λx8=>
(M.jD N x8 x4.2.2.2.2.2.1).bind λy9=>
(if y9 then
(zC .i64 a3 s6.2).bind λrk=>
some (aaN ((ak .and .i64 rk 1)=1))
else
some aaM)):Option Bool).bind λj7=>
some (.inl (j7,YW.wrap (s6.2+1)))
else
some (.inr s6.1))) N (aaN ((x4.2.2.2.2.2.1.length:Int)=0),0):Option Bool).bind λj5=>
(b7 s1.2 ([j5]:List Bool)).bind λGR=>
some GR:Option (List Bool)).bind λj2=>
some (.inl (YW.wrap (s1.1+1),j2))
else
some (.inr s1.2))) N (0,([]:List Bool))
theorem Xl(N:Nat):Fo 19 (.i1 [.g aW, .l (.slice ae), .g cE, .l ae]) (.w1 4 .bool) (u4 (M.fZ N)):=fz N [ck (Xb N)] (.o (.o (.two (.o (.two (.loop ⟨[(9, .val aaM (.own 96)),(10, .l ae)],[(96, .own 4 .bool)],[48],97⟩ (.o (.meet ⟨[(9, .val aaM (.own 161))],[(161, .own 4 .bool)],[96],162⟩ (.two (.o (.o (.meet ⟨[(12, .l .bool)],[],[],385⟩ (.o (.two (.loop ⟨[(12, .l .bool),(13, .l ae)],[],[],401⟩ (.o (.two (.mb 12 481) .nil))) .nil)) .nil))) .nil) .nil))) .nil)) .nil))) Tryz.func19
def M.dm(N:Nat)(a0:ew.den)(a1:(Int×aa.den)):Option Bool:=
((M.iD N a0).bind λy2=>
(if(!y2)then
some aaL
else
(M.dM N a0).bind λy3=>
(if(!(ku bx y3 (0,(0,(0,0)))))then
some aaL
else
(if(aaN (a1.1<0))then
some aaL
else
some (aaN ((a0.2.2.length:Int)<=a1.1))))):Option Bool).bind λj1=>
(if j1 then
(M.gE N).bind λy4=>
some y4
else
(M.bI N a0 a1.1 a1.2.1 a1.2.2).bind λy5=>
(if(!aaN (y5.2.1=0))then
(M.gE N).bind λy6=>
some y6
else
(idx a0.2.2 a1.1).bind λx7=>
(M.dt N x7 a1.2.1 a1.2.2).bind λy8=>
((if(aaN (8<(y5.2.2.1.length:Int)))then
some aaL
else
(M.db N (y5.1,(y5.2.2.1,(y5.2.2.2.1,y5.2.2.2.2)))).bind λLq=>
some (!aaN (Lq=0))):Option Bool).bind λj9=>
(if j9 then
some aaM
else
bF (J:=Unit) (R:=Bool) (Loop (S:=Int) (X:=Unit⊕Bool) (λzj=>
(ph .i64 1 (y5.2.2.1.length:Int)).bind λsz=>
(if(aaN (zj<sz))then
(M.du N (y5.1,(y5.2.2.1,(y5.2.2.2.1,y5.2.2.2.2))) zj).bind λtA=>
(M.fZ N x7 y8.1 (y5.1,(y5.2.2.1,(y5.2.2.2.1,y5.2.2.2.2))) zj).bind λIj=>
(M.bG N y8.2.1 y8.2.2 Ij).bind λKj=>
(((if(aaN (0<=Kj))then
some (aaN (Kj<(y8.1.length:Int)))
else
some aaM):Option Bool).bind λLI=>
(if LI then
(idx y8.1 Kj).bind λLu=>
some Lu
else
some Kj):Option Int).bind λKm=>
((if(!tA.2)then
some aaL
else
some (!aaN (tA.1=Km))):Option Bool).bind λKi=>
(if Ki then
some (.inr (.inr aaM))
else
some (.inl (YW.wrap (zj+1))))
else
some (.inr (.inl ())))) N 0) λCb=>
(M.gE N).bind λIh=>
some Ih)))
theorem W5(N:Nat):Fo 5 (.i1 [.g ew, .g (.pair ae aa)]) (.i1 [.l .bool]) (u2 (M.dm N)):=fz N [ck (W7 N),ck (W8 N),ck (W9 N),ck (Ui N),ck (Uj N),ck (Ud N),ck (Ue N),ck (Ug N),ck (Xl N)] (.o (.two (.mb 36 48) (.o (.o (.o (.o (.two (.mb 76 640) (.join ⟨[],[],[],640⟩ (.o (.two (.lp 11 656 (.o (.two (.two (.o (.o (.meet ⟨[(14, .l ae)],[],[],1024⟩ (.mb 106 1024) (.mb 117 1024)))) .nil) .nil))) .nil)) .nil)))))))) Tryz.func5
end
end
section
theorem ed{n:Int}(h0: -9223372036854775808<=n)(h1:n<=9223372036854775807):YW.wrap n=n:=by
 simp[IntKind.wrap,IntKind.bits,IntKind.signed];omega
theorem ao{α:Type}{l:List α}{k:Nat}(h:k<l.length):idx l (k:Int)=some l[k]:=by
 unfold idx;rw[aaP (by omega)];simp[h]
theorem oQ{α:Type}{a:α}{l:List α}:idx (a::l) 0=some a:=rfl
theorem fK{α:Type}{l m:List α}(h:l.length+m.length<=4294967296):b7 l m=some (l++m):=aaP h
theorem pY{S X:Type}{body:S->Option (S⊕X)}(I:S->Prop)(μ:S->Nat)(Q:X->Prop)
 (step:∀s,I s->(∃s',body s=some (.inl s')/\I s'/\μ s'<μ s)\/∃x,body s=some (.inr x)/\Q x):
 ∀N s,I s->μ s<N->∃x,Loop body N s=some x/\Q x
 |0,_,_,h=>absurd h (by omega)
 |N+1,s,hi,ai=>by
  rcases step s hi with⟨s',hb,ik,hm⟩|⟨x,hb,hq⟩
  .obtain⟨x,hx,hq⟩:=pY I μ Q step N s' ik (by omega);exact⟨x,by unfold Loop;rw[hb];exact hx,hq⟩
  .exact⟨x,by unfold Loop;rw[hb],hq⟩
theorem AK{S X:Type}{body:S->Option (S⊕X)}(st:Nat->S){x:X}(m:Nat)(hs:∀i,i<m->body (st i)=some (.inl (st (i+1))))(he:body (st m)=some (.inr x)){N:Nat}(hN:m<N):Loop body N (st 0)=some x:=by
 have:∀k i N,i+k=m->k<N->Loop body N (st i)=some x:=by
  intro k
  induction k with
  |zero=>rintro i (_|N) hi hN;.omega
         obtain rfl:i=m:=by omega
         unfold Loop;rw[he]
  |succ k ih=>
   rintro i (_|N) hi hN
   .omega
   .unfold Loop;rw[hs i (by omega)];exact ih (i+1) N (by omega) (by omega)
 exact this m 0 N (by omega) hN
theorem rl{S X:Type}{body:S->Option (S⊕X)}{N:Nat}{s0:S}(st:Nat->S)(m:Nat)(x:X)(h0:s0=st 0)(hs:∀i,i<m->body (st i)=some (.inl (st (i+1))))(he:body (st m)=some (.inr x))(hN:m<N):Loop body N s0=some x:=by
 rw[h0];exact AK st m hs he hN
def bd:Nat:=18446744073709551616
section
variable {α:Type}
theorem iI(n:Nat)(C:Nat->α)(k:Nat)(v:α):((Y1 n).map C).set k v=(Y1 n).map (λj=>if j=k then v else C j):=by
 apply List.ext_getElem (by simp);intro i h1 h2;simp only[List.length_set,Z5,List.length_range]at h1;rw[List.getElem_set];simp only[List.getElem_map,List.getElem_range];by_cases h:k=i
 .subst h;simp
 .rw[aaO h,aaO (Ne.symm h)]
theorem ic(n:Nat)(p:Nat->Bool):(Y1 (n+1)).filter p=(Y1 n).filter p++(if p n=aaL then[n]else[]):=by
 rw[List.range_succ,List.filter_append]
 cases h:p n<;>simp[h]
end
end
end Go.Proofs.YtbladfbbhijpmaaGreat
section
open _root_.Bool renaming false->aaM,true->aaL,false_eq_true->Y8
open _root_.Option renaming none->aaK,bind_some->YV,some->aaD
open _root_.Classical renaming not_not->aai
open _root_.Go.IntKind renaming i64->YW
open _root_.List renaming getElem?_eq_getElem->YX,replicate->Zq,take_append_getElem->Zk,take_length->Zh
open _root_.Nat renaming lt_succ_iff_lt_or_eq->Zb
namespace Go.Proofs.YtbladfbbhijpmaaGreat
open Go Go.RowKit
def Wp{α:Type}(m:Option α)(Q:α->Prop):Prop:=∃x,m=some x/\Q x
theorem Wp.some{α:Type}{x:α}{Q:α->Prop}(h:Q x):Wp (some x) Q:=⟨x,rfl,h⟩
theorem Wp.of{α:Type}{m:Option α}{x:α}{Q:α->Prop}(e:m=aaD x)(h:Q x):Wp m Q:=⟨x,e,h⟩
theorem Wp.eq{α:Type}{m:Option α}{x:α}(h:Wp m (· =x)):m=aaD x:=by obtain⟨y,e,rfl⟩:=h;exact e
theorem Wp.mono{α:Type}{m:Option α}{Q Q':α->Prop}(h:Wp m Q)(hq:∀x,Q x->Q' x):Wp m Q':=by obtain⟨x,e,h⟩:=h;exact⟨x,e,hq x h⟩
theorem Wp.bind{α β:Type}{m:Option α}{k:α->Option β}{Q:β->Prop}(h:Wp m λx=>Wp (k x) Q):Wp (m.bind k) Q:=by
 obtain⟨x,e,h⟩:=h;rw[e];exact h
theorem Wp.aT{α β:Type}{m:Option α}{k:α->Option β}{Q:β->Prop}{x:α}(e:m=aaD x)(h:Wp (k x) Q):Wp (m.bind k) Q:=by
 rw[e];exact h
theorem Wp.seq{α β:Type}{m:Option α}{k:α->Option β}{Q:β->Prop}(A:α->Prop)(h:Wp m A)(hk:∀x,A x->Wp (k x) Q):Wp (m.bind k) Q:= .bind (h.mono hk)
theorem Wp.map{α β:Type}{m:Option α}{f:α->β}{Q:β->Prop}(h:Wp m λx=>Q (f x)):Wp (m.map f) Q:=by
 obtain⟨x,e,h⟩:=h;rw[e];exact⟨_,rfl,h⟩
theorem Wp.ite{α:Type}{c:Prop}[Decidable c]{a b:Option α}{Q:α->Prop}(ha:c->Wp a Q)(hb:¬c->Wp b Q):Wp (if c then a else b) Q:=by
 split
 .exact ha ‹_›
 .exact hb ‹_›
theorem Wp.dec{α:Type}{c:Prop}[Decidable c]{a b:Option α}{Q:α->Prop}(ha:c->Wp a Q)(hb:¬c->Wp b Q):Wp (if decide c=aaL then a else b) Q:=by
 by_cases h:c
 .rw[aaP (aaR h)];exact ha h
 .rw[aaO (by simpa using h)];exact hb h
theorem Wp.pZ{α:Type}{c:Prop}[Decidable c]{a b:Option α}{Q:α->Prop}(ha:¬c->Wp a Q)(hb:c->Wp b Q):Wp (if(!decide c)=aaL then a else b) Q:=by
 by_cases h:c
 .rw[aaO (by simp[h])];exact hb h
 .rw[aaP (by simp[h])];exact ha h
def yt{J R:Type}(k:J->Option R)(Q:R->Prop):J⊕R->Prop
 | .inl j=>Wp (k j) Q
 | .inr r=>Q r
theorem Wp.join{J R:Type}{m:Option (J⊕R)}{k:J->Option R}{Q:R->Prop}(h:Wp m (yt k Q)):Wp (bF m k) Q:=by
 obtain⟨x,e,h⟩:=h;unfold bF;rw[e]
 cases x with
 |inl j=>exact h
 |inr r=>exact⟨r,rfl,h⟩
def GU{S X:Type}(I:S->Prop)(μ:S->Nat)(s:S)(Q:X->Prop):S⊕X->Prop
 | .inl s'=>I s'/\μ s'<μ s
 | .inr x=>Q x
theorem Wp.loop{S X:Type}{body:S->Option (S⊕X)}{N:Nat}{s0:S}{Q:X->Prop}(I:S->Prop)(μ:S->Nat)(h0:I s0)(hN:μ s0<N)(step:∀s,I s->Wp (body s) (GU I μ s Q)):Wp (Loop body N s0) Q:=
 pY I μ Q (λs hs=>by
  obtain⟨x,e,h⟩:=step s hs
  cases x with
  |inl s'=>exact .inl ⟨s',e,h⟩
  |inr x=>exact .inr ⟨x,e,h⟩) N s0 h0 hN
theorem Wp.idx{α:Type}{l:List α}{i:Int}{Q:α->Prop}(k:Nat)(hi:i=k)(hk:k<l.length)(h:Q l[k]):Wp (idx l i) Q:=by
 subst hi;exact⟨_,ao hk,h⟩
theorem Wp.p3{α:Type}{l m:List α}{Q:List α->Prop}(hl:l.length+m.length<=4294967296)(h:Q (l++m)):Wp (b7 l m) Q:=⟨_,fK hl,h⟩
theorem rm{α:Type}{l:List α}{i j:Int}(a b:Nat)(hi:i=a)(hj:j=b)(h:a<=b)(hb:b<=l.length):eG l i j=aaD ((l.take b).drop a):=by
 subst hi;subst hj;unfold eG;rw[aaP (by omega)];simp
theorem Wp.cut{α:Type}{l:List α}{i j:Int}{Q:List α->Prop}(a b:Nat)(hi:i=a)(hj:j=b)(h:a<=b)(hb:b<=l.length)(hq:Q ((l.take b).drop a)):Wp (eG l i j) Q:=⟨_,rm a b hi hj h hb,hq⟩
theorem uL{α:Type}{l:List α}{b:Nat}(hb:b<=l.length):eG l 0 (b:Int)=aaD (l.take b):=by
 have:=rm (l:=l) 0 b rfl rfl (Nat.zero_le _) hb;simpa using this
theorem aF{k:Nat}(h:k<9223372036854775807):YW.wrap ((k:Int)+1)=((k+1:Nat):Int):=by rw[ed]<;>omega
theorem GV{k:Nat}(h:k<=9223372036854775807):YW.wrap (k:Int)=(k:Int):=by rw[ed]<;>omega
end Go.Proofs.YtbladfbbhijpmaaGreat
namespace Go.Proofs.YtbladfbbhijpmaaGreat
open Go Go.RowKit
section
variable {α β:Type}
theorem gq{x:α}{Q:α->Prop}:Wp (some x) Q↔Q x:=⟨λ⟨y,e,h⟩=>by cases e;exact h,λh=>⟨x,rfl,h⟩⟩
theorem oR{Q:α->Prop}:Wp (aaK:Option α) Q↔False:=⟨λ⟨y,e,h⟩=>(by cases e),False.elim⟩
theorem wp_bind{m:Option α}{k:α->Option β}{Q:β->Prop}:Wp (m.bind k) Q↔Wp m λx=>Wp (k x) Q:=by
 cases m with
 |none=>simp only[Option.bind_none,oR]
 |some x=>simp only[YV,gq]
theorem GW{c:Prop}[Decidable c]{a b:Option α}{Q:α->Prop}:Wp (if c then a else b) Q↔(c->Wp a Q)/\(¬c->Wp b Q):=by
 split<;>simp[*]
theorem GX{c:Prop}[Decidable c]{a b:Option α}{Q:α->Prop}:Wp (if decide c=aaL then a else b) Q↔(c->Wp a Q)/\(¬c->Wp b Q):=by
 by_cases h:c<;>simp[*]
theorem Ce{c:Prop}[Decidable c]{a b:Option α}{Q:α->Prop}:Wp (if(!decide c)=aaL then a else b) Q↔(¬c->Wp a Q)/\(c->Wp b Q):=by
 by_cases h:c<;>simp[*]
theorem GY{c:Bool}{a b:Option α}{Q:α->Prop}:Wp (if(!c)=aaL then a else b) Q↔(c=aaM->Wp a Q)/\(c=aaL->Wp b Q):=by
 cases c<;>simp
theorem wp_map{m:Option α}{f:α->β}{Q:β->Prop}:Wp (m.map f) Q↔Wp m λx=>Q (f x):=by
 cases m with
 |none=>simp only[Option.map_none,oR]
 |some x=>simp only[Option.map_some,gq]
theorem Cf{J R:Type}{m:Option (J⊕R)}{k:J->Option R}{Q:R->Prop}:Wp (bF m k) Q↔Wp m (yt k Q):=by
 cases m with
 |none=>exact⟨λ⟨_,e,_⟩=>(by cases e),λ⟨_,e,_⟩=>(by cases e)⟩
 |some s=>cases s with
  |inl j=>rw[gq];exact Iff.rfl
  |inr r=>exact(gq (x:=r)).trans (gq (x:=Sum.inr r) (Q:=yt k Q)).symm
theorem uM{J R:Type}{k:J->Option R}{Q:R->Prop}{j:J}:yt k Q (.inl j)=Wp (k j) Q:=rfl
theorem uN{J R:Type}{k:J->Option R}{Q:R->Prop}{r:R}:yt k Q (.inr r)=Q r:=rfl
theorem dz{l:List α}{i:Int}{Q:α->Prop}:Wp (idx l i) Q↔∃h:0<=i/\i<(l.length:Int),Q (l[i.toNat]'(by omega)):=by
 by_cases h:0<=i/\i<(l.length:Int)
 .unfold idx;rw[aaP h.1,YX (by omega),gq];exact⟨λg=>⟨h,g⟩,λg=>g.2⟩
 .refine⟨λ⟨y,e,_⟩=>?_,λg=>absurd g.1 h⟩;obtain⟨k,rfl,hk,_⟩:=ef e;omega
theorem oS{s:ByteArray}{i:Int}{Q:Int->Prop}:Wp (jU s i) Q↔∃h:0<=i/\i<(s.size:Int),Q ((s[i.toNat]'(by omega)).toNat:Int):=by
 unfold jU;rw[wp_map];by_cases h:0<=i/\i<(s.size:Int)
 .rw[aaP h.1,getElem?_pos s i.toNat (by omega),gq];exact⟨λg=>⟨h,g⟩,λg=>g.2⟩
 .refine⟨λ⟨y,e,_⟩=>?_,λg=>absurd g.1 h⟩;split at e
  .rw[getElem?_neg s i.toNat (by omega)]at e;cases e
  .cases e
theorem nY{l m:List α}{Q:List α->Prop}:Wp (b7 l m) Q↔l.length+m.length<=4294967296/\Q (l++m):=by
 unfold b7;split
 .rw[gq];simp[*]
 .rw[oR];simp[*]
theorem wp_cut{l:List α}{i j:Int}{Q:List α->Prop}:Wp (eG l i j) Q↔(0<=i/\i<=j/\j<=l.length)/\Q ((l.take j.toNat).drop i.toNat):=by
 unfold eG;split
 .rw[gq];simp[*]
 .rw[oR];simp[*]
theorem lq{m:Int}{z:α}{Q:List α->Prop}:Wp (tO m z) Q↔(0<=m/\m<=4294967296)/\Q (Zq m.toNat z):=by
 unfold tO;split
 .rw[gq];simp[*]
 .rw[oR];simp[*]
theorem Kn{m:Option α}{x:α}:Wp m (· =x)↔m=some x:=⟨λ⟨_,e,h⟩=>h▸e,λe=>⟨x,e,rfl⟩⟩
theorem Wp.and{m:Option α}{P Q:α->Prop}(h:Wp m P)(g:Wp m Q):Wp m λx=>P x/\Q x:=by
 obtain⟨x,e,h⟩:=h;obtain⟨y,e',g⟩:=g;rw[e]at e';cases e';exact⟨x,e,h,g⟩
theorem Wp.getD{m:Option α}{Q:α->Prop}(h:Wp m Q)(d:α):m=aaD (m.getD d)/\Q (m.getD d):=by
 obtain⟨x,e,h⟩:=h;rw[e];exact⟨rfl,h⟩
end
def AL{S X:Type}(nZ:S->Int)(m k:Nat)(J:Nat->S->Prop)(Q:X->Prop):S⊕X->Prop
 | .inl s=>k<m/\nZ s=((k+1:Nat):Int)/\J (k+1) s
 | .inr x=>Q x
theorem aQ{S X:Type}{nZ:S->Int}{m k:Nat}{J:Nat->S->Prop}{Q:X->Prop}{s:S}:AL nZ m k J Q (.inl s)=(k<m/\nZ s=((k+1:Nat):Int)/\J (k+1) s):=rfl
theorem aI{S X:Type}{nZ:S->Int}{m k:Nat}{J:Nat->S->Prop}{Q:X->Prop}{x:X}:AL nZ m k J Q (.inr x)=Q x:=rfl
theorem Wp.count{S X:Type}{body:S->Option (S⊕X)}{s0:S}{Q:X->Prop}(nZ:S->Int)(m:Nat)(J:Nat->S->Prop)(hm:m<=9223372036854775807)(h0:nZ s0=0)(hJ:J 0 s0)
 (step:∀k s,k<=m->nZ s=(k:Int)->J k s->Wp (body s) (AL nZ m k J Q)):Wp (Loop body bd s0) Q:=by
 refine Wp.loop (λs=>∃k:Nat,nZ s=k/\k<=m/\J k s) (λs=>m-(nZ s).toNat) ⟨0,h0,Nat.zero_le _,hJ⟩ (by unfold bd;omega) λs hs=>?_
 obtain⟨k,hi,hk,hj⟩:=hs
 refine(step k s hk hi hj).mono λr hr=>?_
 cases r with
 |inl s'=>
  obtain⟨h1,h2,h3⟩:=hr;exact⟨⟨k+1,h2,h1,h3⟩,by show m-(nZ s').toNat<m-(nZ s).toNat;rw[h2,hi];omega⟩
 |inr x=>exact hr
theorem cX{k:Nat}{m:Nat}(hm:m<=9223372036854775807)(h:k<m):YW.wrap ((k:Int)+1)=((k+1:Nat):Int):=aF (by omega)
theorem iJ{k m:Nat}(h:k<m):decide ((k:Int)<(m:Int))=aaL:=aaR (by omega)
theorem AM{k m:Nat}(h:k<m):((k:Int)<(m:Int))=True:=eq_true (by omega)
theorem eE{m:Nat}:((m:Int)<(m:Int))=False:=eq_false (by omega)
def bQ{α:Type}(f:Nat->Option α):Nat->Option α
 |0=>aaK
 |m+1=>(bQ f m).or (f m)
theorem bm{α:Type}{f:Nat->Option α}:∀{m:Nat},bQ f m=aaK↔∀k,k<m->f k=aaK
 |0=>by simp[bQ]
 |m+1=>by
  rw[bQ,Option.or_eq_none_iff,bm];exact⟨λh k hk=>by rcases Zb.1 hk with h1|rfl<;>first|exact h.1 k h1|exact h.2,λh=>⟨λk hk=>h k (by omega),h m (by omega)⟩⟩
theorem eJ{α:Type}{f:Nat->Option α}{x:α}:∀{m:Nat},bQ f m=some x->∃k,k<m/\f k=some x/\∀j,j<k->f j=aaK
 |0,h=>by cases h
 |m+1,h=>by
  rw[bQ]at h
  cases e:bQ f m with
  |none=>rw[e]at h;exact⟨m,by omega,h,bm.1 e⟩
  |some y=>
   rw[e]at h;cases h;obtain⟨k,hk,h1,h2⟩:=eJ e;exact⟨k,by omega,h1,h2⟩
theorem dv{α:Type}{f:Nat->Option α}{x:α}{k:Nat}(hx:f k=some x)(hn:∀j,j<k->f j=aaK):∀{m:Nat},k<m->bQ f m=some x
 |0,h=>by omega
 |m+1,h=>by
  rw[bQ]
  rcases Zb.1 h with h1|rfl
  .rw[dv hx hn h1];rfl
  .rw[bm.2 hn];exact hx
theorem Wp.first{S X Y:Type}{body:S->Option (S⊕X)}{s0:S}{Q:X->Prop}(nZ:S->Int)(m:Nat)(f:Nat->Option Y)(hm:m<=9223372036854775807)(h0:nZ s0=0)
 (h1:∀k s,k<m->nZ s=(k:Int)->(∀j,j<k->f j=aaK)->Wp (body s) λr=>(f k=aaK/\∃s',r= .inl s'/\nZ s'=((k+1:Nat):Int))\/∃x y,r= .inr x/\f k=aaD y/\(bQ f m=aaD y->Q x))
 (he:∀s,nZ s=(m:Int)->(bQ f m=aaK)->Wp (body s) λr=>∃x,r= .inr x/\Q x):Wp (Loop body bd s0) Q:=by
 refine Wp.count nZ m (λk _=>∀j,j<k->f j=aaK) hm h0 (λj h=>by omega) λk s hk hs hJ=>?_
 rcases Nat.lt_or_ge k m with ai|hge
 .refine(h1 k s ai hs hJ).mono λr hr=>?_
  rcases hr with⟨hn,s',rfl,h2⟩|⟨x,y,rfl,h2,h3⟩
  .exact⟨ai,h2,λj hj=>by rcases Zb.1 hj with h|rfl<;>first|exact hJ j h|exact hn⟩
  .exact h3 (dv h2 hJ ai)
 .obtain rfl:k=m:=by omega
  exact(he s hs (bm.2 hJ)).mono λr hr=>by obtain⟨x,rfl,h⟩:=hr;exact h
def Ko{S X C:Type}(nZ:S->Int)(acc:S->C)(k:Nat)(c:C)(I:Nat->C->Prop):S⊕X->Prop
 | .inl s=>nZ s=((k+1:Nat):Int)/\acc s=c/\I (k+1) c
 | .inr _=>False
def Kp{S X:Type}(Q:X->Prop):S⊕X->Prop
 | .inl _=>False
 | .inr x=>Q x
theorem Ea{S X C:Type}{nZ:S->Int}{acc:S->C}{k:Nat}{c:C}{I:Nat->C->Prop}{s:S}:Ko (X:=X) nZ acc k c I (.inl s)=(nZ s=((k+1:Nat):Int)/\acc s=c/\I (k+1) c):=rfl
theorem Eb{S X:Type}{Q:X->Prop}{x:X}:Kp (S:=S) Q (.inr x)=Q x:=rfl
theorem Wp.fold{S X C α:Type}{body:S->Option (S⊕X)}{s0:S}{Q:X->Prop}(nZ:S->Int)(acc:S->C)(l:List α)(F:C->α->C)(c0:C)(I:Nat->C->Prop)(hm:l.length<=9223372036854775807)(h0:nZ s0=0)(hc:acc s0=c0)(hI:I 0 c0)
 (step:∀k s(h:k<l.length),nZ s=(k:Int)->I k (acc s)->Wp (body s) (Ko nZ acc k (F (acc s) l[k]) I))
 (fin:∀s,nZ s=(l.length:Int)->acc s=l.foldl F c0->I l.length (acc s)->Wp (body s) (Kp Q)):Wp (Loop body bd s0) Q:=by
 refine Wp.count nZ l.length (λk s=>acc s=(l.take k).foldl F c0/\I k (acc s)) hm h0 ⟨by rw[hc];rfl,hc▸hI⟩ λk s hk hs hJ=>?_
 rcases Nat.lt_or_ge k l.length with ai|hge
 .refine(step k s ai hs hJ.2).mono λr hr=>?_
  cases r with
  |inl s'=>
   obtain⟨h1,h2,h3⟩:=hr;refine⟨ai,h1,?_,h2▸h3⟩;rw[h2,hJ.1,<-Zk ai,List.foldl_append];rfl
  |inr x=>exact hr.elim
 .obtain rfl:k=l.length:=by omega
  rw[Zh]at hJ
  refine(fin s hs hJ.1 hJ.2).mono λr hr=>?_
  cases r with
  |inl s'=>exact hr.elim
  |inr x=>exact hr
theorem W_:type_of% @aai/\type_of% @gq/\type_of% @wp_bind/\type_of% @GX/\type_of% @Ce/\type_of% @GY/\type_of% @GW/\type_of% @Cf/\type_of% @uM/\type_of% @uN/\type_of% @if_true.{1}/\type_of% @if_false.{1}/\type_of% @ite_true.{1}/\type_of% @ite_false.{1}/\type_of% @Y8/\type_of% @Bool.true_eq_false/\type_of% @decide_true/\type_of% @decide_false/\type_of% @decide_eq_decide/\type_of% @true_eq_decide_iff/\type_of% @false_eq_decide_iff/\type_of% @aaW/\type_of% @decide_eq_false_iff_not/\type_of% @true_implies/\type_of% @false_implies/\type_of% @and_true/\type_of% @true_and/\type_of% @and_false/\type_of% @false_and/\type_of% @or_true/\type_of% @true_or/\type_of% @or_false/\type_of% @false_or/\type_of% @not_true_eq_false/\type_of% @not_false_eq_true/\type_of% @Bool.not_true/\type_of% @Bool.not_false/\type_of% @Bool.not_eq_true/\type_of% @Bool.not_eq_false/\type_of% @Bool.not_eq_eq_eq_not:=
 ⟨@aai,@gq,@wp_bind,@GX,@Ce,@GY,@GW,@Cf,@uM,@uN,@if_true.{1},@if_false.{1},@ite_true.{1},@ite_false.{1},@Y8,@Bool.true_eq_false,@decide_true,@decide_false,@decide_eq_decide,@true_eq_decide_iff,@false_eq_decide_iff,@aaW,@decide_eq_false_iff_not,@true_implies,@false_implies,@and_true,@true_and,@and_false,@false_and,@or_true,@true_or,@or_false,@false_or,@not_true_eq_false,@not_false_eq_true,@Bool.not_true,@Bool.not_false,@Bool.not_eq_true,@Bool.not_eq_false,@Bool.not_eq_eq_eq_not⟩
end Go.Proofs.YtbladfbbhijpmaaGreat
end
namespace Go.Proofs.YtbladfbbhijpmaaGreat
open Go Go.RowKit
set_option maxRecDepth 100000
set_option linter.unusedSimpArgs false
set_option linter.unusedVariables false
set_option linter.defProp false
namespace L
abbrev Ty:Type:=aa.den
abbrev lr(l:List Nat):List Int:=l.map (λn:Nat=>(n:Int))
def ar(op:Int):Int:=
 if(1<=op/\op<=9)\/(35<=op/\op<=39)then 0 else if op=10\/op=25\/(31<=op/\op<=34)then 1 else if(11<=op/\op<=24)\/(27<=op/\op<=30)then 2 else if op=26 then 3 else-1
theorem Cg(op:Int):ar op<=3:=by unfold ar;omega
def ME(a:Int)(i:Nat)(sk:List Nat):Nat:=if a=0 then i else sk.getD (sk.length-a.toNat) 0
def oT:List Ty->Nat->List Nat->List Nat->(Nat×Int)⊕(List Nat×List Nat)
 |[],_,st,sk=> .inr (st,sk)
 |n::e,i,st,sk=>
  if ar n.1<0 then .inl (i,2)else if(sk.length:Int)<ar n.1 then .inl (i,5)else
  if 12<sk.length-(ar n.1).toNat+1 then .inl (i,16)else oT e (i+1) (st++[ME (ar n.1) i sk]) (sk.take (sk.length-(ar n.1).toNat)++[ME (ar n.1) i sk])
def AN(e:List Ty):Int×Int×List Int:=
 if 48<e.length then(0,4,[])else if e.length=0 then(0,5,[])else match oT e 0 [] []with
  | .inl (i,c)=>(i,c,[])
  | .inr (st,sk)=>if 1<sk.length then(e.length,4,[])else(0,0,lr st)
def jO(t:Ty)(n:Nat):Prop:=(1<=(t.1:Int)/\(t.1:Int)<=5/\(t.2:Int)=0)\/((t.1:Int)=6/\0<=(t.2:Int)/\(t.2:Int)<n)
instance(t:Ty)(n:Nat):Decidable (jO t n):=by unfold jO;infer_instance
def VR(r:Ty):Prop:=0<=(r.1:Int)/\(r.1:Int)<=r.2/\(r.2:Int)<=109573
instance(r:Ty):Decidable (VR r):=by unfold VR;infer_instance
theorem EU(a b:Ty):ku aa a b=decide (a=b):=by
 unfold ku;exact decide_eq_decide.2 Iff.rfl
end L
section
namespace L
abbrev En:Type:=cD.den
abbrev LK:Type:=cu.den
abbrev Rw:Type:=gN.den
abbrev Fd:Type:=bi.den
abbrev Lw:Type:=ew.den
abbrev jH:Type:=aW.den
abbrev fT:Type:=cB.den
theorem yu(c:Int):M.jZ bd c=some (decide (97<=c/\c<=122)):=by
 apply Wp.eq;unfold M.jZ;simp only[W_,aaT,aaU,reduceCtorEq];omega
theorem GZ(c:Int):M.mh bd c=some (decide (48<=c/\c<=57)):=by
 apply Wp.eq;unfold M.mh;simp only[W_,aaT,aaU,reduceCtorEq];omega
theorem Jj(c:Int):M.nV bd c=some (decide ((97<=c/\c<=122)\/(48<=c/\c<=57)\/c=95)):=by
 apply Wp.eq;unfold M.nV;simp only[yu,GZ,W_,aaT,aaU,reduceCtorEq];omega
noncomputable def iQ(s:ByteArray):Bool:=(M.gx bd s).getD aaM
def eR{β:Type}(l:List (ByteArray×β))(nm:ByteArray):Prop:=∃x∈l,x.1=nm
noncomputable instance{β:Type}(l:List (ByteArray×β))(nm:ByteArray):Decidable (eR l nm):=ZG _
noncomputable instance(m:ByteArray)(l:List ByteArray):Decidable (m∈l):=ZG _
theorem bJ{p:Nat->Prop}{k:Nat}(h:∀j,j<k->p j)(hk:p k):∀j,j<k+1->p j:=λj hj=>by
 rcases Zb.1 hj with h1|rfl
 .exact h j h1
 .exact hk
open Classical in
theorem bo(t:Ty)(E:List En):M.dJ bd t E=some (decide (jO t E.length)):=by
 obtain⟨(k:Int),(e:Int)⟩:=t;apply Wp.eq;unfold M.dJ;simp only[W_,aaT,aaU,reduceCtorEq];simp only[jO];dsimp only[ae,Row.den]at*;omega
theorem Oz(r:Ty):M.mj bd r=some (decide (VR r)):=by
 obtain⟨(k:Int),(e:Int)⟩:=r;apply Wp.eq;unfold M.mj;simp only[W_,aaT,aaU,reduceCtorEq];simp only[VR];dsimp only[ae,Row.den]at*;omega
def DQ(t:Ty)(E:List En):Int×Int:=
 if¬jO t E.length then(0,-1)else if(t.1:Int)=1 then(0,1)else if(t.1:Int)=2 then(-1000000000000,1000000000000)else if(t.1:Int)=3 then(-1000000000000000,1000000000000000)else if(t.1:Int)=4 then(-1000000000,1000000000)else if(t.1:Int)=5 then(0,109572)
 else(0,YW.wrap ((((E[(t.2:Int).toNat]?).map λe=>(e.2.length:Int)).getD 0)-1))
theorem LL(t:Ty)(E:List En):M.lj bd t E=some (DQ t E):=by
 obtain⟨(k:Int),(e:Int)⟩:=t;apply Wp.eq;unfold M.lj DQ;simp only[bo,W_,aaT,aaU,reduceCtorEq];by_cases hv:jO (k,e) E.length
 .simp only[hv,not_true_eq_false,if_false,false_implies,true_implies,true_and];refine⟨λh=>by rw[aaP h],λh1=>⟨λh=>by rw[aaO h1,aaP h],λh2=>⟨λh=>by rw[aaO h1,aaO h2,aaP h],λh3=>⟨λh=>by rw[aaO h1,aaO h2,aaO h3,aaP h],λh4=>⟨λh=>by rw[aaO h1,aaO h2,aaO h3,aaO h4,aaP h],λh5=>?_⟩⟩⟩⟩⟩;simp only[jO]at hv;dsimp only[ae,Row.den]at*
  have hi:e.toNat<E.length:=by omega
  refine dz.2 ⟨by omega,?_⟩;rw[aaO h1,aaO h2,aaO h3,aaO h4,aaO h5,YX hi];rfl
 .simp only[hv,not_false_eq_true,if_true,true_implies,false_implies,and_true]
def zn(n:Int)(t:Ty)(E:List En):Prop:=(DQ t E).1<=n/\n<=(DQ t E).2
instance(n:Int)(t:Ty)(E:List En):Decidable (zn n t E):=by unfold zn;infer_instance
def sC(x:Rw)(t:LK)(E:List En):Prop:=¬VR x.1\/(x.1.1:Int)=x.1.2\/(x.2.2.1:Int)<=x.2.1\/¬zn x.2.1 t.2.1 E\/¬zn (YW.wrap ((x.2.2.1:Int)-1)) t.2.1 E\/¬zn x.2.2.2 t.2.2.1 E
instance(x:Rw)(t:LK)(E:List En):Decidable (sC x t E):=by unfold sC;infer_instance
def qA(a b:Rw):Prop:=VR a.1/\VR b.1/\((a.1.1:Int)<a.1.2/\(a.1.1:Int)<b.1.2/\(b.1.1:Int)<a.1.2/\(b.1.1:Int)<b.1.2)/\(a.2.1:Int)<a.2.2.1/\(a.2.1:Int)<b.2.2.1/\(b.2.1:Int)<a.2.2.1/\(b.2.1:Int)<b.2.2.1
instance(a b:Rw):Decidable (qA a b):=by simp only[qA];dsimp only[ae,Row.den]at*;infer_instance
open Classical in
noncomputable def wa(t:LK)(E:List En)(k:Nat):Option (Int×Int):=match t.2.2.2[k]? with
 |none=>aaK
 |some x=>if sC x t E then some ((k:Int),3)else if∃y∈t.2.2.2.take k,qA y x then some ((k:Int),11)else aaK
noncomputable def nl(t:LK)(E:List En):Int×Int:=
 if 64<t.2.2.2.length then(64,4)else if¬(jO t.2.1 E.length/\jO t.2.2.1 E.length)then(-1,8)else(bQ (wa t E) t.2.2.2.length).getD (0,0)
end L
end
namespace L
abbrev o8:Type:=bg.den
theorem au(op:Int):M.kj bd op=some (decide ((1<=op/\op<=8)\/(14<=op/\op<=16)\/op=33\/op=34\/(36<=op/\op<=39))):=by
 apply Wp.eq;unfold M.kj;simp only[W_,aaT,aaU,reduceCtorEq];omega
theorem av(k:Int):M.gZ bd k=some (decide (k=2\/k=3\/k=4)):=by
 apply Wp.eq;unfold M.gZ;simp only[W_,aaT,aaU,reduceCtorEq];omega
theorem aq(k:Int):M.e7 bd k=some (decide (k=2\/k=3\/k=4\/k=5)):=by
 apply Wp.eq;unfold M.e7;simp only[av,W_,aaT,aaU,reduceCtorEq];omega
theorem aH(k:Int):M.cz bd k=some ((k,(0:Int)):Ty):=rfl
def yv(op m:Int)(s:o8):Prop:=(1<=op/\op<=5->zn m (op,(0:Int)) s.1)/\(14<=op/\op<=16->0<=m/\m<=5)/\(op=34->0<=m/\aaq m 8<=5)/\(op=6->0<=m)
instance(op m:Int)(s:o8):Decidable (yv op m s):=by unfold yv;infer_instance
theorem sD(n:Ty)(s:o8):M.jh bd n s=some (decide (yv n.1 n.2 s)):=by
 obtain⟨(op:Int),(m:Int)⟩:=n;apply Wp.eq;unfold M.jh;simp only[aH,LL,W_,aaT,aaU,reduceCtorEq];unfold yv zn;dsimp only[ae,Row.den]at*;generalize DQ (op,(0:Int)) s.1=b;omega
def Jk(op m:Int)(s:o8):Prop:=
 (op=6->YW.wrap (Z6 m 16)<(s.1.length:Int)/\aaq m 16<(((s.1[(YW.wrap (Z6 m 16)).toNat]?).map λe=>(e.2.length:Int)).getD 0))/\
 (op=7->0<=m/\m<(s.2.2.1.length:Int))/\(op=8->0<=m/\m<(s.2.2.2.1.length:Int))/\(op=33->0<=m/\m<(s.2.1.length:Int))/\(op=34->YW.wrap (Z6 m 8)<(s.2.1.length:Int))/\
 (35<=op/\op<=39->s.2.2.2.2.2=aaL)/\(36<=op/\op<=39->0<=m/\m<(s.2.2.2.2.1.length:Int))
instance(op m:Int)(s:o8):Decidable (Jk op m s):=by unfold Jk;infer_instance
theorem Ch{m k:Int}(h0:0<=m)(h1:m<=9223372036854775807)(hk:0<k):0<=YW.wrap (Z6 m k):=by
 have h2:0<=Z6 m k:=Int.tdiv_nonneg h0 (by omega)
 have h3:Z6 m k<=m:=by rw[Int.tdiv_eq_ediv_of_nonneg h0];exact Int.ediv_le_self _ h0
 rw[ed (by omega) (by omega)];exact h2
theorem LM(n:Ty)(s:o8)(hm:(n.2:Int)<=9223372036854775807)(hr:yv n.1 n.2 s):M.aU bd n s=some (decide (Jk n.1 n.2 s)):=by
 obtain⟨(op:Int),(m:Int)⟩:=n;apply Wp.eq;unfold M.aU;simp only[W_,aaT,aaU,reduceCtorEq];unfold Jk;unfold yv at hr;dsimp only[ae,Row.den]at*;refine⟨λh6=>⟨λh=>?_,λh=>?_⟩,λh6=>?_⟩
 .have h0:=Ch (k:=16) (hr.2.2.2 h6) hm (by omega);refine dz.2 ⟨⟨h0,h⟩,?_⟩;rw[YX (show(YW.wrap (Z6 m 16)).toNat<s.1.length by omega)];exact⟨λg=>⟨λ_=>⟨h,g⟩,by omega,by omega,by omega,by omega,λ_=>by omega,by omega⟩,λg=>(g.1 h6).2⟩
 .exact λg=>h (g.1 h6).1
 simp only[h6,W_,aaT,aaU,reduceCtorEq]
 cases h5:s.2.2.2.2.2<;>simp only[imp_false,W_,aaT,aaU,reduceCtorEq]<;>omega
theorem G0{op m:Int}{s:o8}(hf:Jk op m s):Wp (M.bC bd (op,m) s) λ_=>True:=by
 unfold M.bC;simp only[aH,aq,bo,W_,aaT,aaU,reduceCtorEq];unfold Jk at hf;dsimp only[ae,Row.den]at*
 refine λh6=>⟨λh7=>?_,λh7=>⟨λh8=>?_,λh8=>λh9 Yw=>?_⟩⟩
 .exact dz.2 ⟨hf.2.1 h7,trivial⟩
 .exact dz.2 ⟨hf.2.2.1 h8,trivial⟩
 .by_cases h:36<=op/\op<=39
  .have:Wp (idx s.2.2.2.2.1 m) λ_=>True:=dz.2 ⟨hf.2.2.2.2.2.2 h,trivial⟩
   simp only[this,W_,aaT,aaU,reduceCtorEq]
  .simp only[show¬op=36 by omega,show¬op=37 by omega,show¬op=38 by omega,show¬op=39 by omega,W_,aaT,aaU,reduceCtorEq]
theorem AO{op m:Int}{a:Ty}{s:o8}(hm:m<=9223372036854775807)(h1:ar op=1)(hr:yv op m s)(hf:Jk op m s):Wp (M.cx bd (op,m) a s) λ_=>True:=by
 have tl:op=10\/op=25\/(31<=op/\op<=34):=by
  clear hr hf;unfold ar at h1;omega
 unfold M.cx;simp only[aH,av,bo,W_,aaT,aaU,reduceCtorEq];unfold Jk at hf;unfold yv at hr;dsimp only[ae,Row.den]at*
 have key:¬op=31->¬op=32->¬op=10->¬op=25->(op=33->Wp (idx s.2.1 m) λ_=>True)/\(¬op=33->Wp (idx s.2.1 (YW.wrap (m.tdiv 8))) λ_=>True):=by
  refine λPF Um OA Un=>⟨λOB=>dz.2 ⟨hf.2.2.2.1 OB,trivial⟩,λOB=>?_⟩
  have LN:op=34:=by clear hr hf;omega
  exact dz.2 ⟨⟨Ch (hr.2.2.1 LN).1 hm (by omega),hf.2.2.2.2.1 LN⟩,trivial⟩
 exact λOA Un=>⟨λPF g=>absurd PF g,λPF Um=>key PF Um OA Un⟩
theorem AP(op a b:Int):Wp (M.hU bd op a b) λ_=>True:=by
 unfold M.hU;simp only[aH,W_,aaT,aaU,reduceCtorEq]
theorem AQ(op:Int)(a b:Ty):Wp (M.eQ bd op a b) λ_=>True:=by
 obtain⟨r,e,_⟩:=AP op a.1 b.1;unfold M.eQ
 repeat' first|exact Wp.some trivial|exact⟨_,av _,trivial⟩|exact⟨_,aq _,trivial⟩|exact⟨_,aH _,trivial⟩|exact⟨_,e,trivial⟩|refine Wp.seq (λ_=>True) ?_ λ_ _=>?_|refine Wp.dec (λ_=>?_) λ_=>?_|refine Wp.ite (λ_=>?_) λ_=>?_
noncomputable def G1(n:Ty)(l:List Ty)(s:o8):Ty×Int:=(M.aC bd n l s).getD (((0:Int),(0:Int)),(0:Int))
theorem G2{n:Ty}{l:List Ty}{s:o8}(hw:WF aa n)(hl:(l.length:Int)=ar n.1):M.aC bd n l s=some (G1 n l s):=by
 refine(Wp.getD (Q:=λ_=>True) ?_ _).1;have hm:(n.2:Int)<=9223372036854775807:=hw.2.2;have h3:=Cg n.1
 have key:Wp (M.jh bd n s) λx=>x=aaL->Wp (M.aU bd n s) λx=>x=aaL->((l.length:Int)=0->Wp (M.bC bd n s) λ_=>True)/\(¬(l.length:Int)=0->((l.length:Int)=1->Wp (idx l 0) λx=>Wp (M.cx bd n x s) λ_=>True)/\
  (¬(l.length:Int)=1->((l.length:Int)=2->Wp (idx l 0) λx=>Wp (idx l 1) λXm=>Wp (M.eQ bd n.1 x Xm) λ_=>True)/\(¬(l.length:Int)=2->Wp (idx l 1) λ_=>Wp (idx l 0) λx=>(x.1:Int)=1->Wp (idx l 1) λ_=>Wp (idx l 2) λ_=>True))):=by
  rw[sD]
  refine .some λhr=>?_
  have hr:yv n.1 n.2 s:=aaQ hr;rw[LM n s hm hr]
  refine .some λhf=>?_
  have hf:Jk n.1 n.2 s:=aaQ hf;exact⟨λ_=>G0 hf,λh0=>⟨λh1=>dz.2 ⟨by omega,AO hm (by omega) hr hf⟩,λh1=>⟨λh2=>dz.2 ⟨by omega,dz.2 ⟨by omega,AQ ..⟩⟩,λh2=>dz.2 ⟨by omega,dz.2 ⟨by omega,λ_=>dz.2 ⟨by omega,dz.2 ⟨by omega,trivial⟩⟩⟩⟩⟩⟩⟩
 unfold M.aC;simp only[au,W_,aaT,aaU,reduceCtorEq];exact⟨λ_ _=>key,λ_=>key⟩
noncomputable def nB(s:o8):List Ty->Nat->List Ty->(Nat×Int)⊕List Ty
 |[],_,kR=> .inr kR
 |n::e,i,kR=>
  if(G1 n (kR.drop (kR.length-(ar n.1).toNat)) s).2≠0 then .inl (i,(G1 n (kR.drop (kR.length-(ar n.1).toNat)) s).2)
  else nB s e (i+1) (kR.take (kR.length-(ar n.1).toNat)++[(G1 n (kR.drop (kR.length-(ar n.1).toNat)) s).1])
noncomputable def Jl(e:List Ty)(s:o8):Ty×Int×Int:=
 if(AN e).2.1≠0 then(((0:Int),(0:Int)),(AN e).1,(AN e).2.1)else match nB s e 0 []with
  | .inl (i,c)=>(((0:Int),(0:Int)),(i:Int),c)
  | .inr kR=>(kR.headD ((0:Int),(0:Int)),0,0)
theorem Jm{e:List Ty}(h:(AN e).2.1=0):e.length<=48/\e≠[]/\∃st sk,oT e 0 [] []= .inr (st,sk):=by
 unfold AN at h;split at h
 .cases h
 split at h
 .cases h
 rename_i h1 h2;refine⟨by omega,λe=>h2 (by rw[e];rfl),?_⟩;split at h
 .rename_i c hc;exfalso
  have:∀(e:List Ty)(i:Nat)(st sk:List Nat)(j:Nat),oT e i st sk≠ .inl (j,0):=by
   intro e
   induction e with
   |nil=>intro i st sk j h;cases h
   |cons n e ih=>
    intro i st sk j h;rw[oT]at h;split at h
    .cases h
    split at h
    .cases h
    split at h
    .cases h
    exact ih _ _ _ _ h
  have Xn:c=0:=h;subst Xn;exact this _ _ _ _ _ hc
 .rename_i st sk hs;exact⟨st,sk,hs⟩
end L
namespace L
def ins(n:Int):List Int->List Int
 |[]=>[n]
 |x::l=>if x<n then x::ins n l else if x=n then x::l else n::x::l
theorem G3(n x:Int)(l:List Int):ins n (x::l)=if x<n then x::ins n l else if x=n then x::l else n::x::l:=rfl
theorem kc{n y:Int}:∀{l:List Int},y∈ins n l↔y=n\/y∈l
 |[]=>by simp[ins]
 |x::l=>by
  unfold ins;split
  .rw[Y6,kc,Y6];exact⟨λh=>by rcases h with h|h|h<;>simp[h],λh=>by rcases h with h|h|h<;>simp[h]⟩
  split
  .rename_i h;subst h;simp
  .simp
def lu(p:Int->Bool)(e:List Ty):List Int:=e.foldl (λl n=>if p n.1=aaL then ins n.2 l else l) []
def qB(op:Int):Bool:=decide (op=8)
def qC(n:Nat)(l:List Int):Prop:=l.Pairwise (· < ·)/\∀x∈l,0<=x/\x<(n:Int)
theorem qC.nil{n:Nat}:qC n []:=⟨.nil,λ_ h=>by cases h⟩
theorem LO{l:List Int}:∀{a b:Int},l.Pairwise (· < ·)->(∀x∈l,a<=x/\x<b)->(l.length:Int)<=max 0 (b-a):=by
 induction l with
 |nil=>intro a b _ _;simp;omega
 |cons x l ih=>
  intro a b hp hb;obtain⟨h1,h2⟩:=Zu.1 hp;have hx:=hb x (Zz ..)
  have:=ih (a:=x+1) (b:=b) h2 λy hy=>⟨h1 y hy,(hb y (Zm _ hy)).2⟩
  simp only[Ze];omega
theorem qC.len{n:Nat}{l:List Int}(h:qC n l):l.length<=n:=by
 have:=LO h.1 h.2;omega
theorem AR{n:Int}:∀{l:List Int},l.Pairwise (· < ·)->(ins n l).Pairwise (· < ·)
 |[],_=>List.pairwise_singleton ..
 |x::l,h=>by
  obtain⟨h1,h2⟩:=Zu.1 h;rw[G3];split
  .exact Zu.2 ⟨λy hy=>by rcases kc.1 hy with rfl|hy;assumption;exact h1 y hy,AR h2⟩
  split
  .exact h
  .refine Zu.2 ⟨λy hy=>?_,h⟩
   rcases Y6.1 hy with rfl|hy
   .omega
   .have:=h1 y hy;omega
theorem qC.ins{n:Nat}{x:Int}{l:List Int}(h:qC n l)(hx:0<=x/\x<(n:Int)):qC n (ins x l):=
 ⟨AR h.1,λy hy=>by rcases kc.1 hy with rfl|hy;exact hx;exact h.2 y hy⟩
def ke(n:Nat)(out l:List Int):List Int:=l.foldl (λo x=>if 0<=x/\x<(n:Int)then ins x o else o) out
theorem qC.ke{n:Nat}:∀{l out:List Int},qC n out->qC n (ke n out l)
 |[],_,h=>h
 |x::l,out,h=>by
  show qC n (L.ke n (if 0<=x/\x<(n:Int)then L.ins x out else out) l)
  refine qC.ke ?_;split
  .exact h.ins ‹_›
  .exact h
def iR(s:jH)(d:Int):List Int:=
 if 0<=d/\d<(s.2.2.2.1.length:Int)then s.2.2.2.2.foldl (λout r=>if(r.2.1:Int)=d then ke s.2.2.2.1.length (ke s.2.2.2.1.length out (lu qB r.2.2.2.2.2.1)) (lu qB r.2.2.2.2.2.2.1)else out) []else[]
theorem mv(s:jH)(d:Int):qC s.2.2.2.1.length (iR s d):=by
 unfold iR;split
 .suffices∀(rs:List fT)(out:List Int),qC s.2.2.2.1.length out->qC s.2.2.2.1.length (rs.foldl (λout r=>if(r.2.1:Int)=d then ke s.2.2.2.1.length (ke s.2.2.2.1.length out (lu qB r.2.2.2.2.2.1)) (lu qB r.2.2.2.2.2.2.1)else out) out)from this _ _ .nil
  intro rs
  induction rs with
  |nil=>intro out h;exact h
  |cons r rs ih=>
   intro out h;rw[ZT];refine ih _ ?_;split
   .exact h.ke.ke
   .exact h
 .exact .nil
def stepT(s:jH)(out:List Int):List Int:=out.foldl (λo x=>(iR s x).foldl (λo y=>ins y o) o) out
def gF(s:jH):Nat->List Int->List Int
 |0,out=>out
 |n+1,out=>stepT s (gF s n out)
def EV(s:jH)(d:Int):List Int:=gF s s.2.2.2.1.length (iR s d)
theorem qC.G4{n:Nat}:∀{l out:List Int},(∀x∈l,0<=x/\x<(n:Int))->qC n out->qC n (l.foldl (λo y=>L.ins y o) out)
 |[],_,_,h=>h
 |x::l,out,hx,h=>qC.G4 (l:=l) (out:=L.ins x out) (λy hy=>hx y (Zm _ hy)) (h.ins (hx x (Zz ..)))
theorem nc(s:jH){out:List Int}(h:qC s.2.2.2.1.length out):qC s.2.2.2.1.length (stepT s out):=by
 unfold stepT
 suffices∀(l o:List Int),qC s.2.2.2.1.length o->qC s.2.2.2.1.length (l.foldl (λo x=>(iR s x).foldl (λo y=>ins y o) o) o)from this _ _ h
 intro l
 induction l with
 |nil=>intro o h;exact h
 |cons x l ih=>intro o h;exact ih _ (h.G4 (mv s x).2)
end L
namespace L
def p4(s:jH):Prop:=s.1.size<=80/\s.2.2.1.length<=14/\s.2.2.2.1.length<=14/\s.2.2.2.2.length<=60/\(∀f∈s.2.2.1,f.1.size<=80)/\(∀f∈s.2.2.2.1,f.1.size<=80)/\∀r∈s.2.2.2.2,r.1.size<=80/\r.2.2.2.2.2.2.2.size<=80/\r.2.2.2.2.2.1.length<=50/\r.2.2.2.2.2.2.1.length<=50
def ko(l:Lw):Prop:=l.1.length<=9/\l.2.1.length<=9/\l.2.2.length<=5/\(∀e∈l.1,e.1.size<=80/\e.2.length<=20/\∀m∈e.2,m.size<=80)/\(∀t∈l.2.1,t.1.size<=80)/\∀s∈l.2.2,p4 s
theorem n4{α:Type}{l:List α}{p:α->Prop}(h:∀j,j<l.length->∀h:j<l.length,p l[j]):∀x∈l,p x:=λx hx=>by
 obtain⟨j,hj,rfl⟩:=ZJ hx;exact h j hj hj
theorem Ec(s:jH)(hw:WF aW s):Wp (M.gj bd s) λr=>r=aaL->p4 s:=by
 have w1:=hw.2.2.1.1;have w2:=hw.2.2.2.1.1;have w3:=hw.2.2.2.2.1;unfold maxLen at w1 w2 w3;unfold M.gj;simp only[W_,aaT,aaU,reduceCtorEq]
 refine λh1 h2 h3 h4=>?_
 refine Wp.count (λs=>s) s.2.2.1.length (λk _=>∀j,j<k->∀h:j<s.2.2.1.length,(s.2.2.1[j].1:ByteArray).size<=80) w1 rfl (λj hj=>by omega) λk c hk hs hA=>?_
 obtain rfl:c=_:=hs;simp only[W_,aaT,aaU,reduceCtorEq,aQ,aI];refine⟨λai=>?_,λhge=>?_⟩
 .have ai:k<s.2.2.1.length:=by omega
  simp only[ao ai,cX w1 ai,W_,aaT,aaU,reduceCtorEq]
  exact λh=>⟨ai,bJ hA λ_=>by omega⟩
 have hA:=λj(hj:j<s.2.2.1.length)=>hA j (by omega)
 refine Wp.count (λs=>s) s.2.2.2.1.length (λk _=>∀j,j<k->∀h:j<s.2.2.2.1.length,(s.2.2.2.1[j].1:ByteArray).size<=80) w2 rfl (λj hj=>by omega) λk c hk hs hB=>?_
 obtain rfl:c=_:=hs;simp only[W_,aaT,aaU,reduceCtorEq,aQ,aI];refine⟨λai=>?_,λhge=>?_⟩
 .have ai:k<s.2.2.2.1.length:=by omega
  simp only[ao ai,cX w2 ai,W_,aaT,aaU,reduceCtorEq]
  exact λh=>⟨ai,bJ hB λ_=>by omega⟩
 have hB:=λj(hj:j<s.2.2.2.1.length)=>hB j (by omega)
 refine Wp.count (λs=>s) s.2.2.2.2.length (λk _=>∀j,j<k->∀h:j<s.2.2.2.2.length,(s.2.2.2.2[j].1:ByteArray).size<=80/\(s.2.2.2.2[j].2.2.2.2.2.2.2:ByteArray).size<=80/\s.2.2.2.2[j].2.2.2.2.2.1.length<=50/\s.2.2.2.2[j].2.2.2.2.2.2.1.length<=50) w3 rfl (λj hj=>by omega) λk c hk hs hC=>?_
 obtain rfl:c=_:=hs;simp only[W_,aaT,aaU,reduceCtorEq,aQ,aI];refine⟨λai=>?_,λhge=>?_⟩
 .have ai:k<s.2.2.2.2.length:=by omega
  simp only[ao ai,cX w3 ai,W_,aaT,aaU,reduceCtorEq]
  exact λh1 h2 h3 h4=>⟨ai,bJ hC λ_=>⟨by omega,by omega,by omega,by omega⟩⟩
 exact⟨by omega,by omega,by omega,by omega,n4 hA,n4 hB,n4 λj hj=>hC j (by omega)⟩
theorem Ed(l:Lw)(hw:WF ew l):Wp (M.iD bd l) λr=>r=aaL->ko l:=by
 have w1:=hw.1.1;have w2:=hw.2.1.1;have w3:=hw.2.2.1;unfold maxLen at w1 w2 w3;unfold M.iD;simp only[W_,aaT,aaU,reduceCtorEq]
 refine λh1 h2 h3=>?_
 refine Wp.count (λs=>s) l.1.length (λk _=>∀j,j<k->∀h:j<l.1.length,(l.1[j].1:ByteArray).size<=80/\l.1[j].2.length<=20/\∀m∈l.1[j].2,ByteArray.size m<=80) w1 rfl (λj hj=>by omega) λk c hk hs hA=>?_
 obtain rfl:c=_:=hs;simp only[W_,aaT,aaU,reduceCtorEq,aQ,aI];refine⟨λai=>?_,λhge=>?_⟩
 .have ai:k<l.1.length:=by omega
  simp only[ao ai,cX w1 ai,W_,aaT,aaU,reduceCtorEq]
  refine λg1 g2=>?_
  refine Wp.count (λs=>s) l.1[k].2.length (λi _=>∀j,j<i->∀h:j<l.1[k].2.length,ByteArray.size l.1[k].2[j]<=80) (by omega) rfl (λj hj=>by omega) λi c hi hs hB=>?_
  obtain rfl:c=_:=hs;simp only[W_,aaT,aaU,reduceCtorEq,aQ,aI];refine⟨λnC=>?_,λnC=>⟨ai,bJ hA λ_=>⟨by omega,by omega,n4 λj hj=>hB j (by omega)⟩⟩⟩
  have nC:i<l.1[k].2.length:=by omega
  simp only[ao nC,cX (m:=l.1[k].2.length) (by omega) nC,W_,aaT,aaU,reduceCtorEq]
  exact λh=>⟨nC,bJ hB λ_=>by omega⟩
 have hA:=λj(hj:j<l.1.length)=>hA j (by omega)
 refine Wp.count (λs=>s.2) l.2.1.length (λk _=>∀j,j<k->∀h:j<l.2.1.length,(l.2.1[j].1:ByteArray).size<=80) w2 rfl (λj hj=>by omega) λk c hk hs hB=>?_
 obtain⟨c1,c2⟩:=c;dsimp only at hs;subst hs;simp only[W_,aaT,aaU,reduceCtorEq,aQ,aI];refine⟨λai=>?_,λhge=>?_⟩
 .have ai:k<l.2.1.length:=by omega
  simp only[ao ai,cX w2 ai,W_,aaT,aaU,reduceCtorEq]
  exact λh _=>⟨ai,bJ hB λ_=>by omega⟩
 have hB:=λj(hj:j<l.2.1.length)=>hB j (by omega)
 refine Wp.count (λs=>s.2) l.2.2.length (λk _=>∀j,j<k->∀h:j<l.2.2.length,p4 l.2.2[j]) w3 rfl (λj hj=>by omega) λk c hk hs hC=>?_
 obtain⟨c1,c2⟩:=c;dsimp only at hs;subst hs;simp only[W_,aaT,aaU,reduceCtorEq,aQ,aI];refine⟨λai=>?_,λhge=>?_⟩
 .have ai:k<l.2.2.length:=by omega
  simp only[ao ai,cX w3 ai,W_,aaT,aaU,reduceCtorEq]
  refine λh=>(Ec _ (hw.2.2.2 _ (Y0 ai))).mono λr hr Bp=>⟨ai,bJ hC λ_=>hr Bp⟩
 exact⟨by omega,by omega,by omega,n4 hA,n4 hB,n4 λj hj=>hC j (by omega)⟩
abbrev LE:Type:=bx.den
def Ee:LE:=((0:Int),((0:Int),((0:Int),(0:Int))))
def oU(sec:Int)(k:Int):Option (Int×Int)->LE
 |none=>Ee
 |some (c,e)=>(c,(sec,(k,e)))
noncomputable def G5(ms:List ByteArray)(i:Nat):Option (Int×Int):=match ms[i]? with
 |none=>aaK
 |some m=>if iQ m=aaM then some (2,100+(i:Int))else if m∈ms.take i then some (7,100+(i:Int))else aaK
noncomputable def mw(l:Lw)(k:Nat):Option (Int×Int):=match l.1[k]? with
 |none=>aaK
 |some x=>if iQ x.1=aaM then some (2,0)else if eR (l.1.take k) x.1 then some (7,0)else if x.2.length=0 then some (5,0)else if 16<x.2.length then some (4,116)else bQ (G5 x.2) x.2.length
theorem oV{k:Nat}{a:Int}(h:k<=100000)(ha:0<=a/\a<=1000):YW.wrap (a+(k:Int))=a+(k:Int):=ed (by omega) (by omega)
end L
namespace L
noncomputable def p5(l:Lw)(k:Nat):Option (Int×Int):=match l.2.1[k]? with
 |none=>aaK
 |some x=>if iQ x.1=aaM then some (2,0)else if eR l.1 x.1\/eR (l.2.1.take k) x.1 then some (7,0)else if(nl x l.1).2=0 then aaK else some ((nl x l.1).2,if 0<=(nl x l.1).1 then 100+(nl x l.1).1 else 0)
noncomputable def G6(l:Lw)(x:jH)(i:Nat):Option (Int×Int):=match x.2.2.1[i]? with
 |none=>aaK
 |some f=>if iQ f.1=aaM then some (2,100+(i:Int))else if eR (x.2.2.1.take i) f.1 then some (7,100+(i:Int))else if¬jO f.2 l.1.length then some (8,100+(i:Int))else aaK
noncomputable def G7(l:Lw)(x:jH)(i:Nat):Option (Int×Int):=match x.2.2.2.1[i]? with
 |none=>aaK
 |some f=>if iQ f.1=aaM then some (2,200+(i:Int))else if eR x.2.2.1 f.1\/eR (x.2.2.2.1.take i) f.1 then some (7,200+(i:Int))else if¬jO f.2 l.1.length then some (8,200+(i:Int))else aaK
noncomputable def Ef(l:Lw)(x:jH):Option (Int×Int):=(bQ (G6 l x) x.2.2.1.length).or (bQ (G7 l x) x.2.2.2.1.length)
def plain(s:ByteArray):Prop:=(∀i,∀h:i<s.size,32<=(s[i].toNat:Int)/\(s[i].toNat:Int)<=126/\(s[i].toNat:Int)≠34)/\s.size<=64
noncomputable instance(s:ByteArray):Decidable (plain s):=ZG _
theorem sE(f:List Fd)(hf:f.length<=100000):M.eC bd f=some (f.map (·.2)):=by
 apply Wp.eq;unfold M.eC
 refine Wp.fold (λs=>s.1) (λs=>s.2) f (λ(o:List Ty)x=>o++[x.2]) [] (λk c=>c.length<=k) (by omega) rfl rfl (YY _) (λk s ai hs hI=>?_) λs hs hc hI=>?_
 .obtain⟨i,o⟩:=s;dsimp only at hs hI;subst hs;simp only[AM ai,ao ai,cX (m:=f.length) (by omega) ai,W_,aaT,aaU,reduceCtorEq,Ea];exact nY.2 ⟨by simp;omega,rfl,by simp;omega⟩
 .obtain⟨i,o⟩:=s;dsimp only at hs hc;subst hs;simp only[eE,W_,aaT,aaU,reduceCtorEq,Eb];rw[hc]
  have:∀(f:List Fd)(o:List Ty),f.foldl (λ(o:List Ty)x=>o++[x.2]) o=o++f.map (·.2):=by
   intro f
   induction f with
   |nil=>intro o;simp
   |cons x f ih=>intro o;rw[ZT,ih];simp
  rw[this];rfl
def fL(l:Lw)(x:jH):o8:=(l.1,(l.2.1,(x.2.2.1.map (·.2),(x.2.2.2.1.map (·.2),(match l.2.2[(x.2.1:Int).toNat]? with
 |some y=>if 0<=(x.2.1:Int)then y.2.2.2.1.map (·.2)else[]
 |none=>[],decide (0<=(x.2.1:Int)/\(x.2.1:Int)<(l.2.2.length:Int)))))))
theorem Jn(l:Lw)(k:Nat)(hk:k<l.2.2.length)(hs:∀s∈l.2.2,s.2.2.1.length<=100000/\s.2.2.2.1.length<=100000):M.iZ bd l (k:Int)=some ((fL l l.2.2[k]).1,(fL l l.2.2[k]).2.1,(fL l l.2.2[k]).2.2.2.2.2,(fL l l.2.2[k]).2.2.1,(fL l l.2.2[k]).2.2.2.1,(fL l l.2.2[k]).2.2.2.2.1):=by
 apply Wp.eq;unfold M.iZ;have h1:=hs _ (Y0 hk);simp only[show¬(k:Int)<0 by omega,show¬(l.2.2.length:Int)<=(k:Int) by omega,ao hk,sE _ h1.1,sE _ h1.2,W_,aaT,aaU,reduceCtorEq];unfold fL;generalize l.2.2[k]=x at*;obtain⟨x1,(x2:Int),x3,x4,x5⟩:=x;dsimp only[ae,Row.den]at*;refine⟨λh=>⟨λh'=>?_,λh'=>?_⟩,λh=>?_⟩
 .refine dz.2 ⟨by omega,?_⟩
  have hi:x2.toNat<l.2.2.length:=by omega
  simp only[sE _ (hs _ (Y0 hi)).2,W_,aaT,aaU,reduceCtorEq,YX hi,h,h',if_true]
 .rw[List.getElem?_eq_none (by omega)];simp only[h',W_,aaT,aaU,reduceCtorEq]
 .simp only[h,W_,aaT,aaU,reduceCtorEq]
  split<;>rfl
end L
namespace L
noncomputable def tB(e:List Ty)(s:o8)(want:Ty):Int:=if(Jl e s).2.2≠0 then(Jl e s).2.2 else if(Jl e s).1≠want then 8 else 0
def AS(x:jH)(k:Nat)(d:Int):Nat:=(x.2.2.2.2.take k).countP λr=>decide ((r.2.1:Int)=d)
def n5(x:jH)(k:Nat)(r:fT):Prop:=(r.2.2.1:Int)≠-1/\((r.2.2.1:Int)<0\/(k:Int)<=r.2.2.1\/∃y,x.2.2.2.2[(r.2.2.1:Int).toNat]? =some y/\(y.2.1:Int)≠r.2.1)
noncomputable instance(x:jH)(k:Nat)(r:fT):Decidable (n5 x k r):=ZG _
noncomputable def tC(l:Lw)(x:jH)(k:Nat)(r:fT):Int:=
 if iQ r.1=aaM then 2 else if eR (x.2.2.2.2.take k) r.1 then 7 else if¬(0<=(r.2.1:Int)/\(r.2.1:Int)<(x.2.2.2.1.length:Int))then 6 else if n5 x k r then 9 else
 if(r.2.2.2.1:Int)<0\/9<(r.2.2.2.1:Int)\/¬VR r.2.2.2.2.1\/(r.2.2.2.2.1.1:Int)=r.2.2.2.2.1.2 then 3 else if 8<=AS x k r.2.1 then 4 else if¬plain r.2.2.2.2.2.2.2 then 2 else
 if 0<r.2.2.2.2.2.1.length/\tB r.2.2.2.2.2.1 (fL l x) ((1:Int),(0:Int))≠0 then tB r.2.2.2.2.2.1 (fL l x) ((1:Int),(0:Int))else
 match x.2.2.2.1[(r.2.1:Int).toNat]? with
 |some d=>tB r.2.2.2.2.2.2.1 (fL l x) d.2
 |none=>0
noncomputable def AT(l:Lw)(x:jH)(k:Nat):Option (Int×Int):=match x.2.2.2.2[k]? with
 |none=>aaK
 |some r=>if tC l x k r≠0 then some (tC l x k r,300+(k:Int))else aaK
noncomputable def Eg(x:jH)(d:Nat):Option (Int×Int):=if(d:Int)∈EV x d then some (9,200+(d:Int))else aaK
def n9(l:Lw)(k:Nat)(x:jH):Prop:=(x.2.1:Int)≠-1/\((x.2.1:Int)<0\/(k:Int)<=x.2.1\/∃y,l.2.2[(x.2.1:Int).toNat]? =some y/\(y.2.1:Int)≠-1)
noncomputable instance(l:Lw)(k:Nat)(x:jH):Decidable (n9 l k x):=ZG _
noncomputable def qR(l:Lw)(k:Nat):Option (Int×Int):=match l.2.2[k]? with
 |none=>aaK
 |some x=>
  if iQ x.1=aaM then some (2,0)else if eR l.1 x.1\/eR l.2.1 x.1\/eR (l.2.2.take k) x.1 then some (7,0)else if n9 l k x then some (6,0)else
  if 12<x.2.2.1.length then some (4,112)else if 12<x.2.2.2.1.length then some (4,212)else((Ef l x).or (bQ (AT l x) x.2.2.2.2.length)).or (bQ (Eg x) x.2.2.2.1.length)
theorem G8{l:Lw}{x:jH}{e:Int×Int}(h:Ef l x=some e):e.1≠0:=by
 have key:∀(f:Nat->Option (Int×Int)),(∀i e,f i=some e->e.1≠0)->∀{m e},bQ f m=some e->e.1≠0:=λf hf m e h=>by
  obtain⟨k,_,h,_⟩:=eJ h;exact hf k e h
 unfold Ef at h
 rcases Option.or_eq_some_iff.1 h with h|⟨_,h⟩
 .refine key _ (λi e h=>?_) h;unfold G6 at h
  repeat' split at h
  all_goals first|cases h|skip
  all_goals simp
 .refine key _ (λi e h=>?_) h;unfold G7 at h
  repeat' split at h
  all_goals first|cases h|skip
  all_goals simp
theorem Jo(x:jH)(d:Int):qC x.2.2.2.1.length (EV x d):=by
 have:∀m,qC x.2.2.2.1.length (gF x m (iR x d)):=λm=>by
  induction m with
  |zero=>exact mv x d
  |succ m ih=>exact nc x ih
 exact this _
noncomputable def yw(l:Lw):LE:=
 if 8<l.1.length then((4:Int),((1:Int),((8:Int),(0:Int))))else match bQ (λk=>(mw l k).map λe=>(k,e)) l.1.length with
 |some (k,e)=>oU 1 (k:Int) (some e)
 |none=>if 8<l.2.1.length then((4:Int),((2:Int),((8:Int),(0:Int))))else match bQ (λk=>(p5 l k).map λe=>(k,e)) l.2.1.length with
  |some (k,e)=>oU 2 (k:Int) (some e)
  |none=>if 4<l.2.2.length then((4:Int),((3:Int),((4:Int),(0:Int))))else match bQ (λk=>(qR l k).map λe=>(k,e)) l.2.2.length with
   |some (k,e)=>oU 3 (k:Int) (some e)
   |none=>Ee
theorem oa{f:Nat->Option (Int×Int)}(hf:∀i e,f i=some e->e.1≠0){m:Nat}{e:Int×Int}(h:bQ f m=some e):e.1≠0:=by
 obtain⟨k,_,h,_⟩:=eJ h;exact hf k e h
theorem p6{l:Lw}{k:Nat}{e:Int×Int}(h:mw l k=some e):e.1≠0:=by
 unfold mw at h
 repeat' split at h
 all_goals first|cases h|skip
 all_goals first|simp;done|skip
 refine oa (λi e h=>?_) h;unfold G5 at h
 repeat' split at h
 all_goals first|cases h|skip
 all_goals simp
theorem yx{l:Lw}{k:Nat}{e:Int×Int}(h:p5 l k=some e):e.1≠0:=by
 unfold p5 at h
 repeat' split at h
 all_goals first|cases h|skip
 all_goals first|simp;done|assumption
theorem yy{l:Lw}{k:Nat}{e:Int×Int}(h:qR l k=some e):e.1≠0:=by
 unfold qR at h
 repeat' split at h
 all_goals first|cases h|skip
 all_goals first|simp;done|skip
 rcases Option.or_eq_some_iff.1 h with h|⟨_,h⟩
 .rcases Option.or_eq_some_iff.1 h with h|⟨_,h⟩
  .exact G8 h
  .refine oa (λi e h=>?_) h;unfold AT at h
   repeat' split at h
   all_goals first|cases h|skip
   assumption
 .refine oa (λi e h=>?_) h;unfold Eg at h
  repeat' split at h
  all_goals first|cases h|skip
  simp
theorem LP{f:Nat->Option (Int×Int)}{k:Nat}{e:Int×Int}(h:f k=some e):(λk=>(f k).map λe=>(k,e)) k=some (k,e):=by simp[h]
theorem SZ{f:Nat->Option (Int×Int)}{k:Nat}(h:f k=aaK):(λk=>(f k).map λe=>(k,e)) k=aaK:=by simp[h]
def Valid(l:Lw):Prop:=(yw l).1=0
noncomputable instance(l:Lw):Decidable (Valid l):=ZG _
theorem Valid.scopes{l:Lw}(h:Valid l):l.1.length<=8/\l.2.1.length<=8/\l.2.2.length<=4/\(∀k,k<l.1.length->mw l k=aaK)/\(∀k,k<l.2.1.length->p5 l k=aaK)/\∀k,k<l.2.2.length->qR l k=aaK:=by
 unfold Valid yw at h;split at h
 .cases h
 split at h
 .rename_i k e hf;obtain⟨j,_,hj,_⟩:=eJ hf;obtain⟨e',he',h2⟩:=Option.map_eq_some_iff.1 hj;cases h2;exact absurd h (p6 he')
 rename_i hA;split at h
 .cases h
 split at h
 .rename_i k e hf;obtain⟨j,_,hj,_⟩:=eJ hf;obtain⟨e',he',h2⟩:=Option.map_eq_some_iff.1 hj;cases h2;exact absurd h (yx he')
 rename_i hB;split at h
 .cases h
 split at h
 .rename_i k e hf;obtain⟨j,_,hj,_⟩:=eJ hf;obtain⟨e',he',h2⟩:=Option.map_eq_some_iff.1 hj;cases h2;exact absurd h (yy he')
 rename_i hC;exact⟨by omega,by omega,by omega,λk hk=>by simpa using bm.1 hA k hk,λk hk=>by simpa using bm.1 hB k hk,λk hk=>by simpa using bm.1 hC k hk⟩
theorem Valid.scope{l:Lw}(h:Valid l)(k:Nat)(hk:k<l.2.2.length):iQ l.2.2[k].1=aaL/\¬eR (l.2.2.take k) l.2.2[k].1/\¬n9 l k l.2.2[k]/\l.2.2[k].2.2.1.length<=12/\l.2.2[k].2.2.2.1.length<=12/\Ef l l.2.2[k]=aaK/\
 (∀i,∀hi:i<l.2.2[k].2.2.2.2.length,tC l l.2.2[k] i l.2.2[k].2.2.2.2[i]=0)/\∀d:Nat,d<l.2.2[k].2.2.2.1.length->¬(d:Int)∈EV l.2.2[k] d:=by
 have h:=h.scopes.2.2.2.2.2 k hk;unfold qR at h;rw[YX hk]at h;dsimp only at h;split at h
 .cases h
 split at h
 .cases h
 split at h
 .cases h
 split at h
 .cases h
 split at h
 .cases h
 rename_i h1 h2 h3 h4 h5;rw[Option.or_eq_none_iff,Option.or_eq_none_iff]at h;refine⟨by simpa using h1,λg=>h2 (.inr (.inr g)),h3,by omega,by omega,h.1.1,λi hi=>?_,λd hd g=>?_⟩
 .have:=bm.1 h.1.2 i hi;unfold AT at this;rw[YX hi]at this;dsimp only at this;split at this
  .cases this
  .exact aai.1 ‹_›
 .have:=bm.1 h.2 d hd;unfold Eg at this;rw[aaP g]at this;cases this
end L
namespace L
def lv{α:Type}(p:α->Bool)(l:List α):Int:=if l.findIdx p<l.length then((l.findIdx p:Nat):Int)else-1
theorem oW{α:Type}{p:α->Bool}{l:List α}{k:Nat}(hk:k<l.length)(hp:p l[k]=aaL)(hn:∀j,j<k->∀h:j<l.length,p l[j]=aaM):lv p l=(k:Int):=by
 have h1:l.findIdx p=k:=by
  rcases Nat.lt_trichotomy (l.findIdx p) k with h|h|h
  .have:=hn _ h (by omega);have h2:=List.findIdx_getElem (xs:=l) (p:=p) (w:=by omega);rw[this]at h2;cases h2
  .exact h
  .have:=List.not_of_lt_findIdx h;rw[hp]at this;cases this
 unfold lv;rw[aaP (by omega),h1]
theorem uO{α:Type}{p:α->Bool}{l:List α}(hn:∀j,∀h:j<l.length,p l[j]=aaM):lv p l= -1:=by
 unfold lv;rw[aaO λh=>?_];have h2:=List.findIdx_getElem (xs:=l) (p:=p) (w:=h);rw[hn _ h]at h2;cases h2
theorem eK{α:Type}{p:α->Bool}{l:List α}:0<=lv p l↔∃x∈l,p x=aaL:=by
 unfold lv;rw[<-List.findIdx_lt_length]
 split<;>simp_all
theorem sF{α Y:Type}{l:List α}{y:Y}{p:α->Bool}{body:Int×Y->Option ((Int×Y)⊕(Int×Y))}(hl:l.length<=maxLen)
 (hb:∀k,∀h:k<l.length,body ((k:Int),y)=if p l[k]=aaL then some (.inr ((k:Int),y))else some (.inl (YW.wrap ((k:Int)+1),y)))
 (he:body ((l.length:Int),y)=some (.inr ((-1:Int),y))):Loop body bd ((0:Int),y)=some (lv p l,y):=by
 apply Wp.eq
 refine Wp.count (λs=>s.1) l.length (λk s=>s.2=y/\∀j,j<k->∀h:j<l.length,p l[j]=aaM) hl rfl ⟨rfl,λj hj=>by omega⟩ λk c hk hs hJ=>?_
 obtain⟨c1,c2⟩:=c;obtain⟨h1,hJ⟩:=hJ;obtain rfl:c2=y:=h1;obtain rfl:c1=_:=hs
 rcases Nat.lt_or_ge k l.length with ai|hge
 .rw[hb k ai];simp only[W_,aaT,aaU,reduceCtorEq,aQ,aI,cX hl ai];exact⟨λh=>by rw[oW ai h hJ],λh=>⟨ai,bJ hJ λ_=>by simpa using h⟩⟩
 .obtain rfl:k=l.length:=by omega
  rw[he];simp only[W_,aaT,aaU,reduceCtorEq,aI];rw[uO λj h=>hJ j h h]
theorem oX{α:Type}{l:List α}{p:α->Bool}{body:Int->Option (Int⊕Int)}(hl:l.length<=maxLen)
 (hb:∀k,∀h:k<l.length,body (k:Int)=if p l[k]=aaL then some (.inr (k:Int))else some (.inl (YW.wrap ((k:Int)+1))))
 (he:body (l.length:Int)=some (.inr (-1:Int))):Loop body bd (0:Int)=some (lv p l):=by
 apply Wp.eq
 refine Wp.count (λs=>s) l.length (λk _=>∀j,j<k->∀h:j<l.length,p l[j]=aaM) hl rfl (λj hj=>by omega) λk c hk hs hJ=>?_
 obtain rfl:c=_:=hs
 rcases Nat.lt_or_ge k l.length with ai|hge
 .rw[hb k ai];simp only[W_,aaT,aaU,reduceCtorEq,aQ,aI,cX hl ai];exact⟨λh=>by rw[oW ai h hJ],λh=>⟨ai,bJ hJ λ_=>by simpa using h⟩⟩
 .obtain rfl:k=l.length:=by omega
  rw[he];simp only[W_,aaT,aaU,reduceCtorEq,aI];rw[uO λj h=>hJ j h h]
theorem my{e:Row}{l:List e.den}{x:e.den}(h:x∈l):cr e x<=cr (.slice e) l:=by
 show cr e x<=(l.map (cr e)).sum+1
 induction l with
 |nil=>cases h
 |cons y l ih=>
  rw[List.map_cons,List.sum_cons]
  rcases Y6.1 h with rfl|h
  .omega
  .have:=ih h;omega
theorem ga{e:Row}(l:List e.den):l.length<=cr (.slice e) l:=by
 show l.length<=(l.map (cr e)).sum+1
 induction l with
 |nil=>simp
 |cons y l ih=>
  rw[List.map_cons,List.sum_cons,Ze];have:=wQ e y;omega
structure OC(l:Lw):Prop where
 en:∀e∈l.1,e.2.length<=1048576
 tb:∀t∈l.2.1,t.2.2.2.length<=1048576
 ru:∀s∈l.2.2,∀r∈s.2.2.2.2,r.2.2.2.2.2.1.length<=1048576/\r.2.2.2.2.2.2.1.length<=1048576
 en':l.1.length<=1048576
 tb':l.2.1.length<=1048576
 sc':l.2.2.length<=1048576
 sc:∀s∈l.2.2,s.2.2.1.length<=1048576/\s.2.2.2.1.length<=1048576/\s.2.2.2.2.length<=1048576
theorem OC.of{l:Lw}(h:cr ew l<=1048576):OC l:=by
 have e1:cr ew l=cr (.slice cD) l.1+(cr (.slice cu) l.2.1+cr (.slice aW) l.2.2):=rfl;rw[e1]at h;refine⟨λe he=>?_,λt ht=>?_,λs hs r hr=>?_,?_,?_,?_,λs hs=>?_⟩
 .have h1:=my he;have h2:=ga (e:= .str) e.2;have h3:cr cD e=cr .str e.1+cr (.slice .str) e.2:=rfl;omega
 .have h1:=my ht;have h2:=ga (e:=gN) t.2.2.2;have h3:cr cu t=cr .str t.1+(cr aa t.2.1+(cr aa t.2.2.1+cr (.slice gN) t.2.2.2)):=rfl;omega
 .have h1:=my hs;have h3:cr aW s=cr .str s.1+(cr ae s.2.1+(cr (.slice bi) s.2.2.1+(cr (.slice bi) s.2.2.2.1+cr (.slice cB) s.2.2.2.2))):=rfl;have h4:=my hr;have h5:=ga (e:=aa) r.2.2.2.2.2.1;have h6:=ga (e:=aa) r.2.2.2.2.2.2.1;have h7:cr cB r=cr .str r.1+(cr ae r.2.1+(cr ae r.2.2.1+(cr ae r.2.2.2.1+(cr aa r.2.2.2.2.1+(cr (.slice aa) r.2.2.2.2.2.1+(cr (.slice aa) r.2.2.2.2.2.2.1+cr .str r.2.2.2.2.2.2.2)))))):=rfl;omega
 .have:=ga (e:=cD) l.1;omega
 .have:=ga (e:=cu) l.2.1;omega
 .have:=ga (e:=aW) l.2.2;omega
 .have h1:=my hs;have h3:cr aW s=cr .str s.1+(cr ae s.2.1+(cr (.slice bi) s.2.2.1+(cr (.slice bi) s.2.2.2.1+cr (.slice cB) s.2.2.2.2))):=rfl;have h5:=ga (e:=bi) s.2.2.1;have h6:=ga (e:=bi) s.2.2.2.1;have h7:=ga (e:=cB) s.2.2.2.2;omega
end L
namespace L
noncomputable def qS:List ByteArray:=(M.jB bd).getD []
theorem Jp:M.jB bd=some qS:=by kernel_rfl
theorem G9:qS.length<=100:=by unfold qS;decide+kernel
def Wd(c:Int):Prop:=(97<=c/\c<=122)\/(48<=c/\c<=57)\/c=95
def S0(s:ByteArray):Prop:=s.size<=16/\(∃h:0<s.size,97<=s[0].toNat/\s[0].toNat<=122)/\(∀k,∀h:k<s.size,Wd (s[k].toNat:Int))/\s∉qS
theorem Ha(s:ByteArray):iQ s=aaL↔S0 s:=by
 have key:Wp (M.gx bd s) λr=>r=aaL↔S0 s:=by
  have hl:=G9;unfold M.gx;simp only[yu,Jj,Jp,W_,aaT,aaU,reduceCtorEq];refine⟨λh=>?_,λh0=>⟨λh=>?_,λS3=>?_⟩⟩
  .exact aaX id λg=>by obtain⟨_,⟨g,_⟩,_⟩:=g;omega
  .exact aaX id λg=>by have:=g.1;omega
  refine oS.2 ⟨by omega,?_⟩;have e0:((0:Int).toNat)=0:=rfl;simp only[e0];refine⟨λh=>aaX id λg=>?_,λLQ=>?_⟩
  .obtain⟨_,⟨_,g⟩,_⟩:=g;exact h (by omega)
  refine Wp.count (λs=>s) s.size (λk _=>∀j,j<k->∀h:j<s.size,Wd (s[j].toNat:Int)) (by omega) rfl (λj hj=>by omega) λk c hk hs hJ=>?_
  obtain rfl:c=_:=hs;simp only[W_,aaT,aaU,reduceCtorEq,aQ,aI];refine⟨λai=>oS.2 ⟨by omega,?_⟩,λhge=>?_⟩
  .have ai:k<s.size:=by omega
   have ek:((k:Int).toNat)=k:=by omega
   simp only[ek];exact⟨λh=>aaX id λg=>h (g.2.2.1 k ai),λh=>⟨ai,aF (by omega),bJ hJ λ_=>h⟩⟩
  refine Wp.count (λs=>s) qS.length (λk _=>∀j,j<k->∀h:j<qS.length,qS[j]≠s) (by omega) rfl (λj hj=>by omega) λi c hi hs hI=>?_
  obtain rfl:c=_:=hs;simp only[W_,aaT,aaU,reduceCtorEq,aQ,aI];refine⟨λai=>?_,λXo=>?_⟩
  .have ai:i<qS.length:=by omega
   simp only[ao ai,cX (m:=qS.length) (by omega) ai,W_,aaT,aaU,reduceCtorEq];exact⟨λh=>aaX id λg=>g.2.2.2 (h▸Y0 ai),λh=>⟨ai,bJ hI λ_=>h⟩⟩
  .refine iff_of_true trivial ⟨by omega,⟨by omega,by omega⟩,λj h=>hJ j (by omega) h,λhm=>?_⟩;obtain⟨j,hj,e⟩:=ZJ hm;exact hI j (by omega) hj e
 obtain⟨r,hr,h⟩:=key;unfold iQ;rw[hr];exact h
def p7(s:ByteArray):List ByteArray->Option Bool
 |[]=>some aaM
 |[w]=>some (decide (s=w))
 |w::l=>if decide (s=w)=aaL then some (decide (s=w))else p7 s l
theorem uP(s:ByteArray):(l:List ByteArray)->p7 s l=some (decide (s∈l))
 |[]=>by simp[p7]
 |[w]=>by simp[p7]
 |w::w'::l=>by
  unfold p7;rw[uP s (w'::l)];by_cases h:s=w
  .rw[aaP (aaR h)];simp[h]
  .rw[aaO (by simpa using h)];simp[h]
theorem yz(s:ByteArray):M.gO bd s=some (decide (s∈qS)):=by
 have:M.gO bd s=(p7 s qS).bind λj=>if j=aaL then some aaL else some aaM:=by kernel_rfl
 rw[this,uP,YV];by_cases h:s∈qS
 .rw[aaP (aaR h),aaR h]
 .rw[aaO (by simpa using h),aaS h]
theorem uQ(c:Int):M.fW bd c=some (decide (97<=c/\c<=122)):=by
 apply Wp.eq;unfold M.fW;simp only[W_,aaT,aaU,reduceCtorEq];omega
theorem Eh(c:Int):M.iE bd c=some (decide (48<=c/\c<=57)):=by
 apply Wp.eq;unfold M.iE;simp only[W_,aaT,aaU,reduceCtorEq];omega
theorem tD(s:ByteArray)(hs:s.size<=maxLen):Wp (M.fG bd s) λn=>n=(s.size:Int)↔∀k,∀h:k<s.size,Wd (s[k].toNat:Int):=by
 unfold M.fG;simp only[uQ,Eh]
 refine Wp.count (λs=>s) s.size (λk _=>∀j,j<k->∀h:j<s.size,Wd (s[j].toNat:Int)) hs rfl (λj hj=>by omega) λk c hk zo hJ=>?_
 obtain rfl:c=_:=zo
 rcases Nat.lt_or_ge k s.size with ai|hge
 .have hb:jU s (k:Int)=some (s[k].toNat:Int):=by
   have:=(Kn (x:=((s[k].toNat:Nat):Int))).1 (oS (s:=s) (i:=(k:Int)).2 ⟨by omega,by simp⟩);exact this
  simp only[AM ai,hb,cX hs ai,W_,aaT,aaU,reduceCtorEq,aQ,aI];unfold Wd at*
  have ok:(97<=(s[k].toNat:Int)/\(s[k].toNat:Int)<=122)\/(48<=(s[k].toNat:Int)/\(s[k].toNat:Int)<=57)\/(s[k].toNat:Int)=95->k<s.size/\∀j,j<k+1->∀h:j<s.size,(97<=(s[j].toNat:Int)/\(s[j].toNat:Int)<=122)\/(48<=(s[j].toNat:Int)/\(s[j].toNat:Int)<=57)\/(s[j].toNat:Int)=95:=λh=>⟨ai,bJ hJ λ_=>h⟩
  refine⟨λh=>ok (.inl h),λh1=>⟨λh=>ok (.inr (.inl h)),λh2=>⟨λh=>ok (.inr (.inr h)),λh3=>⟨λe=>by omega,λg=>?_⟩⟩⟩⟩
  rcases g k ai with h|h|h
  .exact absurd h h1
  .exact absurd h h2
  .exact absurd h h3
 .obtain rfl:k=s.size:=by omega
  simp only[eE,W_,aaT,aaU,reduceCtorEq,aI]
  exact iff_of_true trivial λj h=>hJ j h h
theorem p8(s:ByteArray)(hs:s.size<=maxLen):M.bu bd s=some (iQ s):=by
 have key:Wp (M.bu bd s) λr=>r=aaL↔S0 s:=by
  unfold M.bu;simp only[uQ,yz,W_,aaT,aaU,reduceCtorEq];refine⟨λh=>?_,λh=>?_⟩
  .have h0:0<s.size:=by
    rcases Nat.eq_zero_or_pos s.size with e|e
    .exact absurd (ByteArray.ext (by simpa using Array.size_eq_zero_iff.1 e)) h
    .exact e
   refine oS.2 ⟨by omega,?_⟩;have e0:((0:Int).toNat)=0:=rfl;simp only[e0];refine⟨λLQ=>(tD s hs).mono λn hn=>⟨λe=>⟨λS3=>?_,λS3=>aaX id λg=>S3 (by have:=g.1;omega)⟩,λe=>aaX id λg=>e (hn.2 g.2.2.1)⟩,λLQ=>aaX id λg=>?_⟩
   .exact⟨λg=>⟨by omega,⟨h0,by omega⟩,hn.1 e,g⟩,λg=>g.2.2.2⟩
   .obtain⟨_,⟨_,g⟩,_⟩:=g;exact LQ (by omega)
  .refine aaX id λg=>?_
   obtain⟨_,⟨g,_⟩,_⟩:=g;subst h;cases g
 obtain⟨r,hr,h⟩:=key;rw[hr];exact aaV some (Bool.eq_iff_iff.2 (h.trans (Ha s).symm))
theorem mz{β:Type}{l:List (ByteArray×β)}{nm:ByteArray}:0<=lv (λx=>decide (x.1=nm)) l↔eR l nm:=by
 rw[eK];unfold eR;simp
theorem od(l:List En)(nm:ByteArray)(hl:l.length<=maxLen):M.fq bd l nm=some (decide (eR l nm)):=by
 have:M.aR bd l nm=some (lv (λx=>decide (x.1=nm)) l,nm):=by
  unfold M.aR M.gP;exact sF hl (λk h=>by simp only[ao h,iJ h,YV,if_true]) (by simp only[eE,decide_false,Y8,if_false])
 unfold M.fq M.bh;simp only[this,YV];exact aaV some (decide_eq_decide.2 mz)
theorem qD(l:List LK)(nm:ByteArray)(hl:l.length<=maxLen):M.fI bd l nm=some (decide (eR l nm)):=by
 have:M.aN bd l nm=some (lv (λx=>decide (x.1=nm)) l,nm):=by
  unfold M.aN M.gw;exact sF hl (λk h=>by simp only[ao h,iJ h,YV,if_true]) (by simp only[eE,decide_false,Y8,if_false])
 unfold M.fI M.aZ;simp only[this,YV];exact aaV some (decide_eq_decide.2 mz)
theorem oY(l:List Fd)(f:Fd)(hl:l.length<=maxLen):M.az bd l f=some (decide (eR l f.1),f):=by
 have:M.aO bd l f=some (lv (λx=>decide (x.1=f.1)) l,f):=by
  unfold M.aO M.fx;exact sF hl (λk h=>by simp only[ao h,iJ h,YV,if_true]) (by simp only[eE,decide_false,Y8,if_false])
 unfold M.az;simp only[this,YV];exact aaV (λb=>some (b,f)) (decide_eq_decide.2 mz)
theorem yA(l:List fT)(f:fT)(hl:l.length<=maxLen):M.aM bd l f=some (decide (eR l f.1),f):=by
 have:M.aS bd l f=some (lv (λx=>decide (x.1=f.1)) l,f):=by
  unfold M.aS M.fS;exact sF hl (λk h=>by simp only[ao h,iJ h,YV,if_true]) (by simp only[eE,decide_false,Y8,if_false])
 unfold M.aM;simp only[this,YV];exact aaV (λb=>some (b,f)) (decide_eq_decide.2 mz)
theorem wb(l:List jH)(f:jH)(hl:l.length<=maxLen):M.aA bd l f=some (decide (eR l f.1),f):=by
 have:M.aP bd l f=some (lv (λx=>decide (x.1=f.1)) l,f):=by
  unfold M.aP M.fB;exact sF hl (λk h=>by simp only[ao h,iJ h,YV,if_true]) (by simp only[eE,decide_false,Y8,if_false])
 unfold M.aA;simp only[this,YV];exact aaV (λb=>some (b,f)) (decide_eq_decide.2 mz)
theorem AU(l:List ByteArray)(m:ByteArray)(hl:l.length<=maxLen):M.cd bd l m=some (decide (m∈l)):=by
 have:M.cF bd l m=some (lv (λx=>decide (m=x)) l):=by
  unfold M.cF;exact oX hl (λk h=>by simp only[ao h,iJ h,YV,if_true]) (by simp only[eE,decide_false,Y8,if_false])
 unfold M.cd;simp only[this,YV];refine aaV some (decide_eq_decide.2 ?_);rw[eK];simp
theorem AV(l:List Int)(m:Int)(hl:l.length<=maxLen):M.c8 bd l m=some (decide (m∈l)):=by
 have:M.dL bd l m=some (lv (λx=>decide (m=x)) l):=by
  unfold M.dL;exact oX hl (λk h=>by simp only[ao h,iJ h,YV,if_true]) (by simp only[eE,decide_false,Y8,if_false])
 unfold M.c8;simp only[this,YV];refine aaV some (decide_eq_decide.2 ?_);rw[eK];simp
theorem iS{α:Type}{l:List α}{k:Nat}(h:k<=l.length):eG l (0:Int) (k:Int)=some (l.take k):=by
 apply Wp.eq;exact wp_cut.2 ⟨by omega,by simp⟩
theorem wc(l:Lw)(hw:WF ew l)(k:Nat)(hk:k<l.1.length):M.iF bd l (k:Int) l.1[k]=some ((mw l k).getD (0,0)):=by
 have hx:WF cD l.1[k]:=hw.1.2 _ (Y0 hk);have w1:=hw.1.1;have hs:l.1[k].1.size<=maxLen:=hx.1;have hm:∀m∈l.1[k].2,ByteArray.size m<=maxLen:=hx.2.2;apply Wp.eq;unfold M.iF mw;rw[YX hk];simp only[p8 _ hs,iS (aaA hk),od (l.1.take k) _ (by rw[Zr];omega),W_,aaT,aaU,reduceCtorEq];generalize l.1[k]=x at*;refine⟨λh=>by rw[aaP h];rfl,λh=>?_⟩;rw[aaO (by simp[h])];refine⟨λh=>by rw[aaP h];rfl,λh2=>?_⟩;rw[aaO h2];refine⟨λh=>by rw[aaP (by omega)];rfl,λh3=>?_⟩;rw[aaO (by omega)];refine⟨λh=>by rw[aaP (by omega)];rfl,λh4=>?_⟩;rw[aaO (by omega)]
 refine Wp.count (λs=>s) x.2.length (λi _=>∀j,j<i->G5 x.2 j=aaK) (by omega) rfl (λj hj=>by omega) λi c hi hs hJ=>?_
 obtain rfl:c=_:=hs;simp only[W_,aaT,aaU,reduceCtorEq,aQ,aI];refine⟨λai=>?_,λhge=>?_⟩
 .have ai:i<x.2.length:=by omega
  have hf:G5 x.2 i=if iQ x.2[i]=aaM then some (2,100+(i:Int))else if x.2[i]∈x.2.take i then some (7,100+(i:Int))else aaK:=by
   unfold G5;rw[YX ai]
  simp only[ao ai,p8 _ (hm _ (Y0 ai)),iS (aaA ai),AU (x.2.take i) _ (by rw[Zr];unfold maxLen;omega),oV (k:=i) (a:=100) (by omega) (by omega),cX (m:=x.2.length) (by omega) ai,W_,aaT,aaU,reduceCtorEq];refine⟨λh=>?_,λh=>⟨λh2=>?_,λh2=>⟨ai,bJ hJ ?_⟩⟩⟩
  .rw[dv (hf.trans (aaP h)) hJ ai];rfl
  .rw[dv (hf.trans ((aaO (by simp[h])).trans (aaP h2))) hJ ai];rfl
  .rw[hf,aaO (by simp[h]),aaO h2]
 .rw[bm.2 λj hj=>hJ j (by omega)];rfl
theorem tE(l:Lw)(hw:WF ew l):M.gQ bd l=some (if 8<l.1.length then((4:Int),((1:Int),((8:Int),(0:Int))))else match bQ (λk=>(mw l k).map λe=>(k,e)) l.1.length with
 |some (k,e)=>oU 1 (k:Int) (some e)
 |none=>Ee):=by
 have w1:=hw.1.1;unfold maxLen at w1;apply Wp.eq;unfold M.gQ;simp only[W_,aaT,aaU,reduceCtorEq];refine⟨λh=>by rw[aaP (by omega)],λh8=>?_⟩;rw[aaO (by omega)]
 refine Wp.count (λs=>s) l.1.length (λi _=>∀j,j<i->(λk=>(mw l k).map λe=>(k,e)) j=aaK) w1 rfl (λj hj=>by omega) λi c hi hs hJ=>?_
 obtain rfl:c=_:=hs;simp only[W_,aaT,aaU,reduceCtorEq,aQ,aI];refine⟨λai=>?_,λhge=>?_⟩
 .have ai:i<l.1.length:=by omega
  simp only[ao ai,wc l hw i ai,cX w1 ai,W_,aaT,aaU,reduceCtorEq];refine⟨λh=>?_,λh=>⟨ai,bJ hJ ?_⟩⟩
  .cases he:mw l i with
   |none=>rw[he]at h;exact absurd rfl h
   |some e=>rw[dv (LP he) hJ ai];rfl
  .cases he:mw l i with
   |none=>rfl
   |some e=>rw[he]at h;exact absurd h (p6 he)
 .rw[bm.2 λj hj=>hJ j (by omega)];rfl
theorem lz(t:Ty)(E:List En):M.bU bd t E=some (decide (jO t E.length)):=by
 obtain⟨(k:Int),(e:Int)⟩:=t;apply Wp.eq;unfold M.bU;simp only[W_,aaT,aaU,reduceCtorEq];simp only[jO];dsimp only[ae,Row.den]at*;omega
theorem Ci(t:Ty)(E:List En):M.fH bd t E=some (DQ t E):=by
 obtain⟨(k:Int),(e:Int)⟩:=t;apply Wp.eq;unfold M.fH DQ;simp only[lz,W_,aaT,aaU,reduceCtorEq];by_cases hv:jO (k,e) E.length
 .simp only[hv,not_true_eq_false,if_false,false_implies,true_implies,true_and];refine⟨λh=>by rw[aaP h],λh1=>⟨λh=>by rw[aaO h1,aaP h],λh2=>⟨λh=>by rw[aaO h1,aaO h2,aaP h],λh3=>⟨λh=>by rw[aaO h1,aaO h2,aaO h3,aaP h],λh4=>⟨λh=>by rw[aaO h1,aaO h2,aaO h3,aaO h4,aaP h],λh5=>?_⟩⟩⟩⟩⟩;simp only[jO]at hv;dsimp only[ae,Row.den]at*
  have hi:e.toNat<E.length:=by omega
  refine dz.2 ⟨by omega,?_⟩;rw[aaO h1,aaO h2,aaO h3,aaO h4,aaO h5,YX hi];rfl
 .simp only[hv,not_false_eq_true,if_true,true_implies,false_implies,and_true]
theorem AW(r:Ty):M.dH bd r=some (decide (VR r)):=by
 obtain⟨(k:Int),(e:Int)⟩:=r;apply Wp.eq;unfold M.dH;simp only[W_,aaT,aaU,reduceCtorEq];simp only[VR];dsimp only[ae,Row.den]at*;omega
theorem Ei(a b:Rw):M.gR bd a b=some (decide (qA a b)):=by
 obtain⟨⟨(a1:Int),(a2:Int)⟩,(a3:Int),(a4:Int),(a5:Int)⟩:=a;obtain⟨⟨(b1:Int),(b2:Int)⟩,(b3:Int),(b4:Int),(b5:Int)⟩:=b;apply Wp.eq;unfold M.gR M.fQ M.fe;simp only[AW,W_,aaT,aaU,reduceCtorEq];simp only[qA];dsimp only[ae,Row.den]at*
 by_cases h1:VR (a1,a2)<;>by_cases h2:VR (b1,b2)<;>simp only[h1,h2,W_,aaT,aaU,reduceCtorEq]<;>omega
theorem Hb(l:List Rw)(x:Rw)(hl:l.length<=maxLen):Wp (M.bq bd l x) λr=>r.2.1=aaL↔∃y∈l,qA y x:=by
 unfold M.bq M.fu
 refine Wp.count (λs=>s.1) l.length (λk s=>s.2=x/\∀j,j<k->∀h:j<l.length,¬qA l[j] x) hl rfl ⟨rfl,λj hj=>by omega⟩ λk c hk hs hJ=>?_
 obtain⟨c1,c2⟩:=c;obtain⟨h1,hJ⟩:=hJ;obtain rfl:c2=x:=h1;obtain rfl:c1=_:=hs;simp only[Ei,W_,aaT,aaU,reduceCtorEq,aQ,aI];refine⟨λai=>?_,λhge=>?_⟩
 .have ai:k<l.length:=by omega
  simp only[ao ai,cX hl ai,W_,aaT,aaU,reduceCtorEq];exact⟨λh=>iff_of_true trivial ⟨_,Y0 ai,h⟩,λh=>⟨ai,bJ hJ λ_=>h⟩⟩
 .refine aaX id ?_
  rintro⟨y,hy,h⟩
  obtain⟨j,hj,rfl⟩:=ZJ hy;exact hJ j (by omega) hj h
theorem Jq(t:LK)(E:List En):M.gS bd t E=some (nl t E):=by
 apply Wp.eq;unfold M.gS nl;simp only[lz,Ci,AW,W_,aaT,aaU,reduceCtorEq];refine⟨λh=>by rw[aaP (by omega)],λXp=>?_⟩;rw[aaO (c:=64<t.2.2.2.length) (by omega)];refine⟨λh1=>by rw[aaP (λg=>h1 g.1)],λh1=>⟨λh2=>by rw[aaP (λg=>h2 g.2)],λh2=>?_⟩⟩;rw[aaO (λg=>g ⟨h1,h2⟩)]
 refine Wp.count (λs=>s) t.2.2.2.length (λk _=>∀j,j<k->wa t E j=aaK) (by omega) rfl (λj hj=>by omega) λk s hk hs hJ=>?_
 obtain rfl:s=_:=hs;simp only[W_,aaT,aaU,reduceCtorEq,aQ,aI];refine⟨λai=>?_,λhge=>?_⟩
 .have ai:k<t.2.2.2.length:=by omega
  have hf:wa t E k=if sC t.2.2.2[k] t E then some ((k:Int),3)else if∃y∈t.2.2.2.take k,qA y t.2.2.2[k]then some ((k:Int),11)else aaK:=by
   unfold wa;rw[YX ai]
  have bad:sC t.2.2.2[k] t E->((k:Int),(3:Int))=(bQ (wa t E) t.2.2.2.length).getD (0,0):=λhw=>by
   rw[dv (hf.trans (aaP hw)) hJ ai];rfl
  have good:¬sC t.2.2.2[k] t E->Wp (M.bq bd (t.2.2.2.take k) t.2.2.2[k]) λy=>(y.2.1=aaL->((k:Int),(11:Int))=(bQ (wa t E) t.2.2.2.length).getD (0,0))/\(y.2.1=aaM->k<t.2.2.2.length/\∀j,j<k+1->wa t E j=aaK):=λhw=>by
   rw[aaO hw]at hf
   refine(Hb _ _ (by rw[Zr];unfold maxLen;omega)).mono λy hy=>⟨λh=>?_,λh=>⟨ai,bJ hJ ?_⟩⟩
   .rw[dv (hf.trans (aaP (hy.1 h))) hJ ai];rfl
   .rw[hf,aaO λg=>by rw[hy.2 g]at h;cases h]
  simp only[ao ai,iS (aaA ai),cX (m:=t.2.2.2.length) (by omega) ai,W_,aaT,aaU,reduceCtorEq];unfold sC at bad good;unfold zn at bad good;generalize M.bq bd (t.2.2.2.take k) t.2.2.2[k]=fm at*;generalize t.2.2.2[k]=x at*;obtain⟨⟨(x1:Int),(x2:Int)⟩,(x3:Int),(x4:Int),(x5:Int)⟩:=x;dsimp only[ae,Row.den]at*;clear hf hJ;generalize DQ t.2.1 E=p at*;generalize DQ t.2.2.1 E=q at*;obtain⟨(p1:Int),(p2:Int)⟩:=p;obtain⟨(q1:Int),(q2:Int)⟩:=q;dsimp only at*
  refine⟨λh=>bad (.inl h),λh1=>⟨λh=>bad (by omega),λh2=>⟨λh=>bad (by omega),λh3=>⟨λh=>bad (by omega),λh4=>⟨λh=>bad (by omega),λh5=>⟨λh=>bad (by omega),λh6=>⟨λh=>bad (by omega),λh7=>⟨λh=>bad (by omega),λh8=>⟨λh=>bad (by omega),λh9=>good λhw=>by
   rcases hw with g|g
   .exact g h1
   .omega⟩⟩⟩⟩⟩⟩⟩⟩⟩
 .rw[bm.2 λj hj=>hJ j (by omega)];rfl
theorem Hc{t:LK}{E:List En}:(nl t E).2≠0->((nl t E).1= -1\/(0<=(nl t E).1/\(nl t E).1<=64)):=by
 unfold nl;intro h;split
 .exact .inr (by simp)
 split
 .exact .inl rfl
 rename_i h1 h2
 cases hf:bQ (wa t E) t.2.2.2.length with
 |none=>rw[aaO h1,aaO h2,hf]at h;exact absurd rfl h
 |some e=>
  obtain⟨k,hk,he,_⟩:=eJ hf;unfold wa at he;split at he
  .cases he
  split at he
  .cases he;exact .inr ⟨by simp,by simp;omega⟩
  split at he
  .cases he;exact .inr ⟨by simp,by simp;omega⟩
  .cases he
theorem sG(l:Lw)(hw:WF ew l):M.gk bd l=some (if 8<l.2.1.length then((4:Int),((2:Int),((8:Int),(0:Int))))else match bQ (λk=>(p5 l k).map λe=>(k,e)) l.2.1.length with
 |some (k,e)=>oU 2 (k:Int) (some e)
 |none=>Ee):=by
 have w1:=hw.2.1.1;have w0:=hw.1.1;have wt:∀t∈l.2.1,WF cu t:=hw.2.1.2;unfold maxLen at w1;apply Wp.eq;unfold M.gk;simp only[W_,aaT,aaU,reduceCtorEq];refine⟨λh=>by rw[aaP (by omega)],λh8=>?_⟩;rw[aaO (by omega)]
 refine Wp.count (λs=>s) l.2.1.length (λi _=>∀j,j<i->(λk=>(p5 l k).map λe=>(k,e)) j=aaK) w1 rfl (λj hj=>by omega) λi c hi hs hJ=>?_
 obtain rfl:c=_:=hs;simp only[W_,aaT,aaU,reduceCtorEq,aQ,aI];refine⟨λai=>?_,λhge=>?_⟩
 .have ai:i<l.2.1.length:=by omega
  have iA:l.2.1[i].1.size<=maxLen:=(wt _ (Y0 ai)).1
  have hE:p5 l i=if iQ l.2.1[i].1=aaM then some (2,0)else if eR l.1 l.2.1[i].1\/eR (l.2.1.take i) l.2.1[i].1 then some (7,0)else if(nl l.2.1[i] l.1).2=0 then aaK else some ((nl l.2.1[i] l.1).2,if 0<=(nl l.2.1[i] l.1).1 then 100+(nl l.2.1[i] l.1).1 else 0):=by
   unfold p5;rw[YX ai]
  simp only[ao ai,Jq,p8 _ iA,iS (aaA ai),od _ _ w0,qD (l.2.1.take i) _ (by rw[Zr];unfold maxLen;omega),cX w1 ai,W_,aaT,aaU,reduceCtorEq]
  have bad:∀e,p5 l i=some e->oU 2 (i:Int) (some e)=(match bQ (λk=>(p5 l k).map λe=>(k,e)) l.2.1.length with|some (k,e)=>oU 2 (k:Int) (some e)|none=>Ee):=λe he=>by
   rw[dv (LP he) hJ ai]
  have good:p5 l i=aaK->i<l.2.1.length/\∀j,j<i+1->(λk=>(p5 l k).map λe=>(k,e)) j=aaK:=λh=>⟨ai,bJ hJ (SZ h)⟩
  have GK:=Hc (t:=l.2.1[i]) (E:=l.1);generalize nl l.2.1[i] l.1=te at*;obtain⟨(r:Int),(c:Int)⟩:=te;dsimp only at*;refine⟨λh=>?_,λh=>⟨λh2=>?_,λh2=>⟨λh3=>?_,λh3=>⟨λh4=>?_,λh4=>?_⟩⟩⟩⟩
  .exact⟨λ_=>bad (2,0) (hE.trans (aaP h)),λg=>absurd g (by decide)⟩
  .rw[aaO (c:=iQ l.2.1[i].1=aaM) (by simp[h]),aaP (Or.inl h2)]at hE;exact⟨λ_=>bad (7,0) hE,λg=>absurd g (by decide)⟩
  .rw[aaO (c:=iQ l.2.1[i].1=aaM) (by simp[h]),aaP (Or.inr h3)]at hE;exact⟨λ_=>bad (7,0) hE,λg=>absurd g (by decide)⟩
  .rw[aaO (c:=iQ l.2.1[i].1=aaM) (by simp[h]),aaO (λg=>g.elim h2 h3),aaO h4]at hE;have hr:=GK h4;refine⟨λg=>⟨λ_=>?_,λe=>absurd e h4⟩,λg=>⟨λ_=>?_,λe=>absurd e h4⟩⟩
   .rw[ed (by omega) (by omega)];exact bad (c,100+r) (hE.trans (by rw[aaP (by omega)]))
   .exact bad (c,0) (hE.trans (by rw[aaO (by omega)]))
  .rw[aaO (c:=iQ l.2.1[i].1=aaM) (by simp[h]),aaO (λg=>g.elim h2 h3),aaP h4]at hE;exact good hE
 .rw[bm.2 λj hj=>hJ j (by omega)];rfl
noncomputable def mA(l:Lw)(f:Fd)(a b:List Fd):Int:=if iQ f.1=aaM then 2 else if eR a f.1\/eR b f.1 then 7 else if¬jO f.2 l.1.length then 8 else 0
theorem nD(l:Lw)(f:Fd)(a b:List Fd)(hf:f.1.size<=maxLen)(ha:a.length<=maxLen)(hb:b.length<=maxLen):M.fy bd l f a b=some (mA l f a b):=by
 apply Wp.eq;unfold M.fy;simp only[p8 _ hf,oY _ _ ha,oY _ _ hb,lz,W_,aaT,aaU,reduceCtorEq];unfold mA;refine⟨λh=>by rw[aaP h],λh=>?_⟩;rw[aaO (c:=iQ f.1=aaM) (by simp[h])];refine⟨λh1=>by rw[aaP (.inl h1)],λh1=>⟨λh2=>by rw[aaP (.inr h2)],λh2=>?_⟩⟩;rw[aaO (λg=>g.elim h1 h2)];exact⟨λh3=>by rw[aaP h3],λh3=>by rw[aaO (λg=>g h3)]⟩
theorem we(l:List UInt8)(c:UInt8):0<=aad l c↔c∈l:=by
 induction l with
 |nil=>simp[aad]
 |cons b l ih=>
  have hg:=Go.Lib.indexByte_ge l c;unfold aad;by_cases h:b=c
  .subst h;simp
  .have h':c≠b:=λe=>h e.symm
   simp only[beq_iff_eq,h,if_false,Y6,h',false_or,<-ih]
   split<;>omega
theorem sH(s:ByteArray)(_:s.size<=maxLen):M.gm bd s=some (decide (plain s)):=by
 have hc:M.strings_Contains bd s (⟨#[34]⟩:ByteArray)=some (decide (0<=aad s.data.toList 34)):=rfl
 have bL:0<=aad s.data.toList 34↔∃i,∃h:i<s.size,(s[i].toNat:Int)=34:=by
  rw[we];constructor
  .intro h;obtain⟨i,hi,e⟩:=ZJ h;refine⟨i,by simpa using hi,?_⟩
   have:s[i]'(by simpa using hi)=34:=by
    have e:s.data[i]'(by simpa using hi)=34:=by simpa using e
    exact e
   rw[this];rfl
  .rintro⟨i,hi,e⟩
   have e2:s[i]=34:=by
    apply UInt8.toNat_inj.1
    show s[i].toNat=34
    omega
   have:(34:UInt8)=s.data.toList[i]'(by simpa using hi):=by rw[<-e2];simp;rfl
   rw[this];exact Y0 _
 apply Wp.eq;unfold M.gm;simp only[hc,W_,aaT,aaU,reduceCtorEq];refine⟨λh=>?_,λXp=>⟨λh=>?_,λLN=>?_⟩⟩
 .exact λ(g:plain s)=>by have:=g.2;omega
 .obtain⟨i,hi,e⟩:=bL.1 h
  exact λ(g:plain s)=>(g.1 i hi).2.2 e
 refine Wp.count (λs=>s) s.size (λi _=>∀j,j<i->∀h:j<s.size,32<=(s[j].toNat:Int)/\(s[j].toNat:Int)<=126) (by omega) rfl (λj hj=>by omega) λi c hi hs hJ=>?_
 obtain rfl:c=_:=hs
 rcases Nat.lt_or_ge i s.size with ai|hge
 .have hb:jU s (i:Int)=some (s[i].toNat:Int):=by
   have:=(Kn (x:=((s[i].toNat:Nat):Int))).1 (oS (s:=s) (i:=(i:Int)).2 ⟨by omega,by simp⟩);exact this
  simp only[AM ai,hb,cX (m:=s.size) (by omega) ai,W_,aaT,aaU,reduceCtorEq,aQ,aI];refine⟨λh=>?_,λh=>⟨λh2=>?_,λh2=>⟨ai,bJ hJ λ_=>by omega⟩⟩⟩
  .exact λ(g:plain s)=>by have:=g.1 i ai;omega
  .exact λ(g:plain s)=>by have:=g.1 i ai;omega
 .obtain rfl:i=s.size:=by omega
  simp only[eE,W_,aaT,aaU,reduceCtorEq,aI];refine(⟨λi hi=>?_,by omega⟩:plain s);have:=hJ i hi hi;exact⟨this.1,this.2,λe=>LN (bL.2 ⟨i,hi,e⟩)⟩
def yB(sg:o8):Prop:=∀e:List Ty,(∀n∈e,WF aa n)->M.jY bd e sg=some (Jl e sg)
theorem ji{sg:o8}(hT:yB sg){e:List Ty}(want:Ty)(hw:∀n∈e,WF aa n):M.dT bd e sg want=some (tB e sg want):=by
 apply Wp.eq;unfold M.dT;simp only[hT e hw,EU,W_,aaT,aaU,reduceCtorEq];unfold tB;refine⟨λh=>by rw[aaP h],λh=>?_⟩;rw[aaO (λg=>g h)];exact⟨λh=>by rw[aaP h],λh=>by rw[aaO (λg=>g h)]⟩
theorem wg(l:Lw)(x:jH)(hw:WF aW x)(qk:p4 x)(hT:yB (fL l x))(k:Nat)(hk:k<x.2.2.2.2.length):M.fX bd x (k:Int) (fL l x)=some (tC l x k x.2.2.2.2[k]):=by
 have PG:=hw.2.2.2.2.2 _ (Y0 hk);have OD:=qk.2.2.2.2.2.2 _ (Y0 hk)
 obtain⟨r,hr⟩:∃r,r=x.2.2.2.2[k]:=⟨_,rfl⟩
 have Uo:=qk.2.2.2.1
 have Jr:Wp (Loop (S:=Int×Int) (X:=Int) (λs4=>
  (if(decide (s4.2<((x.2.2.2.2.take k).length:Int)))=aaL then
  ((idx (x.2.2.2.2.take k) s4.2).bind λx6=>
  (if(decide ((x6.2.1:Int)=r.2.1))=aaL then
  some (YW.wrap (s4.1+(1:Int)))
  else
  some s4.1):Option (Int)).bind λj5=>
  some (Sum.inl (j5,YW.wrap (s4.2+(1:Int))))
  else
  some (Sum.inr s4.1))) bd ((0:Int),(0:Int))) λn=>n=(AS x k r.2.1:Int):=by
  have KV:(x.2.2.2.2.take k).length=k:=by rw[Zr];omega
  refine Wp.count (λs=>s.2) k (λj s=>s.1=(((x.2.2.2.2.take j).countP λr'=>decide ((r'.2.1:Int)=r.2.1):Nat):Int)) (by omega) rfl rfl λj s hj hs PH=>?_
  obtain⟨sb,c⟩:=s;dsimp only at hs PH;subst hs;rw[KV];have ES:(x.2.2.2.2.take j).countP (λr'=>decide ((r'.2.1:Int)=r.2.1))<=60:=Zj List.countP_le_length (by rw[Zr];omega);simp only[W_,aaT,aaU,reduceCtorEq,aQ,aI];refine⟨λXq=>?_,λXq=>?_⟩
  .have vo:j<x.2.2.2.2.length:=by omega
   have Ej:j<(x.2.2.2.2.take k).length:=by omega
   simp only[ao Ej,List.getElem_take,cX (m:=k) (by omega) (show j<k by omega),W_,aaT,aaU,reduceCtorEq]
   have MF:(x.2.2.2.2.take (j+1)).countP (λr'=>decide ((r'.2.1:Int)=r.2.1))=(x.2.2.2.2.take j).countP (λr'=>decide ((r'.2.1:Int)=r.2.1))+if(x.2.2.2.2[j].2.1:Int)=r.2.1 then 1 else 0:=by
    rw[<-Zk vo,List.countP_append];simp[List.countP_cons]
   refine⟨λh'=>⟨by omega,?_⟩,λh'=>⟨by omega,?_⟩⟩
   .rw[MF,aaP h',PH,ed (by omega) (by omega)];rfl
   .rw[MF,aaO h',PH];rfl
  .obtain rfl:j=k:=by omega
   exact PH
 apply Wp.eq;unfold M.fX;rw[<-hr];have iA:r.1.size<=maxLen:=(hr▸PG).1
 have S4:r.2.2.2.2.2.2.2.size<=maxLen:=by
  have:=(hr▸OD).2.1;unfold maxLen;omega
 have ES:AS x k r.2.1<=60:=Zj List.countP_le_length (by rw[Zr];omega);have hg:∀n∈r.2.2.2.2.2.1,WF aa n:=(hr▸PG).2.2.2.2.2.1.2;have hv:∀n∈r.2.2.2.2.2.2.1,WF aa n:=(hr▸PG).2.2.2.2.2.2.1.2;have LR:n5 x k r↔(r.2.2.1:Int)≠-1/\((r.2.2.1:Int)<0\/(k:Int)<=r.2.2.1\/∃y,x.2.2.2.2[(r.2.2.1:Int).toNat]? =some y/\(y.2.1:Int)≠r.2.1):=Iff.rfl;simp only[ao hk,<-hr,iS (aaA hk),yA (x.2.2.2.2.take k) _ (by rw[Zr];unfold maxLen;omega),p8 _ iA,sH _ S4,W_,aaT,aaU,reduceCtorEq];simp only[aaW]at Jr
 refine Jr.mono λn hn=>?_
 subst hn;clear Jr PG OD hr;unfold tC;refine⟨λh=>by rw[aaP h],λh1=>?_⟩;rw[aaO (c:=iQ r.1=aaM) (by simp[h1])];refine⟨λh=>by rw[aaP h],λh2=>?_⟩;rw[aaO (c:=eR (x.2.2.2.2.take k) r.1) h2];generalize AS x k r.2.1=q at*;obtain⟨nm,(d:Int),(p:Int),(pr:Int),v,g,val,src⟩:=r;obtain⟨(v1:Int),(v2:Int)⟩:=v;dsimp only[ae,Row.den]at*;refine⟨λh=>by rw[aaP (c:=¬(0<=d/\d<(x.2.2.2.1.length:Int))) (by omega)],λh3=>⟨λh=>by rw[aaP (c:=¬(0<=d/\d<(x.2.2.2.1.length:Int))) (by omega)],λh4=>?_⟩⟩;rw[aaO (c:=¬(0<=d/\d<(x.2.2.2.1.length:Int))) (by omega)]
 have hd:d.toNat<x.2.2.2.1.length:=by omega
 have PI:¬VR ((v1,v2):Ty)\/v1=v2↔v1<0\/v2<=v1\/109573<v2:=by
  simp only[VR];dsimp only[ae,Row.den];omega
 refine⟨λhp=>⟨λh=>by rw[aaP (LR.2 ⟨hp, .inl h⟩)],λh5=>⟨λh=>by rw[aaP (LR.2 ⟨hp, .inr (.inl h)⟩)],λh6=>dz.2 ⟨⟨by omega,by omega⟩,λh7=>by rw[aaP (LR.2 ⟨hp, .inr (.inr ⟨_,YX (by omega),h7⟩)⟩)],λh7=>?_⟩⟩⟩,λhp=>?_⟩
 .have JW:¬n5 x k (nm,d,p,pr,(v1,v2),g,val,src):=λh=>by
   obtain⟨_,g1|g1|⟨y,g1,g2⟩⟩:=LR.1 h
   .omega
   .omega
   .rw[YX (by omega)]at g1;cases g1;exact g2 h7
  clear LR;rw[aaO JW]
  have last:Wp (idx x.2.2.2.1 d) λS5=>Wp (M.dT bd val (fL l x) S5.2) λS6=>S6=match x.2.2.2.1[d.toNat]? with
   |some d=>tB val (fL l x) d.2
   |none=>0:=by
   refine dz.2 ⟨by omega,?_⟩;rw[ji hT _ hv,YX hd];exact .some rfl
  by_cases g1:pr<0\/9<pr\/¬VR ((v1,v2):Ty)\/v1=v2
  .rw[aaP g1];refine⟨λ_=>rfl,λa1=>⟨λ_=>rfl,λa2=>⟨λ_=>rfl,λa3=>⟨λ_=>rfl,λa4=>⟨λ_=>rfl,λa5=>?_⟩⟩⟩⟩⟩;rw[PI]at g1;omega
  rw[aaO g1]
  have M0:¬(pr<0\/9<pr\/v1<0\/v2<=v1\/109573<v2):=by rw[<-PI];exact g1
  refine⟨λh=>by omega,λa1=>⟨λh=>by omega,λa2=>⟨λh=>by omega,λa3=>⟨λh=>by omega,λa4=>⟨λh=>by omega,λa5=>?_⟩⟩⟩⟩⟩;refine⟨λh=>by rw[aaP (by omega)],λh8=>?_⟩;rw[aaO (by omega)];refine⟨λh=>by rw[aaP h],λh9=>?_⟩;rw[aaO (λh=>h h9)];refine⟨λh=>?_,λh=>?_⟩
  .rw[ji hT _ hg];refine .some ⟨λh'=>by rw[aaP ⟨by omega,h'⟩],λh'=>?_⟩;rw[aaO (λg=>g.2 h')];exact last
  .rw[aaO (λg=>h (by omega))];exact last
 .have JW:¬n5 x k (nm,d,p,pr,(v1,v2),g,val,src):=λh=>(LR.1 h).1 hp
  clear LR;rw[aaO JW]
  have last:Wp (idx x.2.2.2.1 d) λS5=>Wp (M.dT bd val (fL l x) S5.2) λS6=>S6=match x.2.2.2.1[d.toNat]? with
   |some d=>tB val (fL l x) d.2
   |none=>0:=by
   refine dz.2 ⟨by omega,?_⟩;rw[ji hT _ hv,YX hd];exact .some rfl
  by_cases g1:pr<0\/9<pr\/¬VR ((v1,v2):Ty)\/v1=v2
  .rw[aaP g1];refine⟨λ_=>rfl,λa1=>⟨λ_=>rfl,λa2=>⟨λ_=>rfl,λa3=>⟨λ_=>rfl,λa4=>⟨λ_=>rfl,λa5=>?_⟩⟩⟩⟩⟩;rw[PI]at g1;omega
  rw[aaO g1]
  have M0:¬(pr<0\/9<pr\/v1<0\/v2<=v1\/109573<v2):=by rw[<-PI];exact g1
  refine⟨λh=>by omega,λa1=>⟨λh=>by omega,λa2=>⟨λh=>by omega,λa3=>⟨λh=>by omega,λa4=>⟨λh=>by omega,λa5=>?_⟩⟩⟩⟩⟩;refine⟨λh=>by rw[aaP (by omega)],λh8=>?_⟩;rw[aaO (by omega)];refine⟨λh=>by rw[aaP h],λh9=>?_⟩;rw[aaO (λh=>h h9)];refine⟨λh=>?_,λh=>?_⟩
  .rw[ji hT _ hg];refine .some ⟨λh'=>by rw[aaP ⟨by omega,h'⟩],λh'=>?_⟩;rw[aaO (λg=>g.2 h')];exact last
  .rw[aaO (λg=>h (by omega))];exact last
def Ek(x:jH):Prop:=∀d:Nat,d<x.2.2.2.1.length->∃tr,M.eY bd x (d:Int)=some tr/\tr.length<=1000/\((d:Int)∈tr↔(d:Int)∈EV x d)
theorem El(l:Lw)(k:Nat)(hk:k<l.2.2.length)(hs:∀s∈l.2.2,s.2.2.1.length<=100000/\s.2.2.2.1.length<=100000):M.fR bd l (k:Int)=some ((fL l l.2.2[k]).1,(fL l l.2.2[k]).2.1,(fL l l.2.2[k]).2.2.2.2.2,(fL l l.2.2[k]).2.2.1,(fL l l.2.2[k]).2.2.2.1,(fL l l.2.2[k]).2.2.2.2.1):=by
 rw[<-Jn l k hk hs];unfold M.iZ;rw[aaO (by simp),YV,aaO (by simp;omega)];rfl
theorem LS(l:Lw)(x:jH)(i:Nat)(h:i<x.2.2.1.length):G6 l x i=if mA l x.2.2.1[i] (x.2.2.1.take i) []≠0 then some (mA l x.2.2.1[i] (x.2.2.1.take i) [],100+(i:Int))else aaK:=by
 have hn:∀nm,¬eR ([]:List Fd) nm:=λnm ⟨y,hy,_⟩=>by cases hy
 unfold G6 mA;rw[YX h];simp only[hn,or_false];by_cases h1:iQ x.2.2.1[i].1=aaM
 .simp[h1]
 by_cases h2:eR (x.2.2.1.take i) x.2.2.1[i].1
 .simp[h1,h2]
 by_cases h3:jO x.2.2.1[i].2 l.1.length
 .simp[h1,h2,h3]
 .simp[h1,h2,h3]
theorem LU(l:Lw)(x:jH)(i:Nat)(h:i<x.2.2.2.1.length):G7 l x i=if mA l x.2.2.2.1[i] x.2.2.1 (x.2.2.2.1.take i)≠0 then some (mA l x.2.2.2.1[i] x.2.2.1 (x.2.2.2.1.take i),200+(i:Int))else aaK:=by
 unfold G7 mA;rw[YX h];simp only;by_cases h1:iQ x.2.2.2.1[i].1=aaM
 .simp[h1]
 by_cases h2:eR x.2.2.1 x.2.2.2.1[i].1\/eR (x.2.2.2.1.take i) x.2.2.2.1[i].1
 .simp[h1,h2]
 by_cases h3:jO x.2.2.2.1[i].2 l.1.length
 .simp[h1,h2,h3]
 .simp[h1,h2,h3]
theorem tF(l:Lw)(hw:WF ew l)(qk:ko l)(k:Nat)(hk:k<l.2.2.length)(hT:yB (fL l l.2.2[k]))(hC:Ek l.2.2[k]):M.gY bd l (k:Int)=some ((qR l k).getD (0,0)):=by
 have wK:=qk.2.2.2.2.2 _ (Y0 hk);have S7:=hw.2.2.2 _ (Y0 hk)
 have OE:=El l k hk λs hs=>⟨by have:=(qk.2.2.2.2.2 s hs).2.1;omega,by have:=(qk.2.2.2.2.2 s hs).2.2.1;omega⟩
 have hE:qR l k=if iQ l.2.2[k].1=aaM then some (2,0)else if eR l.1 l.2.2[k].1\/eR l.2.1 l.2.2[k].1\/eR (l.2.2.take k) l.2.2[k].1 then some (7,0)else if n9 l k l.2.2[k]then some (6,0)else
  if 12<l.2.2[k].2.2.1.length then some (4,112)else if 12<l.2.2[k].2.2.2.1.length then some (4,212)else((Ef l l.2.2[k]).or (bQ (AT l l.2.2[k]) l.2.2[k].2.2.2.2.length)).or (bQ (Eg l.2.2[k]) l.2.2[k].2.2.2.1.length):=by
  unfold qR;rw[YX hk]
 have h5:=qk.2.2.1
 obtain⟨x,hx⟩:∃x,x=l.2.2[k]:=⟨_,rfl⟩
 simp only[<-hx]at wK S7 OE hE hT hC;have Up:=wK.2.2.1;have Uo:=wK.2.2.2.1;have Xr:=wK.2.1;have iA:x.1.size<=maxLen:=S7.1
 have KV:(l.2.2.take k).length=k:=by rw[Zr];omega
 have bL:∀f∈x.2.2.1,(f.1:ByteArray).size<=maxLen:=λf hf=>by have:=wK.2.2.2.2.1 f hf;unfold maxLen;omega
 have Xs:∀f∈x.2.2.2.1,(f.1:ByteArray).size<=maxLen:=λf hf=>by have:=wK.2.2.2.2.2.1 f hf;unfold maxLen;omega
 apply Wp.eq;unfold M.gY;rw[ao hk,YV,iS (aaA hk),YV,<-hx]
 have Hd:(((M.fq bd l.1 x.1).bind λy4=>
  (if y4=aaL then
  some (aaL,x)
  else
  (M.fI bd l.2.1 x.1).bind λy5=>
  (if y5=aaL then
  some (aaL,x)
  else
  (M.aA bd (l.2.2.take k) x).bind λy6=>
  some (y6.1,y6.2))):Option (Bool×aW.den)))=some (decide (eR l.1 x.1\/eR l.2.1 x.1\/eR (l.2.2.take k) x.1),x):=by
  apply Wp.eq;simp only[od _ _ hw.1.1,qD _ _ hw.2.1.1,wb (l.2.2.take k) _ (by rw[KV];unfold maxLen;omega),W_,aaT,aaU,reduceCtorEq];exact⟨λh=>by rw[aaR (Or.inl h)],λh1=>⟨λh=>by rw[aaR (Or.inr (Or.inl h))],λh2=>aaV (λb=>(b,x)) (decide_eq_decide.2 ⟨λh=> .inr (.inr h),λh=>(h.resolve_left h1).resolve_left h2⟩)⟩⟩
 rw[Hd,YV,p8 _ iA,YV,hE];by_cases h1:iQ x.1=aaM
 .rw[aaP (by simp[h1]),aaP h1];exact .some rfl
 rw[aaO (by simpa using h1),aaO h1];by_cases h2:eR l.1 x.1\/eR l.2.1 x.1\/eR (l.2.2.take k) x.1
 .rw[aaP (aaR h2),aaP h2];exact .some rfl
 rw[aaO (by simpa using h2),aaO h2];have Kq:n9 l k x↔(x.2.1:Int)≠-1/\((x.2.1:Int)<0\/(k:Int)<=x.2.1\/∃y,l.2.2[(x.2.1:Int).toNat]? =some y/\(y.2.1:Int)≠-1):=Iff.rfl
 have He:((if(!decide ((x.2.1:Int)=(-1:Int)))=aaL then
  (if(decide ((x.2.1:Int)<(0:Int)))=aaL then
  some aaL
  else
  (if(decide ((k:Int)<=x.2.1))=aaL then
  some aaL
  else
  (idx (l.2.2.take k) x.2.1).bind λx9=>
  some (!decide ((x9.2.1:Int)=(-1:Int)))))
  else
  some aaM):Option (Bool))=some (decide (n9 l k x)):=by
  apply Wp.eq;simp only[W_,aaT,aaU,reduceCtorEq]
  obtain⟨(m:Int),hm⟩:∃m:Int,m=x.2.1:=⟨_,rfl⟩
  simp only[<-hm]at Kq⊢;refine⟨λhp=>⟨λh=>(Kq.2 ⟨hp, .inl h⟩),λh3=>⟨λh=>(Kq.2 ⟨hp, .inr (.inl h)⟩),λh4=>dz.2 ⟨by dsimp only[ae,Row.den]at*;omega,?_⟩⟩⟩,λhp h=>(Kq.1 h).1 hp⟩
  have Uq:m.toNat<k:=by dsimp only[ae,Row.den]at*;omega
  rw[List.getElem_take];have pb:l.2.2[m.toNat]? =some (l.2.2[m.toNat]'(by omega)):=YX (by omega);rw[<-decide_not];refine decide_eq_decide.2 ⟨λh g=>?_,λh=>aai.1 λh'=>h (Kq.2 ⟨hp, .inr (.inr ⟨_,pb,h'⟩)⟩)⟩;obtain⟨_,g1|g1|⟨y,g1,g2⟩⟩:=Kq.1 g
  .exact absurd g1 h3
  .exact absurd g1 h4
  .rw[pb]at g1;cases g1;exact g2 h
 rw[He,YV];by_cases h3:n9 l k x
 .rw[aaP (aaR h3),aaP h3];exact .some rfl
 rw[aaO (by simpa using h3),aaO h3];clear Hd He Kq hE;dsimp only;by_cases h4:12<x.2.2.1.length
 .rw[aaP (aaR (by omega)),aaP h4];exact .some rfl
 rw[aaO (by rw[aaW];omega),aaO h4];by_cases h5:12<x.2.2.2.1.length
 .rw[aaP (aaR (by omega)),aaP h5];exact .some rfl
 rw[aaO (by rw[aaW];omega),aaO h5,OE];unfold Ef;simp only[W_,aaT,aaU,reduceCtorEq]
 refine Wp.count (λs=>s) x.2.2.1.length (λi _=>∀j,j<i->G6 l x j=aaK) (by omega) rfl (λj hj=>by omega) λi c hi hs hJ=>?_
 obtain rfl:c=_:=hs;simp only[W_,aaT,aaU,reduceCtorEq,aQ,aI];refine⟨λai=>?_,λhge=>?_⟩
 .have ai:i<x.2.2.1.length:=by omega
  have hf:=LS l x i ai;simp only[ao ai,iS (aaA ai),nD l _ (x.2.2.1.take i) [] (bL _ (Y0 ai)) (by rw[Zr];unfold maxLen;omega) (by simp),oV (k:=i) (a:=100) (by omega) (by omega),cX (m:=x.2.2.1.length) (by omega) ai,W_,aaT,aaU,reduceCtorEq];refine⟨λh=>?_,λh=>⟨ai,bJ hJ (by rw[hf,aaO (λg=>g h)])⟩⟩;rw[dv (hf.trans (aaP h)) hJ ai];rfl
 rw[bm.2 λj(hj:j<x.2.2.1.length)=>hJ j (by omega),Z4];clear hJ
 refine Wp.count (λs=>s) x.2.2.2.1.length (λi _=>∀j,j<i->G7 l x j=aaK) (by omega) rfl (λj hj=>by omega) λi c hi hs hJ=>?_
 obtain rfl:c=_:=hs;simp only[W_,aaT,aaU,reduceCtorEq,aQ,aI];refine⟨λai=>?_,λhge=>?_⟩
 .have ai:i<x.2.2.2.1.length:=by omega
  have hf:=LU l x i ai;simp only[ao ai,iS (aaA ai),nD l _ x.2.2.1 (x.2.2.2.1.take i) (Xs _ (Y0 ai)) (by unfold maxLen;omega) (by rw[Zr];unfold maxLen;omega),oV (k:=i) (a:=200) (by omega) (by omega),cX (m:=x.2.2.2.1.length) (by omega) ai,W_,aaT,aaU,reduceCtorEq];refine⟨λh=>?_,λh=>⟨ai,bJ hJ (by rw[hf,aaO (λg=>g h)])⟩⟩;rw[dv (hf.trans (aaP h)) hJ ai];rfl
 rw[bm.2 λj(hj:j<x.2.2.2.1.length)=>hJ j (by omega),Z4];clear hJ
 refine Wp.count (λs=>s) x.2.2.2.2.length (λi _=>∀j,j<i->AT l x j=aaK) (by omega) rfl (λj hj=>by omega) λi c hi hs hJ=>?_
 obtain rfl:c=_:=hs;simp only[W_,aaT,aaU,reduceCtorEq,aQ,aI];refine⟨λai=>?_,λhge=>?_⟩
 .have ai:i<x.2.2.2.2.length:=by omega
  have hf:AT l x i=if tC l x i x.2.2.2.2[i]≠0 then some (tC l x i x.2.2.2.2[i],300+(i:Int))else aaK:=by
   unfold AT;rw[YX ai]
  have hr:M.fX bd x (i:Int) ((fL l x).1,((fL l x).2.1,((fL l x).2.2.1,((fL l x).2.2.2.1,((fL l x).2.2.2.2.1,(fL l x).2.2.2.2.2)))))=_:=wg l x S7 wK hT i ai;simp only[hr,oV (k:=i) (a:=300) (by omega) (by omega),cX (m:=x.2.2.2.2.length) (by omega) ai,W_,aaT,aaU,reduceCtorEq];refine⟨λh=>?_,λh=>⟨ai,bJ hJ (by rw[hf,aaO (λg=>g h)])⟩⟩;rw[dv (hf.trans (aaP h)) hJ ai];rfl
 rw[bm.2 λj(hj:j<x.2.2.2.2.length)=>hJ j (by omega),Z4];clear hJ
 refine Wp.count (λs=>s) x.2.2.2.1.length (λi _=>∀j,j<i->Eg x j=aaK) (by omega) rfl (λj hj=>by omega) λi c hi hs hJ=>?_
 obtain rfl:c=_:=hs;simp only[W_,aaT,aaU,reduceCtorEq,aQ,aI];refine⟨λai=>?_,λhge=>?_⟩
 .have ai:i<x.2.2.2.1.length:=by omega
  obtain⟨tr,e1,e2,e3⟩:=hC i ai
  have hf:Eg x i=if(i:Int)∈EV x i then some (9,200+(i:Int))else aaK:=rfl
  simp only[e1,AV tr _ (by unfold maxLen;omega),oV (k:=i) (a:=200) (by omega) (by omega),cX (m:=x.2.2.2.1.length) (by omega) ai,W_,aaT,aaU,reduceCtorEq];refine⟨λh=>?_,λh=>⟨ai,bJ hJ (by rw[hf,aaO (λg=>h (e3.2 g))])⟩⟩;rw[dv (hf.trans (aaP (e3.1 h))) hJ ai];rfl
 .rw[bm.2 λj(hj:j<x.2.2.2.1.length)=>hJ j (by omega)];rfl
theorem sI(l:Lw)(hw:WF ew l)(qk:ko l)(hT:∀x∈l.2.2,yB (fL l x))(hC:∀x∈l.2.2,Ek x):M.gn bd l=some (if 4<l.2.2.length then((4:Int),((3:Int),((4:Int),(0:Int))))else match bQ (λk=>(qR l k).map λe=>(k,e)) l.2.2.length with
 |some (k,e)=>oU 3 (k:Int) (some e)
 |none=>Ee):=by
 have w1:=hw.2.2.1;unfold maxLen at w1;apply Wp.eq;unfold M.gn;simp only[W_,aaT,aaU,reduceCtorEq];refine⟨λh=>by rw[aaP (by omega)],λh8=>?_⟩;rw[aaO (by omega)]
 refine Wp.count (λs=>s) l.2.2.length (λi _=>∀j,j<i->(λk=>(qR l k).map λe=>(k,e)) j=aaK) w1 rfl (λj hj=>by omega) λi c hi hs hJ=>?_
 obtain rfl:c=_:=hs;simp only[W_,aaT,aaU,reduceCtorEq,aQ,aI];refine⟨λai=>?_,λhge=>?_⟩
 .have ai:i<l.2.2.length:=by omega
  simp only[tF l hw qk i ai (hT _ (Y0 ai)) (hC _ (Y0 ai)),cX w1 ai,W_,aaT,aaU,reduceCtorEq];refine⟨λh=>?_,λh=>⟨ai,bJ hJ ?_⟩⟩
  .cases he:qR l i with
   |none=>rw[he]at h;exact absurd rfl h
   |some e=>rw[dv (LP he) hJ ai];rfl
  .cases he:qR l i with
   |none=>rfl
   |some e=>rw[he]at h;exact absurd h (yy he)
 .rw[bm.2 λj hj=>hJ j (by omega)];rfl
theorem yC(l:Lw)(hw:WF ew l)(qk:ko l)(hT:∀x∈l.2.2,yB (fL l x))(hC:∀x∈l.2.2,Ek x):M.dM bd l=some (yw l):=by
 have bad:∀(f:Nat->Option (Int×Int))(m:Nat)(sec:Int)(k:Nat)(e:Int×Int),(∀i e,f i=some e->e.1≠0)->bQ (λk=>(f k).map λe=>(k,e)) m=some (k,e)->(!decide ((oU sec (k:Int) (some e)).1=0))=aaL:=λf m sec k e hf he=>by
  obtain⟨j,_,hj,_⟩:=eJ he;obtain⟨e',he',h2⟩:=Option.map_eq_some_iff.1 hj;cases h2;have:e.1≠0:=hf _ _ he'
  show(!decide (e.1=0))=aaL
  simp[this]
 unfold M.dM yw;rw[tE l hw,YV];by_cases h1:8<l.1.length
 .rw[aaP h1,aaP h1];rfl
 rw[aaO h1,aaO h1]
 cases hA:bQ (λk=>(mw l k).map λe=>(k,e)) l.1.length with
 |some p=>
  obtain⟨k,e⟩:=p;dsimp only;rw[aaP (bad _ _ _ _ _ (λi e=>p6) hA)]
 |none=>
  dsimp only;rw[aaO (by simp[Ee]),sG l hw,YV];by_cases h2:8<l.2.1.length
  .rw[aaP h2,aaP h2];rfl
  rw[aaO h2,aaO h2]
  cases hB:bQ (λk=>(p5 l k).map λe=>(k,e)) l.2.1.length with
  |some p=>
   obtain⟨k,e⟩:=p;dsimp only;rw[aaP (bad _ _ _ _ _ (λi e=>yx) hB)]
  |none=>
   dsimp only
   rw[aaO (by simp[Ee]),sI l hw qk hT hC,YV]<;>rfl
end L
namespace L
theorem Hf(op:Int):M.jA bd op=some (ar op):=by
 apply Wp.eq;unfold M.jA ar;simp only[W_,aaT,aaU,reduceCtorEq];omega
theorem Hg(op:Int):M.lf bd op=some (decide ((1<=op/\op<=8)\/(14<=op/\op<=16)\/op=33\/op=34\/(36<=op/\op<=39))):=by
 apply Wp.eq;unfold M.lf;simp only[W_,aaT,aaU,reduceCtorEq];omega
theorem aX(k:Int):M.dq bd k=some (decide (k=2\/k=3\/k=4)):=by
 apply Wp.eq;unfold M.dq;simp only[W_,aaT,aaU,reduceCtorEq];omega
theorem aG(k:Int):M.fA bd k=some (decide (0<=k/\k<=5)):=by
 apply Wp.eq;unfold M.fA;simp only[W_,aaT,aaU,reduceCtorEq];omega
theorem bp(m k:Int)(s:o8):M.cC bd m k s=some (if zn m (k,(0:Int)) s.1 then((k,(0:Int)),(0:Int))else(((0:Int),(0:Int)),(3:Int))):=by
 apply Wp.eq;unfold M.cC;simp only[Ci,W_,aaT,aaU,reduceCtorEq];have hI:zn m (k,(0:Int)) s.1↔(DQ (k,(0:Int)) s.1).1<=m/\m<=(DQ (k,(0:Int)) s.1).2:=Iff.rfl;exact⟨λh=>by rw[aaO λg=>by have:=hI.1 g;omega],λh=>⟨λh'=>by rw[aaO λg=>by have:=hI.1 g;omega],λh'=>by rw[aaP (hI.2 (by omega))]⟩⟩
noncomputable def pN(n:Ty)(l:List Ty)(s:o8):Option (Ty×Int):=
 if(n.2:Int)≠0/\¬((1<=(n.1:Int)/\(n.1:Int)<=8)\/(14<=(n.1:Int)/\(n.1:Int)<=16)\/(n.1:Int)=33\/(n.1:Int)=34\/(36<=(n.1:Int)/\(n.1:Int)<=39))then some (((0:Int),(0:Int)),2)else M.aE bd n l s
def np(t:Ty):Prop:=1<=(t.1:Int)/\(t.1:Int)<=5->(t.2:Int)=0
theorem LV(op m:Int)(a b:Ty)(s:o8)(h2:ar op=2)(ha:np a)(_:np b):pN (op,m) [a,b] s=M.aC bd (op,m) [a,b] s:=by
 have hr:=sD (op,m) s
 have hR:yv op m s↔(14<=op/\op<=16->0<=m/\m<=5):=by
  unfold ar at h2;unfold yv;exact⟨λh=>h.2.1,λh=>⟨λ_=>by omega,h,λ_=>by omega,λ_=>by omega⟩⟩
 have tl:op=11\/op=12\/op=13\/op=14\/op=15\/op=16\/op=17\/op=18\/op=19\/op=20\/op=21\/op=22\/op=23\/op=24\/op=27\/op=28\/op=29\/op=30:=by unfold ar at h2;omega
 obtain⟨(a1:Int),(a2:Int)⟩:=a;obtain⟨(b1:Int),(b2:Int)⟩:=b;simp only[np]at ha
 rcases tl with rfl|rfl|rfl|rfl|rfl|rfl|rfl|rfl|rfl|rfl|rfl|rfl|rfl|rfl|rfl|rfl|rfl|rfl
 all_goals
  unfold pN M.aE M.cI M.iw M.aC M.aU M.eQ M.hU;simp[au,av,aq,aH,aX,aG,bF,hr,hR,idx,EU]
  grind
theorem Hh(op m:Int)(a b c:Ty)(s:o8)(h3:ar op=3):pN (op,m) [a,b,c] s=M.aC bd (op,m) [a,b,c] s:=by
 have tl:op=26:=by unfold ar at h3;omega
 subst tl;have hr:=sD ((26:Int),m) s
 have hR:yv 26 m s:=by unfold yv;omega
 obtain⟨(a1:Int),(a2:Int)⟩:=a;obtain⟨(b1:Int),(b2:Int)⟩:=b;obtain⟨(c1:Int),(c2:Int)⟩:=c;unfold pN M.aE M.cI M.aC M.aU;simp[au,av,aq,aH,aX,aG,bF,hr,hR,idx,EU]
 grind
theorem LW(op m:Int)(a:Ty)(s:o8)(hm:m<=9223372036854775807)(h1:ar op=1)(ha:np a):pN (op,m) [a] s=M.aC bd (op,m) [a] s:=by
 have hr:=sD (op,m) s
 have hR:yv op m s↔(op=34->0<=m/\aaq m 8<=5):=by
  unfold ar at h1;unfold yv;exact⟨λh=>h.2.2.1,λh=>⟨λ_=>by omega,λ_=>by omega,h,λ_=>by omega⟩⟩
 have hd:0<=m->0<=YW.wrap (Z6 m 8):=λh=>Ch h hm (by omega)
 have ht:0<=m->0<=aaq m 8:=λh=>Int.tmod_nonneg _ h
 have tl:op=10\/op=25\/op=31\/op=32\/op=33\/op=34:=by unfold ar at h1;omega
 obtain⟨(a1:Int),(a2:Int)⟩:=a;simp only[np]at ha
 rcases tl with rfl|rfl|rfl|rfl|rfl|rfl
 .unfold pN M.aE M.cI M.aC M.aU M.cx;simp[au,av,aq,aH,aX,aG,bF,hr,hR,idx,EU]
  grind
 .unfold pN M.aE M.cI M.aC M.aU M.cx;simp[au,av,aq,aH,aX,aG,bF,hr,hR,idx,EU]
  grind
 .unfold pN M.aE M.cI M.aC M.aU M.cx;simp[au,av,aq,aH,aX,aG,bF,hr,hR,idx,EU]
  grind
 .unfold pN M.aE M.cI M.aC M.aU M.cx;simp[au,av,aq,aH,aX,aG,bF,hr,hR,idx,EU]
  grind
 .have i0:idx [((a1,a2):Ty)] 0=some (a1,a2):=rfl;unfold pN M.aE M.gV M.aC M.aU M.cx;by_cases h:0<=m/\m<(s.2.1.length:Int)
  .obtain⟨k,rfl⟩:=Y9 h.1
   have hk:k<s.2.1.length:=by omega
   simp[au,av,aq,aH,bF,hr,hR,EU,lz,bo,i0,ao hk,hk,show¬((s.2.1.length:Int)<=(k:Int)) by omega,show¬((k:Int)<0) by omega];generalize s.2.1[k]=t
   by_cases c1:jO t.2.1 s.1.length<;>by_cases c2:jO t.2.2.1 s.1.length<;>by_cases c3:((a1,a2):Ty)=t.2.1<;>simp[c1,c2,c3]
  .simp[au,av,aq,aH,bF,hr,hR,EU,lz,bo,i0];by_cases KC:m<0
   .simp[KC,show¬0<=m by omega]
   .simp[KC,show 0<=m by omega,show(s.2.1.length:Int)<=m by omega,show¬m<(s.2.1.length:Int) by omega]
 .have i0:idx [((a1,a2):Ty)] 0=some (a1,a2):=rfl;unfold pN M.aE M.gV M.aC M.aU M.cx;simp only[hr,hR];by_cases h:0<=m/\aaq m 8<=5
  .have hd:=hd h.1;have ht:=ht h.1;generalize YW.wrap (Z6 m 8)=j at*;generalize aaq m 8=q at*;by_cases h':j<(s.2.1.length:Int)
   .obtain⟨k,rfl⟩:=Y9 hd
    have hk:k<s.2.1.length:=by omega
    simp[au,av,aq,aH,aG,bF,h,ht,EU,lz,bo,i0,ao hk,hk,show¬(m<0) by omega,show¬((s.2.1.length:Int)<=(k:Int)) by omega,show¬((k:Int)<0) by omega];generalize s.2.1[k]=t;obtain⟨nm,⟨(k1:Int),(k2:Int)⟩,⟨(v1:Int),(v2:Int)⟩,rs⟩:=t;generalize s.1.length=ne;by_cases R:a1=3/\k1=3/\k2=0/\v1=4/\v2=0
    .obtain⟨rfl,rfl,rfl,rfl,rfl⟩:=R;obtain rfl:a2=0:=ha ⟨by decide,by decide⟩
     have v3:jO (((3:Int),(0:Int)):Ty) ne:=by simp[jO]
     have v4:jO (((4:Int),(0:Int)):Ty) ne:=by simp[jO]
     simp[v3,v4]
    .have Xt:(((if a1=3 then if((k1,k2):Int×Int)=(3,0)then some (decide (((v1,v2):Int×Int)=(4,0)),a1,a2)else some (aaM,a1,a2)else some (aaM,a1,a2)):Option (Bool×Int×Int)))=some (aaM,a1,a2):=by
      by_cases q1:a1=3<;>by_cases q2:k1=3<;>by_cases q3:k2=0<;>by_cases q4:v1=4<;>by_cases q5:v2=0<;>simp[q1,q2,q3,q4,q5]<;>exact absurd ⟨q1,q2,q3,q4,q5⟩ R
     rw[Xt];by_cases c1:jO ((k1,k2):Ty) ne
     .by_cases c2:jO ((v1,v2):Ty) ne
      .by_cases e:((a1,a2):Ty)=(k1,k2)
       .injection e with e1 e2
        subst e1 e2;have Pw:=c1;have Nx:=c2;simp only[jO]at Pw Nx;dsimp only[ae,Row.den]at Pw Nx;by_cases f:a1=3
        .have g:¬v1=4:=λg=>R (by omega)
         subst f
         obtain rfl:a2=0:=by omega
         simp[c1,c2,g]
        .simp[c1,c2,f]
       .simp[c1,c2,e]
      .simp[c1,c2]
     .simp[c1]
   .simp[au,av,aq,aH,aG,bF,h,ht,EU,lz,bo,i0,show¬(m<0) by omega,show(s.2.1.length:Int)<=j by omega,show¬j<0 by omega]
  .simp[au,av,aq,aH,aG,bF,EU,lz,bo,i0];by_cases KC:m<0
   .simp[KC,show¬0<=m by omega]
   .have h5:5<aaq m 8:=by omega
    simp[KC,h5,show¬aaq m 8<=5 by omega]
theorem aL(m:Int)(ls:List Ty)(s:o8):M.dI bd m ls s=if 0<=m/\m<(ls.length:Int)then(match ls[m.toNat]? with
 |some t=>if jO t s.1.length then some (t,(0:Int))else some (((0:Int),(0:Int)),(8:Int))
 |none=>aaK)else some (((0:Int),(0:Int)),(6:Int)):=by
 unfold M.dI;by_cases h:0<=m/\m<(ls.length:Int)
 .obtain⟨k,rfl⟩:=Y9 h.1
  have hk:k<ls.length:=by omega
  rw[aaO (by rw[aaW];omega),YV,aaO (by rw[aaW];omega),ao hk,YV,lz,YV,aaP h,Y4,YX hk];by_cases hv:jO ls[k] s.1.length
  .rw[aaO (by simp[hv])];simp only[aaP hv,YV]
  .rw[aaP (by simp[hv])];simp only[aaO hv]
 .rw[aaO h];by_cases h0:m<0
  .rw[aaP (aaR h0)];rfl
  .rw[aaO (by simpa using h0),YV,aaP (aaR (by omega))]
theorem zero_eq(op m:Int)(s:o8)(hm:m<=9223372036854775807)(h0:ar op=0):pN (op,m) [] s=M.aC bd (op,m) [] s:=by
 have hr:=sD (op,m) s
 have hR:yv op m s↔(1<=op/\op<=5->zn m (op,(0:Int)) s.1)/\(op=6->0<=m):=by
  unfold ar at h0;unfold yv;exact⟨λh=>⟨h.1,h.2.2.2⟩,λh=>⟨h.1,λ_=>by omega,λ_=>by omega,h.2⟩⟩
 have hd:0<=m->0<=YW.wrap (Z6 m 16):=λh=>Ch h hm (by omega)
 have tl:op=1\/op=2\/op=3\/op=4\/op=5\/op=6\/op=7\/op=8\/op=9\/op=35\/op=36\/op=37\/op=38\/op=39:=by unfold ar at h0;omega
 have v:∀k:Int,1<=k->k<=5->jO ((k,(0:Int)):Ty) s.1.length:=λk h1 h2=> .inl ⟨h1,h2,rfl⟩
 rcases tl with rfl|rfl|rfl|rfl|rfl|rfl|rfl|rfl|rfl|rfl|rfl|rfl|rfl|rfl
 .unfold pN M.aE M.bc M.br M.aC M.aU M.bC;have v:=v 1 (by decide) (by decide)
  by_cases h:zn m ((1:Int),(0:Int)) s.1<;>simp[au,av,aq,aH,aX,aG,bp,aL,bF,hr,hR,bo,h,v]
 .unfold pN M.aE M.bc M.br M.aC M.aU M.bC;have v:=v 2 (by decide) (by decide)
  by_cases h:zn m ((2:Int),(0:Int)) s.1<;>simp[au,av,aq,aH,aX,aG,bp,aL,bF,hr,hR,bo,h,v]
 .unfold pN M.aE M.bc M.br M.aC M.aU M.bC;have v:=v 3 (by decide) (by decide)
  by_cases h:zn m ((3:Int),(0:Int)) s.1<;>simp[au,av,aq,aH,aX,aG,bp,aL,bF,hr,hR,bo,h,v]
 .unfold pN M.aE M.bc M.br M.aC M.aU M.bC;have v:=v 4 (by decide) (by decide)
  by_cases h:zn m ((4:Int),(0:Int)) s.1<;>simp[au,av,aq,aH,aX,aG,bp,aL,bF,hr,hR,bo,h,v]
 .unfold pN M.aE M.bc M.br M.aC M.aU M.bC;have v:=v 5 (by decide) (by decide)
  by_cases h:zn m ((5:Int),(0:Int)) s.1<;>simp[au,av,aq,aH,aX,aG,bp,aL,bF,hr,hR,bo,h,v]
 .unfold pN M.aE M.bc M.br M.aC M.aU M.bC;by_cases h:m<0
  .simp[au,av,aq,aH,aX,aG,bp,aL,bF,hr,hR,bo,h]
  .have hd:=hd (by omega)
   have h':0<=m:=by omega
   generalize YW.wrap (Z6 m 16)=j at*;generalize aaq m 16=q at*;by_cases hj:j<(s.1.length:Int)
   .obtain⟨k,rfl⟩:=Y9 hd
    have hk:k<s.1.length:=by omega
    have v6:jO (((6:Int),(k:Int)):Ty) s.1.length:= .inr ⟨rfl,by show(0:Int)<=(k:Int);omega,hj⟩;by_cases hq:q<(s.1[k].2.length:Int)
    .simp[au,av,aq,aH,aX,aG,bp,aL,bF,hr,hR,bo,h,h',hk,ao hk,v6,hq,show¬(s.1.length:Int)<=(k:Int) by omega,show¬(s.1[k].2.length:Int)<=q by omega]
    .simp[au,av,aq,aH,aX,aG,bp,aL,bF,hr,hR,bo,h,h',hk,ao hk,v6,hq,show¬(s.1.length:Int)<=(k:Int) by omega,show(s.1[k].2.length:Int)<=q by omega]
   .simp[au,av,aq,aH,aX,aG,bp,aL,bF,hr,hR,bo,h,h',hj,show(s.1.length:Int)<=j by omega]
 .unfold pN M.aE M.bc M.br M.aC M.aU M.bC;by_cases h:0<=m/\m<(s.2.2.1.length:Int)
  .obtain⟨k,rfl⟩:=Y9 h.1
   have hk:k<s.2.2.1.length:=by omega
   by_cases hv:jO s.2.2.1[k] s.1.length<;>simp[au,av,aq,aH,aX,aG,bp,aL,bF,hr,hR,bo,hk,ao hk,hv]
  .by_cases h0:0<=m
   .have h1:¬m<(s.2.2.1.length:Int):=λg=>h ⟨h0,g⟩
    simp[au,av,aq,aH,aX,aG,bp,aL,bF,hr,hR,bo,h0,h1]
   .simp[au,av,aq,aH,aX,aG,bp,aL,bF,hr,hR,bo,h0]
 .unfold pN M.aE M.bc M.br M.aC M.aU M.bC;by_cases h:0<=m/\m<(s.2.2.2.1.length:Int)
  .obtain⟨k,rfl⟩:=Y9 h.1
   have hk:k<s.2.2.2.1.length:=by omega
   by_cases hv:jO s.2.2.2.1[k] s.1.length<;>simp[au,av,aq,aH,aX,aG,bp,aL,bF,hr,hR,bo,hk,ao hk,hv]
  .by_cases h0:0<=m
   .have h1:¬m<(s.2.2.2.1.length:Int):=λg=>h ⟨h0,g⟩
    simp[au,av,aq,aH,aX,aG,bp,aL,bF,hr,hR,bo,h0,h1]
   .simp[au,av,aq,aH,aX,aG,bp,aL,bF,hr,hR,bo,h0]
 .unfold pN M.aE M.bc M.br M.aC M.aU M.bC;have v:=v 5 (by decide) (by decide);by_cases h:m=0
  .subst h;simp[au,av,aq,aH,aX,aG,bp,aL,bF,hr,hR,bo,v]
  .simp[au,av,aq,aH,aX,aG,bp,aL,bF,hr,hR,bo,h]
 .unfold pN M.aE M.bc M.br M.aC M.aU M.bC;have v:=v 2 (by decide) (by decide);by_cases h:m=0
  .subst h;cases hs:s.2.2.2.2.2<;>simp[au,av,aq,aH,aX,aG,bp,aL,bF,hr,hR,bo,v,hs]
  .simp[au,av,aq,aH,aX,aG,bp,aL,bF,hr,hR,bo,h]
 .unfold pN M.aE M.bc M.br M.aC M.aU M.bC;cases hs:s.2.2.2.2.2
  .simp[au,av,aq,aH,aX,aG,bp,aL,bF,hr,hR,bo,hs]
  by_cases h:0<=m/\m<(s.2.2.2.2.1.length:Int)
  .obtain⟨k,rfl⟩:=Y9 h.1
   have hk:k<s.2.2.2.2.1.length:=by omega
   by_cases hv:jO s.2.2.2.2.1[k] s.1.length
   .simp[au,av,aq,aH,aX,aG,bp,aL,bF,hr,hR,bo,hk,ao hk,hv,hs];generalize s.2.2.2.2.1[k]=t at*;obtain⟨(t1:Int),(t2:Int)⟩:=t
    by_cases q2:t1=2<;>by_cases q3:t1=3<;>simp[q2,q3]
   .simp[au,av,aq,aH,aX,aG,bp,aL,bF,hr,hR,bo,hk,ao hk,hv,hs]
  .by_cases h0:0<=m
   .have h1:¬m<(s.2.2.2.2.1.length:Int):=λg=>h ⟨h0,g⟩
    simp[au,av,aq,aH,aX,aG,bp,aL,bF,hr,hR,bo,h0,h1,hs]
   .simp[au,av,aq,aH,aX,aG,bp,aL,bF,hr,hR,bo,h0,hs]
 .unfold pN M.aE M.bc M.br M.aC M.aU M.bC;cases hs:s.2.2.2.2.2
  .simp[au,av,aq,aH,aX,aG,bp,aL,bF,hr,hR,bo,hs]
  by_cases h:0<=m/\m<(s.2.2.2.2.1.length:Int)
  .obtain⟨k,rfl⟩:=Y9 h.1
   have hk:k<s.2.2.2.2.1.length:=by omega
   by_cases hv:jO s.2.2.2.2.1[k] s.1.length
   .simp[au,av,aq,aH,aX,aG,bp,aL,bF,hr,hR,bo,hk,ao hk,hv,hs];generalize s.2.2.2.2.1[k]=t at*;obtain⟨(t1:Int),(t2:Int)⟩:=t
    by_cases q:t1=1<;>simp[q]
   .simp[au,av,aq,aH,aX,aG,bp,aL,bF,hr,hR,bo,hk,ao hk,hv,hs]
  .by_cases h0:0<=m
   .have h1:¬m<(s.2.2.2.2.1.length:Int):=λg=>h ⟨h0,g⟩
    simp[au,av,aq,aH,aX,aG,bp,aL,bF,hr,hR,bo,h0,h1,hs]
   .simp[au,av,aq,aH,aX,aG,bp,aL,bF,hr,hR,bo,h0,hs]
 .unfold pN M.aE M.bc M.br M.aC M.aU M.bC;cases hs:s.2.2.2.2.2
  .simp[au,av,aq,aH,aX,aG,bp,aL,bF,hr,hR,bo,hs]
  by_cases h:0<=m/\m<(s.2.2.2.2.1.length:Int)
  .obtain⟨k,rfl⟩:=Y9 h.1
   have hk:k<s.2.2.2.2.1.length:=by omega
   by_cases hv:jO s.2.2.2.2.1[k] s.1.length
   .simp[au,av,aq,aH,aX,aG,bp,aL,bF,hr,hR,bo,hk,ao hk,hv,hs];generalize s.2.2.2.2.1[k]=t at*;obtain⟨(t1:Int),(t2:Int)⟩:=t
    by_cases q:t1=1<;>simp[q]
   .simp[au,av,aq,aH,aX,aG,bp,aL,bF,hr,hR,bo,hk,ao hk,hv,hs]
  .by_cases h0:0<=m
   .have h1:¬m<(s.2.2.2.2.1.length:Int):=λg=>h ⟨h0,g⟩
    simp[au,av,aq,aH,aX,aG,bp,aL,bF,hr,hR,bo,h0,h1,hs]
   .simp[au,av,aq,aH,aX,aG,bp,aL,bF,hr,hR,bo,h0,hs]
 .unfold pN M.aE M.bc M.br M.aC M.aU M.bC;cases hs:s.2.2.2.2.2
  .simp[au,av,aq,aH,aX,aG,bp,aL,bF,hr,hR,bo,hs]
  by_cases h:0<=m/\m<(s.2.2.2.2.1.length:Int)
  .obtain⟨k,rfl⟩:=Y9 h.1
   have hk:k<s.2.2.2.2.1.length:=by omega
   by_cases hv:jO s.2.2.2.2.1[k] s.1.length
   .simp[au,av,aq,aH,aX,aG,bp,aL,bF,hr,hR,bo,hk,ao hk,hv,hs];generalize s.2.2.2.2.1[k]=t at*;obtain⟨(t1:Int),(t2:Int)⟩:=t
    by_cases q2:t1=2<;>by_cases q3:t1=3<;>by_cases q4:t1=4<;>by_cases q5:t1=5<;>simp[q2,q3,q4,q5]
   .simp[au,av,aq,aH,aX,aG,bp,aL,bF,hr,hR,bo,hk,ao hk,hv,hs]
  .by_cases h0:0<=m
   .have h1:¬m<(s.2.2.2.2.1.length:Int):=λg=>h ⟨h0,g⟩
    simp[au,av,aq,aH,aX,aG,bp,aL,bF,hr,hR,bo,h0,h1,hs]
   .simp[au,av,aq,aH,aX,aG,bp,aL,bF,hr,hR,bo,h0,hs]
theorem OF(n:Ty)(l:List Ty)(s:o8)(hw:WF aa n)(hl:(l.length:Int)=ar n.1)(hN:∀t∈l,np t):pN n l s=some (G1 n l s):=by
 rw[<-G2 hw hl];obtain⟨(op:Int),(m:Int)⟩:=n;have hm:m<=9223372036854775807:=hw.2.2;have h3:=Cg op;dsimp only at hl
 match l,hl with
 |[],hl=>exact zero_eq op m s hm hl.symm
 |[a],hl=>exact LW op m a s hm hl.symm (hN a (by simp))
 |[a,b],hl=>exact LV op m a b s hl.symm (hN a (by simp)) (hN b (by simp))
 |[a,b,c],hl=>exact Hh op m a b c s hl.symm
 |a::b::c::d::l,hl=>simp at hl;omega
theorem jO.Ur{t:Ty}{n:Nat}(h:jO t n):np t:=λh'=>by
 obtain⟨(k:Int),(e:Int)⟩:=t
 rcases h with h|h
 .exact h.2.2
 .dsimp only[ae,Row.den]at*;omega
def Pc{α:Type}(m:Option α)(Q:α->Prop):Prop:=∀r,m=some r->Q r
theorem fM{α:Type}{x:α}{Q:α->Prop}:Pc (some x) Q↔Q x:=⟨λh=>h x rfl,λh r e=>by cases e;exact h⟩
theorem dP{α β:Type}{m:Option α}{k:α->Option β}{Q:β->Prop}:Pc (m.bind k) Q↔Pc m λx=>Pc (k x) Q:=by
 constructor
 .intro h x hx r hr;exact h r (by rw[hx];exact hr)
 .intro h r hr;obtain⟨x,hx,hr⟩:=Option.bind_eq_some_iff.1 hr;exact h x hx r hr
theorem ja{α:Type}{c:Prop}[Decidable c]{a b:Option α}{Q:α->Prop}:Pc (if c then a else b) Q↔(c->Pc a Q)/\(¬c->Pc b Q):=by
 split<;>simp_all
theorem Pc.of{α:Type}{m:Option α}{Q:α->Prop}(h:∀x,Q x):Pc m Q:=λx _=>h x
theorem np.kind(k:Int):np ((k,(0:Int)):Ty):=λ_=>rfl
theorem Hi(n:Ty)(s:o8):Pc (M.bC bd n s) λr=>r.2=aaL->np r.1:=by
 have ho:∀k,M.e7 bd k=some (decide (k=2\/k=3\/k=4\/k=5)):=aq;unfold M.bC;rw[dP]
 refine Pc.of λj=>?_
 simp only[bo,ho,YV];by_cases hv:jO j s.1.length
 .simp only[dP,ja,fM];simp[hv.Ur]
 .simp[hv,dP,ja,fM]
theorem AX(n a:Ty)(s:o8)(ha:np a):Pc (M.cx bd n a s) λr=>r.2=aaL->np r.1:=by
 unfold M.cx;simp only[aH,av,bo,YV,dP,ja,fM];refine⟨λ_ _=>ha,λ_=>⟨λ_ _=>ha,λ_=>?_⟩⟩
 have OB:Pc (idx s.2.1 n.2) λx=>(decide (jO x.2.1 s.1.length)=aaL->(decide (jO x.2.2.1 s.1.length)=aaL->ku aa a x.2.1=aaL->np x.2.2.1)/\(¬decide (jO x.2.2.1 s.1.length)=aaL->aaM=aaL->np x.2.2.1))/\(¬decide (jO x.2.1 s.1.length)=aaL->aaM=aaL->np x.2.2.1):=Pc.of λx=>⟨λ_=>⟨λh _=>(aaQ h:jO x.2.2.1 s.1.length).Ur,λ_ h=>(by cases h)⟩,λ_ h=>(by cases h)⟩
 have LN:Pc (idx s.2.1 (YW.wrap (Z6 n.2 8))) λx=>(decide ((a.1:Int)=3)=aaL->(ku aa x.2.1 ((3:Int),(0:Int))=aaL->ku aa x.2.2.1 ((4:Int),(0:Int))=aaL->np a)/\(¬ku aa x.2.1 ((3:Int),(0:Int))=aaL->aaM=aaL->np a))/\(¬decide ((a.1:Int)=3)=aaL->aaM=aaL->np a):=Pc.of λx=>⟨λ_=>⟨λ_ _=>ha,λ_ _=>ha⟩,λ_ _=>ha⟩
 exact⟨λ_=>⟨λ_ _=>np.kind 2,λ_=>⟨λ_=>OB,λ_=>LN⟩⟩,λ_=>⟨λ_ _=>np.kind 2,λ_=>⟨λ_=>OB,λ_=>LN⟩⟩⟩
theorem AY(op:Int)(a b:Ty)(ha:np a):Pc (M.eQ bd op a b) λr=>r.2=aaL->np r.1:=by
 have hk:∀k:Int,np ((k,(0:Int)):Ty):=np.kind;unfold M.eQ M.hU;simp only[aH,av,aq,YV,dP,ja,fM];simp[ha,hk]
theorem Js(n:Ty)(l:List Ty)(s:o8)(hw:WF aa n)(hl:(l.length:Int)=ar n.1)(hN:∀t∈l,np t)(h0:(G1 n l s).2=0):np (G1 n l s).1:=by
 have pb:∀i,Pc (idx l i) np:=λi x hx=>by
  unfold idx at hx;split at hx
  .exact hN _ (List.mem_of_getElem? hx)
  .cases hx
 have key:Pc (M.aC bd n l s) λr=>r.2=0->np r.1:=by
  unfold M.aC;rw[dP]
  refine Pc.of λj1=>?_
  rw[ja];refine⟨λ_=>fM.2 λh=>(by cases h),λ_=>?_⟩;rw[dP]
  refine Pc.of λy3=>?_
  rw[ja];refine⟨λ_=>fM.2 λh=>(by cases h),λ_=>?_⟩;rw[dP]
  refine Pc.of λy4=>?_
  rw[ja];refine⟨λ_=>fM.2 λh=>(by cases h),λ_=>?_⟩;rw[dP]
  have fin:∀{m:Option (Bool×Ty)},Pc m (λj=>j.1=aaL->np j.2)->Pc m λj5=>Pc (if(!j5.1)=aaL then some (((0:Int),(0:Int)),(8:Int))else some (j5.2,(0:Int))) λr:Ty×Int=>r.2=0->np r.1:=λ{m}h j hj=>by
   have:=h j hj;refine ja.2 ⟨λ_=>fM.2 λh=>(by cases h),λh=>fM.2 λ_=>this (by simpa using h)⟩
  refine fin ?_;rw[ja];refine⟨λ_=>?_,λ_=>?_⟩
  .rw[dP]
   exact λx hx=>fM.2 λh=>Hi n s x hx h
  rw[ja];refine⟨λ_=>?_,λ_=>?_⟩
  .rw[dP]
   refine λa ha=>dP.2 ?_
   exact λx hx=>fM.2 λh=>AX n a s (pb _ a ha) x hx h
  rw[ja];refine⟨λ_=>?_,λ_=>?_⟩
  .rw[dP]
   refine λa ha=>dP.2 λb _=>dP.2 ?_
   exact λx hx=>fM.2 λh=>AY n.1 a b (pb _ a ha) x hx h
  .rw[dP]
   refine λa ha=>?_
   have ha:=pb _ a ha;simp only[dP,ja,fM]
   refine Pc.of λx=>⟨λ_=>Pc.of λy=>Pc.of λz=>λ_=>ha,λ_ _=>ha⟩
 exact key _ (G2 hw hl) h0
theorem Jt(st:List Nat)(m:Nat)(v:Nat):bz (lr st++Zq (m+1) (0:Int)) (st.length:Int) (v:Int)=lr (st++[v])++Zq m (0:Int):=by
 unfold bz;rw[Y4,List.set_append_right _ _ (by simp),List.replicate_succ];simp
theorem Em(st:List Nat)(m:Nat)(u v:Nat):bz (lr (st++[u])++Zq m (0:Int)) (st.length:Int) (v:Int)=lr (st++[v])++Zq m (0:Int):=by
 unfold bz;rw[Y4,List.set_append_left _ _ (by simp)]
 congr 1
 simp only[lr,ZU];rw[List.set_append_right _ _ (by simp)];simp
theorem AZ(e:List Ty):M.gU bd e=some (AN e):=by
 apply Wp.eq;unfold M.gU AN
 refine Wp.dec (λh=> .some ?_) λh1=>?_
 .rw[aaP (by omega)]
 rw[aaO (show¬48<e.length by omega)]
 refine Wp.dec (λh=> .some ?_) λh2=>?_
 .rw[aaP (show e.length=0 by omega)]
 rw[aaO (show¬e.length=0 by omega)]
 have NL:tO (e.length:Int) (0:Int)=some (Zq e.length 0):=by
  unfold tO;rw[aaP (by omega),Y4]
 rw[NL];simp only[YV];refine Wp.join (Wp.loop (λs:Int×List Int×List Int=>∃st sk:List Nat,s=((st.length:Int),lr st++Zq (e.length-st.length) 0,lr sk)/\st.length<=e.length/\sk.length<=12/\oT (e.drop st.length) st.length st sk=oT e 0 [] []) (λs=>(e.length-s.1).toNat) ⟨[],[],by simp,by simp,by simp,by simp⟩ (by simp only;unfold bd;omega) ?_)
 rintro _ ⟨st,sk,rfl,dZ,Yx,bn⟩
 simp only
 refine Wp.dec (λhk=>?_) λhk=> .some ?_
 case refine_2=>
  have hd:e.drop st.length=[]:=Z0 (by omega);rw[hd]at bn;rw[<-bn]
  have h0:e.length-st.length=0:=by omega
  rw[h0];simp only[oT,List.replicate_zero,List.append_nil]
  show Wp _ _
  refine Wp.dec (λh=> .some ?_) λh=> .some ?_
  .rw[aaP (by simp at h;omega)]
  .rw[aaO (by simp at h;omega)]
 have jd:st.length<e.length:=by omega
 have hd:e.drop st.length=e[st.length]::e.drop (st.length+1):=ZA jd
 obtain⟨m,hm⟩:∃m,e.length-st.length=m+1:=⟨e.length-st.length-1,by omega⟩
 rw[hd]at bn;rw[ao jd,hm];simp only[YV,Hf];generalize tl:(e[st.length].1:Int)=op;rw[oT]at bn;rw[tl]at bn;have Xu:=Cg op
 refine Wp.dec (λh=> .some ?_) λEo=>?_
 .rw[aaP h]at bn
  show _=_
  rw[<-bn]
 rw[aaO Eo]at bn
 refine Wp.dec (λh=> .some ?_) λhlen=>?_
 .rw[aaP (by simpa using h)]at bn
  show _=_
  rw[<-bn]
 have hlen:¬(sk.length:Int)<ar op:=by simpa using hlen
 rw[aaO hlen]at bn
 obtain⟨a,ha⟩:∃a:Nat,ar op=a:=⟨(ar op).toNat,by omega⟩
 rw[ha]at bn Eo hlen Xu⊢
 have Xv:a<=sk.length:=by omega
 have e6:idx (lr st++Zq (m+1) (0:Int)) (st.length:Int)=some 0:=by
  rw[ao (by simp)];rw[List.getElem_append_right (by simp)];simp
 rw[e6]
 have hw:YW.wrap (((lr sk).length:Int)-(a:Int))=((sk.length-a:Nat):Int):=by
  rw[Z5,ed (by omega) (by omega)];omega
 have hs:ME (a:Int) st.length sk=(if a=0 then st.length else sk.getD (sk.length-a) 0):=by
  unfold ME;by_cases h0:a=0
  .subst h0;simp
  .rw[aaO (by omega),aaO h0,Y4]
 simp only[YV,Jt,hw];refine Wp.seq (· =lr (st++[ME (a:Int) st.length sk])++Zq m (0:Int)) ?_ ?_
 .refine Wp.dec (λh=>?_) λh=>?_
  .have ai:sk.length-a<(lr sk).length:=by simp;omega
   rw[ao ai]
   have e9:idx (lr (st++[st.length])++Zq m (0:Int)) (st.length:Int)=some (st.length:Int):=by
    rw[ao (by simp)];rw[List.getElem_append_left (by simp)];simp
   simp only[YV,e9,List.getElem_map,Em];refine .some ?_;rw[hs,aaO (by omega),show sk.getD (sk.length-a) 0=sk[sk.length-a]'(by simpa using ai) by simp[List.getD,show sk.length-a<sk.length by omega]]
  .refine .some ?_;rw[hs,aaP (by omega)]
 .rintro _ rfl
  generalize ME (a:Int) st.length sk=s at bn⊢
  have zu:eG (lr sk) (0:Int) ((sk.length-a:Nat):Int)=some (lr (sk.take (sk.length-a))):=by
   rw[uL (by simp)];simp
  have Xw:idx (lr (st++[s])++Zq m (0:Int)) (st.length:Int)=some (s:Int):=by
   rw[ao (by simp)];rw[List.getElem_append_left (by simp)];simp
  have LX:b7 (lr (sk.take (sk.length-a))) [(s:Int)]=some (lr (sk.take (sk.length-a)++[s])):=by
   rw[fK (by simp;omega)];simp
  rw[zu];simp only[YV,Xw,LX]
  have hl:(lr (sk.take (sk.length-a)++[s])).length=sk.length-a+1:=by simp
  rw[hl];rw[Y4]at bn
  refine Wp.dec (λh=> .some ?_) λh=> .some ?_
  .rw[aaP (by omega)]at bn
   show _=_
   rw[<-bn]
  .rw[aaO (by omega)]at bn;rw[aF (by omega)];refine⟨⟨st++[s],sk.take (sk.length-a)++[s],?_,by simp;omega,by simp;omega,?_⟩,by simp only;omega⟩
   .have:e.length-(st++[s]).length=m:=by simp;omega
    rw[this];simp
   .rw[Zf];exact bn
theorem yB.all(s:o8):yB s:=λe hw=>by
 apply Wp.eq;unfold M.jY;simp only[AZ,Hf,Hg,W_,aaT,aaU,reduceCtorEq];refine⟨λh=>by unfold Jl;rw[aaP h],λh0=>?_⟩;obtain⟨Yy,cq,cy,Yz,OD⟩:=Jm h0
 have hT:Jl e s=match nB s e 0 []with
  | .inl (i,c)=>(((0:Int),(0:Int)),(i:Int),c)
  | .inr kR=>(kR.headD ((0:Int),(0:Int)),0,0):=by unfold Jl;rw[aaO (by omega)]<;>cases nB s e 0 []<;>rfl
 refine Wp.count (λs=>s.1) e.length (λk q=>∃st sk,q.2.length=sk.length/\oT e 0 [] []=oT (e.drop k) k st sk/\nB s e 0 []=nB s (e.drop k) k q.2/\q.2.length<=k/\(0<k->q.2≠[])/\∀t∈q.2,np t) (by omega) rfl ⟨[],[],rfl,rfl,rfl,YY _,λh=>by omega,λ_ h=>by cases h⟩ λk q hk hs hJ=>?_
 obtain⟨i,kR⟩:=q;obtain⟨st,sk,hl,hr,ht,KV,ov,LY⟩:=hJ;dsimp only at hs hl ht KV ov LY;subst hs;simp only[W_,aaT,aaU,reduceCtorEq,aQ,aI];refine⟨λai=>?_,λhge=>?_⟩
 .have ai:k<e.length:=by omega
  rw[ZA ai,oT]at hr;rw[ZA ai,nB]at ht;rw[OD]at hr;have YA:=Cg e[k].1;split at hr
  .cases hr
  split at hr
  .cases hr
  split at hr
  .cases hr
  rename_i YB YC YD
  have w1:YW.wrap ((kR.length:Int)-ar e[k].1)=((kR.length-(ar e[k].1).toNat:Nat):Int):=by rw[ed (by omega) (by omega)];omega
  have hd:((kR.drop (kR.length-(ar e[k].1).toNat)).length:Int)=ar e[k].1:=by rw[List.length_drop];omega
  have Us:=hw _ (Y0 ai)
  have Ut:∀t∈kR.drop (kR.length-(ar e[k].1).toNat),np t:=λt h=>LY t (List.mem_of_mem_drop h)
  have hp:=OF e[k] _ s Us hd Ut;have ve:=Js e[k] _ s Us hd Ut
  have bad:∀c:Int,c≠0->(G1 e[k] (kR.drop (kR.length-(ar e[k].1).toNat)) s).2=c->(((0:Int),(0:Int)),(k:Int),c)=Jl e s:=λc h0 hc=>by
   rw[hT,ht,aaP (by rw[hc];exact h0),hc]
  have rest:¬((e[k].2:Int)≠0/\¬((1<=(e[k].1:Int)/\(e[k].1:Int)<=8)\/(14<=(e[k].1:Int)/\(e[k].1:Int)<=16)\/(e[k].1:Int)=33\/(e[k].1:Int)=34\/(36<=(e[k].1:Int)/\(e[k].1:Int)<=39)))->M.aE bd e[k] (kR.drop (kR.length-(ar e[k].1).toNat)) s=some (G1 e[k] (kR.drop (kR.length-(ar e[k].1).toNat)) s):=λh=>by
   rw[<-hp];exact(aaO h).symm
  have cond:((e[k].2:Int)≠0/\¬((1<=(e[k].1:Int)/\(e[k].1:Int)<=8)\/(14<=(e[k].1:Int)/\(e[k].1:Int)<=16)\/(e[k].1:Int)=33\/(e[k].1:Int)=34\/(36<=(e[k].1:Int)/\(e[k].1:Int)<=39)))->(G1 e[k] (kR.drop (kR.length-(ar e[k].1).toNat)) s).2=2:=λh=>by
   have:some (G1 e[k] (kR.drop (kR.length-(ar e[k].1).toNat)) s)=some (((0:Int),(0:Int)),(2:Int)):=by
    rw[<-hp];exact aaP h
   rw[YU this]
  have good:¬((e[k].2:Int)≠0/\¬((1<=(e[k].1:Int)/\(e[k].1:Int)<=8)\/(14<=(e[k].1:Int)/\(e[k].1:Int)<=16)\/(e[k].1:Int)=33\/(e[k].1:Int)=34\/(36<=(e[k].1:Int)/\(e[k].1:Int)<=39)))->Wp (M.aE bd e[k] (kR.drop (kR.length-(ar e[k].1).toNat)) s) λy9=>(¬(y9.2:Int)=0->(((0:Int),(0:Int)),(k:Int),y9.2)=Jl e s)/\((y9.2:Int)=0->Wp (b7 (kR.take (kR.length-(ar e[k].1).toNat)) [y9.1]) λx=>k<e.length/\YW.wrap ((k:Int)+1)=((k+1:Nat):Int)/\∃st sk,x.length=sk.length/\oT e 0 [] []=oT (e.drop (k+1)) (k+1) st sk/\nB s e 0 []=nB s (e.drop (k+1)) (k+1) x/\x.length<=k+1/\(0<k+1->x≠[])/\∀t∈x,np t):=λh=>by
   rw[rest h];refine .some ⟨λhc=>bad _ hc rfl,λhc=>?_⟩;rw[aaO (λg=>g hc)]at ht;refine nY.2 ⟨by rw[Zr];simp;omega,ai,cX (m:=e.length) (by omega) ai,_,_,?_,OD.trans hr,ht,?_,λ_=>by simp,λt h=>?_⟩
   .simp only[Zf,Zr,Ze,List.length_nil,hl]
   .simp only[Zf,Zr,Ze,List.length_nil];omega
   .rcases Y7.1 h with h|h
    .exact LY t (List.mem_of_mem_take h)
    .rw[Y5.1 h];exact ve hc
  simp only[ao ai,w1,uL (show kR.length-(ar e[k].1).toNat<=kR.length by omega),rm (l:=kR) (kR.length-(ar e[k].1).toNat) kR.length rfl rfl (by omega) (YY _),Zh,W_,aaT,aaU,reduceCtorEq];exact⟨λh1=>⟨λh2=>bad 2 (by decide) (cond ⟨h1,h2⟩),λh2=>good λg=>g.2 h2⟩,λh1=>good λg=>g.1 h1⟩
 .obtain rfl:k=e.length:=by omega
  rw[List.drop_length,nB]at ht;rw[hT,ht];have:kR≠[]:=ov (List.length_pos_iff.2 cq);obtain⟨a,l,rfl⟩:=List.exists_cons_of_ne_nil this;exact dz.2 ⟨by simp,rfl⟩
end L
end Go.Proofs.YtbladfbbhijpmaaGreat
