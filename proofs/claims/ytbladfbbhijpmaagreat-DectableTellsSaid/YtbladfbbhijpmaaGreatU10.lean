/- Joined texts: ModelA Plain Wq PD RA RB RC RD RE RF RI RU RV RW. -/
import Derived.Test.YtbladfbbhijpmaaGreatU9
import Derived.Test.YtbladfbbhijpmaaGreatU1
import Derived.Test.YtbladfbbhijpmaaGreatU6
section
open _root_.Int renaming tdiv->ZK,tmod->Z7
open _root_.Go.IntKind renaming i64->YC
namespace Go.Proofs.YtbladfbbhijpmaaGreat
open Go Go.RowKit
noncomputable section
set_option maxRecDepth 100000
set_option linter.unusedVariables false
def M.iP(N:Nat)(a0:aa.den)(a1:Int):Option Bool:=
((M.lA N a0).bind fun y2=>
(if y2 then
(if(decide (a0.1<=a1))then
some (decide (a1<a0.2))
else
some false)
else
some false):Option Bool).bind fun j1=>
some j1
def M.jB(N:Nat)(a0:aO.den)(a1:Int)(a2:Int):Option (List Int):=
Loop (S:=Int×List Int) (X:=List Int) (fun s1=>
(if(decide (s1.1<(a0.2.2.2.2.length:Int)))then
(((idx a0.2.2.2.2 s1.1).bind fun x4=>
(if(decide (x4.2.1=a1))then
(idx a0.2.2.2.2 s1.1).bind fun x5=>
(M.iP N x5.2.2.2.2.1 a2).bind fun y6=>
some y6
else
some false):Option Bool).bind fun j3=>
(if j3 then
(bZ s1.2 ([s1.1]:List Int)).bind fun l7=>
some l7
else
some s1.2):Option (List Int)).bind fun j2=>
some (.inl (YC.wrap (s1.1+1),j2))
else
some (.inr s1.2))) N (0,([]:List Int))
def M.lB(N:Nat)(a0:List Int)(a1:Int):Option Int:=
Loop (S:=Int) (X:=Int) (fun s1=>
(if(decide (s1<(a0.length:Int)))then
(idx a0 s1).bind fun x2=>
(if(decide (x2=a1))then
some (.inr s1)
else
some (.inl (YC.wrap (s1+1))))
else
some (.inr (-1)))) N 0
def M.kD(N:Nat)(a0:aO.den)(a1:List Int)(a2:Int):Option Int:=
(idx a0.2.2.2.2 a2).bind fun x1=>
Loop (S:=Int×Int) (X:=Int) (fun s2=>
((if(decide (0<=s2.2))then
some (decide (s2.2<s2.1))
else
some false):Option Bool).bind fun j3=>
(if j3 then
(M.lB N a1 s2.2).bind fun y4=>
(if(decide (0<=y4))then
some (.inr y4)
else
(idx a0.2.2.2.2 s2.2).bind fun x5=>
some (.inl (s2.2,x5.2.2.1)))
else
some (.inr (-1)))) N (a2,x1.2.2.1)
def M.kE(N:Nat)(a0:aO.den)(a1:Int)(a2:Int):Option ((List Int)×(List Int)×List Int):=
(M.jB N a0 a1 a2).bind fun y1=>
(Loop (S:=Int×(List Int)×List Int) (X:=(List Int)×List Int) (fun s3=>
(if(decide (s3.1<(y1.length:Int)))then
(idx y1 s3.1).bind fun x4=>
(M.kD N a0 y1 x4).bind fun y5=>
(bZ s3.2.1 ([y5]:List Int)).bind fun l6=>
(idx y1 s3.1).bind fun x7=>
(idx a0.2.2.2.2 x7).bind fun x8=>
(bZ s3.2.2 ([x8.2.2.2.1]:List Int)).bind fun l9=>
some (.inl (YC.wrap (s3.1+1),l6,l9))
else
some (.inr (s3.2.1,s3.2.2)))) N (0,([]:List Int),([]:List Int)):Option ((List Int)×List Int)).bind fun j2=>
some (y1,j2.1,j2.2)
def M.na(N:Nat)(a0:List aa.den)(a1:List aa.den):Option Bool:=
(if(!decide ((a0.length:Int)=(a1.length:Int)))then
some false
else
Loop (S:=Int) (X:=Bool) (fun s1=>
((if(decide (s1<(a0.length:Int)))then
some (decide (s1<(a1.length:Int)))
else
some false):Option Bool).bind fun j2=>
(if j2 then
(idx a0 s1).bind fun x3=>
(idx a1 s1).bind fun x4=>
(if(!(ki aa x3 x4))then
some (.inr false)
else
some (.inl (YC.wrap (s1+1))))
else
some (.inr true))) N 0)
def M.kF(N:Nat)(a0:List (List aa.den))(a1:List aa.den):Option Int:=
Loop (S:=Int) (X:=Int) (fun s1=>
(if(decide (s1<(a0.length:Int)))then
(idx a0 s1).bind fun x2=>
(M.na N x2 a1).bind fun y3=>
(if y3 then
some (.inr s1)
else
some (.inl (YC.wrap (s1+1))))
else
some (.inr (-1)))) N 0
def M.iQ(N:Nat)(a0:List Int)(a1:List Int):Option Int:=
(if(!decide ((a0.length:Int)=(a1.length:Int)))then
some 2
else
(if(decide (8<(a0.length:Int)))then
some 4
else
Loop (S:=Int) (X:=Int) (fun s1=>
(if(decide (s1<(a0.length:Int)))then
((idx a0 s1).bind fun x3=>
(if(decide (x3<(-1)))then
some true
else
(idx a0 s1).bind fun x4=>
some (decide (s1<=x4))):Option Bool).bind fun j2=>
(if j2 then
some (.inr 9)
else
((idx a1 s1).bind fun x6=>
(if(decide (x6<0))then
some true
else
(idx a1 s1).bind fun x7=>
some (decide (9<x7))):Option Bool).bind fun j5=>
(if j5 then
some (.inr 3)
else
some (.inl (YC.wrap (s1+1)))))
else
some (.inr 0))) N 0))
def M.lC(N:Nat)(a0:List Int)(a1:Int):Option (List Int):=
Loop (S:=Int×List Int) (X:=List Int) (fun s1=>
(if(decide (s1.1<(a0.length:Int)))then
((idx a0 s1.1).bind fun x3=>
(if(decide (x3=a1))then
(bZ s1.2 ([s1.1]:List Int)).bind fun l4=>
some l4
else
some s1.2):Option (List Int)).bind fun j2=>
some (.inl (YC.wrap (s1.1+1),j2))
else
some (.inr s1.2))) N (0,([]:List Int))
mutual
def M.dM(B:Nat):Nat->(List Int)->(List Int)->(List Bool)->Int->Option Int
 |0,_,_,_,_=>none
 |N+1,a0,a1,a2,a3=>
  (M.kG B N a0 a1 a2 a3).bind fun y2=>
  (if(decide ((y2.length:Int)=0))then
  some (-1)
  else
  (if(decide (1<(y2.length:Int)))then
  some (-2)
  else
  (idx y2 0).bind fun x5=>
  (M.cB B N a0 a1 a2 x5).bind fun y6=>
  some y6))
def M.kG(B:Nat):Nat->(List Int)->(List Int)->(List Bool)->Int->Option (List Int)
 |0,_,_,_,_=>none
 |N+1,a0,a1,a2,a3=>
  (M.lC B a0 a3).bind fun y2=>
  Loop (S:=Int×List Int) (X:=List Int) (fun rj=>
  (if(decide (rj.1<(y2.length:Int)))then
  ((idx y2 rj.1).bind fun RD=>
  (M.cB B N a0 a1 a2 RD).bind fun RE=>
  (if(decide (RE=(-1)))then
  some rj.2
  else
  (((if(decide (0<(rj.2.length:Int)))then
  (idx y2 rj.1).bind fun RF=>
  (idx a1 RF).bind fun RG=>
  (idx rj.2 0).bind fun RH=>
  (idx a1 RH).bind fun RJ=>
  some (decide (RJ<RG))
  else
  some false):Option Bool).bind fun RL=>
  (if RL then
  some ([]:List Int)
  else
  some rj.2):Option (List Int)).bind fun Hn=>
  ((if(decide ((Hn.length:Int)=0))then
  some true
  else
  (idx y2 rj.1).bind fun RM=>
  (idx a1 RM).bind fun RN=>
  (idx Hn 0).bind fun RO=>
  (idx a1 RO).bind fun RP=>
  some (decide (RN=RP))):Option Bool).bind fun RQ=>
  (if RQ then
  (idx y2 rj.1).bind fun RS=>
  (bZ Hn ([RS]:List Int)).bind fun RT=>
  some RT
  else
  some Hn)):Option (List Int)).bind fun RU=>
  some (.inl (YC.wrap (rj.1+1),RU))
  else
  some (.inr rj.2))) B (0,([]:List Int))
def M.cB(B:Nat):Nat->(List Int)->(List Int)->(List Bool)->Int->Option Int
 |0,_,_,_,_=>none
 |N+1,a0,a1,a2,a3=>
  (M.dM B N a0 a1 a2 a3).bind fun y2=>
  ((if(decide (y2=(-1)))then
  (idx a2 a3).bind fun x7=>
  some x7
  else
  some false):Option Bool).bind fun j6=>
  (if j6 then
  some a3
  else
  some y2)
end
def M.iR(N:Nat)(a0:List Int)(a1:List Int)(a2:List Bool)(a3:Int):Option Int:=M.dM N N a0 a1 a2 a3
def M.ga(N:Nat)(a0:List Int)(a1:List Int)(a2:List Bool):Option Int:=
((M.iQ N a0 a1).bind fun y2=>
(if(!decide (y2=0))then
some true
else
some (!decide ((a2.length:Int)=(a0.length:Int)))):Option Bool).bind fun j1=>
(if j1 then
some (-1)
else
(M.iR N a0 a1 a2 (-1)).bind fun y3=>
some y3)
def M.cM(N:Nat)(a0:aa.den)(a1:Int):Option Bool:=
some (decide ((al .and .i64 a1 a0.1)=a0.2))
def WJ(N:Nat):bU:=⟨⟨[(0, .g aa),(1, .l ae)],[],[],0⟩,⟨[(0, .l .bool)],[],[],0⟩,fun(x:aa.den×Int)=>M.cM N x.1 x.2⟩
theorem Tb(N:Nat):aL Tryz.prog 32 (WJ N):=fw (en [] false false) (N:=N) .nil Tryz.func32 (by kernel_rfl) fun x=>by kernel_rfl
def M.gS(N:Nat)(a0:Int):Option Int:=
(if(decide (a0<0))then
some 0
else
(if(decide (8<a0))then
some 8
else
some a0))
def WK(N:Nat):bU:=⟨⟨[(0, .l ae)],[],[],0⟩,⟨[(0, .l ae)],[],[],0⟩,fun(x:Int)=>M.gS N x⟩
theorem WL(N:Nat):aL Tryz.prog 58 (WK N):=fw (en [] false false) (N:=N) .nil Tryz.func58 (by kernel_rfl) fun x=>by kernel_rfl
def M.iS(N:Nat)(a0:Int):Option Int:=
Loop (S:=Int×Int) (X:=Int) (fun s1=>
(if(decide (s1.2<a0))then
some (.inl (YC.wrap (s1.1*2),YC.wrap (s1.2+1)))
else
some (.inr s1.1))) N (1,0)
def WM(N:Nat):bU:=⟨⟨[(0, .l ae)],[],[],0⟩,⟨[(0, .l ae)],[],[],0⟩,fun(x:Int)=>M.iS N x⟩
theorem WN(N:Nat):aL Tryz.prog 57 (WM N):=fw (en [] false false) (N:=N) (.o (.o (.two (.o (.two (.loop ⟨[(3, .l ae),(4, .l ae)],[],[],48⟩ .nil) .nil)) .nil))) Tryz.func57 (by kernel_rfl) fun x=>by kernel_rfl
def M.jC(N:Nat)(a0:List Int)(a1:Int):Option (List Bool):=
(M.iS N a1).bind fun y1=>
(sf y1 false).bind fun l2=>
Loop (S:=Int×List Bool) (X:=List Bool) (fun s3=>
(if(decide (s3.1<(a0.length:Int)))then
(((idx a0 s3.1).bind fun x6=>
(if(decide (0<=x6))then
(idx a0 s3.1).bind fun x7=>
some (decide (x7<(s3.2.length:Int)))
else
some false):Option Bool).bind fun j5=>
(if j5 then
(idx a0 s3.1).bind fun x8=>
(idx s3.2 x8).bind fun x9=>
some (bg s3.2 x8 true)
else
some s3.2):Option (List Bool)).bind fun j4=>
some (.inl (YC.wrap (s3.1+1),j4))
else
some (.inr s3.2))) N (0,l2)
def M.nc(N:Nat)(a0:Int):Option Int:=
Loop (S:=Int×Int) (X:=Int) (fun s1=>
(if(decide (0<s1.1))then
some (.inl (YC.wrap (ZK s1.1 2),YC.wrap (s1.2+(Z7 s1.1 2))))
else
some (.inr s1.2))) N (a0,0)
def M.lD(N:Nat)(a0:aa.den)(a1:List Bool)(a2:List Bool):Option Bool:=
Loop (S:=Int) (X:=Bool) (fun s1=>
(if(decide (s1<(a1.length:Int)))then
((M.cM N a0 s1).bind fun y3=>
(if y3 then
(idx a1 s1).bind fun x4=>
(if x4 then
(idx a2 s1).bind fun x5=>
some (!x5)
else
some false)
else
some false):Option Bool).bind fun j2=>
(if j2 then
some (.inr true)
else
some (.inl (YC.wrap (s1+1))))
else
some (.inr false))) N 0
def M.fx(N:Nat)(a0:aa.den)(a1:List Bool):Option Bool:=
Loop (S:=Int) (X:=Bool) (fun s1=>
(if(decide (s1<(a1.length:Int)))then
((M.cM N a0 s1).bind fun y3=>
(if y3 then
(idx a1 s1).bind fun x4=>
some (!x4)
else
some false):Option Bool).bind fun j2=>
(if j2 then
some (.inr false)
else
some (.inl (YC.wrap (s1+1))))
else
some (.inr true))) N 0
def M.lE(N:Nat)(a0:aa.den)(a1:List Bool):Option Bool:=
(M.fx N a0 a1).bind fun y1=>
(if(!y1)then
some false
else
Loop (S:=Int) (X:=Bool) (fun s2=>
(if(decide (s2<(a1.length:Int)))then
((if(!decide ((al .and .i64 a0.1 s2)=0))then
(M.fx N (al .andNot .i64 a0.1 s2,al .andNot .i64 a0.2 s2) a1).bind fun y4=>
some y4
else
some false):Option Bool).bind fun j3=>
(if j3 then
some (.inr false)
else
some (.inl (YC.wrap (s2*2))))
else
some (.inr true))) N 1)
def M.iT(N:Nat)(a0:List Int)(a1:Int):Option (List aa.den):=
(M.gS N a1).bind fun y1=>
(M.jC N a0 y1).bind fun y2=>
(sf (y2.length:Int) false).bind fun l3=>
Loop (S:=Int×(List Bool)×List aa.den) (X:=List aa.den) (fun s4=>
(if(decide (s4.1<=y1))then
(Loop (S:=Int×(List Bool)×List aa.den) (X:=(List Bool)×List aa.den) (fun s6=>
(if(decide (s6.1<(y2.length:Int)))then
(((M.nc N s6.1).bind fun y9=>
(if(!decide (y9=s4.1))then
some (s6.2.1,s6.2.2)
else
Loop (S:=Int×(List Bool)×List aa.den) (X:=(List Bool)×List aa.den) (fun rh=>
(if(decide (rh.1<=s6.1))then
((((if(!decide ((al .and .i64 rh.1 s6.1)=rh.1))then
some true
else
(M.lD N (s6.1,rh.1) y2 rh.2.1).bind fun vi=>
(if(!vi)then
some true
else
(M.lE N (s6.1,rh.1) y2).bind fun Iy=>
some (!Iy))):Option Bool).bind fun Gl=>
(if Gl then
some (rh.2.1,rh.2.2)
else
(Loop (S:=Int×List Bool) (X:=List Bool) (fun Au=>
(if(decide (Au.1<(y2.length:Int)))then
((idx Au.2 Au.1).bind fun MC=>
(if MC then
(idx Au.2 Au.1).bind fun Yc=>
some (bg Au.2 Au.1 true)
else
(M.cM N (s6.1,rh.1) Au.1).bind fun KN=>
(idx Au.2 Au.1).bind fun JH=>
some (bg Au.2 Au.1 KN)):Option (List Bool)).bind fun MY=>
some (.inl (YC.wrap (Au.1+1),MY))
else
some (.inr Au.2))) N (0,rh.2.1):Option (List Bool)).bind fun Gk=>
(bZ rh.2.2 ([(s6.1,rh.1)]:List aa.den)).bind fun RV=>
some (Gk,RV)):Option ((List Bool)×List aa.den)).bind fun vh=>
some (vh.1,vh.2):Option ((List Bool)×List aa.den)).bind fun Cp=>
some (.inl (YC.wrap (rh.1+1),Cp.1,Cp.2))
else
some (.inr (rh.2.1,rh.2.2)))) N (0,s6.2.1,s6.2.2)):Option ((List Bool)×List aa.den)).bind fun j8=>
some (j8.1,j8.2):Option ((List Bool)×List aa.den)).bind fun j7=>
some (.inl (YC.wrap (s6.1+1),j7.1,j7.2))
else
some (.inr (s6.2.1,s6.2.2)))) N (0,s4.2.1,s4.2.2):Option ((List Bool)×List aa.den)).bind fun j5=>
some (.inl (YC.wrap (s4.1+1),j5.1,j5.2))
else
some (.inr s4.2.2))) N (0,l3,([]:List aa.den))
def M.gw(N:Nat)(a0:fh.den)(a1:Int)(a2:Int)(a3:Int):Option (Int×(List (List aa.den))×(List Int)×List ai.den):=
(idx a0.2.2 a1).bind fun x1=>
(M.kE N x1 a2 a3).bind fun y2=>
(Loop (S:=Int×Int×(List (List aa.den))×List Int) (X:=Int×(List (List aa.den))×List Int) (fun s4=>
(if(decide (s4.1<(y2.1.length:Int)))then
((idx y2.1 s4.1).bind fun x6=>
(idx x1.2.2.2.2 x6).bind fun x7=>
((if(decide (0<(x7.2.2.2.2.2.1.length:Int)))then
(M.kF N s4.2.2.1 x7.2.2.2.2.2.1).bind fun y9=>
some (decide (y9<0))
else
some false):Option Bool).bind fun j8=>
(if j8 then
(bZ ([]:List aa.den) x7.2.2.2.2.2.1).bind fun Hi=>
(bZ s4.2.2.1 ([Hi]:List (List aa.den))).bind fun Hm=>
(idx y2.1 s4.1).bind fun As=>
(bZ s4.2.2.2 ([As]:List Int)).bind fun MF=>
some (s4.2.1,Hm,MF)
else
some (s4.2.1,s4.2.2.1,s4.2.2.2)):Option (Int×(List (List aa.den))×List Int)).bind fun j5=>
some (.inl (YC.wrap (s4.1+1),j5.1,j5.2.1,j5.2.2))
else
some (.inr (s4.2.1,s4.2.2.1,s4.2.2.2)))) N (0,a2,([]:List (List aa.den)),([]:List Int)):Option (Int×(List (List aa.den))×List Int)).bind fun j3=>
(Loop (S:=Int×List Int) (X:=List Int) (fun w3=>
(om .i64 1 (j3.2.1.length:Int)).bind fun MG=>
(if(decide (w3.1<MG))then
((Loop (S:=Int×List Bool) (X:=List Bool) (fun KO=>
(if(decide (KO.1<(y2.1.length:Int)))then
((idx y2.1 KO.1).bind fun WO=>
(idx x1.2.2.2.2 WO).bind fun JH=>
(if(decide ((JH.2.2.2.2.2.1.length:Int)=0))then
(bZ KO.2 ([true]:List Bool)).bind fun RV=>
some RV
else
(M.kF N j3.2.1 JH.2.2.2.2.2.1).bind fun WQ=>
(Bf .i64 w3.1 WQ).bind fun QN=>
(bZ KO.2 ([decide ((al .and .i64 QN 1)=1)]:List Bool)).bind fun WR=>
some WR):Option (List Bool)).bind fun KJ=>
some (.inl (YC.wrap (KO.1+1),KJ))
else
some (.inr KO.2))) N (0,([]:List Bool)):Option (List Bool)).bind fun MY=>
(M.ga N y2.2.1 y2.2.2 MY).bind fun RW=>
((if(decide (0<=RW))then
(idx y2.1 RW).bind fun QS=>
some QS
else
some RW):Option Int).bind fun QR=>
(bZ w3.2 ([QR]:List Int)).bind fun WS=>
some WS:Option (List Int)).bind fun KM=>
some (.inl (YC.wrap (w3.1+1),KM))
else
some (.inr w3.2))) N (0,([]:List Int)):Option (List Int)).bind fun Gm=>
(Loop (S:=Int×Int×(List (List aa.den))×(List Int)×List ai.den) (X:=Int×(List (List aa.den))×(List Int)×List ai.den) (fun xF=>
(if(decide (xF.1<(x1.2.2.2.2.length:Int)))then
(((Loop (S:=Int×List Int) (X:=List Int) (fun J0=>
(if(decide (J0.1<(Gm.length:Int)))then
((idx Gm J0.1).bind fun WT=>
(if(decide (WT=xF.1))then
(bZ J0.2 ([J0.1]:List Int)).bind fun WU=>
some WU
else
some J0.2):Option (List Int)).bind fun WV=>
some (.inl (YC.wrap (J0.1+1),WV))
else
some (.inr J0.2))) N (0,([]:List Int)):Option (List Int)).bind fun Tc=>
(if(decide ((Tc.length:Int)=0))then
some (xF.2.1,xF.2.2.1,xF.2.2.2.1,xF.2.2.2.2)
else
(M.iT N Tc (j3.2.1.length:Int)).bind fun Td=>
Loop (S:=Int×Int×(List (List aa.den))×(List Int)×List ai.den) (X:=Int×(List (List aa.den))×(List Int)×List ai.den) (fun EW=>
(if(decide (EW.1<(Td.length:Int)))then
(idx Td EW.1).bind fun WW=>
(bZ EW.2.2.2.2 ([(WW,xF.1)]:List ai.den)).bind fun WX=>
some (.inl (YC.wrap (EW.1+1),EW.2.1,EW.2.2.1,EW.2.2.2.1,WX))
else
some (.inr (EW.2.1,EW.2.2.1,EW.2.2.2.1,EW.2.2.2.2)))) N (0,xF.2.1,xF.2.2.1,xF.2.2.2.1,xF.2.2.2.2)):Option (Int×(List (List aa.den))×(List Int)×List ai.den)).bind fun N0=>
some (N0.1,N0.2.1,N0.2.2.1,N0.2.2.2):Option (Int×(List (List aa.den))×(List Int)×List ai.den)).bind fun N1=>
some (.inl (YC.wrap (xF.1+1),N1.1,N1.2.1,N1.2.2.1,N1.2.2.2))
else
some (.inr (xF.2.1,xF.2.2.1,xF.2.2.2.1,xF.2.2.2.2)))) N ((-2),j3.1,j3.2.1,j3.2.2,([]:List ai.den)):Option (Int×(List (List aa.den))×(List Int)×List ai.den)).bind fun KL=>
some (KL.1,KL.2.1,KL.2.2.1,KL.2.2.2)
def M.fm(N:Nat)(a0:aH.den)(a1:Int):Option (Int×Bool):=
Loop (S:=Int) (X:=Int×Bool) (fun s1=>
(if(decide (s1<(a0.2.2.2.length:Int)))then
(idx a0.2.2.2 s1).bind fun x2=>
(M.cM N x2.1 a1).bind fun y3=>
(if y3 then
(idx a0.2.2.2 s1).bind fun x4=>
some (.inr (x4.2,true))
else
some (.inl (YC.wrap (s1+1))))
else
some (.inr (0,false)))) N 0
def WY(N:Nat):bU:=⟨⟨[(0, .g aH),(1, .l ae)],[],[],0⟩,⟨[(0, .l ae),(1, .l .bool)],[],[],0⟩,fun(x:aH.den×Int)=>M.fm N x.1 x.2⟩
theorem Te(N:Nat):aL Tryz.prog 13 (WY N):=fw (en [ck (Tb N)] false false) (N:=N) (.o (.two (.o (.two (.loop ⟨[(6, .l ae)],[],[],64⟩ .nil) .nil)) .nil)) Tryz.func13 (by kernel_rfl) fun x=>by kernel_rfl
def M.jn(N:Nat)(a0:aa.den)(a1:Int):Option Bool:=
((if(decide (0<=a0.1))then
(M.gS N a1).bind fun y2=>
(M.iS N y2).bind fun y3=>
(if(decide (a0.1<y3))then
(if(decide (0<=a0.2))then
some (decide ((al .and .i64 a0.2 a0.1)=a0.2))
else
some false)
else
some false)
else
some false):Option Bool).bind fun j1=>
some j1
def WZ(N:Nat):bU:=⟨⟨[(0, .g aa),(1, .l ae)],[],[],0⟩,⟨[(0, .l .bool)],[],[],0⟩,fun(x:aa.den×Int)=>M.jn N x.1 x.2⟩
theorem W0(N:Nat):aL Tryz.prog 35 (WZ N):=fw (en [ck (WN N),ck (WL N)] false false) (N:=N) (.o (.meet ⟨[(4, .l .bool)],[],[],32⟩ .nil .nil)) Tryz.func35 (by kernel_rfl) fun x=>by kernel_rfl
def M.jo(N:Nat)(a0:aH.den)(a1:Int):Option Int:=
(M.fm N a0 a1).bind fun y1=>
(if(!y1.2)then
some 10
else
Loop (S:=Int) (X:=Int) (fun s2=>
(if(decide (s2<(a0.2.2.2.length:Int)))then
((idx a0.2.2.2 s2).bind fun x4=>
(M.cM N x4.1 a1).bind fun y5=>
(if y5 then
(idx a0.2.2.2 s2).bind fun x6=>
some (!decide (x6.2=y1.1))
else
some false):Option Bool).bind fun j3=>
(if j3 then
some (.inr 11)
else
some (.inl (YC.wrap (s2+1))))
else
some (.inr 0))) N 0)
def W1(N:Nat):bU:=⟨⟨[(0, .g aH),(1, .l ae)],[],[],0⟩,⟨[(0, .l ae)],[],[],0⟩,fun(x:aH.den×Int)=>M.jo N x.1 x.2⟩
theorem W2(N:Nat):aL Tryz.prog 36 (W1 N):=fw (en [ck (Te N),ck (Tb N)] false false) (N:=N) (.o (.o (.o (.two (.o (.two (.loop ⟨[(7, .l ae)],[],[],208⟩ (.o (.two (.two (.meet ⟨[(40, .l .bool)],[],[],288⟩ .nil .nil) .nil) .nil))) .nil)) .nil)))) Tryz.func36 (by kernel_rfl) fun x=>by kernel_rfl
def M.gf(N:Nat)(a0:aH.den):Option Int:=
(if(decide (8<(a0.2.1.length:Int)))then
some 4
else
bI (J:=Unit) (R:=Int) (Loop (S:=Int) (X:=Unit⊕Int) (fun s2=>
(if(decide (s2<(a0.2.2.2.length:Int)))then
(idx a0.2.2.2 s2).bind fun x3=>
(M.jn N x3.1 (a0.2.1.length:Int)).bind fun y4=>
(if(!y4)then
some (.inr (.inr 3))
else
some (.inl (YC.wrap (s2+1))))
else
some (.inr (.inl ())))) N 0) fun j1=>
Loop (S:=Int) (X:=Int) (fun s5=>
(om .i64 1 (a0.2.1.length:Int)).bind fun x6=>
(if(decide (s5<x6))then
(M.jo N a0 s5).bind fun y7=>
(if(!decide (y7=0))then
some (.inr y7)
else
some (.inl (YC.wrap (s5+1))))
else
some (.inr 0))) N 0)
def W3(N:Nat):bU:=⟨⟨[(0, .g aH)],[],[],0⟩,⟨[(0, .l ae)],[],[],0⟩,fun(x:aH.den)=>M.gf N x⟩
theorem W5(N:Nat):aL Tryz.prog 15 (W3 N):=fw (en [ck (W0 N),ck (W2 N)] false false) (N:=N) (.o (.o (.o (.join ⟨[],[],[],128⟩ (.o (.two (.loop ⟨[(4, .l ae)],[],[],144⟩ .nil) .nil)) (.two (.o (.two (.loop ⟨[(5, .l ae)],[],[],144⟩ .nil) .nil)) .nil))))) Tryz.func15 (by kernel_rfl) fun x=>by kernel_rfl
def M.dE(N:Nat)(a0:aH.den)(a1:Int):Option Bool:=
((if(decide (12<(a0.2.1.length:Int)))then
some true
else
some (decide (300<(a0.2.2.2.length:Int)))):Option Bool).bind fun j1=>
(if j1 then
(M.fK N).bind fun y2=>
some y2
else
(M.db N a0 a1).bind fun y3=>
(M.fm N a0 a1).bind fun y4=>
((if(decide (y3.1=y4.1))then
(if(decide (y3.2=y4.2))then
(M.cU N a0).bind fun y6=>
(M.gf N a0).bind fun y7=>
(if(decide (y6=y7))then
(M.fK N).bind fun y8=>
some y8
else
some false)
else
some false)
else
some false):Option Bool).bind fun j5=>
some j5)
def S4(N:Nat):bU:=⟨⟨[(0, .g aH),(1, .l ae)],[],[],0⟩,⟨[(0, .l .bool)],[],[],0⟩,fun(x:aH.den×Int)=>M.dE N x.1 x.2⟩
theorem W4(N:Nat):aL Tryz.prog 4 (S4 N):=fw (en [ck (W8 N),ck (S6 N),ck (Te N),ck (S7 N),ck (W5 N)] false false) (N:=N) (.o (.two (.meet ⟨[(18, .l .bool)],[],[],32⟩ .nil .nil) (.o (.o (.meet ⟨[(4, .l .bool)],[],[],288⟩ .nil .nil))))) Tryz.func4 (by kernel_rfl) fun x=>by kernel_rfl
end
end Go.Proofs.YtbladfbbhijpmaaGreat
end
section
open _root_.Go.IntKind renaming i64->YC
open _root_.List renaming length_map->ZI,range->YI
namespace Go.Proofs.YtbladfbbhijpmaaGreat
open Go Go.RowKit
theorem eZ{n:Int}(h0: -9223372036854775808<=n)(h1:n<=9223372036854775807):YC.wrap n=n:=by
 simp[IntKind.wrap,IntKind.bits,IntKind.signed];omega
theorem aB{α:Type}{l:List α}{k:Nat}(h:k<l.length):idx l (k:Int)=some l[k]:=by
 unfold idx;rw[if_pos (by omega)];simp[h]
theorem nU{α:Type}{a:α}{l:List α}:idx (a::l) 0=some a:=rfl
theorem e7{α:Type}{l m:List α}(h:l.length+m.length<=4294967296):bZ l m=some (l++m):=if_pos h
theorem oY{S X:Type}{body:S->Option (S⊕X)}(I:S->Prop)(μ:S->Nat)(Q:X->Prop)
 (step:∀s,I s->(∃s',body s=some (.inl s')/\I s'/\μ s'<μ s)\/∃x,body s=some (.inr x)/\Q x):
 ∀N s,I s->μ s<N->∃x,Loop body N s=some x/\Q x
 |0,_,_,h=>absurd h (by omega)
 |N+1,s,hi,av=>by
  rcases step s hi with⟨s',hb,gH,hm⟩|⟨x,hb,hq⟩
  .obtain⟨x,hx,hq⟩:=oY I μ Q step N s' gH (by omega);exact⟨x,by unfold Loop;rw[hb];exact hx,hq⟩
  .exact⟨x,by unfold Loop;rw[hb],hq⟩
theorem za{S X:Type}{body:S->Option (S⊕X)}(st:Nat->S){x:X}(m:Nat)(hs:∀i,i<m->body (st i)=some (.inl (st (i+1))))(he:body (st m)=some (.inr x)){N:Nat}(hN:m<N):Loop body N (st 0)=some x:=by
 have:∀k i N,i+k=m->k<N->Loop body N (st i)=some x:=by
  intro k
  induction k with
  |zero=>rintro i (_|N) hi hN;.omega
         obtain rfl:i=m:=by omega
         unfold Loop;rw[he]
  |succ k ih=>
   rintro i (_|N) hi hN
   .omega
   .unfold Loop;rw[hs i (by omega)];exact ih (i+1) N (by omega) (by omega)
 exact this m 0 N (by omega) hN
theorem qd{S X:Type}{body:S->Option (S⊕X)}{N:Nat}{s0:S}(st:Nat->S)(m:Nat)(x:X)(h0:s0=st 0)(hs:∀i,i<m->body (st i)=some (.inl (st (i+1))))(he:body (st m)=some (.inr x))(hN:m<N):Loop body N s0=some x:=by
 rw[h0];exact za st m hs he hN
def bm:Nat:=18446744073709551616
section
variable {α:Type}
theorem gD(n:Nat)(C:Nat->α)(k:Nat)(v:α):((YI n).map C).set k v=(YI n).map (fun j=>if j=k then v else C j):=by
 apply List.ext_getElem (by simp);intro i h1 h2;simp only[List.length_set,ZI,List.length_range]at h1;rw[List.getElem_set];simp only[List.getElem_map,List.getElem_range];by_cases h:k=i
 .subst h;simp
 .rw[if_neg h,if_neg (Ne.symm h)]
theorem gh(n:Nat)(p:Nat->Bool):(YI (n+1)).filter p=(YI n).filter p++(if p n=true then[n]else[]):=by
 rw[List.range_succ,List.filter_append]
 cases h:p n<;>simp[h]
end
end Go.Proofs.YtbladfbbhijpmaaGreat
end
section
open _root_.Bool renaming false_eq_true->YW
open _root_.Classical renaming not_not->Z6
open _root_.Go.IntKind renaming i64->YC
open _root_.List renaming getElem?_eq_getElem->YF,replicate->Y4
open _root_.Nat renaming lt_succ_iff_lt_or_eq->YQ
open _root_.Option renaming bind_some->YB,some->aaj
namespace Go.Proofs.YtbladfbbhijpmaaGreat
open Go Go.RowKit
def Wp{α:Type}(m:Option α)(Q:α->Prop):Prop:=∃x,m=some x/\Q x
theorem Wp.some{α:Type}{x:α}{Q:α->Prop}(h:Q x):Wp (some x) Q:=⟨x,rfl,h⟩
theorem Wp.of{α:Type}{m:Option α}{x:α}{Q:α->Prop}(e:m=aaj x)(h:Q x):Wp m Q:=⟨x,e,h⟩
theorem Wp.eq{α:Type}{m:Option α}{x:α}(h:Wp m (· =x)):m=aaj x:=by obtain⟨y,e,rfl⟩:=h;exact e
theorem Wp.mono{α:Type}{m:Option α}{Q Q':α->Prop}(h:Wp m Q)(hq:∀x,Q x->Q' x):Wp m Q':=by obtain⟨x,e,h⟩:=h;exact⟨x,e,hq x h⟩
theorem Wp.bind{α β:Type}{m:Option α}{k:α->Option β}{Q:β->Prop}(h:Wp m fun x=>Wp (k x) Q):Wp (m.bind k) Q:=by
 obtain⟨x,e,h⟩:=h;rw[e];exact h
theorem Wp.ba{α β:Type}{m:Option α}{k:α->Option β}{Q:β->Prop}{x:α}(e:m=aaj x)(h:Wp (k x) Q):Wp (m.bind k) Q:=by
 rw[e];exact h
theorem Wp.seq{α β:Type}{m:Option α}{k:α->Option β}{Q:β->Prop}(A:α->Prop)(h:Wp m A)(hk:∀x,A x->Wp (k x) Q):Wp (m.bind k) Q:= .bind (h.mono hk)
theorem Wp.map{α β:Type}{m:Option α}{f:α->β}{Q:β->Prop}(h:Wp m fun x=>Q (f x)):Wp (m.map f) Q:=by
 obtain⟨x,e,h⟩:=h;rw[e];exact⟨_,rfl,h⟩
theorem Wp.ite{α:Type}{c:Prop}[Decidable c]{a b:Option α}{Q:α->Prop}(ha:c->Wp a Q)(hb:¬c->Wp b Q):Wp (if c then a else b) Q:=by
 split
 .exact ha ‹_›
 .exact hb ‹_›
theorem Wp.dec{α:Type}{c:Prop}[Decidable c]{a b:Option α}{Q:α->Prop}(ha:c->Wp a Q)(hb:¬c->Wp b Q):Wp (if decide c=true then a else b) Q:=by
 by_cases h:c
 .rw[if_pos (decide_eq_true h)];exact ha h
 .rw[if_neg (by simpa using h)];exact hb h
theorem Wp.pQ{α:Type}{c:Prop}[Decidable c]{a b:Option α}{Q:α->Prop}(ha:¬c->Wp a Q)(hb:c->Wp b Q):Wp (if(!decide c)=true then a else b) Q:=by
 by_cases h:c
 .rw[if_neg (by simp[h])];exact hb h
 .rw[if_pos (by simp[h])];exact ha h
def w5{J R:Type}(k:J->Option R)(Q:R->Prop):J⊕R->Prop
 | .inl j=>Wp (k j) Q
 | .inr r=>Q r
theorem Wp.join{J R:Type}{m:Option (J⊕R)}{k:J->Option R}{Q:R->Prop}(h:Wp m (w5 k Q)):Wp (bI m k) Q:=by
 obtain⟨x,e,h⟩:=h;unfold bI;rw[e]
 cases x with
 |inl j=>exact h
 |inr r=>exact⟨r,rfl,h⟩
def EX{S X:Type}(I:S->Prop)(μ:S->Nat)(s:S)(Q:X->Prop):S⊕X->Prop
 | .inl s'=>I s'/\μ s'<μ s
 | .inr x=>Q x
theorem Wp.loop{S X:Type}{body:S->Option (S⊕X)}{N:Nat}{s0:S}{Q:X->Prop}(I:S->Prop)(μ:S->Nat)(h0:I s0)(hN:μ s0<N)(step:∀s,I s->Wp (body s) (EX I μ s Q)):Wp (Loop body N s0) Q:=
 oY I μ Q (fun s hs=>by
  obtain⟨x,e,h⟩:=step s hs
  cases x with
  |inl s'=>exact .inl ⟨s',e,h⟩
  |inr x=>exact .inr ⟨x,e,h⟩) N s0 h0 hN
theorem Wp.idx{α:Type}{l:List α}{i:Int}{Q:α->Prop}(k:Nat)(hi:i=k)(hk:k<l.length)(h:Q l[k]):Wp (idx l i) Q:=by
 subst hi;exact⟨_,aB hk,h⟩
theorem Wp.px{α:Type}{l m:List α}{Q:List α->Prop}(hl:l.length+m.length<=4294967296)(h:Q (l++m)):Wp (bZ l m) Q:=⟨_,e7 hl,h⟩
theorem qe{α:Type}{l:List α}{i j:Int}(a b:Nat)(hi:i=a)(hj:j=b)(h:a<=b)(hb:b<=l.length):dT l i j=aaj ((l.take b).drop a):=by
 subst hi;subst hj;unfold dT;rw[if_pos (by omega)];simp
theorem Wp.cut{α:Type}{l:List α}{i j:Int}{Q:List α->Prop}(a b:Nat)(hi:i=a)(hj:j=b)(h:a<=b)(hb:b<=l.length)(hq:Q ((l.take b).drop a)):Wp (dT l i j) Q:=⟨_,qe a b hi hj h hb,hq⟩
theorem tn{α:Type}{l:List α}{b:Nat}(hb:b<=l.length):dT l 0 (b:Int)=aaj (l.take b):=by
 have:=qe (l:=l) 0 b rfl rfl (Nat.zero_le _) hb;simpa using this
theorem aD{k:Nat}(h:k<9223372036854775807):YC.wrap ((k:Int)+1)=((k+1:Nat):Int):=by rw[eZ]<;>omega
theorem EY{k:Nat}(h:k<=9223372036854775807):YC.wrap (k:Int)=(k:Int):=by rw[eZ]<;>omega
end Go.Proofs.YtbladfbbhijpmaaGreat
namespace Go.Proofs.YtbladfbbhijpmaaGreat
open Go Go.RowKit
section
variable {α β:Type}
theorem gE{x:α}{Q:α->Prop}:Wp (some x) Q↔Q x:=⟨fun⟨y,e,h⟩=>by cases e;exact h,fun h=>⟨x,rfl,h⟩⟩
theorem qf{Q:α->Prop}:Wp (none:Option α) Q↔False:=⟨fun⟨y,e,h⟩=>(by cases e),False.elim⟩
theorem wp_bind{m:Option α}{k:α->Option β}{Q:β->Prop}:Wp (m.bind k) Q↔Wp m fun x=>Wp (k x) Q:=by
 cases m with
 |none=>simp only[Option.bind_none,qf]
 |some x=>simp only[YB,gE]
theorem EZ{c:Prop}[Decidable c]{a b:Option α}{Q:α->Prop}:Wp (if c then a else b) Q↔(c->Wp a Q)/\(¬c->Wp b Q):=by
 split<;>simp[*]
theorem E0{c:Prop}[Decidable c]{a b:Option α}{Q:α->Prop}:Wp (if decide c=true then a else b) Q↔(c->Wp a Q)/\(¬c->Wp b Q):=by
 by_cases h:c<;>simp[*]
theorem Av{c:Prop}[Decidable c]{a b:Option α}{Q:α->Prop}:Wp (if(!decide c)=true then a else b) Q↔(¬c->Wp a Q)/\(c->Wp b Q):=by
 by_cases h:c<;>simp[*]
theorem E1{c:Bool}{a b:Option α}{Q:α->Prop}:Wp (if(!c)=true then a else b) Q↔(c=false->Wp a Q)/\(c=true->Wp b Q):=by
 cases c<;>simp
theorem Aw{J R:Type}{m:Option (J⊕R)}{k:J->Option R}{Q:R->Prop}:Wp (bI m k) Q↔Wp m (w5 k Q):=by
 cases m with
 |none=>exact⟨fun⟨_,e,_⟩=>(by cases e),fun⟨_,e,_⟩=>(by cases e)⟩
 |some s=>cases s with
  |inl j=>rw[gE];exact Iff.rfl
  |inr r=>exact(gE (x:=r)).trans (gE (x:=Sum.inr r) (Q:=w5 k Q)).symm
theorem tq{J R:Type}{k:J->Option R}{Q:R->Prop}{j:J}:w5 k Q (.inl j)=Wp (k j) Q:=rfl
theorem tt{J R:Type}{k:J->Option R}{Q:R->Prop}{r:R}:w5 k Q (.inr r)=Q r:=rfl
theorem eC{l:List α}{i:Int}{Q:α->Prop}:Wp (idx l i) Q↔∃h:0<=i/\i<(l.length:Int),Q (l[i.toNat]'(by omega)):=by
 by_cases h:0<=i/\i<(l.length:Int)
 .unfold idx;rw[if_pos h.1,YF (by omega),gE];exact⟨fun g=>⟨h,g⟩,fun g=>g.2⟩
 .refine⟨fun⟨y,e,_⟩=>?_,fun g=>absurd g.1 h⟩;obtain⟨k,rfl,hk,_⟩:=dF e;omega
theorem oZ{l m:List α}{Q:List α->Prop}:Wp (bZ l m) Q↔l.length+m.length<=4294967296/\Q (l++m):=by
 unfold bZ;split
 .rw[gE];simp[*]
 .rw[qf];simp[*]
theorem wp_cut{l:List α}{i j:Int}{Q:List α->Prop}:Wp (dT l i j) Q↔(0<=i/\i<=j/\j<=l.length)/\Q ((l.take j.toNat).drop i.toNat):=by
 unfold dT;split
 .rw[gE];simp[*]
 .rw[qf];simp[*]
theorem kH{m:Int}{z:α}{Q:List α->Prop}:Wp (sf m z) Q↔(0<=m/\m<=4294967296)/\Q (Y4 m.toNat z):=by
 unfold sf;split
 .rw[gE];simp[*]
 .rw[qf];simp[*]
theorem Wp.and{m:Option α}{P Q:α->Prop}(h:Wp m P)(g:Wp m Q):Wp m fun x=>P x/\Q x:=by
 obtain⟨x,e,h⟩:=h;obtain⟨y,e',g⟩:=g;rw[e]at e';cases e';exact⟨x,e,h,g⟩
theorem Wp.getD{m:Option α}{Q:α->Prop}(h:Wp m Q)(d:α):m=aaj (m.getD d)/\Q (m.getD d):=by
 obtain⟨x,e,h⟩:=h;rw[e];exact⟨rfl,h⟩
end
def zb{S X:Type}(tv:S->Int)(m k:Nat)(J:Nat->S->Prop)(Q:X->Prop):S⊕X->Prop
 | .inl s=>k<m/\tv s=((k+1:Nat):Int)/\J (k+1) s
 | .inr x=>Q x
theorem eP{S X:Type}{tv:S->Int}{m k:Nat}{J:Nat->S->Prop}{Q:X->Prop}{s:S}:zb tv m k J Q (.inl s)=(k<m/\tv s=((k+1:Nat):Int)/\J (k+1) s):=rfl
theorem dZ{S X:Type}{tv:S->Int}{m k:Nat}{J:Nat->S->Prop}{Q:X->Prop}{x:X}:zb tv m k J Q (.inr x)=Q x:=rfl
theorem Wp.count{S X:Type}{body:S->Option (S⊕X)}{s0:S}{Q:X->Prop}(tv:S->Int)(m:Nat)(J:Nat->S->Prop)(hm:m<=9223372036854775807)(h0:tv s0=0)(hJ:J 0 s0)
 (step:∀k s,k<=m->tv s=(k:Int)->J k s->Wp (body s) (zb tv m k J Q)):Wp (Loop body bm s0) Q:=by
 refine Wp.loop (fun s=>∃k:Nat,tv s=k/\k<=m/\J k s) (fun s=>m-(tv s).toNat) ⟨0,h0,Nat.zero_le _,hJ⟩ (by unfold bm;omega) fun s hs=>?_
 obtain⟨k,hi,hk,hj⟩:=hs
 refine(step k s hk hi hj).mono fun r hr=>?_
 cases r with
 |inl s'=>
  obtain⟨h1,h2,h3⟩:=hr;exact⟨⟨k+1,h2,h1,h3⟩,by show m-(tv s').toNat<m-(tv s).toNat;rw[h2,hi];omega⟩
 |inr x=>exact hr
theorem kT{k:Nat}{m:Nat}(hm:m<=9223372036854775807)(h:k<m):YC.wrap ((k:Int)+1)=((k+1:Nat):Int):=aD (by omega)
theorem uO{k m:Nat}(h:k<m):decide ((k:Int)<(m:Int))=true:=decide_eq_true (by omega)
theorem rk{m:Nat}:((m:Int)<(m:Int))=False:=eq_false (by omega)
def df{α:Type}(f:Nat->Option α):Nat->Option α
 |0=>none
 |m+1=>(df f m).or (f m)
theorem cC{α:Type}{f:Nat->Option α}:∀{m:Nat},df f m=none↔∀k,k<m->f k=none
 |0=>by simp[df]
 |m+1=>by
  rw[df,Option.or_eq_none_iff,cC];exact⟨fun h k hk=>by rcases YQ.1 hk with h1|rfl<;>first|exact h.1 k h1|exact h.2,fun h=>⟨fun k hk=>h k (by omega),h m (by omega)⟩⟩
theorem fL{α:Type}{f:Nat->Option α}{x:α}:∀{m:Nat},df f m=some x->∃k,k<m/\f k=some x/\∀j,j<k->f j=none
 |0,h=>by cases h
 |m+1,h=>by
  rw[df]at h
  cases e:df f m with
  |none=>rw[e]at h;exact⟨m,by omega,h,cC.1 e⟩
  |some y=>
   rw[e]at h;cases h;obtain⟨k,hk,h1,h2⟩:=fL e;exact⟨k,by omega,h1,h2⟩
theorem tw{α:Type}{f:Nat->Option α}{x:α}{k:Nat}(hx:f k=some x)(hn:∀j,j<k->f j=none):∀{m:Nat},k<m->df f m=some x
 |0,h=>by omega
 |m+1,h=>by
  rw[df]
  rcases YQ.1 h with h1|rfl
  .rw[tw hx hn h1];rfl
  .rw[cC.2 hn];exact hx
theorem Wp.first{S X Y:Type}{body:S->Option (S⊕X)}{s0:S}{Q:X->Prop}(tv:S->Int)(m:Nat)(f:Nat->Option Y)(hm:m<=9223372036854775807)(h0:tv s0=0)
 (h1:∀k s,k<m->tv s=(k:Int)->(∀j,j<k->f j=none)->Wp (body s) fun r=>(f k=none/\∃s',r= .inl s'/\tv s'=((k+1:Nat):Int))\/∃x y,r= .inr x/\f k=aaj y/\(df f m=aaj y->Q x))
 (he:∀s,tv s=(m:Int)->(df f m=none)->Wp (body s) fun r=>∃x,r= .inr x/\Q x):Wp (Loop body bm s0) Q:=by
 refine Wp.count tv m (fun k _=>∀j,j<k->f j=none) hm h0 (fun j h=>by omega) fun k s hk hs hJ=>?_
 rcases Nat.lt_or_ge k m with av|hge
 .refine(h1 k s av hs hJ).mono fun r hr=>?_
  rcases hr with⟨hn,s',rfl,h2⟩|⟨x,y,rfl,h2,h3⟩
  .exact⟨av,h2,fun j hj=>by rcases YQ.1 hj with h|rfl<;>first|exact hJ j h|exact hn⟩
  .exact h3 (tw h2 hJ av)
 .obtain rfl:k=m:=by omega
  exact(he s hs (cC.2 hJ)).mono fun r hr=>by obtain⟨x,rfl,h⟩:=hr;exact h
theorem W_:type_of% @Z6/\type_of% @gE/\type_of% @wp_bind/\type_of% @E0/\type_of% @Av/\type_of% @E1/\type_of% @EZ/\type_of% @Aw/\type_of% @tq/\type_of% @tt/\type_of% @if_true.{1}/\type_of% @if_false.{1}/\type_of% @ite_true.{1}/\type_of% @ite_false.{1}/\type_of% @YW/\type_of% @Bool.true_eq_false/\type_of% @decide_true/\type_of% @decide_false/\type_of% @decide_eq_decide/\type_of% @true_eq_decide_iff/\type_of% @false_eq_decide_iff/\type_of% @decide_eq_true_eq/\type_of% @decide_eq_false_iff_not/\type_of% @true_implies/\type_of% @false_implies/\type_of% @and_true/\type_of% @true_and/\type_of% @and_false/\type_of% @false_and/\type_of% @or_true/\type_of% @true_or/\type_of% @or_false/\type_of% @false_or/\type_of% @not_true_eq_false/\type_of% @not_false_eq_true/\type_of% @Bool.not_true/\type_of% @Bool.not_false/\type_of% @Bool.not_eq_true/\type_of% @Bool.not_eq_false/\type_of% @Bool.not_eq_eq_eq_not:=
 ⟨@Z6,@gE,@wp_bind,@E0,@Av,@E1,@EZ,@Aw,@tq,@tt,@if_true.{1},@if_false.{1},@ite_true.{1},@ite_false.{1},@YW,@Bool.true_eq_false,@decide_true,@decide_false,@decide_eq_decide,@true_eq_decide_iff,@false_eq_decide_iff,@decide_eq_true_eq,@decide_eq_false_iff_not,@true_implies,@false_implies,@and_true,@true_and,@and_false,@false_and,@or_true,@true_or,@or_false,@false_or,@not_true_eq_false,@not_false_eq_true,@Bool.not_true,@Bool.not_false,@Bool.not_eq_true,@Bool.not_eq_false,@Bool.not_eq_eq_eq_not⟩
end Go.Proofs.YtbladfbbhijpmaaGreat
end
section
namespace Go.Proofs.YtbladfbbhijpmaaGreat
open Go Go.RowKit
set_option maxRecDepth 100000
set_option linter.unusedSimpArgs false
namespace L
abbrev Ty:Type:=aa.den
abbrev kI(l:List Nat):List Int:=l.map (fun n:Nat=>(n:Int))
def ar(op:Int):Int:=
 if(1<=op/\op<=9)\/(35<=op/\op<=39)then 0 else if op=10\/op=25\/(31<=op/\op<=34)then 1 else if(11<=op/\op<=24)\/(27<=op/\op<=30)then 2 else if op=26 then 3 else-1
theorem Ax(op:Int):ar op<=3:=by unfold ar;omega
def KP(a:Int)(i:Nat)(sk:List Nat):Nat:=if a=0 then i else sk.getD (sk.length-a.toNat) 0
def nV:List Ty->Nat->List Nat->List Nat->(Nat×Int)⊕(List Nat×List Nat)
 |[],_,st,sk=> .inr (st,sk)
 |n::e,i,st,sk=>
  if ar n.1<0 then .inl (i,2)else if(sk.length:Int)<ar n.1 then .inl (i,5)else
  if 12<sk.length-(ar n.1).toNat+1 then .inl (i,16)else nV e (i+1) (st++[KP (ar n.1) i sk]) (sk.take (sk.length-(ar n.1).toNat)++[KP (ar n.1) i sk])
def zc(e:List Ty):Int×Int×List Int:=
 if 48<e.length then(0,4,[])else if e.length=0 then(0,5,[])else match nV e 0 [] []with
  | .inl (i,c)=>(i,c,[])
  | .inr (st,sk)=>if 1<sk.length then(e.length,4,[])else(0,0,kI st)
def jD(t:Ty)(n:Nat):Prop:=(1<=(t.1:Int)/\(t.1:Int)<=5/\(t.2:Int)=0)\/((t.1:Int)=6/\0<=(t.2:Int)/\(t.2:Int)<n)
instance(t:Ty)(n:Nat):Decidable (jD t n):=by unfold jD;infer_instance
def VR(r:Ty):Prop:=0<=(r.1:Int)/\(r.1:Int)<=r.2/\(r.2:Int)<=109573
instance(r:Ty):Decidable (VR r):=by unfold VR;infer_instance
theorem E2(a b:Ty):ki aa a b=decide (a=b):=by
 unfold ki;exact decide_eq_decide.2 Iff.rfl
end L
end Go.Proofs.YtbladfbbhijpmaaGreat
end
section
open _root_.Classical renaming propDecidable->Zj
open _root_.Go.IntKind renaming i64->YC
open _root_.List renaming getElem?_eq_getElem->YF
open _root_.Nat renaming lt_succ_iff_lt_or_eq->YQ
namespace Go.Proofs.YtbladfbbhijpmaaGreat
open Go Go.RowKit
set_option maxRecDepth 100000
set_option linter.unusedSimpArgs false
namespace L
abbrev En:Type:=cm.den
abbrev N2:Type:=cn.den
abbrev Rw:Type:=fg.den
abbrev Lw:Type:=fh.den
abbrev kf:Type:=aO.den
abbrev gx:Type:=bK.den
noncomputable def r6(s:ByteArray):Bool:=(M.mZ bm s).getD false
def nW{β:Type}(l:List (ByteArray×β))(nm:ByteArray):Prop:=∃x∈l,x.1=nm
noncomputable instance{β:Type}(l:List (ByteArray×β))(nm:ByteArray):Decidable (nW l nm):=Zj _
noncomputable instance(m:ByteArray)(l:List ByteArray):Decidable (m∈l):=Zj _
theorem rl{p:Nat->Prop}{k:Nat}(h:∀j,j<k->p j)(hk:p k):∀j,j<k+1->p j:=fun j hj=>by
 rcases YQ.1 hj with h1|rfl
 .exact h j h1
 .exact hk
open Classical in
theorem bc(t:Ty)(E:List En):M.dt bm t E=some (decide (jD t E.length)):=by
 obtain⟨(k:Int),(e:Int)⟩:=t;apply Wp.eq;unfold M.dt;simp only[W_,implies_true,forall_const,reduceCtorEq];simp only[jD];dsimp only[ae,Row.den]at*;omega
theorem MZ(r:Ty):M.lA bm r=some (decide (VR r)):=by
 obtain⟨(k:Int),(e:Int)⟩:=r;apply Wp.eq;unfold M.lA;simp only[W_,implies_true,forall_const,reduceCtorEq];simp only[VR];dsimp only[ae,Row.den]at*;omega
def EG(t:Ty)(E:List En):Int×Int:=
 if¬jD t E.length then(0,-1)else if(t.1:Int)=1 then(0,1)else if(t.1:Int)=2 then(-1000000000000,1000000000000)else if(t.1:Int)=3 then(-1000000000000000,1000000000000000)else if(t.1:Int)=4 then(-1000000000,1000000000)else if(t.1:Int)=5 then(0,109572)
 else(0,YC.wrap ((((E[(t.2:Int).toNat]?).map fun e=>(e.2.length:Int)).getD 0)-1))
theorem J1(t:Ty)(E:List En):M.kC bm t E=some (EG t E):=by
 obtain⟨(k:Int),(e:Int)⟩:=t;apply Wp.eq;unfold M.kC EG;simp only[bc,W_,implies_true,forall_const,reduceCtorEq];by_cases hv:jD (k,e) E.length
 .simp only[hv,not_true_eq_false,if_false,false_implies,true_implies,true_and];refine⟨fun h=>by rw[if_pos h],fun h1=>⟨fun h=>by rw[if_neg h1,if_pos h],fun h2=>⟨fun h=>by rw[if_neg h1,if_neg h2,if_pos h],fun h3=>⟨fun h=>by rw[if_neg h1,if_neg h2,if_neg h3,if_pos h],fun h4=>⟨fun h=>by rw[if_neg h1,if_neg h2,if_neg h3,if_neg h4,if_pos h],fun h5=>?_⟩⟩⟩⟩⟩;simp only[jD]at hv;dsimp only[ae,Row.den]at*
  have hi:e.toNat<E.length:=by omega
  refine eC.2 ⟨by omega,?_⟩;rw[if_neg h1,if_neg h2,if_neg h3,if_neg h4,if_neg h5,YF hi];rfl
 .simp only[hv,not_false_eq_true,if_true,true_implies,false_implies,and_true]
def zd(n:Int)(t:Ty)(E:List En):Prop:=(EG t E).1<=n/\n<=(EG t E).2
instance(n:Int)(t:Ty)(E:List En):Decidable (zd n t E):=by unfold zd;infer_instance
def E3(x:Rw)(t:N2)(E:List En):Prop:=¬VR x.1\/(x.1.1:Int)=x.1.2\/(x.2.2.1:Int)<=x.2.1\/¬zd x.2.1 t.2.1 E\/¬zd (YC.wrap ((x.2.2.1:Int)-1)) t.2.1 E\/¬zd x.2.2.2 t.2.2.1 E
instance(x:Rw)(t:N2)(E:List En):Decidable (E3 x t E):=by unfold E3;infer_instance
def E4(a b:Rw):Prop:=VR a.1/\VR b.1/\((a.1.1:Int)<a.1.2/\(a.1.1:Int)<b.1.2/\(b.1.1:Int)<a.1.2/\(b.1.1:Int)<b.1.2)/\(a.2.1:Int)<a.2.2.1/\(a.2.1:Int)<b.2.2.1/\(b.2.1:Int)<a.2.2.1/\(b.2.1:Int)<b.2.2.1
instance(a b:Rw):Decidable (E4 a b):=by simp only[E4];dsimp only[ae,Row.den]at*;infer_instance
open Classical in
noncomputable def RX(t:N2)(E:List En)(k:Nat):Option (Int×Int):=match t.2.2.2[k]? with
 |none=>none
 |some x=>if E3 x t E then some ((k:Int),3)else if∃y∈t.2.2.2.take k,E4 y x then some ((k:Int),11)else none
noncomputable def Ho(t:N2)(E:List En):Int×Int:=
 if 64<t.2.2.2.length then(64,4)else if¬(jD t.2.1 E.length/\jD t.2.2.1 E.length)then(-1,8)else(df (RX t E) t.2.2.2.length).getD (0,0)
end L
end Go.Proofs.YtbladfbbhijpmaaGreat
end
section
open _root_.Int renaming tdiv->ZK,tmod->Z7
open _root_.Go.IntKind renaming i64->YC
open _root_.List renaming getElem?_eq_getElem->YF
namespace Go.Proofs.YtbladfbbhijpmaaGreat
open Go Go.RowKit
set_option maxRecDepth 100000
set_option linter.unusedSimpArgs false
namespace L
abbrev o3:Type:=aG.den
theorem ao(op:Int):M.jA bm op=some (decide ((1<=op/\op<=8)\/(14<=op/\op<=16)\/op=33\/op=34\/(36<=op/\op<=39))):=by
 apply Wp.eq;unfold M.jA;simp only[W_,implies_true,forall_const,reduceCtorEq];omega
theorem aq(k:Int):M.fY bm k=some (decide (k=2\/k=3\/k=4)):=by
 apply Wp.eq;unfold M.fY;simp only[W_,implies_true,forall_const,reduceCtorEq];omega
theorem an(k:Int):M.ew bm k=some (decide (k=2\/k=3\/k=4\/k=5)):=by
 apply Wp.eq;unfold M.ew;simp only[aq,W_,implies_true,forall_const,reduceCtorEq];omega
theorem aF(k:Int):M.cr bm k=some ((k,(0:Int)):Ty):=rfl
def w6(op m:Int)(s:o3):Prop:=(1<=op/\op<=5->zd m (op,(0:Int)) s.1)/\(14<=op/\op<=16->0<=m/\m<=5)/\(op=34->0<=m/\Z7 m 8<=5)/\(op=6->0<=m)
instance(op m:Int)(s:o3):Decidable (w6 op m s):=by unfold w6;infer_instance
theorem rm(n:Ty)(s:o3):M.iy bm n s=some (decide (w6 n.1 n.2 s)):=by
 obtain⟨(op:Int),(m:Int)⟩:=n;apply Wp.eq;unfold M.iy;simp only[aF,J1,W_,implies_true,forall_const,reduceCtorEq];unfold w6 zd;dsimp only[ae,Row.den]at*;generalize EG (op,(0:Int)) s.1=b;omega
def Hp(op m:Int)(s:o3):Prop:=
 (op=6->YC.wrap (ZK m 16)<(s.1.length:Int)/\Z7 m 16<(((s.1[(YC.wrap (ZK m 16)).toNat]?).map fun e=>(e.2.length:Int)).getD 0))/\
 (op=7->0<=m/\m<(s.2.2.1.length:Int))/\(op=8->0<=m/\m<(s.2.2.2.1.length:Int))/\(op=33->0<=m/\m<(s.2.1.length:Int))/\(op=34->YC.wrap (ZK m 8)<(s.2.1.length:Int))/\
 (35<=op/\op<=39->s.2.2.2.2.2=true)/\(36<=op/\op<=39->0<=m/\m<(s.2.2.2.2.1.length:Int))
instance(op m:Int)(s:o3):Decidable (Hp op m s):=by unfold Hp;infer_instance
theorem Ay{m k:Int}(h0:0<=m)(h1:m<=9223372036854775807)(hk:0<k):0<=YC.wrap (ZK m k):=by
 have h2:0<=ZK m k:=Int.tdiv_nonneg h0 (by omega)
 have h3:ZK m k<=m:=by rw[Int.tdiv_eq_ediv_of_nonneg h0];exact Int.ediv_le_self _ h0
 rw[eZ (by omega) (by omega)];exact h2
theorem J2(n:Ty)(s:o3)(hm:(n.2:Int)<=9223372036854775807)(hr:w6 n.1 n.2 s):M.aM bm n s=some (decide (Hp n.1 n.2 s)):=by
 obtain⟨(op:Int),(m:Int)⟩:=n;apply Wp.eq;unfold M.aM;simp only[W_,implies_true,forall_const,reduceCtorEq];unfold Hp;unfold w6 at hr;dsimp only[ae,Row.den]at*;refine⟨fun h6=>⟨fun h=>?_,fun h=>?_⟩,fun h6=>?_⟩
 .have h0:=Ay (k:=16) (hr.2.2.2 h6) hm (by omega);refine eC.2 ⟨⟨h0,h⟩,?_⟩;rw[YF (show(YC.wrap (ZK m 16)).toNat<s.1.length by omega)];exact⟨fun g=>⟨fun _=>⟨h,g⟩,by omega,by omega,by omega,by omega,fun _=>by omega,by omega⟩,fun g=>(g.1 h6).2⟩
 .exact fun g=>h (g.1 h6).1
 simp only[h6,W_,implies_true,forall_const,reduceCtorEq]
 cases h5:s.2.2.2.2.2<;>simp only[imp_false,W_,implies_true,forall_const,reduceCtorEq]<;>omega
theorem E5{op m:Int}{s:o3}(hf:Hp op m s):Wp (M.bk bm (op,m) s) fun _=>True:=by
 unfold M.bk;simp only[aF,an,bc,W_,implies_true,forall_const,reduceCtorEq];unfold Hp at hf;dsimp only[ae,Row.den]at*
 refine fun h6=>⟨fun h7=>?_,fun h7=>⟨fun h8=>?_,fun h8=>fun h9 Yd=>?_⟩⟩
 .exact eC.2 ⟨hf.2.1 h7,trivial⟩
 .exact eC.2 ⟨hf.2.2.1 h8,trivial⟩
 .by_cases h:36<=op/\op<=39
  .have:Wp (idx s.2.2.2.2.1 m) fun _=>True:=eC.2 ⟨hf.2.2.2.2.2.2 h,trivial⟩
   simp only[this,W_,implies_true,forall_const,reduceCtorEq]
  .simp only[show¬op=36 by omega,show¬op=37 by omega,show¬op=38 by omega,show¬op=39 by omega,W_,implies_true,forall_const,reduceCtorEq]
theorem ze{op m:Int}{a:Ty}{s:o3}(hm:m<=9223372036854775807)(h1:ar op=1)(hr:w6 op m s)(hf:Hp op m s):Wp (M.cd bm (op,m) a s) fun _=>True:=by
 have rU:op=10\/op=25\/(31<=op/\op<=34):=by
  clear hr hf;unfold ar at h1;omega
 unfold M.cd;simp only[aF,aq,bc,W_,implies_true,forall_const,reduceCtorEq];unfold Hp at hf;unfold w6 at hr;dsimp only[ae,Row.den]at*
 have key:¬op=31->¬op=32->¬op=10->¬op=25->(op=33->Wp (idx s.2.1 m) fun _=>True)/\(¬op=33->Wp (idx s.2.1 (YC.wrap (m.tdiv 8))) fun _=>True):=by
  refine fun N3 Tf M0 Tg=>⟨fun M1=>eC.2 ⟨hf.2.2.2.1 M1,trivial⟩,fun M1=>?_⟩
  have M2:op=34:=by clear hr hf;omega
  exact eC.2 ⟨⟨Ay (hr.2.2.1 M2).1 hm (by omega),hf.2.2.2.2.1 M2⟩,trivial⟩
 exact fun M0 Tg=>⟨fun N3 g=>absurd N3 g,fun N3 Tf=>key N3 Tf M0 Tg⟩
theorem zf(op a b:Int):Wp (M.fZ bm op a b) fun _=>True:=by
 unfold M.fZ;simp only[aF,W_,implies_true,forall_const,reduceCtorEq]
theorem zg(op:Int)(a b:Ty):Wp (M.dY bm op a b) fun _=>True:=by
 obtain⟨r,e,_⟩:=zf op a.1 b.1;unfold M.dY
 repeat' first|exact Wp.some trivial|exact⟨_,aq _,trivial⟩|exact⟨_,an _,trivial⟩|exact⟨_,aF _,trivial⟩|exact⟨_,e,trivial⟩|refine Wp.seq (fun _=>True) ?_ fun _ _=>?_|refine Wp.dec (fun _=>?_) fun _=>?_|refine Wp.ite (fun _=>?_) fun _=>?_
noncomputable def E6(n:Ty)(l:List Ty)(s:o3):Ty×Int:=(M.az bm n l s).getD (((0:Int),(0:Int)),(0:Int))
theorem E7{n:Ty}{l:List Ty}{s:o3}(hw:WF aa n)(hl:(l.length:Int)=ar n.1):M.az bm n l s=some (E6 n l s):=by
 refine(Wp.getD (Q:=fun _=>True) ?_ _).1;have hm:(n.2:Int)<=9223372036854775807:=hw.2.2;have h3:=Ax n.1
 have key:Wp (M.iy bm n s) fun x=>x=true->Wp (M.aM bm n s) fun x=>x=true->((l.length:Int)=0->Wp (M.bk bm n s) fun _=>True)/\(¬(l.length:Int)=0->((l.length:Int)=1->Wp (idx l 0) fun x=>Wp (M.cd bm n x s) fun _=>True)/\
  (¬(l.length:Int)=1->((l.length:Int)=2->Wp (idx l 0) fun x=>Wp (idx l 1) fun W6=>Wp (M.dY bm n.1 x W6) fun _=>True)/\(¬(l.length:Int)=2->Wp (idx l 1) fun _=>Wp (idx l 0) fun x=>(x.1:Int)=1->Wp (idx l 1) fun _=>Wp (idx l 2) fun _=>True))):=by
  rw[rm]
  refine .some fun hr=>?_
  have hr:w6 n.1 n.2 s:=of_decide_eq_true hr;rw[J2 n s hm hr]
  refine .some fun hf=>?_
  have hf:Hp n.1 n.2 s:=of_decide_eq_true hf;exact⟨fun _=>E5 hf,fun h0=>⟨fun h1=>eC.2 ⟨by omega,ze hm (by omega) hr hf⟩,fun h1=>⟨fun h2=>eC.2 ⟨by omega,eC.2 ⟨by omega,zg ..⟩⟩,fun h2=>eC.2 ⟨by omega,eC.2 ⟨by omega,fun _=>eC.2 ⟨by omega,eC.2 ⟨by omega,trivial⟩⟩⟩⟩⟩⟩⟩
 unfold M.az;simp only[ao,W_,implies_true,forall_const,reduceCtorEq];exact⟨fun _ _=>key,fun _=>key⟩
noncomputable def mH(s:o3):List Ty->Nat->List Ty->(Nat×Int)⊕List Ty
 |[],_,jY=> .inr jY
 |n::e,i,jY=>
  if(E6 n (jY.drop (jY.length-(ar n.1).toNat)) s).2≠0 then .inl (i,(E6 n (jY.drop (jY.length-(ar n.1).toNat)) s).2)
  else mH s e (i+1) (jY.take (jY.length-(ar n.1).toNat)++[(E6 n (jY.drop (jY.length-(ar n.1).toNat)) s).1])
noncomputable def Hq(e:List Ty)(s:o3):Ty×Int×Int:=
 if(zc e).2.1≠0 then(((0:Int),(0:Int)),(zc e).1,(zc e).2.1)else match mH s e 0 []with
  | .inl (i,c)=>(((0:Int),(0:Int)),(i:Int),c)
  | .inr jY=>(jY.headD ((0:Int),(0:Int)),0,0)
theorem Hr{e:List Ty}(h:(zc e).2.1=0):e.length<=48/\e≠[]/\∃st sk,nV e 0 [] []= .inr (st,sk):=by
 unfold zc at h;split at h
 .cases h
 split at h
 .cases h
 rename_i h1 h2;refine⟨by omega,fun e=>h2 (by rw[e];rfl),?_⟩;split at h
 .rename_i c hc;exfalso
  have:∀(e:List Ty)(i:Nat)(st sk:List Nat)(j:Nat),nV e i st sk≠ .inl (j,0):=by
   intro e
   induction e with
   |nil=>intro i st sk j h;cases h
   |cons n e ih=>
    intro i st sk j h;rw[nV]at h;split at h
    .cases h
    split at h
    .cases h
    split at h
    .cases h
    exact ih _ _ _ _ h
  have W7:c=0:=h;subst W7;exact this _ _ _ _ _ hc
 .rename_i st sk hs;exact⟨st,sk,hs⟩
end L
end Go.Proofs.YtbladfbbhijpmaaGreat
end
section
open _root_.List renaming foldl_cons->ZG,length_cons->YT,mem_cons->YM,mem_cons_of_mem->Zc,mem_cons_self->Zp,pairwise_cons->Y7
namespace Go.Proofs.YtbladfbbhijpmaaGreat
open Go Go.RowKit
set_option maxRecDepth 100000
set_option linter.unusedSimpArgs false
namespace L
def ins(n:Int):List Int->List Int
 |[]=>[n]
 |x::l=>if x<n then x::ins n l else if x=n then x::l else n::x::l
theorem E8(n x:Int)(l:List Int):ins n (x::l)=if x<n then x::ins n l else if x=n then x::l else n::x::l:=rfl
theorem jq{n y:Int}:∀{l:List Int},y∈ins n l↔y=n\/y∈l
 |[]=>by simp[ins]
 |x::l=>by
  unfold ins;split
  .rw[YM,jq,YM];exact⟨fun h=>by rcases h with h|h|h<;>simp[h],fun h=>by rcases h with h|h|h<;>simp[h]⟩
  split
  .rename_i h;subst h;simp
  .simp
def kJ(p:Int->Bool)(e:List Ty):List Int:=e.foldl (fun l n=>if p n.1=true then ins n.2 l else l) []
def py(op:Int):Bool:=decide (op=8)
def pz(n:Nat)(l:List Int):Prop:=l.Pairwise (· < ·)/\∀x∈l,0<=x/\x<(n:Int)
theorem pz.nil{n:Nat}:pz n []:=⟨.nil,fun _ h=>by cases h⟩
theorem J3{l:List Int}:∀{a b:Int},l.Pairwise (· < ·)->(∀x∈l,a<=x/\x<b)->(l.length:Int)<=max 0 (b-a):=by
 induction l with
 |nil=>intro a b _ _;simp;omega
 |cons x l ih=>
  intro a b hp hb;obtain⟨h1,h2⟩:=Y7.1 hp;have hx:=hb x (Zp ..)
  have:=ih (a:=x+1) (b:=b) h2 fun y hy=>⟨h1 y hy,(hb y (Zc _ hy)).2⟩
  simp only[YT];omega
theorem pz.len{n:Nat}{l:List Int}(h:pz n l):l.length<=n:=by
 have:=J3 h.1 h.2;omega
theorem zh{n:Int}:∀{l:List Int},l.Pairwise (· < ·)->(ins n l).Pairwise (· < ·)
 |[],_=>List.pairwise_singleton ..
 |x::l,h=>by
  obtain⟨h1,h2⟩:=Y7.1 h;rw[E8];split
  .exact Y7.2 ⟨fun y hy=>by rcases jq.1 hy with rfl|hy;assumption;exact h1 y hy,zh h2⟩
  split
  .exact h
  .refine Y7.2 ⟨fun y hy=>?_,h⟩
   rcases YM.1 hy with rfl|hy
   .omega
   .have:=h1 y hy;omega
theorem pz.ins{n:Nat}{x:Int}{l:List Int}(h:pz n l)(hx:0<=x/\x<(n:Int)):pz n (ins x l):=
 ⟨zh h.1,fun y hy=>by rcases jq.1 hy with rfl|hy;exact hx;exact h.2 y hy⟩
def jr(n:Nat)(out l:List Int):List Int:=l.foldl (fun o x=>if 0<=x/\x<(n:Int)then ins x o else o) out
theorem pz.jr{n:Nat}:∀{l out:List Int},pz n out->pz n (jr n out l)
 |[],_,h=>h
 |x::l,out,h=>by
  show pz n (L.jr n (if 0<=x/\x<(n:Int)then L.ins x out else out) l)
  refine pz.jr ?_;split
  .exact h.ins ‹_›
  .exact h
def gT(s:kf)(d:Int):List Int:=
 if 0<=d/\d<(s.2.2.2.1.length:Int)then s.2.2.2.2.foldl (fun out r=>if(r.2.1:Int)=d then jr s.2.2.2.1.length (jr s.2.2.2.1.length out (kJ py r.2.2.2.2.2.1)) (kJ py r.2.2.2.2.2.2.1)else out) []else[]
theorem lF(s:kf)(d:Int):pz s.2.2.2.1.length (gT s d):=by
 unfold gT;split
 .suffices∀(rs:List gx)(out:List Int),pz s.2.2.2.1.length out->pz s.2.2.2.1.length (rs.foldl (fun out r=>if(r.2.1:Int)=d then jr s.2.2.2.1.length (jr s.2.2.2.1.length out (kJ py r.2.2.2.2.2.1)) (kJ py r.2.2.2.2.2.2.1)else out) out)from this _ _ .nil
  intro rs
  induction rs with
  |nil=>intro out h;exact h
  |cons r rs ih=>
   intro out h;rw[ZG];refine ih _ ?_;split
   .exact h.jr.jr
   .exact h
 .exact .nil
def stepT(s:kf)(out:List Int):List Int:=out.foldl (fun o x=>(gT s x).foldl (fun o y=>ins y o) o) out
def fM(s:kf):Nat->List Int->List Int
 |0,out=>out
 |n+1,out=>stepT s (fM s n out)
def E9(s:kf)(d:Int):List Int:=fM s s.2.2.2.1.length (gT s d)
theorem pz.Fa{n:Nat}:∀{l out:List Int},(∀x∈l,0<=x/\x<(n:Int))->pz n out->pz n (l.foldl (fun o y=>L.ins y o) out)
 |[],_,_,h=>h
 |x::l,out,hx,h=>pz.Fa (l:=l) (out:=L.ins x out) (fun y hy=>hx y (Zc _ hy)) (h.ins (hx x (Zp ..)))
theorem ml(s:kf){out:List Int}(h:pz s.2.2.2.1.length out):pz s.2.2.2.1.length (stepT s out):=by
 unfold stepT
 suffices∀(l o:List Int),pz s.2.2.2.1.length o->pz s.2.2.2.1.length (l.foldl (fun o x=>(gT s x).foldl (fun o y=>ins y o) o) o)from this _ _ h
 intro l
 induction l with
 |nil=>intro o h;exact h
 |cons x l ih=>intro o h;exact ih _ (h.Fa (lF s x).2)
end L
end Go.Proofs.YtbladfbbhijpmaaGreat
end
section
namespace Go.Proofs.YtbladfbbhijpmaaGreat
open Go Go.RowKit
set_option maxRecDepth 100000
set_option linter.unusedSimpArgs false
namespace L
def zi(s:kf):Prop:=s.1.size<=80/\s.2.2.1.length<=14/\s.2.2.2.1.length<=14/\s.2.2.2.2.length<=60/\(∀f∈s.2.2.1,f.1.size<=80)/\(∀f∈s.2.2.2.1,f.1.size<=80)/\∀r∈s.2.2.2.2,r.1.size<=80/\r.2.2.2.2.2.2.2.size<=80/\r.2.2.2.2.2.1.length<=50/\r.2.2.2.2.2.2.1.length<=50
def J4(l:Lw):Prop:=l.1.length<=9/\l.2.1.length<=9/\l.2.2.length<=5/\(∀e∈l.1,e.1.size<=80/\e.2.length<=20/\∀m∈e.2,m.size<=80)/\(∀t∈l.2.1,t.1.size<=80)/\∀s∈l.2.2,zi s
abbrev LE:Type:=bp.den
def N4:LE:=((0:Int),((0:Int),((0:Int),(0:Int))))
def Fb(sec:Int)(k:Int):Option (Int×Int)->LE
 |none=>N4
 |some (c,e)=>(c,(sec,(k,e)))
noncomputable def M3(ms:List ByteArray)(i:Nat):Option (Int×Int):=match ms[i]? with
 |none=>none
 |some m=>if r6 m=false then some (2,100+(i:Int))else if m∈ms.take i then some (7,100+(i:Int))else none
noncomputable def Az(l:Lw)(k:Nat):Option (Int×Int):=match l.1[k]? with
 |none=>none
 |some x=>if r6 x.1=false then some (2,0)else if nW (l.1.take k) x.1 then some (7,0)else if x.2.length=0 then some (5,0)else if 16<x.2.length then some (4,116)else df (M3 x.2) x.2.length
end L
end Go.Proofs.YtbladfbbhijpmaaGreat
end
section
open _root_.Classical renaming propDecidable->Zj
namespace Go.Proofs.YtbladfbbhijpmaaGreat
open Go Go.RowKit
set_option maxRecDepth 100000
set_option linter.unusedSimpArgs false
namespace L
noncomputable def Hs(l:Lw)(k:Nat):Option (Int×Int):=match l.2.1[k]? with
 |none=>none
 |some x=>if r6 x.1=false then some (2,0)else if nW l.1 x.1\/nW (l.2.1.take k) x.1 then some (7,0)else if(Ho x l.1).2=0 then none else some ((Ho x l.1).2,if 0<=(Ho x l.1).1 then 100+(Ho x l.1).1 else 0)
noncomputable def M4(l:Lw)(x:kf)(i:Nat):Option (Int×Int):=match x.2.2.1[i]? with
 |none=>none
 |some f=>if r6 f.1=false then some (2,100+(i:Int))else if nW (x.2.2.1.take i) f.1 then some (7,100+(i:Int))else if¬jD f.2 l.1.length then some (8,100+(i:Int))else none
noncomputable def M5(l:Lw)(x:kf)(i:Nat):Option (Int×Int):=match x.2.2.2.1[i]? with
 |none=>none
 |some f=>if r6 f.1=false then some (2,200+(i:Int))else if nW x.2.2.1 f.1\/nW (x.2.2.2.1.take i) f.1 then some (7,200+(i:Int))else if¬jD f.2 l.1.length then some (8,200+(i:Int))else none
noncomputable def Ht(l:Lw)(x:kf):Option (Int×Int):=(df (M4 l x) x.2.2.1.length).or (df (M5 l x) x.2.2.2.1.length)
def plain(s:ByteArray):Prop:=(∀i,∀h:i<s.size,32<=(s[i].toNat:Int)/\(s[i].toNat:Int)<=126/\(s[i].toNat:Int)≠34)/\s.size<=64
noncomputable instance(s:ByteArray):Decidable (plain s):=Zj _
def Cr(l:Lw)(x:kf):o3:=(l.1,(l.2.1,(x.2.2.1.map (·.2),(x.2.2.2.1.map (·.2),(match l.2.2[(x.2.1:Int).toNat]? with
 |some y=>if 0<=(x.2.1:Int)then y.2.2.2.1.map (·.2)else[]
 |none=>[],decide (0<=(x.2.1:Int)/\(x.2.1:Int)<(l.2.2.length:Int)))))))
end L
end Go.Proofs.YtbladfbbhijpmaaGreat
end
section
open _root_.Classical renaming not_not->Z6,propDecidable->Zj
open _root_.List renaming getElem?_eq_getElem->YF
namespace Go.Proofs.YtbladfbbhijpmaaGreat
open Go Go.RowKit
set_option maxRecDepth 100000
set_option linter.unusedSimpArgs false
namespace L
noncomputable def Cs(e:List Ty)(s:o3)(want:Ty):Int:=if(Hq e s).2.2≠0 then(Hq e s).2.2 else if(Hq e s).1≠want then 8 else 0
def Hu(x:kf)(k:Nat)(d:Int):Nat:=(x.2.2.2.2.take k).countP fun r=>decide ((r.2.1:Int)=d)
def uP(x:kf)(k:Nat)(r:gx):Prop:=(r.2.2.1:Int)≠-1/\((r.2.2.1:Int)<0\/(k:Int)<=r.2.2.1\/∃y,x.2.2.2.2[(r.2.2.1:Int).toNat]? =some y/\(y.2.1:Int)≠r.2.1)
noncomputable instance(x:kf)(k:Nat)(r:gx):Decidable (uP x k r):=Zj _
noncomputable def Ct(l:Lw)(x:kf)(k:Nat)(r:gx):Int:=
 if r6 r.1=false then 2 else if nW (x.2.2.2.2.take k) r.1 then 7 else if¬(0<=(r.2.1:Int)/\(r.2.1:Int)<(x.2.2.2.1.length:Int))then 6 else if uP x k r then 9 else
 if(r.2.2.2.1:Int)<0\/9<(r.2.2.2.1:Int)\/¬VR r.2.2.2.2.1\/(r.2.2.2.2.1.1:Int)=r.2.2.2.2.1.2 then 3 else if 8<=Hu x k r.2.1 then 4 else if¬plain r.2.2.2.2.2.2.2 then 2 else
 if 0<r.2.2.2.2.2.1.length/\Cs r.2.2.2.2.2.1 (Cr l x) ((1:Int),(0:Int))≠0 then Cs r.2.2.2.2.2.1 (Cr l x) ((1:Int),(0:Int))else
 match x.2.2.2.1[(r.2.1:Int).toNat]? with
 |some d=>Cs r.2.2.2.2.2.2.1 (Cr l x) d.2
 |none=>0
noncomputable def J5(l:Lw)(x:kf)(k:Nat):Option (Int×Int):=match x.2.2.2.2[k]? with
 |none=>none
 |some r=>if Ct l x k r≠0 then some (Ct l x k r,300+(k:Int))else none
noncomputable def J6(x:kf)(d:Nat):Option (Int×Int):=if(d:Int)∈E9 x d then some (9,200+(d:Int))else none
def zj(l:Lw)(k:Nat)(x:kf):Prop:=(x.2.1:Int)≠-1/\((x.2.1:Int)<0\/(k:Int)<=x.2.1\/∃y,l.2.2[(x.2.1:Int).toNat]? =some y/\(y.2.1:Int)≠-1)
noncomputable instance(l:Lw)(k:Nat)(x:kf):Decidable (zj l k x):=Zj _
noncomputable def Fc(l:Lw)(k:Nat):Option (Int×Int):=match l.2.2[k]? with
 |none=>none
 |some x=>
  if r6 x.1=false then some (2,0)else if nW l.1 x.1\/nW l.2.1 x.1\/nW (l.2.2.take k) x.1 then some (7,0)else if zj l k x then some (6,0)else
  if 12<x.2.2.1.length then some (4,112)else if 12<x.2.2.2.1.length then some (4,212)else((Ht l x).or (df (J5 l x) x.2.2.2.2.length)).or (df (J6 x) x.2.2.2.1.length)
theorem Fe{l:Lw}{x:kf}{e:Int×Int}(h:Ht l x=some e):e.1≠0:=by
 have key:∀(f:Nat->Option (Int×Int)),(∀i e,f i=some e->e.1≠0)->∀{m e},df f m=some e->e.1≠0:=fun f hf m e h=>by
  obtain⟨k,_,h,_⟩:=fL h;exact hf k e h
 unfold Ht at h
 rcases Option.or_eq_some_iff.1 h with h|⟨_,h⟩
 .refine key _ (fun i e h=>?_) h;unfold M4 at h
  repeat' split at h
  all_goals first|cases h|skip
  all_goals simp
 .refine key _ (fun i e h=>?_) h;unfold M5 at h
  repeat' split at h
  all_goals first|cases h|skip
  all_goals simp
theorem Hv(x:kf)(d:Int):pz x.2.2.2.1.length (E9 x d):=by
 have:∀m,pz x.2.2.2.1.length (fM x m (gT x d)):=fun m=>by
  induction m with
  |zero=>exact lF x d
  |succ m ih=>exact ml x ih
 exact this _
noncomputable def Hw(l:Lw):LE:=
 if 8<l.1.length then((4:Int),((1:Int),((8:Int),(0:Int))))else match df (fun k=>(Az l k).map fun e=>(k,e)) l.1.length with
 |some (k,e)=>Fb 1 (k:Int) (some e)
 |none=>if 8<l.2.1.length then((4:Int),((2:Int),((8:Int),(0:Int))))else match df (fun k=>(Hs l k).map fun e=>(k,e)) l.2.1.length with
  |some (k,e)=>Fb 2 (k:Int) (some e)
  |none=>if 4<l.2.2.length then((4:Int),((3:Int),((4:Int),(0:Int))))else match df (fun k=>(Fc l k).map fun e=>(k,e)) l.2.2.length with
   |some (k,e)=>Fb 3 (k:Int) (some e)
   |none=>N4
theorem nf{f:Nat->Option (Int×Int)}(hf:∀i e,f i=some e->e.1≠0){m:Nat}{e:Int×Int}(h:df f m=some e):e.1≠0:=by
 obtain⟨k,_,h,_⟩:=fL h;exact hf k e h
theorem Cu{l:Lw}{k:Nat}{e:Int×Int}(h:Az l k=some e):e.1≠0:=by
 unfold Az at h
 repeat' split at h
 all_goals first|cases h|skip
 all_goals first|simp;done|skip
 refine nf (fun i e h=>?_) h;unfold M3 at h
 repeat' split at h
 all_goals first|cases h|skip
 all_goals simp
theorem Ff{l:Lw}{k:Nat}{e:Int×Int}(h:Hs l k=some e):e.1≠0:=by
 unfold Hs at h
 repeat' split at h
 all_goals first|cases h|skip
 all_goals first|simp;done|assumption
theorem Fg{l:Lw}{k:Nat}{e:Int×Int}(h:Fc l k=some e):e.1≠0:=by
 unfold Fc at h
 repeat' split at h
 all_goals first|cases h|skip
 all_goals first|simp;done|skip
 rcases Option.or_eq_some_iff.1 h with h|⟨_,h⟩
 .rcases Option.or_eq_some_iff.1 h with h|⟨_,h⟩
  .exact Fe h
  .refine nf (fun i e h=>?_) h;unfold J5 at h
   repeat' split at h
   all_goals first|cases h|skip
   assumption
 .refine nf (fun i e h=>?_) h;unfold J6 at h
  repeat' split at h
  all_goals first|cases h|skip
  simp
def Valid(l:Lw):Prop:=(Hw l).1=0
noncomputable instance(l:Lw):Decidable (Valid l):=Zj _
theorem Valid.scopes{l:Lw}(h:Valid l):l.1.length<=8/\l.2.1.length<=8/\l.2.2.length<=4/\(∀k,k<l.1.length->Az l k=none)/\(∀k,k<l.2.1.length->Hs l k=none)/\∀k,k<l.2.2.length->Fc l k=none:=by
 unfold Valid Hw at h;split at h
 .cases h
 split at h
 .rename_i k e hf;obtain⟨j,_,hj,_⟩:=fL hf;obtain⟨e',he',h2⟩:=Option.map_eq_some_iff.1 hj;cases h2;exact absurd h (Cu he')
 rename_i hA;split at h
 .cases h
 split at h
 .rename_i k e hf;obtain⟨j,_,hj,_⟩:=fL hf;obtain⟨e',he',h2⟩:=Option.map_eq_some_iff.1 hj;cases h2;exact absurd h (Ff he')
 rename_i hB;split at h
 .cases h
 split at h
 .rename_i k e hf;obtain⟨j,_,hj,_⟩:=fL hf;obtain⟨e',he',h2⟩:=Option.map_eq_some_iff.1 hj;cases h2;exact absurd h (Fg he')
 rename_i hC;exact⟨by omega,by omega,by omega,fun k hk=>by simpa using cC.1 hA k hk,fun k hk=>by simpa using cC.1 hB k hk,fun k hk=>by simpa using cC.1 hC k hk⟩
theorem Valid.scope{l:Lw}(h:Valid l)(k:Nat)(hk:k<l.2.2.length):r6 l.2.2[k].1=true/\¬nW (l.2.2.take k) l.2.2[k].1/\¬zj l k l.2.2[k]/\l.2.2[k].2.2.1.length<=12/\l.2.2[k].2.2.2.1.length<=12/\Ht l l.2.2[k]=none/\
 (∀i,∀hi:i<l.2.2[k].2.2.2.2.length,Ct l l.2.2[k] i l.2.2[k].2.2.2.2[i]=0)/\∀d:Nat,d<l.2.2[k].2.2.2.1.length->¬(d:Int)∈E9 l.2.2[k] d:=by
 have h:=h.scopes.2.2.2.2.2 k hk;unfold Fc at h;rw[YF hk]at h;dsimp only at h;split at h
 .cases h
 split at h
 .cases h
 split at h
 .cases h
 split at h
 .cases h
 split at h
 .cases h
 rename_i h1 h2 h3 h4 h5;rw[Option.or_eq_none_iff,Option.or_eq_none_iff]at h;refine⟨by simpa using h1,fun g=>h2 (.inr (.inr g)),h3,by omega,by omega,h.1.1,fun i hi=>?_,fun d hd g=>?_⟩
 .have:=cC.1 h.1.2 i hi;unfold J5 at this;rw[YF hi]at this;dsimp only at this;split at this
  .cases this
  .exact Z6.1 ‹_›
 .have:=cC.1 h.2 d hd;unfold J6 at this;rw[if_pos g]at this;cases this
end L
end Go.Proofs.YtbladfbbhijpmaaGreat
end
section
open _root_.Go.IntKind renaming i64->YC
open _root_.List renaming length_cons->YT,mem_cons->YM
namespace Go.Proofs.YtbladfbbhijpmaaGreat
open Go Go.RowKit
set_option maxRecDepth 100000
set_option linter.unusedSimpArgs false
namespace L
def r7{α:Type}(p:α->Bool)(l:List α):Int:=if l.findIdx p<l.length then((l.findIdx p:Nat):Int)else-1
theorem uQ{α:Type}{p:α->Bool}{l:List α}{k:Nat}(hk:k<l.length)(hp:p l[k]=true)(hn:∀j,j<k->∀h:j<l.length,p l[j]=false):r7 p l=(k:Int):=by
 have h1:l.findIdx p=k:=by
  rcases Nat.lt_trichotomy (l.findIdx p) k with h|h|h
  .have:=hn _ h (by omega);have h2:=List.findIdx_getElem (xs:=l) (p:=p) (w:=by omega);rw[this]at h2;cases h2
  .exact h
  .have:=List.not_of_lt_findIdx h;rw[hp]at this;cases this
 unfold r7;rw[if_pos (by omega),h1]
theorem Cv{α:Type}{p:α->Bool}{l:List α}(hn:∀j,∀h:j<l.length,p l[j]=false):r7 p l= -1:=by
 unfold r7;rw[if_neg fun h=>?_];have h2:=List.findIdx_getElem (xs:=l) (p:=p) (w:=h);rw[hn _ h]at h2;cases h2
theorem lG{α:Type}{p:α->Bool}{l:List α}:0<=r7 p l↔∃x∈l,p x=true:=by
 unfold r7;rw[<-List.findIdx_lt_length]
 split<;>simp_all
theorem uR{α:Type}{l:List α}{p:α->Bool}{body:Int->Option (Int⊕Int)}(hl:l.length<=maxLen)
 (hb:∀k,∀h:k<l.length,body (k:Int)=if p l[k]=true then some (.inr (k:Int))else some (.inl (YC.wrap ((k:Int)+1))))
 (he:body (l.length:Int)=some (.inr (-1:Int))):Loop body bm (0:Int)=some (r7 p l):=by
 apply Wp.eq
 refine Wp.count (fun s=>s) l.length (fun k _=>∀j,j<k->∀h:j<l.length,p l[j]=false) hl rfl (fun j hj=>by omega) fun k c hk hs hJ=>?_
 obtain rfl:c=_:=hs
 rcases Nat.lt_or_ge k l.length with av|hge
 .rw[hb k av];simp only[W_,implies_true,forall_const,reduceCtorEq,eP,dZ,kT hl av];exact⟨fun h=>by rw[uQ av h hJ],fun h=>⟨av,rl hJ fun _=>by simpa using h⟩⟩
 .obtain rfl:k=l.length:=by omega
  rw[he];simp only[W_,implies_true,forall_const,reduceCtorEq,dZ];rw[Cv fun j h=>hJ j h h]
theorem lH{e:Row}{l:List e.den}{x:e.den}(h:x∈l):b9 e x<=b9 (.slice e) l:=by
 show b9 e x<=(l.map (b9 e)).sum+1
 induction l with
 |nil=>cases h
 |cons y l ih=>
  rw[List.map_cons,List.sum_cons]
  rcases YM.1 h with rfl|h
  .omega
  .have:=ih h;omega
theorem fo{e:Row}(l:List e.den):l.length<=b9 (.slice e) l:=by
 show l.length<=(l.map (b9 e)).sum+1
 induction l with
 |nil=>simp
 |cons y l ih=>
  rw[List.map_cons,List.sum_cons,YT];have:=vn e y;omega
structure M6(l:Lw):Prop where
 en:∀e∈l.1,e.2.length<=1048576
 tb:∀t∈l.2.1,t.2.2.2.length<=1048576
 ru:∀s∈l.2.2,∀r∈s.2.2.2.2,r.2.2.2.2.2.1.length<=1048576/\r.2.2.2.2.2.2.1.length<=1048576
 en':l.1.length<=1048576
 tb':l.2.1.length<=1048576
 sc':l.2.2.length<=1048576
 sc:∀s∈l.2.2,s.2.2.1.length<=1048576/\s.2.2.2.1.length<=1048576/\s.2.2.2.2.length<=1048576
theorem M6.of{l:Lw}(h:b9 fh l<=1048576):M6 l:=by
 have e1:b9 fh l=b9 (.slice cm) l.1+(b9 (.slice cn) l.2.1+b9 (.slice aO) l.2.2):=rfl;rw[e1]at h;refine⟨fun e he=>?_,fun t ht=>?_,fun s hs r hr=>?_,?_,?_,?_,fun s hs=>?_⟩
 .have h1:=lH he;have h2:=fo (e:= .str) e.2;have h3:b9 cm e=b9 .str e.1+b9 (.slice .str) e.2:=rfl;omega
 .have h1:=lH ht;have h2:=fo (e:=fg) t.2.2.2;have h3:b9 cn t=b9 .str t.1+(b9 aa t.2.1+(b9 aa t.2.2.1+b9 (.slice fg) t.2.2.2)):=rfl;omega
 .have h1:=lH hs;have h3:b9 aO s=b9 .str s.1+(b9 ae s.2.1+(b9 (.slice aN) s.2.2.1+(b9 (.slice aN) s.2.2.2.1+b9 (.slice bK) s.2.2.2.2))):=rfl;have h4:=lH hr;have h5:=fo (e:=aa) r.2.2.2.2.2.1;have h6:=fo (e:=aa) r.2.2.2.2.2.2.1;have h7:b9 bK r=b9 .str r.1+(b9 ae r.2.1+(b9 ae r.2.2.1+(b9 ae r.2.2.2.1+(b9 aa r.2.2.2.2.1+(b9 (.slice aa) r.2.2.2.2.2.1+(b9 (.slice aa) r.2.2.2.2.2.2.1+b9 .str r.2.2.2.2.2.2.2)))))):=rfl;omega
 .have:=fo (e:=cm) l.1;omega
 .have:=fo (e:=cn) l.2.1;omega
 .have:=fo (e:=aO) l.2.2;omega
 .have h1:=lH hs;have h3:b9 aO s=b9 .str s.1+(b9 ae s.2.1+(b9 (.slice aN) s.2.2.1+(b9 (.slice aN) s.2.2.2.1+b9 (.slice bK) s.2.2.2.2))):=rfl;have h5:=fo (e:=aN) s.2.2.1;have h6:=fo (e:=aN) s.2.2.2.1;have h7:=fo (e:=bK) s.2.2.2.2;omega
end L
end Go.Proofs.YtbladfbbhijpmaaGreat
end
section
open _root_.List renaming getElem?_eq_getElem->YF
namespace Go.Proofs.YtbladfbbhijpmaaGreat
open Go Go.RowKit
set_option maxRecDepth 100000
set_option linter.unusedSimpArgs false
namespace L
theorem ng(t:Ty)(E:List En):M.bN bm t E=some (decide (jD t E.length)):=by
 obtain⟨(k:Int),(e:Int)⟩:=t;apply Wp.eq;unfold M.bN;simp only[W_,implies_true,forall_const,reduceCtorEq];simp only[jD];dsimp only[ae,Row.den]at*;omega
theorem Hx(t:Ty)(E:List En):M.eW bm t E=some (EG t E):=by
 obtain⟨(k:Int),(e:Int)⟩:=t;apply Wp.eq;unfold M.eW EG;simp only[ng,W_,implies_true,forall_const,reduceCtorEq];by_cases hv:jD (k,e) E.length
 .simp only[hv,not_true_eq_false,if_false,false_implies,true_implies,true_and];refine⟨fun h=>by rw[if_pos h],fun h1=>⟨fun h=>by rw[if_neg h1,if_pos h],fun h2=>⟨fun h=>by rw[if_neg h1,if_neg h2,if_pos h],fun h3=>⟨fun h=>by rw[if_neg h1,if_neg h2,if_neg h3,if_pos h],fun h4=>⟨fun h=>by rw[if_neg h1,if_neg h2,if_neg h3,if_neg h4,if_pos h],fun h5=>?_⟩⟩⟩⟩⟩;simp only[jD]at hv;dsimp only[ae,Row.den]at*
  have hi:e.toNat<E.length:=by omega
  refine eC.2 ⟨by omega,?_⟩;rw[if_neg h1,if_neg h2,if_neg h3,if_neg h4,if_neg h5,YF hi];rfl
 .simp only[hv,not_false_eq_true,if_true,true_implies,false_implies,and_true]
theorem J7(r:Ty):M.dp bm r=some (decide (VR r)):=by
 obtain⟨(k:Int),(e:Int)⟩:=r;apply Wp.eq;unfold M.dp;simp only[W_,implies_true,forall_const,reduceCtorEq];simp only[VR];dsimp only[ae,Row.den]at*;omega
def M7(sg:o3):Prop:=∀e:List Ty,(∀n∈e,WF aa n)->M.jm bm e sg=some (Hq e sg)
def M8(x:kf):Prop:=∀d:Nat,d<x.2.2.2.1.length->∃tr,M.ek bm x (d:Int)=some tr/\tr.length<=1000/\((d:Int)∈tr↔(d:Int)∈E9 x d)
end L
end Go.Proofs.YtbladfbbhijpmaaGreat
end
section
open _root_.Int renaming eq_ofNat_of_zero_le->YN,tdiv->ZK,tmod->Z7,toNat_natCast->YK
open _root_.Go.IntKind renaming i64->YC
open _root_.List renaming drop_eq_getElem_cons->Zd,drop_of_length_le->ZC,getElem?_eq_getElem->YF,getElem_mem->YP,length_append->YV,length_cons->YT,length_map->ZI,length_take->Zw,map_append->ZH,mem_append->YL,mem_singleton->YJ,replicate->Y4,take_length->YS
open _root_.Nat renaming le_refl->YD
open _root_.Option renaming bind_some->YB
open _root_.Option.some renaming inj->YA
namespace Go.Proofs.YtbladfbbhijpmaaGreat
open Go Go.RowKit
set_option maxRecDepth 100000
set_option linter.unusedSimpArgs false
namespace L
theorem Fh(op:Int):M.iO bm op=some (ar op):=by
 apply Wp.eq;unfold M.iO ar;simp only[W_,implies_true,forall_const,reduceCtorEq];omega
theorem Fi(op:Int):M.kA bm op=some (decide ((1<=op/\op<=8)\/(14<=op/\op<=16)\/op=33\/op=34\/(36<=op/\op<=39))):=by
 apply Wp.eq;unfold M.kA;simp only[W_,implies_true,forall_const,reduceCtorEq];omega
theorem aQ(k:Int):M.da bm k=some (decide (k=2\/k=3\/k=4)):=by
 apply Wp.eq;unfold M.da;simp only[W_,implies_true,forall_const,reduceCtorEq];omega
theorem aE(k:Int):M.eM bm k=some (decide (0<=k/\k<=5)):=by
 apply Wp.eq;unfold M.eM;simp only[W_,implies_true,forall_const,reduceCtorEq];omega
theorem bd(m k:Int)(s:o3):M.cu bm m k s=some (if zd m (k,(0:Int)) s.1 then((k,(0:Int)),(0:Int))else(((0:Int),(0:Int)),(3:Int))):=by
 apply Wp.eq;unfold M.cu;simp only[Hx,W_,implies_true,forall_const,reduceCtorEq];have hI:zd m (k,(0:Int)) s.1↔(EG (k,(0:Int)) s.1).1<=m/\m<=(EG (k,(0:Int)) s.1).2:=Iff.rfl;exact⟨fun h=>by rw[if_neg fun g=>by have:=hI.1 g;omega],fun h=>⟨fun h'=>by rw[if_neg fun g=>by have:=hI.1 g;omega],fun h'=>by rw[if_pos (hI.2 (by omega))]⟩⟩
noncomputable def pN(n:Ty)(l:List Ty)(s:o3):Option (Ty×Int):=
 if(n.2:Int)≠0/\¬((1<=(n.1:Int)/\(n.1:Int)<=8)\/(14<=(n.1:Int)/\(n.1:Int)<=16)\/(n.1:Int)=33\/(n.1:Int)=34\/(36<=(n.1:Int)/\(n.1:Int)<=39))then some (((0:Int),(0:Int)),2)else M.aC bm n l s
def mv(t:Ty):Prop:=1<=(t.1:Int)/\(t.1:Int)<=5->(t.2:Int)=0
theorem J8(op m:Int)(a b:Ty)(s:o3)(h2:ar op=2)(ha:mv a)(_:mv b):pN (op,m) [a,b] s=M.az bm (op,m) [a,b] s:=by
 have hr:=rm (op,m) s
 have hR:w6 op m s↔(14<=op/\op<=16->0<=m/\m<=5):=by
  unfold ar at h2;unfold w6;exact⟨fun h=>h.2.1,fun h=>⟨fun _=>by omega,h,fun _=>by omega,fun _=>by omega⟩⟩
 have rU:op=11\/op=12\/op=13\/op=14\/op=15\/op=16\/op=17\/op=18\/op=19\/op=20\/op=21\/op=22\/op=23\/op=24\/op=27\/op=28\/op=29\/op=30:=by unfold ar at h2;omega
 obtain⟨(a1:Int),(a2:Int)⟩:=a;obtain⟨(b1:Int),(b2:Int)⟩:=b;simp only[mv]at ha
 rcases rU with rfl|rfl|rfl|rfl|rfl|rfl|rfl|rfl|rfl|rfl|rfl|rfl|rfl|rfl|rfl|rfl|rfl|rfl
 all_goals
  unfold pN M.aC M.cA M.gv M.az M.aM M.dY M.fZ;simp[ao,aq,an,aF,aQ,aE,bI,hr,hR,idx,E2]
  grind
theorem Fj(op m:Int)(a b c:Ty)(s:o3)(h3:ar op=3):pN (op,m) [a,b,c] s=M.az bm (op,m) [a,b,c] s:=by
 have rU:op=26:=by unfold ar at h3;omega
 subst rU;have hr:=rm ((26:Int),m) s
 have hR:w6 26 m s:=by unfold w6;omega
 obtain⟨(a1:Int),(a2:Int)⟩:=a;obtain⟨(b1:Int),(b2:Int)⟩:=b;obtain⟨(c1:Int),(c2:Int)⟩:=c;unfold pN M.aC M.cA M.az M.aM;simp[ao,aq,an,aF,aQ,aE,bI,hr,hR,idx,E2]
 grind
theorem J9(op m:Int)(a:Ty)(s:o3)(hm:m<=9223372036854775807)(h1:ar op=1)(ha:mv a):pN (op,m) [a] s=M.az bm (op,m) [a] s:=by
 have hr:=rm (op,m) s
 have hR:w6 op m s↔(op=34->0<=m/\Z7 m 8<=5):=by
  unfold ar at h1;unfold w6;exact⟨fun h=>h.2.2.1,fun h=>⟨fun _=>by omega,fun _=>by omega,h,fun _=>by omega⟩⟩
 have hd:0<=m->0<=YC.wrap (ZK m 8):=fun h=>Ay h hm (by omega)
 have ht:0<=m->0<=Z7 m 8:=fun h=>Int.tmod_nonneg _ h
 have rU:op=10\/op=25\/op=31\/op=32\/op=33\/op=34:=by unfold ar at h1;omega
 obtain⟨(a1:Int),(a2:Int)⟩:=a;simp only[mv]at ha
 rcases rU with rfl|rfl|rfl|rfl|rfl|rfl
 .unfold pN M.aC M.cA M.az M.aM M.cd;simp[ao,aq,an,aF,aQ,aE,bI,hr,hR,idx,E2]
  grind
 .unfold pN M.aC M.cA M.az M.aM M.cd;simp[ao,aq,an,aF,aQ,aE,bI,hr,hR,idx,E2]
  grind
 .unfold pN M.aC M.cA M.az M.aM M.cd;simp[ao,aq,an,aF,aQ,aE,bI,hr,hR,idx,E2]
  grind
 .unfold pN M.aC M.cA M.az M.aM M.cd;simp[ao,aq,an,aF,aQ,aE,bI,hr,hR,idx,E2]
  grind
 .have i0:idx [((a1,a2):Ty)] 0=some (a1,a2):=rfl;unfold pN M.aC M.fV M.az M.aM M.cd;by_cases h:0<=m/\m<(s.2.1.length:Int)
  .obtain⟨k,rfl⟩:=YN h.1
   have hk:k<s.2.1.length:=by omega
   simp[ao,aq,an,aF,bI,hr,hR,E2,ng,bc,i0,aB hk,hk,show¬((s.2.1.length:Int)<=(k:Int)) by omega,show¬((k:Int)<0) by omega];generalize s.2.1[k]=t
   by_cases c1:jD t.2.1 s.1.length<;>by_cases c2:jD t.2.2.1 s.1.length<;>by_cases c3:((a1,a2):Ty)=t.2.1<;>simp[c1,c2,c3]
  .simp[ao,aq,an,aF,bI,hr,hR,E2,ng,bc,i0];by_cases IN:m<0
   .simp[IN,show¬0<=m by omega]
   .simp[IN,show 0<=m by omega,show(s.2.1.length:Int)<=m by omega,show¬m<(s.2.1.length:Int) by omega]
 .have i0:idx [((a1,a2):Ty)] 0=some (a1,a2):=rfl;unfold pN M.aC M.fV M.az M.aM M.cd;simp only[hr,hR];by_cases h:0<=m/\Z7 m 8<=5
  .have hd:=hd h.1;have ht:=ht h.1;generalize YC.wrap (ZK m 8)=j at*;generalize Z7 m 8=q at*;by_cases h':j<(s.2.1.length:Int)
   .obtain⟨k,rfl⟩:=YN hd
    have hk:k<s.2.1.length:=by omega
    simp[ao,aq,an,aF,aE,bI,h,ht,E2,ng,bc,i0,aB hk,hk,show¬(m<0) by omega,show¬((s.2.1.length:Int)<=(k:Int)) by omega,show¬((k:Int)<0) by omega];generalize s.2.1[k]=t;obtain⟨nm,⟨(k1:Int),(k2:Int)⟩,⟨(v1:Int),(v2:Int)⟩,rs⟩:=t;generalize s.1.length=ne;by_cases R:a1=3/\k1=3/\k2=0/\v1=4/\v2=0
    .obtain⟨rfl,rfl,rfl,rfl,rfl⟩:=R;obtain rfl:a2=0:=ha ⟨by decide,by decide⟩
     have v3:jD (((3:Int),(0:Int)):Ty) ne:=by simp[jD]
     have v4:jD (((4:Int),(0:Int)):Ty) ne:=by simp[jD]
     simp[v3,v4]
    .have Xa:(((if a1=3 then if((k1,k2):Int×Int)=(3,0)then some (decide (((v1,v2):Int×Int)=(4,0)),a1,a2)else some (false,a1,a2)else some (false,a1,a2)):Option (Bool×Int×Int)))=some (false,a1,a2):=by
      by_cases q1:a1=3<;>by_cases q2:k1=3<;>by_cases q3:k2=0<;>by_cases q4:v1=4<;>by_cases q5:v2=0<;>simp[q1,q2,q3,q4,q5]<;>exact absurd ⟨q1,q2,q3,q4,q5⟩ R
     rw[Xa];by_cases c1:jD ((k1,k2):Ty) ne
     .by_cases c2:jD ((v1,v2):Ty) ne
      .by_cases e:((a1,a2):Ty)=(k1,k2)
       .injection e with e1 e2
        subst e1 e2;have NU:=c1;have LG:=c2;simp only[jD]at NU LG;dsimp only[ae,Row.den]at NU LG;by_cases f:a1=3
        .have g:¬v1=4:=fun g=>R (by omega)
         subst f
         obtain rfl:a2=0:=by omega
         simp[c1,c2,g]
        .simp[c1,c2,f]
       .simp[c1,c2,e]
      .simp[c1,c2]
     .simp[c1]
   .simp[ao,aq,an,aF,aE,bI,h,ht,E2,ng,bc,i0,show¬(m<0) by omega,show(s.2.1.length:Int)<=j by omega,show¬j<0 by omega]
  .simp[ao,aq,an,aF,aE,bI,E2,ng,bc,i0];by_cases IN:m<0
   .simp[IN,show¬0<=m by omega]
   .have h5:5<Z7 m 8:=by omega
    simp[IN,h5,show¬Z7 m 8<=5 by omega]
theorem aK(m:Int)(ls:List Ty)(s:o3):M.dq bm m ls s=if 0<=m/\m<(ls.length:Int)then(match ls[m.toNat]? with
 |some t=>if jD t s.1.length then some (t,(0:Int))else some (((0:Int),(0:Int)),(8:Int))
 |none=>none)else some (((0:Int),(0:Int)),(6:Int)):=by
 unfold M.dq;by_cases h:0<=m/\m<(ls.length:Int)
 .obtain⟨k,rfl⟩:=YN h.1
  have hk:k<ls.length:=by omega
  rw[if_neg (by rw[decide_eq_true_eq];omega),YB,if_neg (by rw[decide_eq_true_eq];omega),aB hk,YB,ng,YB,if_pos h,YK,YF hk];by_cases hv:jD ls[k] s.1.length
  .rw[if_neg (by simp[hv])];simp only[if_pos hv,YB]
  .rw[if_pos (by simp[hv])];simp only[if_neg hv]
 .rw[if_neg h];by_cases h0:m<0
  .rw[if_pos (decide_eq_true h0)];rfl
  .rw[if_neg (by simpa using h0),YB,if_pos (decide_eq_true (by omega))]
theorem zero_eq(op m:Int)(s:o3)(hm:m<=9223372036854775807)(h0:ar op=0):pN (op,m) [] s=M.az bm (op,m) [] s:=by
 have hr:=rm (op,m) s
 have hR:w6 op m s↔(1<=op/\op<=5->zd m (op,(0:Int)) s.1)/\(op=6->0<=m):=by
  unfold ar at h0;unfold w6;exact⟨fun h=>⟨h.1,h.2.2.2⟩,fun h=>⟨h.1,fun _=>by omega,fun _=>by omega,h.2⟩⟩
 have hd:0<=m->0<=YC.wrap (ZK m 16):=fun h=>Ay h hm (by omega)
 have rU:op=1\/op=2\/op=3\/op=4\/op=5\/op=6\/op=7\/op=8\/op=9\/op=35\/op=36\/op=37\/op=38\/op=39:=by unfold ar at h0;omega
 have v:∀k:Int,1<=k->k<=5->jD ((k,(0:Int)):Ty) s.1.length:=fun k h1 h2=> .inl ⟨h1,h2,rfl⟩
 rcases rU with rfl|rfl|rfl|rfl|rfl|rfl|rfl|rfl|rfl|rfl|rfl|rfl|rfl|rfl
 .unfold pN M.aC M.aT M.be M.az M.aM M.bk;have v:=v 1 (by decide) (by decide)
  by_cases h:zd m ((1:Int),(0:Int)) s.1<;>simp[ao,aq,an,aF,aQ,aE,bd,aK,bI,hr,hR,bc,h,v]
 .unfold pN M.aC M.aT M.be M.az M.aM M.bk;have v:=v 2 (by decide) (by decide)
  by_cases h:zd m ((2:Int),(0:Int)) s.1<;>simp[ao,aq,an,aF,aQ,aE,bd,aK,bI,hr,hR,bc,h,v]
 .unfold pN M.aC M.aT M.be M.az M.aM M.bk;have v:=v 3 (by decide) (by decide)
  by_cases h:zd m ((3:Int),(0:Int)) s.1<;>simp[ao,aq,an,aF,aQ,aE,bd,aK,bI,hr,hR,bc,h,v]
 .unfold pN M.aC M.aT M.be M.az M.aM M.bk;have v:=v 4 (by decide) (by decide)
  by_cases h:zd m ((4:Int),(0:Int)) s.1<;>simp[ao,aq,an,aF,aQ,aE,bd,aK,bI,hr,hR,bc,h,v]
 .unfold pN M.aC M.aT M.be M.az M.aM M.bk;have v:=v 5 (by decide) (by decide)
  by_cases h:zd m ((5:Int),(0:Int)) s.1<;>simp[ao,aq,an,aF,aQ,aE,bd,aK,bI,hr,hR,bc,h,v]
 .unfold pN M.aC M.aT M.be M.az M.aM M.bk;by_cases h:m<0
  .simp[ao,aq,an,aF,aQ,aE,bd,aK,bI,hr,hR,bc,h]
  .have hd:=hd (by omega)
   have h':0<=m:=by omega
   generalize YC.wrap (ZK m 16)=j at*;generalize Z7 m 16=q at*;by_cases hj:j<(s.1.length:Int)
   .obtain⟨k,rfl⟩:=YN hd
    have hk:k<s.1.length:=by omega
    have v6:jD (((6:Int),(k:Int)):Ty) s.1.length:= .inr ⟨rfl,by show(0:Int)<=(k:Int);omega,hj⟩;by_cases hq:q<(s.1[k].2.length:Int)
    .simp[ao,aq,an,aF,aQ,aE,bd,aK,bI,hr,hR,bc,h,h',hk,aB hk,v6,hq,show¬(s.1.length:Int)<=(k:Int) by omega,show¬(s.1[k].2.length:Int)<=q by omega]
    .simp[ao,aq,an,aF,aQ,aE,bd,aK,bI,hr,hR,bc,h,h',hk,aB hk,v6,hq,show¬(s.1.length:Int)<=(k:Int) by omega,show(s.1[k].2.length:Int)<=q by omega]
   .simp[ao,aq,an,aF,aQ,aE,bd,aK,bI,hr,hR,bc,h,h',hj,show(s.1.length:Int)<=j by omega]
 .unfold pN M.aC M.aT M.be M.az M.aM M.bk;by_cases h:0<=m/\m<(s.2.2.1.length:Int)
  .obtain⟨k,rfl⟩:=YN h.1
   have hk:k<s.2.2.1.length:=by omega
   by_cases hv:jD s.2.2.1[k] s.1.length<;>simp[ao,aq,an,aF,aQ,aE,bd,aK,bI,hr,hR,bc,hk,aB hk,hv]
  .by_cases h0:0<=m
   .have h1:¬m<(s.2.2.1.length:Int):=fun g=>h ⟨h0,g⟩
    simp[ao,aq,an,aF,aQ,aE,bd,aK,bI,hr,hR,bc,h0,h1]
   .simp[ao,aq,an,aF,aQ,aE,bd,aK,bI,hr,hR,bc,h0]
 .unfold pN M.aC M.aT M.be M.az M.aM M.bk;by_cases h:0<=m/\m<(s.2.2.2.1.length:Int)
  .obtain⟨k,rfl⟩:=YN h.1
   have hk:k<s.2.2.2.1.length:=by omega
   by_cases hv:jD s.2.2.2.1[k] s.1.length<;>simp[ao,aq,an,aF,aQ,aE,bd,aK,bI,hr,hR,bc,hk,aB hk,hv]
  .by_cases h0:0<=m
   .have h1:¬m<(s.2.2.2.1.length:Int):=fun g=>h ⟨h0,g⟩
    simp[ao,aq,an,aF,aQ,aE,bd,aK,bI,hr,hR,bc,h0,h1]
   .simp[ao,aq,an,aF,aQ,aE,bd,aK,bI,hr,hR,bc,h0]
 .unfold pN M.aC M.aT M.be M.az M.aM M.bk;have v:=v 5 (by decide) (by decide);by_cases h:m=0
  .subst h;simp[ao,aq,an,aF,aQ,aE,bd,aK,bI,hr,hR,bc,v]
  .simp[ao,aq,an,aF,aQ,aE,bd,aK,bI,hr,hR,bc,h]
 .unfold pN M.aC M.aT M.be M.az M.aM M.bk;have v:=v 2 (by decide) (by decide);by_cases h:m=0
  .subst h;cases hs:s.2.2.2.2.2<;>simp[ao,aq,an,aF,aQ,aE,bd,aK,bI,hr,hR,bc,v,hs]
  .simp[ao,aq,an,aF,aQ,aE,bd,aK,bI,hr,hR,bc,h]
 .unfold pN M.aC M.aT M.be M.az M.aM M.bk;cases hs:s.2.2.2.2.2
  .simp[ao,aq,an,aF,aQ,aE,bd,aK,bI,hr,hR,bc,hs]
  by_cases h:0<=m/\m<(s.2.2.2.2.1.length:Int)
  .obtain⟨k,rfl⟩:=YN h.1
   have hk:k<s.2.2.2.2.1.length:=by omega
   by_cases hv:jD s.2.2.2.2.1[k] s.1.length
   .simp[ao,aq,an,aF,aQ,aE,bd,aK,bI,hr,hR,bc,hk,aB hk,hv,hs];generalize s.2.2.2.2.1[k]=t at*;obtain⟨(t1:Int),(t2:Int)⟩:=t
    by_cases q2:t1=2<;>by_cases q3:t1=3<;>simp[q2,q3]
   .simp[ao,aq,an,aF,aQ,aE,bd,aK,bI,hr,hR,bc,hk,aB hk,hv,hs]
  .by_cases h0:0<=m
   .have h1:¬m<(s.2.2.2.2.1.length:Int):=fun g=>h ⟨h0,g⟩
    simp[ao,aq,an,aF,aQ,aE,bd,aK,bI,hr,hR,bc,h0,h1,hs]
   .simp[ao,aq,an,aF,aQ,aE,bd,aK,bI,hr,hR,bc,h0,hs]
 .unfold pN M.aC M.aT M.be M.az M.aM M.bk;cases hs:s.2.2.2.2.2
  .simp[ao,aq,an,aF,aQ,aE,bd,aK,bI,hr,hR,bc,hs]
  by_cases h:0<=m/\m<(s.2.2.2.2.1.length:Int)
  .obtain⟨k,rfl⟩:=YN h.1
   have hk:k<s.2.2.2.2.1.length:=by omega
   by_cases hv:jD s.2.2.2.2.1[k] s.1.length
   .simp[ao,aq,an,aF,aQ,aE,bd,aK,bI,hr,hR,bc,hk,aB hk,hv,hs];generalize s.2.2.2.2.1[k]=t at*;obtain⟨(t1:Int),(t2:Int)⟩:=t
    by_cases q:t1=1<;>simp[q]
   .simp[ao,aq,an,aF,aQ,aE,bd,aK,bI,hr,hR,bc,hk,aB hk,hv,hs]
  .by_cases h0:0<=m
   .have h1:¬m<(s.2.2.2.2.1.length:Int):=fun g=>h ⟨h0,g⟩
    simp[ao,aq,an,aF,aQ,aE,bd,aK,bI,hr,hR,bc,h0,h1,hs]
   .simp[ao,aq,an,aF,aQ,aE,bd,aK,bI,hr,hR,bc,h0,hs]
 .unfold pN M.aC M.aT M.be M.az M.aM M.bk;cases hs:s.2.2.2.2.2
  .simp[ao,aq,an,aF,aQ,aE,bd,aK,bI,hr,hR,bc,hs]
  by_cases h:0<=m/\m<(s.2.2.2.2.1.length:Int)
  .obtain⟨k,rfl⟩:=YN h.1
   have hk:k<s.2.2.2.2.1.length:=by omega
   by_cases hv:jD s.2.2.2.2.1[k] s.1.length
   .simp[ao,aq,an,aF,aQ,aE,bd,aK,bI,hr,hR,bc,hk,aB hk,hv,hs];generalize s.2.2.2.2.1[k]=t at*;obtain⟨(t1:Int),(t2:Int)⟩:=t
    by_cases q:t1=1<;>simp[q]
   .simp[ao,aq,an,aF,aQ,aE,bd,aK,bI,hr,hR,bc,hk,aB hk,hv,hs]
  .by_cases h0:0<=m
   .have h1:¬m<(s.2.2.2.2.1.length:Int):=fun g=>h ⟨h0,g⟩
    simp[ao,aq,an,aF,aQ,aE,bd,aK,bI,hr,hR,bc,h0,h1,hs]
   .simp[ao,aq,an,aF,aQ,aE,bd,aK,bI,hr,hR,bc,h0,hs]
 .unfold pN M.aC M.aT M.be M.az M.aM M.bk;cases hs:s.2.2.2.2.2
  .simp[ao,aq,an,aF,aQ,aE,bd,aK,bI,hr,hR,bc,hs]
  by_cases h:0<=m/\m<(s.2.2.2.2.1.length:Int)
  .obtain⟨k,rfl⟩:=YN h.1
   have hk:k<s.2.2.2.2.1.length:=by omega
   by_cases hv:jD s.2.2.2.2.1[k] s.1.length
   .simp[ao,aq,an,aF,aQ,aE,bd,aK,bI,hr,hR,bc,hk,aB hk,hv,hs];generalize s.2.2.2.2.1[k]=t at*;obtain⟨(t1:Int),(t2:Int)⟩:=t
    by_cases q2:t1=2<;>by_cases q3:t1=3<;>by_cases q4:t1=4<;>by_cases q5:t1=5<;>simp[q2,q3,q4,q5]
   .simp[ao,aq,an,aF,aQ,aE,bd,aK,bI,hr,hR,bc,hk,aB hk,hv,hs]
  .by_cases h0:0<=m
   .have h1:¬m<(s.2.2.2.2.1.length:Int):=fun g=>h ⟨h0,g⟩
    simp[ao,aq,an,aF,aQ,aE,bd,aK,bI,hr,hR,bc,h0,h1,hs]
   .simp[ao,aq,an,aF,aQ,aE,bd,aK,bI,hr,hR,bc,h0,hs]
theorem M9(n:Ty)(l:List Ty)(s:o3)(hw:WF aa n)(hl:(l.length:Int)=ar n.1)(hN:∀t∈l,mv t):pN n l s=some (E6 n l s):=by
 rw[<-E7 hw hl];obtain⟨(op:Int),(m:Int)⟩:=n;have hm:m<=9223372036854775807:=hw.2.2;have h3:=Ax op;dsimp only at hl
 match l,hl with
 |[],hl=>exact zero_eq op m s hm hl.symm
 |[a],hl=>exact J9 op m a s hm hl.symm (hN a (by simp))
 |[a,b],hl=>exact J8 op m a b s hl.symm (hN a (by simp)) (hN b (by simp))
 |[a,b,c],hl=>exact Fj op m a b c s hl.symm
 |a::b::c::d::l,hl=>simp at hl;omega
theorem jD.Ti{t:Ty}{n:Nat}(h:jD t n):mv t:=fun h'=>by
 obtain⟨(k:Int),(e:Int)⟩:=t
 rcases h with h|h
 .exact h.2.2
 .dsimp only[ae,Row.den]at*;omega
def Pc{α:Type}(m:Option α)(Q:α->Prop):Prop:=∀r,m=some r->Q r
theorem e8{α:Type}{x:α}{Q:α->Prop}:Pc (some x) Q↔Q x:=⟨fun h=>h x rfl,fun h r e=>by cases e;exact h⟩
theorem dx{α β:Type}{m:Option α}{k:α->Option β}{Q:β->Prop}:Pc (m.bind k) Q↔Pc m fun x=>Pc (k x) Q:=by
 constructor
 .intro h x hx r hr;exact h r (by rw[hx];exact hr)
 .intro h r hr;obtain⟨x,hx,hr⟩:=Option.bind_eq_some_iff.1 hr;exact h x hx r hr
theorem hZ{α:Type}{c:Prop}[Decidable c]{a b:Option α}{Q:α->Prop}:Pc (if c then a else b) Q↔(c->Pc a Q)/\(¬c->Pc b Q):=by
 split<;>simp_all
theorem Pc.of{α:Type}{m:Option α}{Q:α->Prop}(h:∀x,Q x):Pc m Q:=fun x _=>h x
theorem mv.kind(k:Int):mv ((k,(0:Int)):Ty):=fun _=>rfl
theorem Fk(n:Ty)(s:o3):Pc (M.bk bm n s) fun r=>r.2=true->mv r.1:=by
 have ho:∀k,M.ew bm k=some (decide (k=2\/k=3\/k=4\/k=5)):=an;unfold M.bk;rw[dx]
 refine Pc.of fun j=>?_
 simp only[bc,ho,YB];by_cases hv:jD j s.1.length
 .simp only[dx,hZ,e8];simp[hv.Ti]
 .simp[hv,dx,hZ,e8]
theorem zk(n a:Ty)(s:o3)(ha:mv a):Pc (M.cd bm n a s) fun r=>r.2=true->mv r.1:=by
 unfold M.cd;simp only[aF,aq,bc,YB,dx,hZ,e8];refine⟨fun _ _=>ha,fun _=>⟨fun _ _=>ha,fun _=>?_⟩⟩
 have M1:Pc (idx s.2.1 n.2) fun x=>(decide (jD x.2.1 s.1.length)=true->(decide (jD x.2.2.1 s.1.length)=true->ki aa a x.2.1=true->mv x.2.2.1)/\(¬decide (jD x.2.2.1 s.1.length)=true->false=true->mv x.2.2.1))/\(¬decide (jD x.2.1 s.1.length)=true->false=true->mv x.2.2.1):=Pc.of fun x=>⟨fun _=>⟨fun h _=>(of_decide_eq_true h:jD x.2.2.1 s.1.length).Ti,fun _ h=>(by cases h)⟩,fun _ h=>(by cases h)⟩
 have M2:Pc (idx s.2.1 (YC.wrap (ZK n.2 8))) fun x=>(decide ((a.1:Int)=3)=true->(ki aa x.2.1 ((3:Int),(0:Int))=true->ki aa x.2.2.1 ((4:Int),(0:Int))=true->mv a)/\(¬ki aa x.2.1 ((3:Int),(0:Int))=true->false=true->mv a))/\(¬decide ((a.1:Int)=3)=true->false=true->mv a):=Pc.of fun x=>⟨fun _=>⟨fun _ _=>ha,fun _ _=>ha⟩,fun _ _=>ha⟩
 exact⟨fun _=>⟨fun _ _=>mv.kind 2,fun _=>⟨fun _=>M1,fun _=>M2⟩⟩,fun _=>⟨fun _ _=>mv.kind 2,fun _=>⟨fun _=>M1,fun _=>M2⟩⟩⟩
theorem zn(op:Int)(a b:Ty)(ha:mv a):Pc (M.dY bm op a b) fun r=>r.2=true->mv r.1:=by
 have hk:∀k:Int,mv ((k,(0:Int)):Ty):=mv.kind;unfold M.dY M.fZ;simp only[aF,aq,an,YB,dx,hZ,e8];simp[ha,hk]
theorem Hy(n:Ty)(l:List Ty)(s:o3)(hw:WF aa n)(hl:(l.length:Int)=ar n.1)(hN:∀t∈l,mv t)(h0:(E6 n l s).2=0):mv (E6 n l s).1:=by
 have pV:∀i,Pc (idx l i) mv:=fun i x hx=>by
  unfold idx at hx;split at hx
  .exact hN _ (List.mem_of_getElem? hx)
  .cases hx
 have key:Pc (M.az bm n l s) fun r=>r.2=0->mv r.1:=by
  unfold M.az;rw[dx]
  refine Pc.of fun j1=>?_
  rw[hZ];refine⟨fun _=>e8.2 fun h=>(by cases h),fun _=>?_⟩;rw[dx]
  refine Pc.of fun y3=>?_
  rw[hZ];refine⟨fun _=>e8.2 fun h=>(by cases h),fun _=>?_⟩;rw[dx]
  refine Pc.of fun y4=>?_
  rw[hZ];refine⟨fun _=>e8.2 fun h=>(by cases h),fun _=>?_⟩;rw[dx]
  have fin:∀{m:Option (Bool×Ty)},Pc m (fun j=>j.1=true->mv j.2)->Pc m fun j5=>Pc (if(!j5.1)=true then some (((0:Int),(0:Int)),(8:Int))else some (j5.2,(0:Int))) fun r:Ty×Int=>r.2=0->mv r.1:=fun{m}h j hj=>by
   have:=h j hj;refine hZ.2 ⟨fun _=>e8.2 fun h=>(by cases h),fun h=>e8.2 fun _=>this (by simpa using h)⟩
  refine fin ?_;rw[hZ];refine⟨fun _=>?_,fun _=>?_⟩
  .rw[dx]
   exact fun x hx=>e8.2 fun h=>Fk n s x hx h
  rw[hZ];refine⟨fun _=>?_,fun _=>?_⟩
  .rw[dx]
   refine fun a ha=>dx.2 ?_
   exact fun x hx=>e8.2 fun h=>zk n a s (pV _ a ha) x hx h
  rw[hZ];refine⟨fun _=>?_,fun _=>?_⟩
  .rw[dx]
   refine fun a ha=>dx.2 fun b _=>dx.2 ?_
   exact fun x hx=>e8.2 fun h=>zn n.1 a b (pV _ a ha) x hx h
  .rw[dx]
   refine fun a ha=>?_
   have ha:=pV _ a ha;simp only[dx,hZ,e8]
   refine Pc.of fun x=>⟨fun _=>Pc.of fun y=>Pc.of fun z=>fun _=>ha,fun _ _=>ha⟩
 exact key _ (E7 hw hl) h0
theorem Hz(st:List Nat)(m:Nat)(v:Nat):bg (kI st++Y4 (m+1) (0:Int)) (st.length:Int) (v:Int)=kI (st++[v])++Y4 m (0:Int):=by
 unfold bg;rw[YK,List.set_append_right _ _ (by simp),List.replicate_succ];simp
theorem Cw(st:List Nat)(m:Nat)(u v:Nat):bg (kI (st++[u])++Y4 m (0:Int)) (st.length:Int) (v:Int)=kI (st++[v])++Y4 m (0:Int):=by
 unfold bg;rw[YK,List.set_append_left _ _ (by simp)]
 congr 1
 simp only[kI,ZH];rw[List.set_append_right _ _ (by simp)];simp
theorem zo(e:List Ty):M.fU bm e=some (zc e):=by
 apply Wp.eq;unfold M.fU zc
 refine Wp.dec (fun h=> .some ?_) fun h1=>?_
 .rw[if_pos (by omega)]
 rw[if_neg (show¬48<e.length by omega)]
 refine Wp.dec (fun h=> .some ?_) fun h2=>?_
 .rw[if_pos (show e.length=0 by omega)]
 rw[if_neg (show¬e.length=0 by omega)]
 have LV:sf (e.length:Int) (0:Int)=some (Y4 e.length 0):=by
  unfold sf;rw[if_pos (by omega),YK]
 rw[LV];simp only[YB];refine Wp.join (Wp.loop (fun s:Int×List Int×List Int=>∃st sk:List Nat,s=((st.length:Int),kI st++Y4 (e.length-st.length) 0,kI sk)/\st.length<=e.length/\sk.length<=12/\nV (e.drop st.length) st.length st sk=nV e 0 [] []) (fun s=>(e.length-s.1).toNat) ⟨[],[],by simp,by simp,by simp,by simp⟩ (by simp only;unfold bm;omega) ?_)
 rintro _ ⟨st,sk,rfl,dC,Ye,aZ⟩
 simp only
 refine Wp.dec (fun hk=>?_) fun hk=> .some ?_
 case refine_2=>
  have hd:e.drop st.length=[]:=ZC (by omega);rw[hd]at aZ;rw[<-aZ]
  have h0:e.length-st.length=0:=by omega
  rw[h0];simp only[nV,List.replicate_zero,List.append_nil]
  show Wp _ _
  refine Wp.dec (fun h=> .some ?_) fun h=> .some ?_
  .rw[if_pos (by simp at h;omega)]
  .rw[if_neg (by simp at h;omega)]
 have ig:st.length<e.length:=by omega
 have hd:e.drop st.length=e[st.length]::e.drop (st.length+1):=Zd ig
 obtain⟨m,hm⟩:∃m,e.length-st.length=m+1:=⟨e.length-st.length-1,by omega⟩
 rw[hd]at aZ;rw[aB ig,hm];simp only[YB,Fh];generalize rU:(e[st.length].1:Int)=op;rw[nV]at aZ;rw[rU]at aZ;have Xb:=Ax op
 refine Wp.dec (fun h=> .some ?_) fun Cx=>?_
 .rw[if_pos h]at aZ
  show _=_
  rw[<-aZ]
 rw[if_neg Cx]at aZ
 refine Wp.dec (fun h=> .some ?_) fun hlen=>?_
 .rw[if_pos (by simpa using h)]at aZ
  show _=_
  rw[<-aZ]
 have hlen:¬(sk.length:Int)<ar op:=by simpa using hlen
 rw[if_neg hlen]at aZ
 obtain⟨a,ha⟩:∃a:Nat,ar op=a:=⟨(ar op).toNat,by omega⟩
 rw[ha]at aZ Cx hlen Xb⊢
 have Xc:a<=sk.length:=by omega
 have e6:idx (kI st++Y4 (m+1) (0:Int)) (st.length:Int)=some 0:=by
  rw[aB (by simp)];rw[List.getElem_append_right (by simp)];simp
 rw[e6]
 have hw:YC.wrap (((kI sk).length:Int)-(a:Int))=((sk.length-a:Nat):Int):=by
  rw[ZI,eZ (by omega) (by omega)];omega
 have hs:KP (a:Int) st.length sk=(if a=0 then st.length else sk.getD (sk.length-a) 0):=by
  unfold KP;by_cases h0:a=0
  .subst h0;simp
  .rw[if_neg (by omega),if_neg h0,YK]
 simp only[YB,Hz,hw];refine Wp.seq (· =kI (st++[KP (a:Int) st.length sk])++Y4 m (0:Int)) ?_ ?_
 .refine Wp.dec (fun h=>?_) fun h=>?_
  .have av:sk.length-a<(kI sk).length:=by simp;omega
   rw[aB av]
   have e9:idx (kI (st++[st.length])++Y4 m (0:Int)) (st.length:Int)=some (st.length:Int):=by
    rw[aB (by simp)];rw[List.getElem_append_left (by simp)];simp
   simp only[YB,e9,List.getElem_map,Cw];refine .some ?_;rw[hs,if_neg (by omega),show sk.getD (sk.length-a) 0=sk[sk.length-a]'(by simpa using av) by simp[List.getD,show sk.length-a<sk.length by omega]]
  .refine .some ?_;rw[hs,if_pos (by omega)]
 .rintro _ rfl
  generalize KP (a:Int) st.length sk=s at aZ⊢
  have xL:dT (kI sk) (0:Int) ((sk.length-a:Nat):Int)=some (kI (sk.take (sk.length-a))):=by
   rw[tn (by simp)];simp
  have Xd:idx (kI (st++[s])++Y4 m (0:Int)) (st.length:Int)=some (s:Int):=by
   rw[aB (by simp)];rw[List.getElem_append_left (by simp)];simp
  have RY:bZ (kI (sk.take (sk.length-a))) [(s:Int)]=some (kI (sk.take (sk.length-a)++[s])):=by
   rw[e7 (by simp;omega)];simp
  rw[xL];simp only[YB,Xd,RY]
  have hl:(kI (sk.take (sk.length-a)++[s])).length=sk.length-a+1:=by simp
  rw[hl];rw[YK]at aZ
  refine Wp.dec (fun h=> .some ?_) fun h=> .some ?_
  .rw[if_pos (by omega)]at aZ
   show _=_
   rw[<-aZ]
  .rw[if_neg (by omega)]at aZ;rw[aD (by omega)];refine⟨⟨st++[s],sk.take (sk.length-a)++[s],?_,by simp;omega,by simp;omega,?_⟩,by simp only;omega⟩
   .have:e.length-(st++[s]).length=m:=by simp;omega
    rw[this];simp
   .rw[YV];exact aZ
theorem M7.all(s:o3):M7 s:=fun e hw=>by
 apply Wp.eq;unfold M.jm;simp only[zo,Fh,Fi,W_,implies_true,forall_const,reduceCtorEq];refine⟨fun h=>by unfold Hq;rw[if_pos h],fun h0=>?_⟩;obtain⟨Yf,b8,cg,Yg,Tj⟩:=Hr h0
 have hT:Hq e s=match mH s e 0 []with
  | .inl (i,c)=>(((0:Int),(0:Int)),(i:Int),c)
  | .inr jY=>(jY.headD ((0:Int),(0:Int)),0,0):=by unfold Hq;rw[if_neg (by omega)]<;>cases mH s e 0 []<;>rfl
 refine Wp.count (fun s=>s.1) e.length (fun k q=>∃st sk,q.2.length=sk.length/\nV e 0 [] []=nV (e.drop k) k st sk/\mH s e 0 []=mH s (e.drop k) k q.2/\q.2.length<=k/\(0<k->q.2≠[])/\∀t∈q.2,mv t) (by omega) rfl ⟨[],[],rfl,rfl,rfl,YD _,fun h=>by omega,fun _ h=>by cases h⟩ fun k q hk hs hJ=>?_
 obtain⟨i,jY⟩:=q;obtain⟨st,sk,hl,hr,ht,OR,nz,Ka⟩:=hJ;dsimp only at hs hl ht OR nz Ka;subst hs;simp only[W_,implies_true,forall_const,reduceCtorEq,eP,dZ];refine⟨fun av=>?_,fun hge=>?_⟩
 .have av:k<e.length:=by omega
  rw[Zd av,nV]at hr;rw[Zd av,mH]at ht;rw[Tj]at hr;have Yh:=Ax e[k].1;split at hr
  .cases hr
  split at hr
  .cases hr
  split at hr
  .cases hr
  rename_i Yi Yj Yk
  have w1:YC.wrap ((jY.length:Int)-ar e[k].1)=((jY.length-(ar e[k].1).toNat:Nat):Int):=by rw[eZ (by omega) (by omega)];omega
  have hd:((jY.drop (jY.length-(ar e[k].1).toNat)).length:Int)=ar e[k].1:=by rw[List.length_drop];omega
  have Tk:=hw _ (YP av)
  have Tl:∀t∈jY.drop (jY.length-(ar e[k].1).toNat),mv t:=fun t h=>Ka t (List.mem_of_mem_drop h)
  have hp:=M9 e[k] _ s Tk hd Tl;have tQ:=Hy e[k] _ s Tk hd Tl
  have bad:∀c:Int,c≠0->(E6 e[k] (jY.drop (jY.length-(ar e[k].1).toNat)) s).2=c->(((0:Int),(0:Int)),(k:Int),c)=Hq e s:=fun c h0 hc=>by
   rw[hT,ht,if_pos (by rw[hc];exact h0),hc]
  have rest:¬((e[k].2:Int)≠0/\¬((1<=(e[k].1:Int)/\(e[k].1:Int)<=8)\/(14<=(e[k].1:Int)/\(e[k].1:Int)<=16)\/(e[k].1:Int)=33\/(e[k].1:Int)=34\/(36<=(e[k].1:Int)/\(e[k].1:Int)<=39)))->M.aC bm e[k] (jY.drop (jY.length-(ar e[k].1).toNat)) s=some (E6 e[k] (jY.drop (jY.length-(ar e[k].1).toNat)) s):=fun h=>by
   rw[<-hp];exact(if_neg h).symm
  have cond:((e[k].2:Int)≠0/\¬((1<=(e[k].1:Int)/\(e[k].1:Int)<=8)\/(14<=(e[k].1:Int)/\(e[k].1:Int)<=16)\/(e[k].1:Int)=33\/(e[k].1:Int)=34\/(36<=(e[k].1:Int)/\(e[k].1:Int)<=39)))->(E6 e[k] (jY.drop (jY.length-(ar e[k].1).toNat)) s).2=2:=fun h=>by
   have:some (E6 e[k] (jY.drop (jY.length-(ar e[k].1).toNat)) s)=some (((0:Int),(0:Int)),(2:Int)):=by
    rw[<-hp];exact if_pos h
   rw[YA this]
  have good:¬((e[k].2:Int)≠0/\¬((1<=(e[k].1:Int)/\(e[k].1:Int)<=8)\/(14<=(e[k].1:Int)/\(e[k].1:Int)<=16)\/(e[k].1:Int)=33\/(e[k].1:Int)=34\/(36<=(e[k].1:Int)/\(e[k].1:Int)<=39)))->Wp (M.aC bm e[k] (jY.drop (jY.length-(ar e[k].1).toNat)) s) fun y9=>(¬(y9.2:Int)=0->(((0:Int),(0:Int)),(k:Int),y9.2)=Hq e s)/\((y9.2:Int)=0->Wp (bZ (jY.take (jY.length-(ar e[k].1).toNat)) [y9.1]) fun x=>k<e.length/\YC.wrap ((k:Int)+1)=((k+1:Nat):Int)/\∃st sk,x.length=sk.length/\nV e 0 [] []=nV (e.drop (k+1)) (k+1) st sk/\mH s e 0 []=mH s (e.drop (k+1)) (k+1) x/\x.length<=k+1/\(0<k+1->x≠[])/\∀t∈x,mv t):=fun h=>by
   rw[rest h];refine .some ⟨fun hc=>bad _ hc rfl,fun hc=>?_⟩;rw[if_neg (fun g=>g hc)]at ht;refine oZ.2 ⟨by rw[Zw];simp;omega,av,kT (m:=e.length) (by omega) av,_,_,?_,Tj.trans hr,ht,?_,fun _=>by simp,fun t h=>?_⟩
   .simp only[YV,Zw,YT,List.length_nil,hl]
   .simp only[YV,Zw,YT,List.length_nil];omega
   .rcases YL.1 h with h|h
    .exact Ka t (List.mem_of_mem_take h)
    .rw[YJ.1 h];exact tQ hc
  simp only[aB av,w1,tn (show jY.length-(ar e[k].1).toNat<=jY.length by omega),qe (l:=jY) (jY.length-(ar e[k].1).toNat) jY.length rfl rfl (by omega) (YD _),YS,W_,implies_true,forall_const,reduceCtorEq];exact⟨fun h1=>⟨fun h2=>bad 2 (by decide) (cond ⟨h1,h2⟩),fun h2=>good fun g=>g.2 h2⟩,fun h1=>good fun g=>g.1 h1⟩
 .obtain rfl:k=e.length:=by omega
  rw[List.drop_length,mH]at ht;rw[hT,ht];have:jY≠[]:=nz (List.length_pos_iff.2 b8);obtain⟨a,l,rfl⟩:=List.exists_cons_of_ne_nil this;exact eC.2 ⟨by simp,rfl⟩
end L
end Go.Proofs.YtbladfbbhijpmaaGreat
end
section
open _root_.Classical renaming not_not->Z6
open _root_.Go.Lib renaming compact->ZB
open _root_.Int renaming eq_ofNat_of_zero_le->YN,toNat_natCast->YK
open _root_.Go.IntKind renaming i64->YC
open _root_.List renaming foldl_cons->ZG,getElem?_eq_getElem->YF,getElem?_eq_some_iff->YY,getElem_mem->YP,getElem_of_mem->ZO,length_append->YV,length_cons->YT,mem_append->YL,mem_cons->YM,mem_singleton->YJ,pairwise_cons->Y7,take_length->YS
open _root_.Nat renaming le_refl->YD,lt_succ_iff_lt_or_eq->YQ
open _root_.Option renaming bind_some->YB
namespace Go.Proofs.YtbladfbbhijpmaaGreat
open Go Go.RowKit
set_option maxRecDepth 100000
set_option linter.unusedSimpArgs false
namespace L
inductive Gp(D:Int->Int->Prop):Int->Int->Prop
 |one {a b:Int} (h:D a b):Gp D a b
 |step {a b c:Int} (h:Gp D a b) (g:D b c):Gp D a c
def Dp(s:kf)(a b:Int):Prop:=b∈gT s a
theorem rn{y:Int}:∀{l out:List Int},y∈l.foldl (fun o z=>ins z o) out↔y∈l\/y∈out
 |[],_=>by simp
 |x::l,out=>by
  rw[ZG,rn (l:=l),jq,YM];exact⟨fun h=>by rcases h with h|h|h<;>simp[h],fun h=>by rcases h with(h|h)|h<;>simp[h]⟩
theorem jZ(s:kf){out:List Int}{y:Int}:y∈stepT s out↔y∈out\/∃x∈out,Dp s x y:=by
 unfold stepT
 suffices∀(l o:List Int),y∈l.foldl (fun o x=>(gT s x).foldl (fun o y=>ins y o) o) o↔y∈o\/∃x∈l,Dp s x y from this _ _
 intro l
 induction l with
 |nil=>intro o;simp
 |cons x l ih=>
  intro o;rw[ZG,ih,rn];unfold Dp;constructor
  .rintro((h|h)|⟨z,hz,h⟩)
   .exact .inr ⟨x,by simp,h⟩
   .exact .inl h
   .exact .inr ⟨z,by simp[hz],h⟩
  .rintro(h|⟨z,hz,h⟩)
   .exact .inl (.inr h)
   .rcases YM.1 hz with rfl|hz
    .exact .inl (.inl h)
    .exact .inr ⟨z,hz,h⟩
theorem lI(s:kf)(d:Int):∀n y,y∈fM s n (gT s d)->Gp (Dp s) d y
 |0,y,h=> .one h
 |n+1,y,h=>by
  rcases(jZ s).1 h with h|⟨x,hx,h⟩
  .exact lI s d n y h
  .exact .step (lI s d n x hx) h
theorem Cy{l m:List Int}(hl:l.Pairwise (· < ·))(hm:m.Pairwise (· < ·))(h:∀y,y∈l↔y∈m):l=m:=by
 induction l generalizing m with
 |nil=>
  cases m with
  |nil=>rfl
  |cons y m=>exact absurd ((h y).2 (by simp)) (by simp)
 |cons x l ih=>
  cases m with
  |nil=>exact absurd ((h x).1 (by simp)) (by simp)
  |cons y m=>
   obtain⟨h1,h2⟩:=Y7.1 hl;obtain⟨g1,g2⟩:=Y7.1 hm
   have e:x=y:=by
    rcases YM.1 ((h x).1 (by simp))with e|e
    .exact e
    .rcases YM.1 ((h y).2 (by simp))with e'|e'
     .exact e'.symm
     .have:=g1 x e;have:=h1 y e';omega
   subst e
   congr 1
   refine ih h2 g2 fun z=>?_
   have:=h z;rw[YM,YM]at this;constructor
   .intro hz
    rcases this.1 (.inr hz)with rfl|hz'
    .have:=h1 z hz;omega
    .exact hz'
   .intro hz
    rcases this.2 (.inr hz)with rfl|hz'
    .have:=g1 z hz;omega
    .exact hz'
theorem Cz{l:List Int}:∀{m:List Int},l.Nodup->(∀y,y∈l->y∈m)->l.length<=m.length:=by
 induction l with
 |nil=>intro m _ _;simp
 |cons x l ih=>
  intro m hn h;obtain⟨h1,h2⟩:=List.nodup_cons.1 hn;have hx:=h x (by simp)
  have:=ih (m:=m.erase x) h2 fun y hy=>(List.mem_erase_of_ne (fun e:y=x=>h1 (by rw[<-e];exact hy))).2 (h y (by simp[hy]))
  rw[List.length_erase_of_mem hx]at this;have:=List.length_pos_of_mem hx;simp only[YT];omega
theorem AA{l m:List Int}(hl:l.Pairwise (· < ·))(_:m.Pairwise (· < ·))(h:∀y,y∈l->y∈m)(hx:∃y,y∈m/\y∉l):l.length<m.length:=by
 have nd:l.Nodup:=hl.imp fun h=>by omega
 obtain⟨y,hy,hn⟩:=hx;have Xe:(y::l).Nodup:=List.nodup_cons.2 ⟨hn,nd⟩
 have:(y::l).length<=m.length:=Cz Xe fun z hz=>by
  rcases YM.1 hz with rfl|hz
  .exact hy
  .exact h z hz
 simp only[YT]at this;omega
theorem uS(s:kf)(d:Int):(∀n,n<=s.2.2.2.1.length->(stepT s (fM s n (gT s d))=fM s n (gT s d)\/n<=(fM s n (gT s d)).length)):=by
 have srt:∀m,pz s.2.2.2.1.length (fM s m (gT s d)):=fun m=>by
  induction m with
  |zero=>exact lF s d
  |succ m ih=>exact ml s ih
 intro n
 induction n with
 |zero=>intro _;exact .inr (Nat.zero_le _)
 |succ n ih=>
  intro hn
  rcases ih (by omega)with h|h
  .left
   show stepT s (stepT s (fM s n (gT s d)))=stepT s (fM s n (gT s d))
   rw[h,h]
  .by_cases hx:∃y,y∈stepT s (fM s n (gT s d))/\y∉fM s n (gT s d)
   .right
    have:=AA (srt n).1 (ml s (srt n)).1 (fun y hy=>(jZ s).2 (.inl hy)) hx
    show n+1<=(stepT s (fM s n (gT s d))).length
    omega
   .left
    have:stepT s (fM s n (gT s d))=fM s n (gT s d):=Cy (ml s (srt n)).1 (srt n).1 fun y=>⟨fun h=>Z6.1 fun hn=>hx ⟨y,h,hn⟩,fun h=>(jZ s).2 (.inl h)⟩
    show stepT s (stepT s (fM s n (gT s d)))=stepT s (fM s n (gT s d))
    rw[this,this]
theorem HA(s:kf)(d y:Int):y∈E9 s d↔Gp (Dp s) d y:=by
 refine⟨fun h=>lI s d _ y h,fun h=>?_⟩
 have closed:∀x z,x∈E9 s d->Dp s x z->z∈E9 s d:=by
  intro x z hx hz
  rcases uS s d s.2.2.2.1.length (YD _)with h|h
  .have:z∈stepT s (fM s s.2.2.2.1.length (gT s d)):=(jZ s).2 (.inr ⟨x,hx,hz⟩);rw[h]at this;exact this
  .have hs:=Hv s d;have KX:=(lF s x).2 z hz
   refine Z6.1 fun hn=>?_
   have:=AA (l:=E9 s d) (m:=ins z (E9 s d)) hs.1 (zh hs.1) (fun y hy=>jq.2 (.inr hy)) ⟨z,jq.2 (.inl rfl),hn⟩;have:=(hs.ins KX).len;have:s.2.2.2.1.length<=(E9 s d).length:=h;omega
 have start:∀z,Dp s d z->z∈E9 s d:=by
  intro z hz
  show z∈fM s s.2.2.2.1.length (gT s d)
  have:∀n,z∈fM s n (gT s d):=fun n=>by
   induction n with
   |zero=>exact hz
   |succ n ih=>exact(jZ s).2 (.inl ih)
  exact this _
 induction h with
 |one h=>exact start _ h
 |step _ g ih=>exact closed _ _ ih g
theorem w7(d:Array Int)(y:Int):∀m,y∈Go.Lib.compactUpTo d m↔∃j,j<m/\d[j]! =y
 |0=>by simp[Go.Lib.compactUpTo]
 |m+1=>by
  rw[Go.Lib.compactUpTo_succ,YL,w7 d y m];constructor
  .rintro(⟨j,hj,h⟩|h)
   .exact⟨j,by omega,h⟩
   .split at h
    .rw[YJ]at h;exact⟨m,by omega,h.symm⟩
    .cases h
  .rintro⟨j,hj,h⟩
   rcases YQ.1 hj with h1|rfl
   .exact .inl ⟨j,h1,h⟩
   .by_cases hk:Go.Lib.keeps d j=true
    .right;rw[if_pos hk,YJ];exact h.symm
    .left
     unfold Go.Lib.keeps at hk;rw[decide_eq_true_eq]at hk
     have h0:j≠0:=fun e=>hk (.inl e)
     have h1:d[j]! =d[j-1]! :=Z6.1 fun e=>hk (.inr e)
     exact⟨j-1,by omega,by rw[<-h1];exact h⟩
theorem w8(l:List Int)(y:Int):y∈ZB l↔y∈l:=by
 unfold ZB;rw[w7];constructor
 .rintro⟨j,hj,rfl⟩
  have:l.toArray[j]! =l[j]:=by simp[hj]
  rw[this];exact YP hj
 .intro h;obtain⟨j,hj,rfl⟩:=ZO h;exact⟨j,hj,by simp[hj]⟩
theorem tx(l:List Int)(hl:l.length<=1000000):Wp ((M.cz bm l).bind fun y1=>(M.bS bm y1).bind fun y2=>some y2) fun r=>r.length<=l.length/\∀y,y∈r↔y∈l:=by
 have e1:M.cz bm l=some (mD l):=by
  unfold M.cz wT;rw[if_pos (by omega)]
 have hs:(mD l).length=l.length:=List.length_mergeSort ..
 have e2:M.bS bm (mD l)=some (ZB (mD l)):=by
  unfold M.bS lp;rw[if_pos (by omega)]
 rw[e1,YB,e2];refine .some ⟨?_,fun y=>?_⟩
 .have:=rf (mD l);omega
 .rw[w8];exact List.mem_mergeSort
theorem lJ(l:List Int)(hl:l.length<=1000000):Wp (M.dK bm l) fun r=>r.length<=l.length/\∀y,y∈r↔y∈l:=tx l hl
theorem uT(l:List Int)(hl:l.length<=1000000):Wp (M.fW bm l) fun r=>r.length<=l.length/\∀y,y∈r↔y∈l:=tx l hl
def CA(e:List Ty)(y:Int):Prop:=∃n∈e,(n.1:Int)=8/\(n.2:Int)=y
theorem zp(p:Int->Bool)(e:List Ty)(y:Int):y∈kJ p e↔∃n∈e,p n.1=true/\(n.2:Int)=y:=by
 unfold kJ
 suffices∀(e:List Ty)(l:List Int),y∈e.foldl (fun l n=>if p n.1=true then ins n.2 l else l) l↔y∈l\/∃n∈e,p n.1=true/\(n.2:Int)=y by simpa using this e []
 intro e
 induction e with
 |nil=>intro l;simp
 |cons n e ih=>
  intro l;rw[ZG,ih];split
  .rename_i h;rw[jq];constructor
   .rintro((h1|h1)|⟨q,hq,h1⟩)
    .exact .inr ⟨n,by simp,h,h1.symm⟩
    .exact .inl h1
    .exact .inr ⟨q,by simp[hq],h1⟩
   .rintro(h1|⟨q,hq,h1,h2⟩)
    .exact .inl (.inr h1)
    .rcases YM.1 hq with rfl|hq
     .exact .inl (.inl h2.symm)
     .exact .inr ⟨q,hq,h1,h2⟩
  .rename_i h;constructor
   .rintro(h1|⟨q,hq,h1⟩)
    .exact .inl h1
    .exact .inr ⟨q,by simp[hq],h1⟩
   .rintro(h1|⟨q,hq,h1,h2⟩)
    .exact .inl h1
    .rcases YM.1 hq with rfl|hq
     .exact absurd h1 h
     .exact .inr ⟨q,hq,h1,h2⟩
theorem pA(e:List Ty)(y:Int):y∈kJ py e↔CA e y:=by
 rw[zp];unfold CA py;simp only[decide_eq_true_eq]
theorem mI(e:List Ty)(he:e.length<=100000):Wp (M.ei bm e) fun r=>r.2.1.length<=e.length/\∀y,y∈r.2.1↔CA e y:=by
 unfold M.ei;rw[wp_bind]
 refine Wp.count (fun s=>s.1) e.length (fun k s=>(s.2.1.length<=k/\s.2.2.1.length<=k/\s.2.2.2.length<=k)/\∀y,y∈s.2.2.1↔∃j,∃h:j<e.length,j<k/\(e[j].1:Int)=8/\(e[j].2:Int)=y) (by omega) rfl ⟨by simp,fun y=>by simp⟩ fun k s hk hs hJ=>?_
 obtain⟨i,a,b,c⟩:=s;obtain⟨⟨l1,l2,l3⟩,hm⟩:=hJ;dsimp only at hs l1 l2 l3 hm;subst hs;simp only[W_,implies_true,forall_const,reduceCtorEq,eP,dZ];refine⟨fun av=>?_,fun hge=>?_⟩
 .have av:k<e.length:=by omega
  have nxt:∀b':List Int,(∀y,y∈b'↔y∈b\/((e[k].1:Int)=8/\(e[k].2:Int)=y))->∀y,y∈b'↔∃j,∃h:j<e.length,j<k+1/\(e[j].1:Int)=8/\(e[j].2:Int)=y:=fun b' hb y=>by
   rw[hb,hm];constructor
   .rintro(⟨j,h,h1,h2⟩|h)
    .exact⟨j,h,by omega,h2⟩
    .exact⟨k,av,by omega,h⟩
   .rintro⟨j,h,h1,h2⟩
    rcases YQ.1 h1 with h3|rfl
    .exact .inl ⟨j,h,h3,h2⟩
    .exact .inr h2
  have same:(e[k].1:Int)≠8->∀y,y∈b↔∃j,∃h:j<e.length,j<k+1/\(e[j].1:Int)=8/\(e[j].2:Int)=y:=fun h=>nxt b fun y=>⟨.inl,fun g=>g.resolve_right fun g=>h g.1⟩
  simp only[aB av,kT (m:=e.length) (by omega) av,W_,implies_true,forall_const,reduceCtorEq]
  have px:∀(q:List Int)(v:Int)(Q:List Int->Prop),q.length<=k->Q (q++[v])->Wp (bZ q [v]) Q:=fun q v Q hq h=>oZ.2 ⟨by simp;omega,h⟩
  refine⟨fun h=>px _ _ _ l1 ⟨av,by simp;omega,same (by rw[h];decide)⟩,fun _=>⟨fun h=>px _ _ _ l2 ⟨av,by simp;omega,nxt _ fun y=>?_⟩,fun h8=>?_⟩⟩
  .rw[YL,YJ];exact⟨fun g=>g.imp id fun g=>⟨h,g.symm⟩,fun g=>g.imp id fun g=>g.2.symm⟩
  .have Kk:k<e.length/\(a.length<=k+1/\b.length<=k+1/\c.length<=k+1)/\∀y,y∈b↔∃j,∃h:j<e.length,j<k+1/\(e[j].1:Int)=8/\(e[j].2:Int)=y:=⟨av,by omega,same h8⟩
   have Cc:Wp (bZ c [(e[k].2:Int)]) fun x=>k<e.length/\(a.length<=k+1/\b.length<=k+1/\x.length<=k+1)/\∀y,y∈b↔∃j,∃h:j<e.length,j<k+1/\(e[j].1:Int)=8/\(e[j].2:Int)=y:=px _ _ _ l3 ⟨av,by simp;omega,same h8⟩
   exact⟨fun _=>⟨fun _=>Cc,fun _=>Kk⟩,fun _=>⟨fun _=>⟨fun _=>Cc,fun _=>Kk⟩,fun _=>⟨fun _=>⟨fun _=>Cc,fun _=>Kk⟩,fun _=>⟨fun _=>Cc,fun _=>Kk⟩⟩⟩⟩
 .refine(lJ a (by omega)).mono fun _ _=>?_
  refine(lJ b (by omega)).mono fun r hr=>?_
  refine(lJ c (by omega)).mono fun _ _=>?_
  refine⟨by omega,fun y=>?_⟩;rw[hr.2,hm];unfold CA;constructor
  .rintro⟨j,h,_,h2⟩
   exact⟨_,YP h,h2⟩
  .rintro⟨n,hn,h⟩
   obtain⟨j,hj,rfl⟩:=ZO hn;exact⟨j,hj,by omega,h⟩
def zq(r:gx)(n:Nat)(y:Int):Prop:=(CA r.2.2.2.2.2.1 y\/CA r.2.2.2.2.2.2.1 y)/\0<=y/\y<(n:Int)
theorem AB(l o:List Int)(n:Nat)(hl:l.length<=100000)(ho:o.length<=100000):Wp (Loop (S:=Int×List Int) (X:=List Int) (fun s4=>
 (if(decide (s4.1<(l.length:Int)))=true then
 ((idx l s4.1).bind fun x6=>
 ((if(decide ((0:Int)<=x6))=true then
 some (decide (x6<(n:Int)))
 else
 some false):Option (Bool)).bind fun j7=>
 (if j7=true then
 (bZ s4.2 ([x6]:List Int)).bind fun l8=>
 some l8
 else
 some s4.2):Option (List Int)).bind fun j5=>
 some (Sum.inl (YC.wrap (s4.1+(1:Int)),j5))
 else
 some (Sum.inr s4.2))) bm ((0:Int),o)) fun r=>r.length<=o.length+l.length/\∀y,y∈r↔y∈o\/(y∈l/\0<=y/\y<(n:Int)):=by
 refine Wp.count (fun s=>s.1) l.length (fun k s=>s.2.length<=o.length+k/\∀y,y∈s.2↔y∈o\/((∃j,∃h:j<l.length,j<k/\l[j]=y)/\0<=y/\y<(n:Int))) (by omega) rfl ⟨by simp,fun y=>by simp⟩ fun k s hk hs hJ=>?_
 obtain⟨i,q⟩:=s;obtain⟨h1,hm⟩:=hJ;dsimp only at hs h1 hm;subst hs;simp only[W_,implies_true,forall_const,reduceCtorEq,eP,dZ];refine⟨fun av=>?_,fun hge=>?_⟩
 .have av:k<l.length:=by omega
  simp only[aB av,kT (m:=l.length) (by omega) av,W_,implies_true,forall_const,reduceCtorEq]
  have keep:¬(0<=l[k]/\l[k]<(n:Int))->k<l.length/\q.length<=o.length+(k+1)/\∀y,y∈q↔y∈o\/((∃j,∃h:j<l.length,j<k+1/\l[j]=y)/\0<=y/\y<(n:Int)):=fun hn=>⟨av,by omega,fun y=>by
   rw[hm];refine or_congr Iff.rfl (and_congr_left fun hy=>⟨fun⟨j,h,h1,h2⟩=>⟨j,h,by omega,h2⟩,fun⟨j,h,h1,h2⟩=>?_⟩)
   rcases YQ.1 h1 with h3|rfl
   .exact⟨j,h,h3,h2⟩
   .exact absurd (h2▸hy) hn⟩
  refine⟨fun h0=>⟨fun qp=>oZ.2 ⟨by simp;omega,av,by simp;omega,fun y=>?_⟩,fun qp=>keep fun g=>qp g.2⟩,fun h0=>keep fun g=>h0 g.1⟩;rw[YL,YJ,hm];constructor
  .rintro((h|⟨⟨j,h,h2,h3⟩,h4⟩)|rfl)
   .exact .inl h
   .exact .inr ⟨⟨j,h,by omega,h3⟩,h4⟩
   .exact .inr ⟨⟨k,av,by omega,rfl⟩,h0,qp⟩
  .rintro(h|⟨⟨j,h,h2,h3⟩,h4⟩)
   .exact .inl (.inl h)
   .rcases YQ.1 h2 with h5|rfl
    .exact .inl (.inr ⟨⟨j,h,h5,h3⟩,h4⟩)
    .exact .inr h3.symm
 .refine⟨by omega,fun y=>?_⟩;rw[hm];refine or_congr Iff.rfl (and_congr_left fun hy=>⟨fun⟨j,h,_,h2⟩=>h2▸YP h,fun h=>?_⟩);obtain⟨j,hj,e⟩:=ZO h;exact⟨j,hj,by omega,e⟩
theorem CB(r:gx)(n:Nat)(h1:r.2.2.2.2.2.1.length<=50)(h2:r.2.2.2.2.2.2.1.length<=50):Wp (M.dW bm r (n:Int)) fun l=>l.length<=100/\∀y,y∈l↔zq r n y:=by
 unfold M.dW;rw[wp_bind]
 refine(mI _ (by omega)).mono fun a ha=>?_
 rw[wp_bind]
 refine(mI _ (by omega)).mono fun b hb=>?_
 rw[wp_bind]
 refine(AB a.2.1 [] n (by omega) (by simp)).mono fun c hc=>?_
 have Gh:=hc.1;simp only[List.length_nil]at Gh
 refine(AB b.2.1 c n (by omega) (by omega)).mono fun q hq=>⟨by omega,fun y=>?_⟩
 rw[hq.2,hc.2,ha.2,hb.2];unfold zq;constructor
 .rintro((h|h)|h)
  .cases h
  .exact⟨.inl h.1,h.2⟩
  .exact⟨.inr h.1,h.2⟩
 .rintro⟨h|h,h3⟩
  .exact .inl (.inr ⟨h,h3⟩)
  .exact .inr ⟨h,h3⟩
theorem o4(n:Nat)(y:Int):∀(l out:List Int),y∈jr n out l↔y∈out\/(y∈l/\0<=y/\y<(n:Int))
 |[],out=>by show y∈out↔_;simp
 |x::l,out=>by
  show y∈jr n (if 0<=x/\x<(n:Int)then ins x out else out) l↔_
  rw[o4 n y l];split
  .rename_i h;rw[jq,YM];constructor
   .rintro((rfl|h1)|⟨h1,h2⟩)
    .exact .inr ⟨.inl rfl,h⟩
    .exact .inl h1
    .exact .inr ⟨.inr h1,h2⟩
   .rintro(h1|⟨h1|h1,h2⟩)
    .exact .inl (.inr h1)
    .exact .inl (.inl h1)
    .exact .inr ⟨h1,h2⟩
  .rename_i h;rw[YM];constructor
   .rintro(h1|⟨h1,h2⟩)
    .exact .inl h1
    .exact .inr ⟨.inr h1,h2⟩
   .rintro(h1|⟨h1|h1,h2⟩)
    .exact .inl h1
    .exact absurd (h1▸h2) h
    .exact .inr ⟨h1,h2⟩
theorem Fl(s:kf)(d y:Int):Dp s d y↔(0<=d/\d<(s.2.2.2.1.length:Int))/\∃r∈s.2.2.2.2,(r.2.1:Int)=d/\zq r s.2.2.2.1.length y:=by
 unfold Dp gT;split
 .rename_i hd
  suffices∀(rs:List gx)(out:List Int),y∈rs.foldl (fun out r=>if(r.2.1:Int)=d then jr s.2.2.2.1.length (jr s.2.2.2.1.length out (kJ py r.2.2.2.2.2.1)) (kJ py r.2.2.2.2.2.2.1)else out) out↔y∈out\/∃r∈rs,(r.2.1:Int)=d/\zq r s.2.2.2.1.length y by
   rw[this];simp[hd]
  intro rs
  induction rs with
  |nil=>intro out;simp
  |cons r rs ih=>
   intro out;rw[ZG,ih];split
   .rename_i h;rw[o4,o4,pA,pA];unfold zq;constructor
    .rintro(((h1|h1)|h1)|⟨q,hq,h1⟩)
     .exact .inl h1
     .exact .inr ⟨r,by simp,h, .inl h1.1,h1.2⟩
     .exact .inr ⟨r,by simp,h, .inr h1.1,h1.2⟩
     .exact .inr ⟨q,by simp[hq],h1⟩
    .rintro(h1|⟨q,hq,h1,h2,h3⟩)
     .exact .inl (.inl (.inl h1))
     .rcases YM.1 hq with rfl|hq
      .rcases h2 with h2|h2
       .exact .inl (.inl (.inr ⟨h2,h3⟩))
       .exact .inl (.inr ⟨h2,h3⟩)
      .exact .inr ⟨q,hq,h1,h2,h3⟩
   .rename_i h;constructor
    .rintro(h1|⟨q,hq,h1⟩)
     .exact .inl h1
     .exact .inr ⟨q,by simp[hq],h1⟩
    .rintro(h1|⟨q,hq,h1,h2⟩)
     .exact .inl h1
     .rcases YM.1 hq with rfl|hq
      .exact absurd h1 h
      .exact .inr ⟨q,hq,h1,h2⟩
 .rename_i hd;simp[hd]
def Na(s:kf)(L:List (List Int)):Prop:=L.length=s.2.2.2.1.length/\∀d,∀h:d<L.length,L[d].length<=6000/\∀y,y∈L[d]↔Dp s (d:Int) y
theorem uU(s:kf)(hs:zi s):Wp (M.fX bm s) (Na s):=by
 have Xf:=hs.2.2.1;have Yl:=hs.2.2.2.1;have Xg:=hs.2.2.2.2.2.2;unfold M.fX;rw[wp_bind];refine kH.2 ⟨by omega,?_⟩;rw[wp_bind,YK]
 refine Wp.count (fun s=>s.1) s.2.2.2.2.length (fun k q=>q.2.length=s.2.2.2.1.length/\∀d,∀h:d<q.2.length,q.2[d].length<=100*k/\∀y,y∈q.2[d]↔∃j,∃h:j<s.2.2.2.2.length,j<k/\(s.2.2.2.2[j].2.1:Int)=(d:Int)/\zq s.2.2.2.2[j] s.2.2.2.1.length y) (by omega) rfl ⟨by simp,fun d h=>by simp⟩ fun k q hk AD hJ=>?_
 obtain⟨i,q⟩:=q;obtain⟨hl,hm⟩:=hJ;dsimp only at AD hl hm;subst AD;simp only[W_,implies_true,forall_const,reduceCtorEq,eP,dZ];refine⟨fun av=>?_,fun hge=>?_⟩
 .have av:k<s.2.2.2.2.length:=by omega
  have Tm:=Xg _ (YP av);simp only[aB av,kT (m:=s.2.2.2.2.length) (by omega) av,hl,W_,implies_true,forall_const,reduceCtorEq]
  have F8:∀d,∀h:d<q.length,(¬(s.2.2.2.2[k].2.1:Int)=(d:Int))->q[d].length<=100*(k+1)/\∀y,y∈q[d]↔∃j,∃h:j<s.2.2.2.2.length,j<k+1/\(s.2.2.2.2[j].2.1:Int)=(d:Int)/\zq s.2.2.2.2[j] s.2.2.2.1.length y:=fun d h hn=>⟨by have:=(hm d h).1;omega,fun y=>by
   rw[(hm d h).2];constructor
   .rintro⟨j,h1,h2,h3⟩;exact⟨j,h1,by omega,h3⟩
   .rintro⟨j,h1,h2,h3,h4⟩
    rcases YQ.1 h2 with h5|rfl
    .exact⟨j,h1,h5,h3,h4⟩
    .exact absurd h3 hn⟩
  have Xh:=CB s.2.2.2.2[k] s.2.2.2.1.length Tm.2.2.1 Tm.2.2.2
  obtain⟨(v:Int),hv⟩:∃v:Int,v=s.2.2.2.2[k].2.1:=⟨_,rfl⟩
  simp only[<-hv]at F8⊢;refine⟨fun h0=>⟨fun h1=>?_,fun h1=>⟨av,fun d h=>F8 d (by omega) fun e=>h1 (e▸Int.ofNat_lt.2 h)⟩⟩,fun h0=>⟨av,fun d h=>F8 d (by omega) fun e=>h0 (e▸Int.natCast_nonneg d)⟩⟩;obtain⟨c,rfl⟩:=YN h0
  have hc:c<q.length:=by rw[hl];exact Int.ofNat_lt.1 h1
  simp only[aB hc,W_,implies_true,forall_const,reduceCtorEq]
  refine Xh.mono fun l9 h9=>oZ.2 ⟨by have:=(hm c hc).1;omega,?_⟩
  refine⟨av,by rw[gK];exact hl,fun d h=>?_⟩
  have hd:d<q.length:=by rw[gK]at h;exact h
  rw[ub h hd]
  by_cases e:(c:Int)=(d:Int)
  .rw[if_pos e]
   have e:c=d:=by omega
   subst e;refine⟨by rw[YV];have:=(hm c hd).1;have:=h9.1;omega,fun y=>?_⟩;rw[YL,(hm c hd).2,h9.2];constructor
   .rintro(⟨j,h1,h2,h3⟩|h3)
    .exact⟨j,h1,by omega,h3⟩
    .exact⟨k,av,by omega,hv.symm,h3⟩
   .rintro⟨j,h1,h2,h3,h4⟩
    rcases YQ.1 h2 with h5|rfl
    .exact .inl ⟨j,h1,h5,h3,h4⟩
    .exact .inr h4
  .rw[if_neg e];exact F8 d hd e
 obtain rfl:k=s.2.2.2.2.length:=by omega
 have Pz:∀d,∀h:d<q.length,q[d].length<=6000/\∀y,y∈q[d]↔Dp s (d:Int) y:=fun d h=>⟨by have:=(hm d h).1;omega,fun y=>by
  rw[(hm d h).2,Fl];constructor
  .rintro⟨j,h1,_,h2,h3⟩
   exact⟨by omega,_,YP h1,h2,h3⟩
  .rintro⟨_,r,hr,h2,h3⟩
   obtain⟨j,hj,rfl⟩:=ZO hr
   exact⟨j,hj,hj,h2,h3⟩⟩
 refine Wp.count (fun s=>s.1) q.length (fun k z=>z.2.length=q.length/\∀d,∀h:d<z.2.length,z.2[d].length<=6000/\∀y,y∈z.2[d]↔Dp s (d:Int) y) (by omega) rfl ⟨rfl,Pz⟩ fun k z hk AD hJ=>?_
 obtain⟨i,z⟩:=z;obtain⟨zl,zm⟩:=hJ;dsimp only at AD zl zm;subst AD;simp only[W_,implies_true,forall_const,reduceCtorEq,eP,dZ];refine⟨fun av=>?_,fun hge=>⟨by rw[zl];exact hl,zm⟩⟩
 have av:k<q.length:=by omega
 have Tn:k<z.length:=by omega
 simp only[aB Tn,kT (m:=q.length) (by omega) av,W_,implies_true,forall_const,reduceCtorEq]
 refine(uT z[k] (by have:=(zm k Tn).1;omega)).mono fun r hr=>⟨av,by rw[gK];exact zl,fun d h=>?_⟩
 have hd:d<z.length:=by rw[gK]at h;exact h
 rw[ub h hd]
 by_cases e:(k:Int)=(d:Int)
 .rw[if_pos e]
  have e:k=d:=by omega
  subst e;exact⟨by have:=(zm k hd).1;have:=hr.1;omega,fun y=>by rw[hr.2];exact(zm k hd).2 y⟩
 .rw[if_neg e];exact zm d hd
def Sn(seen:List Bool)(y:Int):Prop:=0<=y/\seen[y.toNat]? =some true
theorem Kb{seen:List Bool}{x:Int}(hx:0<=x/\x.toNat<seen.length)(y:Int):Sn (bg seen x true) y↔y=x\/Sn seen y:=by
 unfold Sn bg;rw[List.getElem?_set];by_cases e:x.toNat=y.toNat
 .rw[if_pos e,if_pos hx.2];constructor
  .rintro⟨h,_⟩;exact .inl (by omega)
  .rintro(rfl|⟨h,_⟩)
   .exact⟨hx.1,rfl⟩
   .exact⟨h,rfl⟩
 .rw[if_neg e];constructor
  .exact .inr
  .rintro(rfl|h)
   .exact absurd rfl e
   .exact h
structure RI(D:Int->Int->Prop)(d0:Int)(n:Nat)(ex:Int->Prop)(seen:List Bool)(q:List Int):Prop where
 len:seen.length=n
 qo:∀x∈q,0<=x/\x<(n:Int)/\(x=d0\/Sn seen x)
 snd:∀y,Sn seen y->Gp D d0 y
 clo:∀x,(x=d0\/Sn seen x)->x∈q\/ex x\/∀y,D x y->Sn seen y
 bud:q.length+seen.count false<=n+1
theorem zr(s:kf)(L:List (List Int))(hL:Na s L)(d:Nat)(hd:d<s.2.2.2.1.length)(Xf:s.2.2.2.1.length<=14):Wp (M.iv bm L (d:Int)) fun r=>r.length<=1000/\∀y,y∈r↔Gp (Dp s) (d:Int) y:=by
 obtain⟨hl,hL⟩:=hL
 have hD:∀a b,Dp s a b->0<=b/\b<(s.2.2.2.1.length:Int):=fun a b h=>(lF s a).2 b h
 generalize s.2.2.2.1.length=n at*;unfold M.iv;rw[wp_bind];refine kH.2 ⟨by omega,?_⟩;rw[wp_bind,YK,hl]
 refine Wp.loop (fun q=>RI (Dp s) (d:Int) n (fun _=>False) q.1 q.2) (fun q=>2*q.1.count false+q.2.length) ?_ ?_ fun q hq=>?_
 .refine⟨by simp,fun x hx=>?_,fun y hy=>?_,fun x hx=>?_,by simp;omega⟩
  .rw[YJ.1 hx];exact⟨by omega,by omega, .inl rfl⟩
  .exfalso;have:=hy.2;rw[List.getElem?_replicate]at this
   split at this<;>cases this
  .rcases hx with rfl|hx
   .exact .inl (by simp)
   .exfalso;have:=hx.2;rw[List.getElem?_replicate]at this
    split at this<;>cases this
 .simp[List.count_replicate];unfold bm;omega
 obtain⟨seen,q⟩:=q;dsimp only at hq;dsimp only
 have Xi:∀l:List Bool,l.count false<=l.length:=fun l=>List.count_le_length
 refine Wp.dec (fun h0=>?_) fun h0=>?_
 .have Li:0<q.length:=by omega
  obtain⟨x,t,rfl⟩:=List.exists_cons_of_ne_nil (List.length_pos_iff.1 Li);have hx:=hq.qo x (by simp);obtain⟨c,rfl⟩:=YN hx.1
  have hc:c<L.length:=by omega
  have i0:idx ((c:Int)::t) (0:Int)=some (c:Int):=rfl
  have xL:dT ((c:Int)::t) (1:Int) (((c:Int)::t).length:Int)=some t:=by
   apply Wp.eq;refine wp_cut.2 ⟨by simp;omega,?_⟩;rw[YK,YS];rfl
  rw[i0,YB,xL,YB,aB hc,YB]
  have K5:∀y,Dp s (c:Int) y->Gp (Dp s) (d:Int) y:=fun y h=>by
   rcases hx.2.2 with e|e
   .exact .one (e▸h)
   .exact .step (hq.snd _ e) h
  have IA:=(hL c hc).2;have Kx:=(hL c hc).1;have To:=hq.bud;simp only[YT]at To;generalize L[c]=l at*
  refine Wp.count (fun s=>s.1) l.length (fun k z=>RI (Dp s) (d:Int) n (fun y=>y=(c:Int)) z.2.1 z.2.2/\(∀j,j<k->∀h:j<l.length,Sn z.2.1 l[j])/\2*z.2.1.count false+z.2.2.length<=2*seen.count false+t.length) (by omega) rfl ⟨⟨hq.len,fun x hx=>hq.qo x (by simp[hx]),hq.snd,fun x hx=>?_,by dsimp only;omega⟩,fun j hj=>by omega,YD _⟩ fun k z hk AD hJ=>?_
  .rcases hq.clo x hx with h|h|h
   .rcases YM.1 h with rfl|h
    .exact .inr (.inl rfl)
    .exact .inl h
   .exact h.elim
   .exact .inr (.inr h)
  obtain⟨i,sn,qu⟩:=z;obtain⟨hR,hP,hB⟩:=hJ;dsimp only at AD hR hP hB;subst AD;simp only[W_,implies_true,forall_const,reduceCtorEq,eP,dZ];refine⟨fun av=>?_,fun hge=>?_⟩
  .have av:k<l.length:=by omega
   have hy:Dp s (c:Int) l[k]:=(IA _).1 (YP av);have Nb:=hD _ _ hy;simp only[aB av,kT (m:=l.length) (by omega) av,W_,implies_true,forall_const,reduceCtorEq]
   obtain⟨y,Ly⟩:∃y,y=l[k]:=⟨_,rfl⟩
   simp only[<-Ly]at hy Nb⊢
   have N5:y.toNat<sn.length:=by rw[hR.len];omega
   refine eC.2 ⟨by rw[hR.len];omega,fun hf=>eC.2 ⟨by rw[hR.len];omega,oZ.2 ⟨?_,av,?_⟩⟩,fun ht=>⟨av,hR,rl hP fun _=>?_,hB⟩⟩
   .have:=hR.bud;simp;omega
   .have kc:=Kb (seen:=sn) (x:=y) ⟨Nb.1,N5⟩
    have Xj:(bg sn y true).count false+1=sn.count false:=by
     unfold bg;rw[List.count_set N5];have h1:0<sn.count false:=List.count_pos_iff.2 (hf▸YP N5);simp[hf];omega
    refine⟨⟨by unfold bg;simp[hR.len],fun x hx=>?_,fun z hz=>?_,fun x hx=>?_,?_⟩,rl (fun j hj h=>?_) fun h=>?_,?_⟩
    .rcases YL.1 hx with hx|hx
     .obtain⟨a1,a2,a3⟩:=hR.qo x hx;exact⟨a1,a2,a3.imp id fun g=>(kc x).2 (.inr g)⟩
     .rw[YJ.1 hx];exact⟨Nb.1,Nb.2, .inr ((kc y).2 (.inl rfl))⟩
    .rcases(kc z).1 hz with rfl|hz
     .exact K5 _ hy
     .exact hR.snd z hz
    .have go:x=(d:Int)\/Sn sn x->x∈qu++[y]\/x=(c:Int)\/∀z,Dp s x z->Sn (bg sn y true) z:=fun g=>by
      rcases hR.clo x g with h|h|h
      .exact .inl (by simp[h])
      .exact .inr (.inl h)
      .exact .inr (.inr fun z hz=>(kc z).2 (.inr (h z hz)))
     rcases hx with hx|hx
     .exact go (.inl hx)
     .rcases(kc x).1 hx with rfl|hx
      .exact .inl (by simp)
      .exact go (.inr hx)
    .have:=hR.bud;simp;omega
    .exact(kc _).2 (.inr (hP j hj h))
    .exact(kc _).2 (.inl Ly.symm)
    .simp;omega
   .rw[<-Ly];exact⟨Nb.1,by rw[YF N5,ht]⟩
  .obtain rfl:k=l.length:=by omega
   show EX _ _ _ _ (.inl _)
   refine⟨⟨hR.len,hR.qo,hR.snd,fun x hx=>?_,hR.bud⟩,?_⟩
   .rcases hR.clo x hx with h|h|h
    .exact .inl h
    .refine .inr (.inr fun y hy=>?_);rw[h]at hy;obtain⟨j,hj,e⟩:=ZO ((IA y).2 hy);exact e▸hP j hj hj
    .exact .inr (.inr h)
   .show 2*sn.count false+qu.length<2*seen.count false+((c:Int)::t).length
    simp only[YT];omega
 .have Li:q=[]:=by
   cases q with
   |nil=>rfl
   |cons x t=>simp at h0
  subst Li;refine .some ?_
  show Wp _ _
  have I0:∀y,Sn seen y↔Gp (Dp s) (d:Int) y:=fun y=>⟨hq.snd y,fun h=>by
   have cl:∀x,(x=(d:Int)\/Sn seen x)->∀z,Dp s x z->Sn seen z:=fun x hx=>by
    rcases hq.clo x hx with h|h|h
    .cases h
    .exact h.elim
    .exact h
   induction h with
   |one h=>exact cl _ (.inl rfl) _ h
   |step _ g ih=>exact cl _ (.inr ih) _ g⟩
  have eD:=hq.len
  refine Wp.count (fun s=>s.1) seen.length (fun k z=>z.2.length<=k/\∀y,y∈z.2↔Sn seen y/\y<(k:Int)) (by omega) rfl ⟨by simp,fun y=>⟨fun h=>(by cases h),fun h=>(by have:=h.1.1;have:=h.2;omega)⟩⟩ fun k z hk AD hJ=>?_
  obtain⟨i,o⟩:=z;obtain⟨Xk,hJ⟩:=hJ;dsimp only at AD Xk hJ;subst AD;simp only[W_,implies_true,forall_const,reduceCtorEq,eP,dZ];refine⟨fun av=>?_,fun hge=>⟨by omega,fun y=>?_⟩⟩
  .have av:k<seen.length:=by omega
   have Kw:Sn seen (k:Int)↔seen[k]=true:=by
    unfold Sn;rw[YK,YF av];simp
   simp only[aB av,kT (m:=seen.length) (by omega) av,W_,implies_true,forall_const,reduceCtorEq];refine⟨fun h=>oZ.2 ⟨by simp;omega,av,by simp;omega,fun y=>?_⟩,fun h=>⟨av,by omega,fun y=>?_⟩⟩
   .rw[YL,YJ,hJ];constructor
    .rintro(⟨h1,h2⟩|rfl)
     .exact⟨h1,by omega⟩
     .exact⟨Kw.2 h,by omega⟩
    .rintro⟨h1,h2⟩
     by_cases e:y=(k:Int)
     .exact .inr e
     .exact .inl ⟨h1,by omega⟩
   .rw[hJ];refine⟨fun⟨h1,h2⟩=>⟨h1,by omega⟩,fun⟨h1,h2⟩=>⟨h1,?_⟩⟩
    have:y≠(k:Int):=fun e=>by
     rw[e,Kw,h]at h1;cases h1
    omega
  .rw[hJ,<-I0];refine⟨fun h=>h.1,fun h=>⟨h,?_⟩⟩;have:=(YY.1 h.2).1;have:=h.1;omega
theorem M8.all(x:kf)(hs:zi x):M8 x:=fun d hd=>by
 have key:Wp (M.ek bm x (d:Int)) fun tr=>tr.length<=1000/\∀y,y∈tr↔Gp (Dp x) (d:Int) y:=by
  unfold M.ek;rw[if_neg (by simp),YB,if_neg (by simp;omega),wp_bind]
  refine(uU x hs).mono fun L hL=>?_
  rw[wp_bind]
  exact(zr x L hL d hd hs.2.2.1).mono fun r hr=> .some hr
 obtain⟨tr,e,h1,h2⟩:=key;exact⟨tr,e,h1,by rw[h2,HA]⟩
end L
end Go.Proofs.YtbladfbbhijpmaaGreat
end
